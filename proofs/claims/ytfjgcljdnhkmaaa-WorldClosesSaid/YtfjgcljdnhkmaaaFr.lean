/- A part of proofs about functions of one program: a condition over a partial memory that is enough for a call, and what calls answer by it. No condition of its own. -/
import Derived.Test.YtfjgcljdnhkmaaaWMod
import Derived.Test.YtfjgcljdnhkmaaaWLib
import Derived.Test.YtfjgcljdnhkmaaaVW
/- Frames: the program's. -/
namespace Go.Proofs
open Go.AF
set_option linter.unusedVariables false
set_option maxRecDepth 100000
set_option maxHeartbeats 1000000
attribute [local irreducible] exI exB exS exP exSl exV nilc stc nwc semK semU bsp
abbrev rowF (A : Option Addr) (c : Nat) (l : List Frm) : HP := rowP frmE 53 A c l
theorem el_frm : ElemOk Try.prog 43 53 11 88 (frmE.f ⟨0, 0, [], 0⟩) := ElemOk.mk' (zv := .agg #[.int .i64 0, .int .i64 0, .int .i64 0, .int .i64 0, .int .i64 0, .int .i64 0, .int .i64 0, .int .i64 0, .int .i64 0, .int .i64 0, .int .i64 0]) (by kernel_rfl) (by kernel_rfl) rfl (by omega)
theorem Frm.set_set {f : Frm} {q u v : Int} : (f.set q u).set q v = f.set q v := by
  unfold Frm.set
  congr 1
  apply List.map_congr_left
  intro i hi
  by_cases h : i = q.toNat
  · rw [if_pos h, if_pos h]
  · rw [if_neg h, if_neg h]
    simp [List.mem_range.1 hi, h]
def insC (x : Ins) : List Value := [.int .i64 x.op, .int .i64 x.a, .int .i64 x.b, .int .i64 x.c]
section
variable {R : Mem} {L L' : List HP} {M : Mem} {K : Value → Mem → Prop} {Kp : List PanicEntry → Mem → Prop} {b i c : Nat} {l : List Frm} {f : Frm} {x : Ins}

theorem f_ld {q : Int} {o : Nat} {G : Int → Prop} (h : Hp R L M) [p : RowAt (some ⟨b, 0, none⟩) L Frm frmE 53 c l L'] (hi : l[i]? = some f) (hq : isReg q) (e : o = i * 11 + 2 + q.toNat) (g : G (f.reg q)) : exI (M.ld ⟨b, o, none⟩) .i64 G := by
  refine v_exI (Src.at (h.src (A := some ⟨b, 0, none⟩)) h (i := i) (j := 2 + q.toNat) hi (frm_at hq.1 hq.2) ?_) g
  show _ = 0 + (i * 11 + (2 + q.toNat)); omega
theorem f_st {q v : Int} {o : Nat} {G : Mem → Prop} (h : Hp R L M) [p : RowAt (some ⟨b, 0, none⟩) L Frm frmE 53 c l L'] (hi : l[i]? = some f) (hq : isReg q) (e : o = i * 11 + 2 + q.toNat)
    (k : ∀ M', Hp R (rowF (some ⟨b, 0, none⟩) c (l.set i (f.set q v)) :: L') M' → G M') : stc M ⟨b, o, none⟩ (.int .i64 v) G := by
  obtain ⟨q0, q8⟩ := hq
  refine s_row i (2 + q.toNat) h hi ?_ (frm_set q0 q8) ?_ k
  · show _ < 11; omega
  · show _ = i * 11 + (2 + q.toNat); omega
theorem f_ldPc {o : Nat} {G : Int → Prop} (h : Hp R L M) [p : RowAt (some ⟨b, 0, none⟩) L Frm frmE 53 c l L'] (hi : l[i]? = some f) (e : o = i * 11 + 1) (g : G f.pc) : exI (M.ld ⟨b, o, none⟩) .i64 G := by
  refine v_exI (Src.at (h.src (A := some ⟨b, 0, none⟩)) h (i := i) (j := 1) hi rfl ?_) g
  show _ = 0 + (i * 11 + 1); omega
theorem f_stPc {v : Int} {o : Nat} {G : Mem → Prop} (h : Hp R L M) [p : RowAt (some ⟨b, 0, none⟩) L Frm frmE 53 c l L'] (hi : l[i]? = some f) (e : o = i * 11 + 1)
    (k : ∀ M', Hp R (rowF (some ⟨b, 0, none⟩) c (l.set i { f with pc := v }) :: L') M' → G M') : stc M ⟨b, o, none⟩ (.int .i64 v) G := by
  refine s_row i 1 h hi (by show 1 < 11; omega) frm_pc ?_ k
  show _ = i * 11 + 1; omega
theorem set_set' {α : Type} {l : List α} {i : Nat} {u v : α} : (l.set i u).set i v = l.set i v := by simp

/-- The functions of the ops that registers alone decide. -/
def fOp : List Nat := [60, 61, 62, 63, 64, 65, 66, 67, 68]
/-- What each pure op does. -/
theorem frame_op (h : Hp R L M) [p : RowAt (some ⟨b, 0, none⟩) L Frm frmE 53 c l L'] (hi : l[i]? = some f) (hx : x.okPure) (n : Nat) (hn : x.op = (n : Int)) (h8 : n ≤ 8)
    (k : ∀ M', Hp R (rowF (some ⟨b, 0, none⟩) c (l.set i (f.pure x)) :: L') M' → K (.tuple #[]) M') :
    ACalls Try.prog (fOp.getD n 0) #[.pointer (some ⟨b, i * 11, none⟩), .agg #[.int .i64 x.op, .int .i64 x.a, .int .i64 x.b, .int .i64 x.c]] M K Kp := by
  obtain ⟨op, xa, xb, xc⟩ := x
  obtain ⟨o1, o2, o3⟩ := hx
  dsimp only at hn o1 o2 o3 k ⊢
  have hsame : l.set i f = l := by obtain ⟨hl, rfl⟩ := List.getElem?_eq_some_iff.1 hi; simp
  subst hn
  have hlt := (List.getElem?_eq_some_iff.1 hi).1
  obtain rfl | rfl | rfl | rfl | rfl | rfl | rfl | rfl | rfl : n = 0 ∨ n = 1 ∨ n = 2 ∨ n = 3 ∨ n = 4 ∨ n = 5 ∨ n = 6 ∨ n = 7 ∨ n = 8 := by omega
  · refine vc_frame_Frame_nop ?_
    have e : f.pure ⟨((0 : Nat) : Int), xa, xb, xc⟩ = f := rfl
    rw [e, hsame] at k
    repeat (first | (refine s_nwc h ?_; clear h; intro kb M h) | (refine s_stc h ?_; clear h; intro M h) | refine t_exI h ?_ | refine t_exB h ?_ | refine t_exS h ?_ | refine t_exP h ?_ | refine t_exSl h ?_ | refine t_exV h ?_ | refine u_exI ?_ | refine u_exB ?_ | refine u_exS ?_ | refine u_exP ?_ | refine u_exSl ?_ | refine u_exV ?_ | refine u_nilc ?_ | (apply Exists.intro; (repeat apply Exists.intro); refine And.intro rfl ?_) | (refine And.intro ?_ ?_; first | exact trivial | exact rfl | exact t_ld h | (refine lds_s (t_ld h) ?_; (repeat (refine lds_s (t_ld h) ?_)); exact lds_nil) | omega) | refine u_bspT ?_ | refine u_bspF ?_)
    exact k _ ((h.row (some ⟨b, 0, none⟩)).fin1)
  · have ra : isReg xa := o1 (by simp)
    refine vc_frame_Frame_constant ?_
    repeat (first | (refine s_nwc h ?_; clear h; intro kb M h) | (refine s_stc h ?_; clear h; intro M h) | refine t_exI h ?_ | refine t_exB h ?_ | refine t_exS h ?_ | refine t_exP h ?_ | refine t_exSl h ?_ | refine t_exV h ?_ | refine u_exI ?_ | refine u_exB ?_ | refine u_exS ?_ | refine u_exP ?_ | refine u_exSl ?_ | refine u_exV ?_ | refine u_nilc ?_ | (apply Exists.intro; (repeat apply Exists.intro); refine And.intro rfl ?_) | (refine And.intro ?_ ?_; first | exact trivial | exact rfl | exact t_ld h | (refine lds_s (t_ld h) ?_; (repeat (refine lds_s (t_ld h) ?_)); exact lds_nil) | omega) | refine u_bspT ?_ | refine u_bspF ?_)
    refine ⟨ra.1, ra.2, f_st h hi ra rfl fun M h => ?_⟩
    exact k _ h.fin1
  · obtain ⟨ra, rb⟩ := o2 rfl
    refine vc_frame_Frame_move ?_
    repeat (first | (refine s_nwc h ?_; clear h; intro kb M h) | (refine s_stc h ?_; clear h; intro M h) | refine t_exI h ?_ | refine t_exB h ?_ | refine t_exS h ?_ | refine t_exP h ?_ | refine t_exSl h ?_ | refine t_exV h ?_ | refine u_exI ?_ | refine u_exB ?_ | refine u_exS ?_ | refine u_exP ?_ | refine u_exSl ?_ | refine u_exV ?_ | refine u_nilc ?_ | (apply Exists.intro; (repeat apply Exists.intro); refine And.intro rfl ?_) | (refine And.intro ?_ ?_; first | exact trivial | exact rfl | exact t_ld h | (refine lds_s (t_ld h) ?_; (repeat (refine lds_s (t_ld h) ?_)); exact lds_nil) | omega) | refine u_bspT ?_ | refine u_bspF ?_)
    refine ⟨rb.1, rb.2, f_ld h hi rb rfl ?_⟩
    refine ⟨ra.1, ra.2, f_st h hi ra rfl fun M h => ?_⟩
    exact k _ h.fin1
  · obtain ⟨ra, rb, rc⟩ := o3 (by simp)
    refine vc_frame_Frame_add ?_
    repeat (first | (refine s_nwc h ?_; clear h; intro kb M h) | (refine s_stc h ?_; clear h; intro M h) | refine t_exI h ?_ | refine t_exB h ?_ | refine t_exS h ?_ | refine t_exP h ?_ | refine t_exSl h ?_ | refine t_exV h ?_ | refine u_exI ?_ | refine u_exB ?_ | refine u_exS ?_ | refine u_exP ?_ | refine u_exSl ?_ | refine u_exV ?_ | refine u_nilc ?_ | (apply Exists.intro; (repeat apply Exists.intro); refine And.intro rfl ?_) | (refine And.intro ?_ ?_; first | exact trivial | exact rfl | exact t_ld h | (refine lds_s (t_ld h) ?_; (repeat (refine lds_s (t_ld h) ?_)); exact lds_nil) | omega) | refine u_bspT ?_ | refine u_bspF ?_)
    refine ⟨rb.1, rb.2, f_ld h hi rb rfl ?_⟩
    repeat (first | (refine s_nwc h ?_; clear h; intro kb M h) | (refine s_stc h ?_; clear h; intro M h) | refine t_exI h ?_ | refine t_exB h ?_ | refine t_exS h ?_ | refine t_exP h ?_ | refine t_exSl h ?_ | refine t_exV h ?_ | refine u_exI ?_ | refine u_exB ?_ | refine u_exS ?_ | refine u_exP ?_ | refine u_exSl ?_ | refine u_exV ?_ | refine u_nilc ?_ | (apply Exists.intro; (repeat apply Exists.intro); refine And.intro rfl ?_) | (refine And.intro ?_ ?_; first | exact trivial | exact rfl | exact t_ld h | (refine lds_s (t_ld h) ?_; (repeat (refine lds_s (t_ld h) ?_)); exact lds_nil) | omega) | refine u_bspT ?_ | refine u_bspF ?_)
    refine ⟨rc.1, rc.2, f_ld h hi rc rfl ?_⟩
    refine ⟨ra.1, ra.2, f_st h hi ra rfl fun M h => ?_⟩
    exact k _ h.fin1
  · obtain ⟨ra, rb, rc⟩ := o3 (by simp)
    refine vc_frame_Frame_sub ?_
    repeat (first | (refine s_nwc h ?_; clear h; intro kb M h) | (refine s_stc h ?_; clear h; intro M h) | refine t_exI h ?_ | refine t_exB h ?_ | refine t_exS h ?_ | refine t_exP h ?_ | refine t_exSl h ?_ | refine t_exV h ?_ | refine u_exI ?_ | refine u_exB ?_ | refine u_exS ?_ | refine u_exP ?_ | refine u_exSl ?_ | refine u_exV ?_ | refine u_nilc ?_ | (apply Exists.intro; (repeat apply Exists.intro); refine And.intro rfl ?_) | (refine And.intro ?_ ?_; first | exact trivial | exact rfl | exact t_ld h | (refine lds_s (t_ld h) ?_; (repeat (refine lds_s (t_ld h) ?_)); exact lds_nil) | omega) | refine u_bspT ?_ | refine u_bspF ?_)
    refine ⟨rb.1, rb.2, f_ld h hi rb rfl ?_⟩
    repeat (first | (refine s_nwc h ?_; clear h; intro kb M h) | (refine s_stc h ?_; clear h; intro M h) | refine t_exI h ?_ | refine t_exB h ?_ | refine t_exS h ?_ | refine t_exP h ?_ | refine t_exSl h ?_ | refine t_exV h ?_ | refine u_exI ?_ | refine u_exB ?_ | refine u_exS ?_ | refine u_exP ?_ | refine u_exSl ?_ | refine u_exV ?_ | refine u_nilc ?_ | (apply Exists.intro; (repeat apply Exists.intro); refine And.intro rfl ?_) | (refine And.intro ?_ ?_; first | exact trivial | exact rfl | exact t_ld h | (refine lds_s (t_ld h) ?_; (repeat (refine lds_s (t_ld h) ?_)); exact lds_nil) | omega) | refine u_bspT ?_ | refine u_bspF ?_)
    refine ⟨rc.1, rc.2, f_ld h hi rc rfl ?_⟩
    refine ⟨ra.1, ra.2, f_st h hi ra rfl fun M h => ?_⟩
    exact k _ h.fin1
  · obtain ⟨ra, rb, rc⟩ := o3 (by simp)
    refine vc_frame_Frame_mul ?_
    repeat (first | (refine s_nwc h ?_; clear h; intro kb M h) | (refine s_stc h ?_; clear h; intro M h) | refine t_exI h ?_ | refine t_exB h ?_ | refine t_exS h ?_ | refine t_exP h ?_ | refine t_exSl h ?_ | refine t_exV h ?_ | refine u_exI ?_ | refine u_exB ?_ | refine u_exS ?_ | refine u_exP ?_ | refine u_exSl ?_ | refine u_exV ?_ | refine u_nilc ?_ | (apply Exists.intro; (repeat apply Exists.intro); refine And.intro rfl ?_) | (refine And.intro ?_ ?_; first | exact trivial | exact rfl | exact t_ld h | (refine lds_s (t_ld h) ?_; (repeat (refine lds_s (t_ld h) ?_)); exact lds_nil) | omega) | refine u_bspT ?_ | refine u_bspF ?_)
    refine ⟨rb.1, rb.2, f_ld h hi rb rfl ?_⟩
    repeat (first | (refine s_nwc h ?_; clear h; intro kb M h) | (refine s_stc h ?_; clear h; intro M h) | refine t_exI h ?_ | refine t_exB h ?_ | refine t_exS h ?_ | refine t_exP h ?_ | refine t_exSl h ?_ | refine t_exV h ?_ | refine u_exI ?_ | refine u_exB ?_ | refine u_exS ?_ | refine u_exP ?_ | refine u_exSl ?_ | refine u_exV ?_ | refine u_nilc ?_ | (apply Exists.intro; (repeat apply Exists.intro); refine And.intro rfl ?_) | (refine And.intro ?_ ?_; first | exact trivial | exact rfl | exact t_ld h | (refine lds_s (t_ld h) ?_; (repeat (refine lds_s (t_ld h) ?_)); exact lds_nil) | omega) | refine u_bspT ?_ | refine u_bspF ?_)
    refine ⟨rc.1, rc.2, f_ld h hi rc rfl ?_⟩
    refine ⟨ra.1, ra.2, f_st h hi ra rfl fun M h => ?_⟩
    exact k _ h.fin1
  · obtain ⟨ra, rb, rc⟩ := o3 (by simp)
    refine vc_frame_Frame_less ?_
    repeat (first | (refine s_nwc h ?_; clear h; intro kb M h) | (refine s_stc h ?_; clear h; intro M h) | refine t_exI h ?_ | refine t_exB h ?_ | refine t_exS h ?_ | refine t_exP h ?_ | refine t_exSl h ?_ | refine t_exV h ?_ | refine u_exI ?_ | refine u_exB ?_ | refine u_exS ?_ | refine u_exP ?_ | refine u_exSl ?_ | refine u_exV ?_ | refine u_nilc ?_ | (apply Exists.intro; (repeat apply Exists.intro); refine And.intro rfl ?_) | (refine And.intro ?_ ?_; first | exact trivial | exact rfl | exact t_ld h | (refine lds_s (t_ld h) ?_; (repeat (refine lds_s (t_ld h) ?_)); exact lds_nil) | omega) | refine u_bspT ?_ | refine u_bspF ?_)
    refine ⟨rb.1, rb.2, f_ld h hi rb rfl ?_⟩
    repeat (first | (refine s_nwc h ?_; clear h; intro kb M h) | (refine s_stc h ?_; clear h; intro M h) | refine t_exI h ?_ | refine t_exB h ?_ | refine t_exS h ?_ | refine t_exP h ?_ | refine t_exSl h ?_ | refine t_exV h ?_ | refine u_exI ?_ | refine u_exB ?_ | refine u_exS ?_ | refine u_exP ?_ | refine u_exSl ?_ | refine u_exV ?_ | refine u_nilc ?_ | (apply Exists.intro; (repeat apply Exists.intro); refine And.intro rfl ?_) | (refine And.intro ?_ ?_; first | exact trivial | exact rfl | exact t_ld h | (refine lds_s (t_ld h) ?_; (repeat (refine lds_s (t_ld h) ?_)); exact lds_nil) | omega) | refine u_bspT ?_ | refine u_bspF ?_)
    refine ⟨rc.1, rc.2, f_ld h hi rc rfl ?_⟩
    repeat (first | (refine s_nwc h ?_; clear h; intro kb M h) | (refine s_stc h ?_; clear h; intro M h) | refine t_exI h ?_ | refine t_exB h ?_ | refine t_exS h ?_ | refine t_exP h ?_ | refine t_exSl h ?_ | refine t_exV h ?_ | refine u_exI ?_ | refine u_exB ?_ | refine u_exS ?_ | refine u_exP ?_ | refine u_exSl ?_ | refine u_exV ?_ | refine u_nilc ?_ | (apply Exists.intro; (repeat apply Exists.intro); refine And.intro rfl ?_) | (refine And.intro ?_ ?_; first | exact trivial | exact rfl | exact t_ld h | (refine lds_s (t_ld h) ?_; (repeat (refine lds_s (t_ld h) ?_)); exact lds_nil) | omega) | refine u_bspT ?_ | refine u_bspF ?_)
    refine ⟨ra.1, ra.2, f_st h hi ra rfl fun M h => ?_⟩
    have e : f.pure ⟨((6 : Nat) : Int), xa, xb, xc⟩ = f.set xa (if f.reg xb < f.reg xc then 1 else 0) := rfl
    rw [e] at k
    refine bsp_dec.2 ⟨fun hl => ?_, fun hl => ?_⟩
    · rw [if_pos hl] at k
      repeat (first | (refine s_nwc h ?_; clear h; intro kb M h) | (refine s_stc h ?_; clear h; intro M h) | refine t_exI h ?_ | refine t_exB h ?_ | refine t_exS h ?_ | refine t_exP h ?_ | refine t_exSl h ?_ | refine t_exV h ?_ | refine u_exI ?_ | refine u_exB ?_ | refine u_exS ?_ | refine u_exP ?_ | refine u_exSl ?_ | refine u_exV ?_ | refine u_nilc ?_ | (apply Exists.intro; (repeat apply Exists.intro); refine And.intro rfl ?_) | (refine And.intro ?_ ?_; first | exact trivial | exact rfl | exact t_ld h | (refine lds_s (t_ld h) ?_; (repeat (refine lds_s (t_ld h) ?_)); exact lds_nil) | omega) | refine u_bspT ?_ | refine u_bspF ?_)
      have hi2 : (l.set i (f.set xa 0))[i]? = some (f.set xa 0) := by simp [hlt]
      refine ⟨ra.1, ra.2, f_st h hi2 ra rfl fun M h => ?_⟩
      rw [set_set', Frm.set_set] at h
      exact k _ h.fin1
    · rw [if_neg hl] at k
      exact k _ h.fin1
  · refine vc_frame_Frame_jump ?_
    repeat (first | (refine s_nwc h ?_; clear h; intro kb M h) | (refine s_stc h ?_; clear h; intro M h) | refine t_exI h ?_ | refine t_exB h ?_ | refine t_exS h ?_ | refine t_exP h ?_ | refine t_exSl h ?_ | refine t_exV h ?_ | refine u_exI ?_ | refine u_exB ?_ | refine u_exS ?_ | refine u_exP ?_ | refine u_exSl ?_ | refine u_exV ?_ | refine u_nilc ?_ | (apply Exists.intro; (repeat apply Exists.intro); refine And.intro rfl ?_) | (refine And.intro ?_ ?_; first | exact trivial | exact rfl | exact t_ld h | (refine lds_s (t_ld h) ?_; (repeat (refine lds_s (t_ld h) ?_)); exact lds_nil) | omega) | refine u_bspT ?_ | refine u_bspF ?_)
    refine f_stPc h hi rfl fun M h => ?_
    exact k _ h.fin1
  · have ra : isReg xa := o1 (by simp)
    refine vc_frame_Frame_branch ?_
    repeat (first | (refine s_nwc h ?_; clear h; intro kb M h) | (refine s_stc h ?_; clear h; intro M h) | refine t_exI h ?_ | refine t_exB h ?_ | refine t_exS h ?_ | refine t_exP h ?_ | refine t_exSl h ?_ | refine t_exV h ?_ | refine u_exI ?_ | refine u_exB ?_ | refine u_exS ?_ | refine u_exP ?_ | refine u_exSl ?_ | refine u_exV ?_ | refine u_nilc ?_ | (apply Exists.intro; (repeat apply Exists.intro); refine And.intro rfl ?_) | (refine And.intro ?_ ?_; first | exact trivial | exact rfl | exact t_ld h | (refine lds_s (t_ld h) ?_; (repeat (refine lds_s (t_ld h) ?_)); exact lds_nil) | omega) | refine u_bspT ?_ | refine u_bspF ?_)
    have e : f.pure ⟨((8 : Nat) : Int), xa, xb, xc⟩ = if f.reg xa ≠ 0 then { f with pc := xb } else f := rfl
    rw [e] at k
    refine ⟨ra.1, ra.2, f_ld h hi ra rfl ?_⟩
    refine bsp_ne.2 ⟨fun hl => ?_, fun hl => ?_⟩
    · rw [if_pos hl] at k
      repeat (first | (refine s_nwc h ?_; clear h; intro kb M h) | (refine s_stc h ?_; clear h; intro M h) | refine t_exI h ?_ | refine t_exB h ?_ | refine t_exS h ?_ | refine t_exP h ?_ | refine t_exSl h ?_ | refine t_exV h ?_ | refine u_exI ?_ | refine u_exB ?_ | refine u_exS ?_ | refine u_exP ?_ | refine u_exSl ?_ | refine u_exV ?_ | refine u_nilc ?_ | (apply Exists.intro; (repeat apply Exists.intro); refine And.intro rfl ?_) | (refine And.intro ?_ ?_; first | exact trivial | exact rfl | exact t_ld h | (refine lds_s (t_ld h) ?_; (repeat (refine lds_s (t_ld h) ?_)); exact lds_nil) | omega) | refine u_bspT ?_ | refine u_bspF ?_)
      refine f_stPc h hi rfl fun M h => ?_
      exact k _ h.fin1
    · rw [if_neg (by simpa using hl), hsame] at k
      exact k _ ((h.row (some ⟨b, 0, none⟩)).fin1)
def fTab : AL := (List.range 9).map fun n : Nat => ((n : Int), .func (.func (fOp.getD n 0)) #[] #[])
theorem frame_table (h : Hp R L M) (k : ∀ m M', Hp R (ob m (mapO fTab) :: L) M' → K (.map (some m)) M') : ACalls Try.prog 37 #[] M K Kp := by
  refine vc_frame_table ?_
  refine s_nwo h ?_
  clear h
  intro m M h
  replace h : Hp R (ob m (mapO []) :: L) M := h
  have hu : Try.prog.underlying 104 = some (.map 29 102) := by kernel_rfl
  have hk : Try.prog.underlying 29 = some (.int .i64) := by kernel_rfl
  iterate 9
    refine s_mapUpdate h hu hk ?_
    clear h
    intro M h
  exact k _ _ h
/-- An instruction is done, if registers alone decide it. -/
theorem frame_Pure (h : Hp R L M) [p : RowAt (some ⟨b, 0, none⟩) L Frm frmE 53 c l L'] (hi : l[i]? = some f) (hx : x.okPure) (h0 : 0 ≤ x.op) (hs : 0 ≤ f.pc ∧ f.pc < 1000000000)
    (k1 : x.op ≤ 8 → ∀ M', Hp R (rowF (some ⟨b, 0, none⟩) c (l.set i (f.next.pure x)) :: L') M' → K (.bool true) M')
    (k2 : 8 < x.op → ∀ M', Hp R (rowF (some ⟨b, 0, none⟩) c l :: L') M' → K (.bool false) M') :
    ACalls Try.prog 32 #[.pointer (some ⟨b, i * 11, none⟩), .agg #[.int .i64 x.op, .int .i64 x.a, .int .i64 x.b, .int .i64 x.c]] M K Kp := by
  have hlt := (List.getElem?_eq_some_iff.1 hi).1
  obtain ⟨q, hq⟩ := Int.eq_ofNat_of_zero_le h0
  refine vc_frame_Frame_Pure ?_
  repeat (first | (refine s_nwc h ?_; clear h; intro kb M h) | (refine s_stc h ?_; clear h; intro M h) | refine t_exI h ?_ | refine t_exB h ?_ | refine t_exS h ?_ | refine t_exP h ?_ | refine t_exSl h ?_ | refine t_exV h ?_ | refine u_exI ?_ | refine u_exB ?_ | refine u_exS ?_ | refine u_exP ?_ | refine u_exSl ?_ | refine u_exV ?_ | refine u_nilc ?_ | (apply Exists.intro; (repeat apply Exists.intro); refine And.intro rfl ?_) | (refine And.intro ?_ ?_; first | exact trivial | exact rfl | exact t_ld h | (refine lds_s (t_ld h) ?_; (repeat (refine lds_s (t_ld h) ?_)); exact lds_nil) | omega) | refine u_bspT ?_ | refine u_bspF ?_)
  refine frame_table h ?_
  clear h
  intro m M h
  repeat (first | (refine s_nwc h ?_; clear h; intro kb M h) | (refine s_stc h ?_; clear h; intro M h) | refine t_exI h ?_ | refine t_exB h ?_ | refine t_exS h ?_ | refine t_exP h ?_ | refine t_exSl h ?_ | refine t_exV h ?_ | refine u_exI ?_ | refine u_exB ?_ | refine u_exS ?_ | refine u_exP ?_ | refine u_exSl ?_ | refine u_exV ?_ | refine u_nilc ?_ | (apply Exists.intro; (repeat apply Exists.intro); refine And.intro rfl ?_) | (refine And.intro ?_ ?_; first | exact trivial | exact rfl | exact t_ld h | (refine lds_s (t_ld h) ?_; (repeat (refine lds_s (t_ld h) ?_)); exact lds_nil) | omega) | refine u_bspT ?_ | refine u_bspF ?_)
  have hu : Try.prog.underlying 104 = some (.map 29 102) := by kernel_rfl
  have hk : Try.prog.underlying 29 = some (.int .i64) := by kernel_rfl
  obtain ⟨ti, hti, htz⟩ : ∃ ti, Try.prog.info? 102 = some ti ∧ ti.zero = some .nilFunc := ⟨_, rfl, rfl⟩
  refine s_lookup2 h hu hk hti htz ?_
  refine ⟨_, _, rfl, t_ld h, ?_⟩
  by_cases h8 : x.op ≤ 8
  · have hq8 : q ≤ 8 := by omega
    have hl : aget fTab x.op = some (.func (.func (fOp.getD q 0)) #[] #[]) := by
      rw [hq]
      obtain rfl | rfl | rfl | rfl | rfl | rfl | rfl | rfl | rfl : q = 0 ∨ q = 1 ∨ q = 2 ∨ q = 3 ∨ q = 4 ∨ q = 5 ∨ q = 6 ∨ q = 7 ∨ q = 8 := by omega
      all_goals rfl
    rw [hl]
    refine u_bspT ?_
    refine f_ldPc h hi rfl ?_
    rw [wrap_succ' (by omega) (by omega)]
    refine f_stPc h hi rfl ?_
    clear h
    intro M h
    have hi2 : (l.set i { f with pc := f.pc + 1 })[i]? = some f.next := by simp [hlt, Frm.next]
    repeat (first | (refine s_nwc h ?_; clear h; intro kb M h) | (refine s_stc h ?_; clear h; intro M h) | refine t_exI h ?_ | refine t_exB h ?_ | refine t_exS h ?_ | refine t_exP h ?_ | refine t_exSl h ?_ | refine t_exV h ?_ | refine u_exI ?_ | refine u_exB ?_ | refine u_exS ?_ | refine u_exP ?_ | refine u_exSl ?_ | refine u_exV ?_ | refine u_nilc ?_ | (apply Exists.intro; (repeat apply Exists.intro); refine And.intro rfl ?_) | (refine And.intro ?_ ?_; first | exact trivial | exact rfl | exact t_ld h | (refine lds_s (t_ld h) ?_; (repeat (refine lds_s (t_ld h) ?_)); exact lds_nil) | omega) | refine u_bspT ?_ | refine u_bspF ?_)
    have hg : 1 < fOp.getD q 0 ∧ fOp.getD q 0 < Cx.ok := by
      obtain rfl | rfl | rfl | rfl | rfl | rfl | rfl | rfl | rfl : q = 0 ∨ q = 1 ∨ q = 2 ∨ q = 3 ∨ q = 4 ∨ q = 5 ∨ q = 6 ∨ q = 7 ∨ q = 8 := by omega
      all_goals exact ⟨by decide, by show _ < 91; decide⟩
    refine callK_fn hg ?_
    refine frame_op (f := f.next) h hi2 hx q hq hq8 ?_
    clear h
    intro M h
    rw [set_set'] at h
    exact ⟨rfl, k1 h8 _ h.fin1⟩
  · have hl : aget fTab x.op = none := by
      rw [aget_eq, aget_none]
      have : fTab.map (·.1) = [0, 1, 2, 3, 4, 5, 6, 7, 8] := by decide
      rw [this]; simp; omega
    rw [hl]
    refine u_bspF ?_
    exact k2 (by omega) _ ((h.row (some ⟨b, 0, none⟩)).fin1)
end
end Go.Proofs
