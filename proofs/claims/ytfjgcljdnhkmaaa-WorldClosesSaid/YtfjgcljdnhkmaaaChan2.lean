/- A part of proofs about functions of one program: a condition over a partial memory that is enough for a call, and what calls answer by it. No condition of its own. -/
import Derived.Test.YtfjgcljdnhkmaaaMod
import Derived.Test.YtfjgcljdnhkmaaaCx
import Derived.Test.YtfjgcljdnhkmaaaVChan
/- Channels. -/
namespace Go.Proofs
open Go.AF
set_option linter.unusedVariables false
set_option maxRecDepth 100000
set_option maxHeartbeats 1000000
attribute [local irreducible] exI exB exS exP exSl exV nilc stc nwc semK semU bsp

theorem el_i64 : ElemOk Try.prog 46 2 1 8 [.int .i64 0] := ElemOk.mk' (zv := .int .i64 0) (by kernel_rfl) (by kernel_rfl) rfl (by omega)
theorem el_wait : ElemOk Try.prog 47 120 3 24 [.int .i64 0, .int .i64 0, .int .i64 0] := ElemOk.mk' (zv := .agg #[.int .i64 0, .int .i64 0, .int .i64 0]) (by kernel_rfl) (by kernel_rfl) rfl (by omega)
abbrev rowB (A : Option Addr) (c : Nat) (l : List Int) : HP := rowP intE 2 A c l
abbrev rowW (A : Option Addr) (c : Nat) (l : List Wt) : HP := rowP waitE 120 A c l
abbrev chanCells (c : Chan) (Ab : Option Addr) (cb : Nat) (As : Option Addr) (cs : Nat) (Ar : Option Addr) (cr : Nat) : List Value :=
  [.int .i64 (c.room : Int), .slice Ab c.buf.length cb, .slice As c.snd.length cs, .slice Ar c.rcv.length cr, .bool c.closed]

/-- A channel stands at b. -/
def chanR : Rep Chan := ⟨fun b c => exs fun Ab : Option Addr => exs fun cb : Nat => exs fun As : Option Addr => exs fun cs : Nat => exs fun Ar : Option Addr => exs fun cr : Nat =>
  sep [pt b (chanCells c Ab cb As cs Ar cr) 89, rowB Ab cb c.buf, rowW As cs c.snd, rowW Ar cr c.rcv]⟩

section
variable {R : Mem} {L L' : List HP} {M : Mem} {K : Value → Mem → Prop} {Kp : List PanicEntry → Mem → Prop} {b : Nat} {c : Chan}

theorem chan_open (h : Hp R L M) [o : ObjAt chanR b L c L'] : ∃ Ab cb As cs Ar cr, Hp R (pt b (chanCells c Ab cb As cs Ar cr) 89 :: rowB Ab cb c.buf :: rowW As cs c.snd :: rowW Ar cr c.rcv :: L') M := by
  have := h.obj chanR b
  simpa only [chanR, Hp.ex_iff, Hp.sep_iff, List.cons_append, List.nil_append] using this
theorem chan_mk {Ab As Ar : Option Addr} {cb cs cr : Nat} (h : Hp R (pt b (chanCells c Ab cb As cs Ar cr) 89 :: rowB Ab cb c.buf :: rowW As cs c.snd :: rowW Ar cr c.rcv :: L) M) : Hp R (objP chanR b c :: L) M := by
  refine Hp.objI ?_
  simp only [chanR, Hp.ex_iff, Hp.sep_iff, List.cons_append, List.nil_append]
  exact ⟨_, _, _, _, _, _, h⟩
theorem chan_close {Ab As Ar : Option Addr} {nb cb ns cs nr cr room : Nat} {closed : Bool} {buf : List Int} {snd rcv : List Wt} {L1 L2 L3 L4 : List HP} (h : Hp R L M) (b : Nat)
    [p : PtAt b L [.int .i64 (room : Int), .slice Ab nb cb, .slice As ns cs, .slice Ar nr cr, .bool closed] 89 L1] [p1 : RowAt Ab L1 Int intE 2 cb buf L2] [p2 : RowAt As L2 Wt waitE 120 cs snd L3] [p3 : RowAt Ar L3 Wt waitE 120 cr rcv L4]
    (e1 : nb = buf.length := by first | rfl | simp) (e2 : ns = snd.length := by first | rfl | simp) (e3 : nr = rcv.length := by first | rfl | simp) : Hp R (objP chanR b ⟨room, buf, snd, rcv, closed⟩ :: L4) M := by
  subst e1; subst e2; subst e3
  exact chan_mk (h.sub (.cons p.pick (.cons p1.pick (.cons p2.pick (.cons p3.pick .refl)))))

theorem chans_New {room : Int} (h : Hp R L M) (k : ∀ b M', Hp R (objP chanR b (.new room) :: L) M' → K (.pointer (some ⟨b, 0, none⟩)) M') :
    ACalls Try.prog 23 #[.int .i64 room] M K Kp := by
  refine vc_chans_New ?_
  rw [capOf_eq]
  refine s_nwc h fun b M' h => k b M' (chan_mk ((((h.row_nil waitE _).row_nil waitE _).row_nil intE _).sub (by repeat (first | exact Sub.refl | refine Sub.cons (by first | exact Pick.here | exact (.there .here) | exact (.there (.there .here)) | exact (.there (.there (.there .here))) | exact (.there (.there (.there (.there .here)))) | exact (.there (.there (.there (.there (.there .here))))) | exact (.there (.there (.there (.there (.there (.there .here)))))) | exact (.there (.there (.there (.there (.there (.there (.there .here))))))) | exact (.there (.there (.there (.there (.there (.there (.there (.there .here)))))))) | exact (.there (.there (.there (.there (.there (.there (.there (.there (.there .here))))))))) | exact (.there (.there (.there (.there (.there (.there (.there (.there (.there (.there .here)))))))))) | exact (.there (.there (.there (.there (.there (.there (.there (.there (.there (.there (.there .here))))))))))) | exact (.there (.there (.there (.there (.there (.there (.there (.there (.there (.there (.there (.there .here)))))))))))) | exact (.there (.there (.there (.there (.there (.there (.there (.there (.there (.there (.there (.there (.there .here))))))))))))) | exact (.there (.there (.there (.there (.there (.there (.there (.there (.there (.there (.there (.there (.there (.there .here)))))))))))))) | exact (.there (.there (.there (.there (.there (.there (.there (.there (.there (.there (.there (.there (.there (.there (.there .here)))))))))))))))) ?_ | refine Sub.drop ?_))))

theorem chans_first {B : Option Addr} {m c : Nat} {w : Wt} {r : List Wt} (h : Hp R L M) (hB : Src R L B (waitE.cells (w :: r))) (hm : m = r.length + 1) (hc : m ≤ c) (hn : m ≤ 1000000000)
    (k : ∀ A' c' M', Hp R (rowW A' c' r :: L) M' → K (.tuple #[.agg #[.int .i64 w.g, .int .i64 w.cs, .int .i64 w.v], .slice A' r.length c']) M') :
    ACalls Try.prog 86 #[.slice B m c] M K Kp := by
  refine vc_chans_first ?_
  obtain ⟨b, o, rfl⟩ := hB.someE h (by simp) (by decide)
  repeat (first | (refine s_nwc h ?_; clear h; intro kb M h) | (refine s_stc h ?_; clear h; intro M h) | refine t_exI h ?_ | refine t_exB h ?_ | refine t_exS h ?_ | refine t_exP h ?_ | refine t_exSl h ?_ | refine t_exV h ?_ | refine u_exI ?_ | refine u_exB ?_ | refine u_exS ?_ | refine u_exP ?_ | refine u_exSl ?_ | refine u_exV ?_ | refine u_nilc ?_ | (apply Exists.intro; (repeat apply Exists.intro); refine And.intro rfl ?_) | (refine And.intro ?_ ?_; first | exact trivial | exact rfl | exact t_ld h | (refine lds_s (t_ld h) ?_; (repeat (refine lds_s (t_ld h) ?_)); exact lds_nil) | omega) | refine u_bspT ?_ | refine u_bspF ?_)
  refine v_exI (hB.cons.at h (i := 0) (j := 0) rfl rfl (by omega)) ?_
  refine v_exI (hB.cons.at h (i := 0) (j := 1) rfl rfl (by omega)) ?_
  refine v_exI (hB.cons.at h (i := 0) (j := 2) rfl rfl (by omega)) ?_
  repeat (first | (refine s_nwc h ?_; clear h; intro kb M h) | (refine s_stc h ?_; clear h; intro M h) | refine t_exI h ?_ | refine t_exB h ?_ | refine t_exS h ?_ | refine t_exP h ?_ | refine t_exSl h ?_ | refine t_exV h ?_ | refine u_exI ?_ | refine u_exB ?_ | refine u_exS ?_ | refine u_exP ?_ | refine u_exSl ?_ | refine u_exV ?_ | refine u_nilc ?_ | (apply Exists.intro; (repeat apply Exists.intro); refine And.intro rfl ?_) | (refine And.intro ?_ ?_; first | exact trivial | exact rfl | exact t_ld h | (refine lds_s (t_ld h) ?_; (repeat (refine lds_s (t_ld h) ?_)); exact lds_nil) | omega) | refine u_bspT ?_ | refine u_bspF ?_)
  have s2 := hB.drop (m := 1) (c := c) (by simp; omega)
  simp only [Int.toNat_natCast]
  refine h.rowCopy waitE el_wait r s2.cons.cons (by omega) (by omega) ?_
  clear h
  intro A' c' M h
  repeat (first | (refine s_nwc h ?_; clear h; intro kb M h) | (refine s_stc h ?_; clear h; intro M h) | refine t_exI h ?_ | refine t_exB h ?_ | refine t_exS h ?_ | refine t_exP h ?_ | refine t_exSl h ?_ | refine t_exV h ?_ | refine u_exI ?_ | refine u_exB ?_ | refine u_exS ?_ | refine u_exP ?_ | refine u_exSl ?_ | refine u_exV ?_ | refine u_nilc ?_ | (apply Exists.intro; (repeat apply Exists.intro); refine And.intro rfl ?_) | (refine And.intro ?_ ?_; first | exact trivial | exact rfl | exact t_ld h | (refine lds_s (t_ld h) ?_; (repeat (refine lds_s (t_ld h) ?_)); exact lds_nil) | omega) | refine u_bspT ?_ | refine u_bspF ?_)
  refine ⟨hB.cons.cons.lds h (i := 0) rfl (by omega), ?_⟩
  repeat (first | (refine s_nwc h ?_; clear h; intro kb M h) | (refine s_stc h ?_; clear h; intro M h) | refine t_exI h ?_ | refine t_exB h ?_ | refine t_exS h ?_ | refine t_exP h ?_ | refine t_exSl h ?_ | refine t_exV h ?_ | refine u_exI ?_ | refine u_exB ?_ | refine u_exS ?_ | refine u_exP ?_ | refine u_exSl ?_ | refine u_exV ?_ | refine u_nilc ?_ | (apply Exists.intro; (repeat apply Exists.intro); refine And.intro rfl ?_) | (refine And.intro ?_ ?_; first | exact trivial | exact rfl | exact t_ld h | (refine lds_s (t_ld h) ?_; (repeat (refine lds_s (t_ld h) ?_)); exact lds_nil) | omega) | refine u_bspT ?_ | refine u_bspF ?_)
  refine ⟨hB.cons.cons.lds h (i := 0) rfl (by omega), ?_⟩
  repeat (first | (refine s_nwc h ?_; clear h; intro kb M h) | (refine s_stc h ?_; clear h; intro M h) | refine t_exI h ?_ | refine t_exB h ?_ | refine t_exS h ?_ | refine t_exP h ?_ | refine t_exSl h ?_ | refine t_exV h ?_ | refine u_exI ?_ | refine u_exB ?_ | refine u_exS ?_ | refine u_exP ?_ | refine u_exSl ?_ | refine u_exV ?_ | refine u_nilc ?_ | (apply Exists.intro; (repeat apply Exists.intro); refine And.intro rfl ?_) | (refine And.intro ?_ ?_; first | exact trivial | exact rfl | exact t_ld h | (refine lds_s (t_ld h) ?_; (repeat (refine lds_s (t_ld h) ?_)); exact lds_nil) | omega) | refine u_bspT ?_ | refine u_bspF ?_)
  exact k _ _ _ h.fin0

theorem chans_CanSend (h : Hp R L M) [o : ObjAt chanR b L c L'] (k : K (.bool c.canSend) M) : ACalls Try.prog 85 #[.pointer (some ⟨b, 0, none⟩)] M K Kp := by
  refine vc_chans_Chan_CanSend ?_
  have h' := chan_open h (b := b)
  clear h
  obtain ⟨Ab, cb, As, cs, Ar, cr, h⟩ := h'
  repeat (first | (refine s_nwc h ?_; clear h; intro kb M h) | (refine s_stc h ?_; clear h; intro M h) | refine t_exI h ?_ | refine t_exB h ?_ | refine t_exS h ?_ | refine t_exP h ?_ | refine t_exSl h ?_ | refine t_exV h ?_ | refine u_exI ?_ | refine u_exB ?_ | refine u_exS ?_ | refine u_exP ?_ | refine u_exSl ?_ | refine u_exV ?_ | refine u_nilc ?_ | (apply Exists.intro; (repeat apply Exists.intro); refine And.intro rfl ?_) | (refine And.intro ?_ ?_; first | exact trivial | exact rfl | exact t_ld h | (refine lds_s (t_ld h) ?_; (repeat (refine lds_s (t_ld h) ?_)); exact lds_nil) | omega) | refine u_bspT ?_ | refine u_bspF ?_)
  refine bsp_iff.2 ⟨fun hc => ?_, fun hc => ?_⟩
  · rwa [Chan.canSend, hc] at k
  · repeat (first | (refine s_nwc h ?_; clear h; intro kb M h) | (refine s_stc h ?_; clear h; intro M h) | refine t_exI h ?_ | refine t_exB h ?_ | refine t_exS h ?_ | refine t_exP h ?_ | refine t_exSl h ?_ | refine t_exV h ?_ | refine u_exI ?_ | refine u_exB ?_ | refine u_exS ?_ | refine u_exP ?_ | refine u_exSl ?_ | refine u_exV ?_ | refine u_nilc ?_ | (apply Exists.intro; (repeat apply Exists.intro); refine And.intro rfl ?_) | (refine And.intro ?_ ?_; first | exact trivial | exact rfl | exact t_ld h | (refine lds_s (t_ld h) ?_; (repeat (refine lds_s (t_ld h) ?_)); exact lds_nil) | omega) | refine u_bspT ?_ | refine u_bspF ?_)
    refine bsp_dec.2 ⟨fun hr => ?_, fun hr => ?_⟩
    · have : c.rcv.isEmpty = false := by cases hc : c.rcv <;> simp_all
      rwa [Chan.canSend, hc, this] at k
    · repeat (first | (refine s_nwc h ?_; clear h; intro kb M h) | (refine s_stc h ?_; clear h; intro M h) | refine t_exI h ?_ | refine t_exB h ?_ | refine t_exS h ?_ | refine t_exP h ?_ | refine t_exSl h ?_ | refine t_exV h ?_ | refine u_exI ?_ | refine u_exB ?_ | refine u_exS ?_ | refine u_exP ?_ | refine u_exSl ?_ | refine u_exV ?_ | refine u_nilc ?_ | (apply Exists.intro; (repeat apply Exists.intro); refine And.intro rfl ?_) | (refine And.intro ?_ ?_; first | exact trivial | exact rfl | exact t_ld h | (refine lds_s (t_ld h) ?_; (repeat (refine lds_s (t_ld h) ?_)); exact lds_nil) | omega) | refine u_bspT ?_ | refine u_bspF ?_)
      have : c.rcv.isEmpty = true := by cases hc : c.rcv <;> simp_all
      rw [Chan.canSend, hc, this] at k
      simpa using k

theorem chans_CanRecv (h : Hp R L M) [o : ObjAt chanR b L c L'] (k : K (.bool c.canRecv) M) : ACalls Try.prog 84 #[.pointer (some ⟨b, 0, none⟩)] M K Kp := by
  refine vc_chans_Chan_CanRecv ?_
  have h' := chan_open h (b := b)
  clear h
  obtain ⟨Ab, cb, As, cs, Ar, cr, h⟩ := h'
  repeat (first | (refine s_nwc h ?_; clear h; intro kb M h) | (refine s_stc h ?_; clear h; intro M h) | refine t_exI h ?_ | refine t_exB h ?_ | refine t_exS h ?_ | refine t_exP h ?_ | refine t_exSl h ?_ | refine t_exV h ?_ | refine u_exI ?_ | refine u_exB ?_ | refine u_exS ?_ | refine u_exP ?_ | refine u_exSl ?_ | refine u_exV ?_ | refine u_nilc ?_ | (apply Exists.intro; (repeat apply Exists.intro); refine And.intro rfl ?_) | (refine And.intro ?_ ?_; first | exact trivial | exact rfl | exact t_ld h | (refine lds_s (t_ld h) ?_; (repeat (refine lds_s (t_ld h) ?_)); exact lds_nil) | omega) | refine u_bspT ?_ | refine u_bspF ?_)
  refine bsp_iff.2 ⟨fun hc => ?_, fun hc => ?_⟩
  · rwa [Chan.canRecv, hc] at k
  · repeat (first | (refine s_nwc h ?_; clear h; intro kb M h) | (refine s_stc h ?_; clear h; intro M h) | refine t_exI h ?_ | refine t_exB h ?_ | refine t_exS h ?_ | refine t_exP h ?_ | refine t_exSl h ?_ | refine t_exV h ?_ | refine u_exI ?_ | refine u_exB ?_ | refine u_exS ?_ | refine u_exP ?_ | refine u_exSl ?_ | refine u_exV ?_ | refine u_nilc ?_ | (apply Exists.intro; (repeat apply Exists.intro); refine And.intro rfl ?_) | (refine And.intro ?_ ?_; first | exact trivial | exact rfl | exact t_ld h | (refine lds_s (t_ld h) ?_; (repeat (refine lds_s (t_ld h) ?_)); exact lds_nil) | omega) | refine u_bspT ?_ | refine u_bspF ?_)
    refine bsp_dec.2 ⟨fun hr => ?_, fun hr => ?_⟩
    · have : c.snd.isEmpty = false := by cases hc : c.snd <;> simp_all
      rwa [Chan.canRecv, hc, this] at k
    · repeat (first | (refine s_nwc h ?_; clear h; intro kb M h) | (refine s_stc h ?_; clear h; intro M h) | refine t_exI h ?_ | refine t_exB h ?_ | refine t_exS h ?_ | refine t_exP h ?_ | refine t_exSl h ?_ | refine t_exV h ?_ | refine u_exI ?_ | refine u_exB ?_ | refine u_exS ?_ | refine u_exP ?_ | refine u_exSl ?_ | refine u_exV ?_ | refine u_nilc ?_ | (apply Exists.intro; (repeat apply Exists.intro); refine And.intro rfl ?_) | (refine And.intro ?_ ?_; first | exact trivial | exact rfl | exact t_ld h | (refine lds_s (t_ld h) ?_; (repeat (refine lds_s (t_ld h) ?_)); exact lds_nil) | omega) | refine u_bspT ?_ | refine u_bspF ?_)
      have : c.snd.isEmpty = true := by cases hc : c.snd <;> simp_all
      rw [Chan.canRecv, hc, this] at k
      have e : (!c.buf.isEmpty) = decide ((c.buf.length : Int) > 0) := by cases c.buf <;> simp
      rw [← e]; simpa using k

theorem chans_WaitSend {w : Wt} (h : Hp R L M) [o : ObjAt chanR b L c L'] (hs : c.Small 1000000000) (k : ∀ M', Hp R (objP chanR b { c with snd := c.snd ++ [w] } :: L') M' → K (.tuple #[]) M') :
    ACalls Try.prog 71 #[.pointer (some ⟨b, 0, none⟩), .agg #[.int .i64 w.g, .int .i64 w.cs, .int .i64 w.v]] M K Kp := by
  refine vc_chans_Chan_WaitSend ?_
  have h' := chan_open h (b := b)
  clear h
  obtain ⟨Ab, cb, As, cs, Ar, cr, h⟩ := h'
  obtain ⟨h1, h2, h3⟩ := hs
  repeat (first | (refine s_nwc h ?_; clear h; intro kb M h) | (refine s_stc h ?_; clear h; intro M h) | refine t_exI h ?_ | refine t_exB h ?_ | refine t_exS h ?_ | refine t_exP h ?_ | refine t_exSl h ?_ | refine t_exV h ?_ | refine u_exI ?_ | refine u_exB ?_ | refine u_exS ?_ | refine u_exP ?_ | refine u_exSl ?_ | refine u_exV ?_ | refine u_nilc ?_ | (apply Exists.intro; (repeat apply Exists.intro); refine And.intro rfl ?_) | (refine And.intro ?_ ?_; first | exact trivial | exact rfl | exact t_ld h | (refine lds_s (t_ld h) ?_; (repeat (refine lds_s (t_ld h) ?_)); exact lds_nil) | omega) | refine u_bspT ?_ | refine u_bspF ?_)
  refine h.rowAppend1 el_wait [w] rfl rfl (by simp; omega) ?_
  clear h
  intro A' c' M h
  repeat (first | (refine s_nwc h ?_; clear h; intro kb M h) | (refine s_stc h ?_; clear h; intro M h) | refine t_exI h ?_ | refine t_exB h ?_ | refine t_exS h ?_ | refine t_exP h ?_ | refine t_exSl h ?_ | refine t_exV h ?_ | refine u_exI ?_ | refine u_exB ?_ | refine u_exS ?_ | refine u_exP ?_ | refine u_exSl ?_ | refine u_exV ?_ | refine u_nilc ?_ | (apply Exists.intro; (repeat apply Exists.intro); refine And.intro rfl ?_) | (refine And.intro ?_ ?_; first | exact trivial | exact rfl | exact t_ld h | (refine lds_s (t_ld h) ?_; (repeat (refine lds_s (t_ld h) ?_)); exact lds_nil) | omega) | refine u_bspT ?_ | refine u_bspF ?_)
  exact k _ (chan_close h b).fin1

theorem chans_WaitRecv {w : Wt} (h : Hp R L M) [o : ObjAt chanR b L c L'] (hs : c.Small 1000000000) (k : ∀ M', Hp R (objP chanR b { c with rcv := c.rcv ++ [w] } :: L') M' → K (.tuple #[]) M') :
    ACalls Try.prog 70 #[.pointer (some ⟨b, 0, none⟩), .agg #[.int .i64 w.g, .int .i64 w.cs, .int .i64 w.v]] M K Kp := by
  refine vc_chans_Chan_WaitRecv ?_
  have h' := chan_open h (b := b)
  clear h
  obtain ⟨Ab, cb, As, cs, Ar, cr, h⟩ := h'
  obtain ⟨h1, h2, h3⟩ := hs
  repeat (first | (refine s_nwc h ?_; clear h; intro kb M h) | (refine s_stc h ?_; clear h; intro M h) | refine t_exI h ?_ | refine t_exB h ?_ | refine t_exS h ?_ | refine t_exP h ?_ | refine t_exSl h ?_ | refine t_exV h ?_ | refine u_exI ?_ | refine u_exB ?_ | refine u_exS ?_ | refine u_exP ?_ | refine u_exSl ?_ | refine u_exV ?_ | refine u_nilc ?_ | (apply Exists.intro; (repeat apply Exists.intro); refine And.intro rfl ?_) | (refine And.intro ?_ ?_; first | exact trivial | exact rfl | exact t_ld h | (refine lds_s (t_ld h) ?_; (repeat (refine lds_s (t_ld h) ?_)); exact lds_nil) | omega) | refine u_bspT ?_ | refine u_bspF ?_)
  refine h.rowAppend1 el_wait [w] rfl rfl (by simp; omega) ?_
  clear h
  intro A' c' M h
  repeat (first | (refine s_nwc h ?_; clear h; intro kb M h) | (refine s_stc h ?_; clear h; intro M h) | refine t_exI h ?_ | refine t_exB h ?_ | refine t_exS h ?_ | refine t_exP h ?_ | refine t_exSl h ?_ | refine t_exV h ?_ | refine u_exI ?_ | refine u_exB ?_ | refine u_exS ?_ | refine u_exP ?_ | refine u_exSl ?_ | refine u_exV ?_ | refine u_nilc ?_ | (apply Exists.intro; (repeat apply Exists.intro); refine And.intro rfl ?_) | (refine And.intro ?_ ?_; first | exact trivial | exact rfl | exact t_ld h | (refine lds_s (t_ld h) ?_; (repeat (refine lds_s (t_ld h) ?_)); exact lds_nil) | omega) | refine u_bspT ?_ | refine u_bspF ?_)
  exact k _ (chan_close h b).fin1

/-- What Send answers. -/
def sendV (x : Wt × Bool × Int) : Value := .tuple #[.agg #[.int .i64 x.1.g, .int .i64 x.1.cs, .int .i64 x.1.v], .bool x.2.1, .int .i64 x.2.2]

theorem chans_Send {v : Int} (h : Hp R L M) [o : ObjAt chanR b L c L'] (hs : c.Small 1000000000) (k : ∀ M', Hp R (objP chanR b (c.send v).1 :: L') M' → K (sendV (c.send v).2) M') :
    ACalls Try.prog 72 #[.pointer (some ⟨b, 0, none⟩), .int .i64 v] M K Kp := by
  refine vc_chans_Chan_Send ?_
  obtain ⟨room, buf, snd, rcv, closed⟩ := c
  obtain ⟨h1, h2, h3⟩ := hs
  have h' := chan_open h (b := b)
  clear h
  obtain ⟨Ab, cb, As, cs, Ar, cr, h⟩ := h'
  dsimp only [chanCells] at h1 h2 h3 h
  repeat (first | (refine s_nwc h ?_; clear h; intro kb M h) | (refine s_stc h ?_; clear h; intro M h) | refine t_exI h ?_ | refine t_exB h ?_ | refine t_exS h ?_ | refine t_exP h ?_ | refine t_exSl h ?_ | refine t_exV h ?_ | refine u_exI ?_ | refine u_exB ?_ | refine u_exS ?_ | refine u_exP ?_ | refine u_exSl ?_ | refine u_exV ?_ | refine u_nilc ?_ | (apply Exists.intro; (repeat apply Exists.intro); refine And.intro rfl ?_) | (refine And.intro ?_ ?_; first | exact trivial | exact rfl | exact t_ld h | (refine lds_s (t_ld h) ?_; (repeat (refine lds_s (t_ld h) ?_)); exact lds_nil) | omega) | refine u_bspT ?_ | refine u_bspF ?_)
  refine bsp_iff.2 ⟨fun hc => ?_, fun hc => ?_⟩
  · subst hc
    repeat (first | (refine s_nwc h ?_; clear h; intro kb M h) | (refine s_stc h ?_; clear h; intro M h) | refine t_exI h ?_ | refine t_exB h ?_ | refine t_exS h ?_ | refine t_exP h ?_ | refine t_exSl h ?_ | refine t_exV h ?_ | refine u_exI ?_ | refine u_exB ?_ | refine u_exS ?_ | refine u_exP ?_ | refine u_exSl ?_ | refine u_exV ?_ | refine u_nilc ?_ | (apply Exists.intro; (repeat apply Exists.intro); refine And.intro rfl ?_) | (refine And.intro ?_ ?_; first | exact trivial | exact rfl | exact t_ld h | (refine lds_s (t_ld h) ?_; (repeat (refine lds_s (t_ld h) ?_)); exact lds_nil) | omega) | refine u_bspT ?_ | refine u_bspF ?_)
    exact k _ (chan_close h b).fin1
  subst hc
  repeat (first | (refine s_nwc h ?_; clear h; intro kb M h) | (refine s_stc h ?_; clear h; intro M h) | refine t_exI h ?_ | refine t_exB h ?_ | refine t_exS h ?_ | refine t_exP h ?_ | refine t_exSl h ?_ | refine t_exV h ?_ | refine u_exI ?_ | refine u_exB ?_ | refine u_exS ?_ | refine u_exP ?_ | refine u_exSl ?_ | refine u_exV ?_ | refine u_nilc ?_ | (apply Exists.intro; (repeat apply Exists.intro); refine And.intro rfl ?_) | (refine And.intro ?_ ?_; first | exact trivial | exact rfl | exact t_ld h | (refine lds_s (t_ld h) ?_; (repeat (refine lds_s (t_ld h) ?_)); exact lds_nil) | omega) | refine u_bspT ?_ | refine u_bspF ?_)
  refine bsp_dec.2 ⟨fun hr => ?_, fun hr => ?_⟩
  · cases rcv with
    | nil => simp at hr
    | cons w r =>
      repeat (first | (refine s_nwc h ?_; clear h; intro kb M h) | (refine s_stc h ?_; clear h; intro M h) | refine t_exI h ?_ | refine t_exB h ?_ | refine t_exS h ?_ | refine t_exP h ?_ | refine t_exSl h ?_ | refine t_exV h ?_ | refine u_exI ?_ | refine u_exB ?_ | refine u_exS ?_ | refine u_exP ?_ | refine u_exSl ?_ | refine u_exV ?_ | refine u_nilc ?_ | (apply Exists.intro; (repeat apply Exists.intro); refine And.intro rfl ?_) | (refine And.intro ?_ ?_; first | exact trivial | exact rfl | exact t_ld h | (refine lds_s (t_ld h) ?_; (repeat (refine lds_s (t_ld h) ?_)); exact lds_nil) | omega) | refine u_bspT ?_ | refine u_bspF ?_)
      refine chans_first h (h.src (A := Ar)) rfl (h.row_le Ar) (by simpa using h3) ?_
      clear h
      intro A' c' M h
      repeat (first | (refine s_nwc h ?_; clear h; intro kb M h) | (refine s_stc h ?_; clear h; intro M h) | refine t_exI h ?_ | refine t_exB h ?_ | refine t_exS h ?_ | refine t_exP h ?_ | refine t_exSl h ?_ | refine t_exV h ?_ | refine u_exI ?_ | refine u_exB ?_ | refine u_exS ?_ | refine u_exP ?_ | refine u_exSl ?_ | refine u_exV ?_ | refine u_nilc ?_ | (apply Exists.intro; (repeat apply Exists.intro); refine And.intro rfl ?_) | (refine And.intro ?_ ?_; first | exact trivial | exact rfl | exact t_ld h | (refine lds_s (t_ld h) ?_; (repeat (refine lds_s (t_ld h) ?_)); exact lds_nil) | omega) | refine u_bspT ?_ | refine u_bspF ?_)
      exact k _ (chan_close h b).fin1
  cases rcv with
  | cons w r => simp at hr
  | nil =>
  simp only [Chan.send, Bool.false_eq_true, if_false] at k
  repeat (first | (refine s_nwc h ?_; clear h; intro kb M h) | (refine s_stc h ?_; clear h; intro M h) | refine t_exI h ?_ | refine t_exB h ?_ | refine t_exS h ?_ | refine t_exP h ?_ | refine t_exSl h ?_ | refine t_exV h ?_ | refine u_exI ?_ | refine u_exB ?_ | refine u_exS ?_ | refine u_exP ?_ | refine u_exSl ?_ | refine u_exV ?_ | refine u_nilc ?_ | (apply Exists.intro; (repeat apply Exists.intro); refine And.intro rfl ?_) | (refine And.intro ?_ ?_; first | exact trivial | exact rfl | exact t_ld h | (refine lds_s (t_ld h) ?_; (repeat (refine lds_s (t_ld h) ?_)); exact lds_nil) | omega) | refine u_bspT ?_ | refine u_bspF ?_)
  refine bsp_dec.2 ⟨fun hl => ?_, fun hl => ?_⟩
  · rw [if_pos (by omega)] at k
    repeat (first | (refine s_nwc h ?_; clear h; intro kb M h) | (refine s_stc h ?_; clear h; intro M h) | refine t_exI h ?_ | refine t_exB h ?_ | refine t_exS h ?_ | refine t_exP h ?_ | refine t_exSl h ?_ | refine t_exV h ?_ | refine u_exI ?_ | refine u_exB ?_ | refine u_exS ?_ | refine u_exP ?_ | refine u_exSl ?_ | refine u_exV ?_ | refine u_nilc ?_ | (apply Exists.intro; (repeat apply Exists.intro); refine And.intro rfl ?_) | (refine And.intro ?_ ?_; first | exact trivial | exact rfl | exact t_ld h | (refine lds_s (t_ld h) ?_; (repeat (refine lds_s (t_ld h) ?_)); exact lds_nil) | omega) | refine u_bspT ?_ | refine u_bspF ?_)
    refine h.rowAppend1 el_i64 [v] rfl rfl (by simp; omega) ?_
    clear h
    intro A' c' M h
    repeat (first | (refine s_nwc h ?_; clear h; intro kb M h) | (refine s_stc h ?_; clear h; intro M h) | refine t_exI h ?_ | refine t_exB h ?_ | refine t_exS h ?_ | refine t_exP h ?_ | refine t_exSl h ?_ | refine t_exV h ?_ | refine u_exI ?_ | refine u_exB ?_ | refine u_exS ?_ | refine u_exP ?_ | refine u_exSl ?_ | refine u_exV ?_ | refine u_nilc ?_ | (apply Exists.intro; (repeat apply Exists.intro); refine And.intro rfl ?_) | (refine And.intro ?_ ?_; first | exact trivial | exact rfl | exact t_ld h | (refine lds_s (t_ld h) ?_; (repeat (refine lds_s (t_ld h) ?_)); exact lds_nil) | omega) | refine u_bspT ?_ | refine u_bspF ?_)
    exact k _ (chan_close h b).fin1
  · rw [if_neg (by omega)] at k
    repeat (first | (refine s_nwc h ?_; clear h; intro kb M h) | (refine s_stc h ?_; clear h; intro M h) | refine t_exI h ?_ | refine t_exB h ?_ | refine t_exS h ?_ | refine t_exP h ?_ | refine t_exSl h ?_ | refine t_exV h ?_ | refine u_exI ?_ | refine u_exB ?_ | refine u_exS ?_ | refine u_exP ?_ | refine u_exSl ?_ | refine u_exV ?_ | refine u_nilc ?_ | (apply Exists.intro; (repeat apply Exists.intro); refine And.intro rfl ?_) | (refine And.intro ?_ ?_; first | exact trivial | exact rfl | exact t_ld h | (refine lds_s (t_ld h) ?_; (repeat (refine lds_s (t_ld h) ?_)); exact lds_nil) | omega) | refine u_bspT ?_ | refine u_bspF ?_)
    exact k _ (chan_close h b).fin1

/-- What Recv answers. -/
def recvV (x : Int × Bool × Wt × Bool × Int) : Value := .tuple #[.agg #[.int .i64 x.1, .bool x.2.1, .int .i64 x.2.2.1.g, .int .i64 x.2.2.1.cs, .int .i64 x.2.2.1.v, .bool x.2.2.2.1], .int .i64 x.2.2.2.2]

theorem chans_Recv (h : Hp R L M) [o : ObjAt chanR b L c L'] (hs : c.Small 1000000000) (k : ∀ M', Hp R (objP chanR b c.recv.1 :: L') M' → K (recvV c.recv.2) M') :
    ACalls Try.prog 74 #[.pointer (some ⟨b, 0, none⟩)] M K Kp := by
  refine vc_chans_Chan_Recv ?_
  obtain ⟨room, buf, snd, rcv, closed⟩ := c
  obtain ⟨h1, h2, h3⟩ := hs
  have h' := chan_open h (b := b)
  clear h
  obtain ⟨Ab, cb, As, cs, Ar, cr, h⟩ := h'
  dsimp only [chanCells] at h1 h2 h3 h
  refine s_nwc h ?_
  clear h
  intro kr M h
  refine s_nwc h ?_
  clear h
  intro kg M h
  repeat (first | (refine s_nwc h ?_; clear h; intro kb M h) | (refine s_stc h ?_; clear h; intro M h) | refine t_exI h ?_ | refine t_exB h ?_ | refine t_exS h ?_ | refine t_exP h ?_ | refine t_exSl h ?_ | refine t_exV h ?_ | refine u_exI ?_ | refine u_exB ?_ | refine u_exS ?_ | refine u_exP ?_ | refine u_exSl ?_ | refine u_exV ?_ | refine u_nilc ?_ | (apply Exists.intro; (repeat apply Exists.intro); refine And.intro rfl ?_) | (refine And.intro ?_ ?_; first | exact trivial | exact rfl | exact t_ld h | (refine lds_s (t_ld h) ?_; (repeat (refine lds_s (t_ld h) ?_)); exact lds_nil) | omega) | refine u_bspT ?_ | refine u_bspF ?_)
  -- behind the first condition: what is in it, who sent
  refine ⟨fun vs M => vs = [] ∧ ∃ Ab cb As cs, Hp R (pt kr [.int .i64 0, .bool false, .int .i64 0, .int .i64 0, .int .i64 0, .bool false] 126 ::
    pt kg [.int .i64 0, .bool false, .int .i64 (snd.headD .zero).g, .int .i64 (snd.headD .zero).cs, .int .i64 (snd.headD .zero).v, .bool (!snd.isEmpty)] 126 ::
    pt b (chanCells ⟨room, Chan.all ⟨room, buf, snd, rcv, closed⟩, snd.tail, rcv, closed⟩ Ab cb As cs Ar cr) 89 :: rowB Ab cb (Chan.all ⟨room, buf, snd, rcv, closed⟩) :: rowW As cs snd.tail :: rowW Ar cr rcv :: L') M, ?_, ?_⟩
  · refine bsp_dec.2 ⟨fun hr => ?_, fun hr => ?_⟩
    · cases snd with
      | nil => simp at hr
      | cons w r =>
        repeat (first | (refine s_nwc h ?_; clear h; intro kb M h) | (refine s_stc h ?_; clear h; intro M h) | refine t_exI h ?_ | refine t_exB h ?_ | refine t_exS h ?_ | refine t_exP h ?_ | refine t_exSl h ?_ | refine t_exV h ?_ | refine u_exI ?_ | refine u_exB ?_ | refine u_exS ?_ | refine u_exP ?_ | refine u_exSl ?_ | refine u_exV ?_ | refine u_nilc ?_ | (apply Exists.intro; (repeat apply Exists.intro); refine And.intro rfl ?_) | (refine And.intro ?_ ?_; first | exact trivial | exact rfl | exact t_ld h | (refine lds_s (t_ld h) ?_; (repeat (refine lds_s (t_ld h) ?_)); exact lds_nil) | omega) | refine u_bspT ?_ | refine u_bspF ?_)
        refine chans_first h (h.src (A := As)) rfl (h.row_le As) (by simpa using h2) ?_
        clear h
        intro A' c' M h
        repeat (first | (refine s_nwc h ?_; clear h; intro kb M h) | (refine s_stc h ?_; clear h; intro M h) | refine t_exI h ?_ | refine t_exB h ?_ | refine t_exS h ?_ | refine t_exP h ?_ | refine t_exSl h ?_ | refine t_exV h ?_ | refine u_exI ?_ | refine u_exB ?_ | refine u_exS ?_ | refine u_exP ?_ | refine u_exSl ?_ | refine u_exV ?_ | refine u_nilc ?_ | (apply Exists.intro; (repeat apply Exists.intro); refine And.intro rfl ?_) | (refine And.intro ?_ ?_; first | exact trivial | exact rfl | exact t_ld h | (refine lds_s (t_ld h) ?_; (repeat (refine lds_s (t_ld h) ?_)); exact lds_nil) | omega) | refine u_bspT ?_ | refine u_bspF ?_)
        refine h.rowAppend1 el_i64 [w.v] rfl rfl (by simp; omega) ?_
        clear h
        intro A2 c2 M h
        repeat (first | (refine s_nwc h ?_; clear h; intro kb M h) | (refine s_stc h ?_; clear h; intro M h) | refine t_exI h ?_ | refine t_exB h ?_ | refine t_exS h ?_ | refine t_exP h ?_ | refine t_exSl h ?_ | refine t_exV h ?_ | refine u_exI ?_ | refine u_exB ?_ | refine u_exS ?_ | refine u_exP ?_ | refine u_exSl ?_ | refine u_exV ?_ | refine u_nilc ?_ | (apply Exists.intro; (repeat apply Exists.intro); refine And.intro rfl ?_) | (refine And.intro ?_ ?_; first | exact trivial | exact rfl | exact t_ld h | (refine lds_s (t_ld h) ?_; (repeat (refine lds_s (t_ld h) ?_)); exact lds_nil) | omega) | refine u_bspT ?_ | refine u_bspF ?_)
        exact ⟨A2, c2, A', c', h.sub (by repeat (first | exact Sub.refl | refine Sub.cons (by first | exact Pick.here | exact (.there .here) | exact (.there (.there .here)) | exact (.there (.there (.there .here))) | exact (.there (.there (.there (.there .here)))) | exact (.there (.there (.there (.there (.there .here))))) | exact (.there (.there (.there (.there (.there (.there .here)))))) | exact (.there (.there (.there (.there (.there (.there (.there .here))))))) | exact (.there (.there (.there (.there (.there (.there (.there (.there .here)))))))) | exact (.there (.there (.there (.there (.there (.there (.there (.there (.there .here))))))))) | exact (.there (.there (.there (.there (.there (.there (.there (.there (.there (.there .here)))))))))) | exact (.there (.there (.there (.there (.there (.there (.there (.there (.there (.there (.there .here))))))))))) | exact (.there (.there (.there (.there (.there (.there (.there (.there (.there (.there (.there (.there .here)))))))))))) | exact (.there (.there (.there (.there (.there (.there (.there (.there (.there (.there (.there (.there (.there .here))))))))))))) | exact (.there (.there (.there (.there (.there (.there (.there (.there (.there (.there (.there (.there (.there (.there .here)))))))))))))) | exact (.there (.there (.there (.there (.there (.there (.there (.there (.there (.there (.there (.there (.there (.there (.there .here)))))))))))))))) ?_ | refine Sub.drop ?_))⟩
    · cases snd with
      | cons w r => simp at hr
      | nil => exact ⟨rfl, Ab, cb, As, cs, h.sub (by repeat (first | exact Sub.refl | refine Sub.cons (by first | exact Pick.here | exact (.there .here) | exact (.there (.there .here)) | exact (.there (.there (.there .here))) | exact (.there (.there (.there (.there .here)))) | exact (.there (.there (.there (.there (.there .here))))) | exact (.there (.there (.there (.there (.there (.there .here)))))) | exact (.there (.there (.there (.there (.there (.there (.there .here))))))) | exact (.there (.there (.there (.there (.there (.there (.there (.there .here)))))))) | exact (.there (.there (.there (.there (.there (.there (.there (.there (.there .here))))))))) | exact (.there (.there (.there (.there (.there (.there (.there (.there (.there (.there .here)))))))))) | exact (.there (.there (.there (.there (.there (.there (.there (.there (.there (.there (.there .here))))))))))) | exact (.there (.there (.there (.there (.there (.there (.there (.there (.there (.there (.there (.there .here)))))))))))) | exact (.there (.there (.there (.there (.there (.there (.there (.there (.there (.there (.there (.there (.there .here))))))))))))) | exact (.there (.there (.there (.there (.there (.there (.there (.there (.there (.there (.there (.there (.there (.there .here)))))))))))))) | exact (.there (.there (.there (.there (.there (.there (.there (.there (.there (.there (.there (.there (.there (.there (.there .here)))))))))))))))) ?_ | refine Sub.drop ?_))⟩
  clear h
  rintro _ M ⟨_, Ab, cb, As, cs, h⟩
  unfold Chan.recv at k
  dsimp only at k
  have hall : (Chan.all ⟨room, buf, snd, rcv, closed⟩).length ≤ 1000000001 := by unfold Chan.all; split <;> simp <;> omega
  have hnil : Chan.all ⟨room, buf, snd, rcv, closed⟩ = [] → snd = [] ∧ buf = [] := by unfold Chan.all; dsimp only; cases snd <;> simp
  generalize Chan.all ⟨room, buf, snd, rcv, closed⟩ = all at h k hall hnil
  dsimp only [chanCells] at h
  repeat (first | (refine s_nwc h ?_; clear h; intro kb M h) | (refine s_stc h ?_; clear h; intro M h) | refine t_exI h ?_ | refine t_exB h ?_ | refine t_exS h ?_ | refine t_exP h ?_ | refine t_exSl h ?_ | refine t_exV h ?_ | refine u_exI ?_ | refine u_exB ?_ | refine u_exS ?_ | refine u_exP ?_ | refine u_exSl ?_ | refine u_exV ?_ | refine u_nilc ?_ | (apply Exists.intro; (repeat apply Exists.intro); refine And.intro rfl ?_) | (refine And.intro ?_ ?_; first | exact trivial | exact rfl | exact t_ld h | (refine lds_s (t_ld h) ?_; (repeat (refine lds_s (t_ld h) ?_)); exact lds_nil) | omega) | refine u_bspT ?_ | refine u_bspF ?_)
  refine bsp_dec.2 ⟨fun hr => ?_, fun hr => ?_⟩
  · cases all with
    | nil => simp at hr
    | cons v l =>
      dsimp only at k
      repeat (first | (refine s_nwc h ?_; clear h; intro kb M h) | (refine s_stc h ?_; clear h; intro M h) | refine t_exI h ?_ | refine t_exB h ?_ | refine t_exS h ?_ | refine t_exP h ?_ | refine t_exSl h ?_ | refine t_exV h ?_ | refine u_exI ?_ | refine u_exB ?_ | refine u_exS ?_ | refine u_exP ?_ | refine u_exSl ?_ | refine u_exV ?_ | refine u_nilc ?_ | (apply Exists.intro; (repeat apply Exists.intro); refine And.intro rfl ?_) | (refine And.intro ?_ ?_; first | exact trivial | exact rfl | exact t_ld h | (refine lds_s (t_ld h) ?_; (repeat (refine lds_s (t_ld h) ?_)); exact lds_nil) | omega) | refine u_bspT ?_ | refine u_bspF ?_)
      obtain ⟨x, rfl⟩ := h.row_some (A := Ab) (by simp) (by decide)
      repeat (first | (refine s_nwc h ?_; clear h; intro kb M h) | (refine s_stc h ?_; clear h; intro M h) | refine t_exI h ?_ | refine t_exB h ?_ | refine t_exS h ?_ | refine t_exP h ?_ | refine t_exSl h ?_ | refine t_exV h ?_ | refine u_exI ?_ | refine u_exB ?_ | refine u_exS ?_ | refine u_exP ?_ | refine u_exSl ?_ | refine u_exV ?_ | refine u_nilc ?_ | (apply Exists.intro; (repeat apply Exists.intro); refine And.intro rfl ?_) | (refine And.intro ?_ ?_; first | exact trivial | exact rfl | exact t_ld h | (refine lds_s (t_ld h) ?_; (repeat (refine lds_s (t_ld h) ?_)); exact lds_nil) | omega) | refine u_bspT ?_ | refine u_bspF ?_)
      refine v_exI ((h.src (A := some ⟨x, 0, none⟩)).at h (i := 0) (j := 0) rfl rfl (by omega)) ?_
      have hcap := h.row_le (some ⟨x, 0, none⟩)
      have hlen : l.length + 1 ≤ 1000000001 := by simpa using hall
      repeat (first | (refine s_nwc h ?_; clear h; intro kb M h) | (refine s_stc h ?_; clear h; intro M h) | refine t_exI h ?_ | refine t_exB h ?_ | refine t_exS h ?_ | refine t_exP h ?_ | refine t_exSl h ?_ | refine t_exV h ?_ | refine u_exI ?_ | refine u_exB ?_ | refine u_exS ?_ | refine u_exP ?_ | refine u_exSl ?_ | refine u_exV ?_ | refine u_nilc ?_ | (apply Exists.intro; (repeat apply Exists.intro); refine And.intro rfl ?_) | (refine And.intro ?_ ?_; first | exact trivial | exact rfl | exact t_ld h | (refine lds_s (t_ld h) ?_; (repeat (refine lds_s (t_ld h) ?_)); exact lds_nil) | omega) | refine u_bspT ?_ | refine u_bspF ?_)
      simp only [Int.toNat_natCast]
      refine h.rowCopy intE el_i64 l ((h.src (A := some ⟨x, 0, none⟩)).drop (m := 1) hcap) (by simp) (by omega) ?_
      clear h
      intro A' c' M h
      repeat (first | (refine s_nwc h ?_; clear h; intro kb M h) | (refine s_stc h ?_; clear h; intro M h) | refine t_exI h ?_ | refine t_exB h ?_ | refine t_exS h ?_ | refine t_exP h ?_ | refine t_exSl h ?_ | refine t_exV h ?_ | refine u_exI ?_ | refine u_exB ?_ | refine u_exS ?_ | refine u_exP ?_ | refine u_exSl ?_ | refine u_exV ?_ | refine u_nilc ?_ | (apply Exists.intro; (repeat apply Exists.intro); refine And.intro rfl ?_) | (refine And.intro ?_ ?_; first | exact trivial | exact rfl | exact t_ld h | (refine lds_s (t_ld h) ?_; (repeat (refine lds_s (t_ld h) ?_)); exact lds_nil) | omega) | refine u_bspT ?_ | refine u_bspF ?_)
      exact k _ (chan_close h b).fin1
  · cases all with
    | cons v l => simp at hr
    | nil =>
    obtain ⟨rfl, rfl⟩ := hnil rfl
    repeat (first | (refine s_nwc h ?_; clear h; intro kb M h) | (refine s_stc h ?_; clear h; intro M h) | refine t_exI h ?_ | refine t_exB h ?_ | refine t_exS h ?_ | refine t_exP h ?_ | refine t_exSl h ?_ | refine t_exV h ?_ | refine u_exI ?_ | refine u_exB ?_ | refine u_exS ?_ | refine u_exP ?_ | refine u_exSl ?_ | refine u_exV ?_ | refine u_nilc ?_ | (apply Exists.intro; (repeat apply Exists.intro); refine And.intro rfl ?_) | (refine And.intro ?_ ?_; first | exact trivial | exact rfl | exact t_ld h | (refine lds_s (t_ld h) ?_; (repeat (refine lds_s (t_ld h) ?_)); exact lds_nil) | omega) | refine u_bspT ?_ | refine u_bspF ?_)
    refine bsp_iff.2 ⟨fun hc => ?_, fun hc => ?_⟩
    · subst hc
      repeat (first | (refine s_nwc h ?_; clear h; intro kb M h) | (refine s_stc h ?_; clear h; intro M h) | refine t_exI h ?_ | refine t_exB h ?_ | refine t_exS h ?_ | refine t_exP h ?_ | refine t_exSl h ?_ | refine t_exV h ?_ | refine u_exI ?_ | refine u_exB ?_ | refine u_exS ?_ | refine u_exP ?_ | refine u_exSl ?_ | refine u_exV ?_ | refine u_nilc ?_ | (apply Exists.intro; (repeat apply Exists.intro); refine And.intro rfl ?_) | (refine And.intro ?_ ?_; first | exact trivial | exact rfl | exact t_ld h | (refine lds_s (t_ld h) ?_; (repeat (refine lds_s (t_ld h) ?_)); exact lds_nil) | omega) | refine u_bspT ?_ | refine u_bspF ?_)
      exact k _ (chan_close h b).fin1
    · subst hc
      repeat (first | (refine s_nwc h ?_; clear h; intro kb M h) | (refine s_stc h ?_; clear h; intro M h) | refine t_exI h ?_ | refine t_exB h ?_ | refine t_exS h ?_ | refine t_exP h ?_ | refine t_exSl h ?_ | refine t_exV h ?_ | refine u_exI ?_ | refine u_exB ?_ | refine u_exS ?_ | refine u_exP ?_ | refine u_exSl ?_ | refine u_exV ?_ | refine u_nilc ?_ | (apply Exists.intro; (repeat apply Exists.intro); refine And.intro rfl ?_) | (refine And.intro ?_ ?_; first | exact trivial | exact rfl | exact t_ld h | (refine lds_s (t_ld h) ?_; (repeat (refine lds_s (t_ld h) ?_)); exact lds_nil) | omega) | refine u_bspT ?_ | refine u_bspF ?_)
      exact k _ (chan_close h b).fin1

/-- What State answers. -/
theorem chans_State (h : Hp R L M) [o : ObjAt chanR b L c L'] (hs : c.Small 1000000000)
    (k : ∀ A ca B cb D cd M', Hp R (objP chanR b c :: rowW D cd c.rcv :: rowW B cb c.snd :: rowB A ca c.buf :: L') M' → K (.agg #[.slice A c.buf.length ca, .slice B c.snd.length cb, .slice D c.rcv.length cd, .bool c.closed]) M') :
    ACalls Try.prog 27 #[.pointer (some ⟨b, 0, none⟩)] M K Kp := by
  refine vc_chans_Chan_State ?_
  have h' := chan_open h (b := b)
  clear h
  obtain ⟨Ab, cb, As, cs, Ar, cr, h⟩ := h'
  obtain ⟨h1, h2, h3⟩ := hs
  repeat (first | (refine s_nwc h ?_; clear h; intro kb M h) | (refine s_stc h ?_; clear h; intro M h) | refine t_exI h ?_ | refine t_exB h ?_ | refine t_exS h ?_ | refine t_exP h ?_ | refine t_exSl h ?_ | refine t_exV h ?_ | refine u_exI ?_ | refine u_exB ?_ | refine u_exS ?_ | refine u_exP ?_ | refine u_exSl ?_ | refine u_exV ?_ | refine u_nilc ?_ | (apply Exists.intro; (repeat apply Exists.intro); refine And.intro rfl ?_) | (refine And.intro ?_ ?_; first | exact trivial | exact rfl | exact t_ld h | (refine lds_s (t_ld h) ?_; (repeat (refine lds_s (t_ld h) ?_)); exact lds_nil) | omega) | refine u_bspT ?_ | refine u_bspF ?_)
  refine h.rowCopy intE el_i64 c.buf (h.src (A := Ab)) rfl (by omega) ?_
  clear h
  intro A ca M h
  repeat (first | (refine s_nwc h ?_; clear h; intro kb M h) | (refine s_stc h ?_; clear h; intro M h) | refine t_exI h ?_ | refine t_exB h ?_ | refine t_exS h ?_ | refine t_exP h ?_ | refine t_exSl h ?_ | refine t_exV h ?_ | refine u_exI ?_ | refine u_exB ?_ | refine u_exS ?_ | refine u_exP ?_ | refine u_exSl ?_ | refine u_exV ?_ | refine u_nilc ?_ | (apply Exists.intro; (repeat apply Exists.intro); refine And.intro rfl ?_) | (refine And.intro ?_ ?_; first | exact trivial | exact rfl | exact t_ld h | (refine lds_s (t_ld h) ?_; (repeat (refine lds_s (t_ld h) ?_)); exact lds_nil) | omega) | refine u_bspT ?_ | refine u_bspF ?_)
  refine h.rowCopy waitE el_wait c.snd (h.src (A := As)) rfl (by omega) ?_
  clear h
  intro B cb' M h
  repeat (first | (refine s_nwc h ?_; clear h; intro kb M h) | (refine s_stc h ?_; clear h; intro M h) | refine t_exI h ?_ | refine t_exB h ?_ | refine t_exS h ?_ | refine t_exP h ?_ | refine t_exSl h ?_ | refine t_exV h ?_ | refine u_exI ?_ | refine u_exB ?_ | refine u_exS ?_ | refine u_exP ?_ | refine u_exSl ?_ | refine u_exV ?_ | refine u_nilc ?_ | (apply Exists.intro; (repeat apply Exists.intro); refine And.intro rfl ?_) | (refine And.intro ?_ ?_; first | exact trivial | exact rfl | exact t_ld h | (refine lds_s (t_ld h) ?_; (repeat (refine lds_s (t_ld h) ?_)); exact lds_nil) | omega) | refine u_bspT ?_ | refine u_bspF ?_)
  refine h.rowCopy waitE el_wait c.rcv (h.src (A := Ar)) rfl (by omega) ?_
  clear h
  intro D cd M h
  repeat (first | (refine s_nwc h ?_; clear h; intro kb M h) | (refine s_stc h ?_; clear h; intro M h) | refine t_exI h ?_ | refine t_exB h ?_ | refine t_exS h ?_ | refine t_exP h ?_ | refine t_exSl h ?_ | refine t_exV h ?_ | refine u_exI ?_ | refine u_exB ?_ | refine u_exS ?_ | refine u_exP ?_ | refine u_exSl ?_ | refine u_exV ?_ | refine u_nilc ?_ | (apply Exists.intro; (repeat apply Exists.intro); refine And.intro rfl ?_) | (refine And.intro ?_ ?_; first | exact trivial | exact rfl | exact t_ld h | (refine lds_s (t_ld h) ?_; (repeat (refine lds_s (t_ld h) ?_)); exact lds_nil) | omega) | refine u_bspT ?_ | refine u_bspF ?_)
  exact k _ _ _ _ _ _ _ (chan_close h b).fin1

theorem chans_Close (h : Hp R L M) [o : ObjAt chanR b L c L']
    (k : ∀ A ca B cb M', Hp R (objP chanR b c.close.1 :: rowW B cb c.close.2.2.1 :: rowW A ca c.close.2.1 :: L') M' → K (.tuple #[.slice A c.close.2.1.length ca, .slice B c.close.2.2.1.length cb, .int .i64 c.close.2.2.2]) M') :
    ACalls Try.prog 78 #[.pointer (some ⟨b, 0, none⟩)] M K Kp := by
  refine vc_chans_Chan_Close ?_
  obtain ⟨room, buf, snd, rcv, closed⟩ := c
  have h' := chan_open h (b := b)
  clear h
  obtain ⟨Ab, cb, As, cs, Ar, cr, h⟩ := h'
  dsimp only [chanCells] at h
  repeat (first | (refine s_nwc h ?_; clear h; intro kb M h) | (refine s_stc h ?_; clear h; intro M h) | refine t_exI h ?_ | refine t_exB h ?_ | refine t_exS h ?_ | refine t_exP h ?_ | refine t_exSl h ?_ | refine t_exV h ?_ | refine u_exI ?_ | refine u_exB ?_ | refine u_exS ?_ | refine u_exP ?_ | refine u_exSl ?_ | refine u_exV ?_ | refine u_nilc ?_ | (apply Exists.intro; (repeat apply Exists.intro); refine And.intro rfl ?_) | (refine And.intro ?_ ?_; first | exact trivial | exact rfl | exact t_ld h | (refine lds_s (t_ld h) ?_; (repeat (refine lds_s (t_ld h) ?_)); exact lds_nil) | omega) | refine u_bspT ?_ | refine u_bspF ?_)
  refine bsp_iff.2 ⟨fun hc => ?_, fun hc => ?_⟩
  · subst hc
    have h := chan_close ((h.row_nil waitE 120).row_nil waitE 120) b
    exact k none 0 none 0 _ h
  · subst hc
    repeat (first | (refine s_nwc h ?_; clear h; intro kb M h) | (refine s_stc h ?_; clear h; intro M h) | refine t_exI h ?_ | refine t_exB h ?_ | refine t_exS h ?_ | refine t_exP h ?_ | refine t_exSl h ?_ | refine t_exV h ?_ | refine u_exI ?_ | refine u_exB ?_ | refine u_exS ?_ | refine u_exP ?_ | refine u_exSl ?_ | refine u_exV ?_ | refine u_nilc ?_ | (apply Exists.intro; (repeat apply Exists.intro); refine And.intro rfl ?_) | (refine And.intro ?_ ?_; first | exact trivial | exact rfl | exact t_ld h | (refine lds_s (t_ld h) ?_; (repeat (refine lds_s (t_ld h) ?_)); exact lds_nil) | omega) | refine u_bspT ?_ | refine u_bspF ?_)
    have h := (h.row_nil waitE 120).row_nil waitE 120
    exact k _ _ _ _ _ ((chan_close h b).sub (by repeat (first | exact Sub.refl | refine Sub.cons (by first | exact Pick.here | exact (.there .here) | exact (.there (.there .here)) | exact (.there (.there (.there .here))) | exact (.there (.there (.there (.there .here)))) | exact (.there (.there (.there (.there (.there .here))))) | exact (.there (.there (.there (.there (.there (.there .here)))))) | exact (.there (.there (.there (.there (.there (.there (.there .here))))))) | exact (.there (.there (.there (.there (.there (.there (.there (.there .here)))))))) | exact (.there (.there (.there (.there (.there (.there (.there (.there (.there .here))))))))) | exact (.there (.there (.there (.there (.there (.there (.there (.there (.there (.there .here)))))))))) | exact (.there (.there (.there (.there (.there (.there (.there (.there (.there (.there (.there .here))))))))))) | exact (.there (.there (.there (.there (.there (.there (.there (.there (.there (.there (.there (.there .here)))))))))))) | exact (.there (.there (.there (.there (.there (.there (.there (.there (.there (.there (.there (.there (.there .here))))))))))))) | exact (.there (.there (.there (.there (.there (.there (.there (.there (.there (.there (.there (.there (.there (.there .here)))))))))))))) | exact (.there (.there (.there (.there (.there (.there (.there (.there (.there (.there (.there (.there (.there (.there (.there .here)))))))))))))))) ?_ | refine Sub.drop ?_)))


theorem chans_without {B : Option Addr} {n cc : Nat} {g : Int} {l : List Wt} (h : Hp R L M) (hB : Src R L B (waitE.cells l)) (hn : n = l.length) (hs : l.length ≤ 1000000000)
    (k : ∀ A' c' M', Hp R (rowW A' c' (wo g l) :: L) M' → K (.slice A' (wo g l).length c') M') :
    ACalls Try.prog 90 #[.slice B n cc, .int .i64 g] M K Kp := by
  subst hn
  refine vc_chans_without ⟨fun d vs M => ∃ i A c, vs = [.slice A (wo g (l.take i)).length c, .int .i64 (i : Int)] ∧ d = l.length - i ∧ i ≤ l.length ∧ Hp R (rowW A c (wo g (l.take i)) :: L) M,
    ⟨_, 0, none, 0, rfl, rfl, by omega, h.row_nil _ _⟩, ?_⟩
  clear h
  rintro d _ A n c' ii M ⟨i, _, _, he, hd, hi, h⟩
  simp only [List.cons.injEq, Value.slice.injEq, Value.int.injEq, and_true, true_and] at he
  obtain ⟨⟨rfl, rfl, rfl⟩, rfl⟩ := he
  refine bsp_dec.2 ⟨fun hlt => ?_, fun hge => ?_⟩
  · obtain ⟨w, hw⟩ := idx_ex (l := l) (i := i) (by omega)
    obtain ⟨b, o, rfl⟩ := hB.cons.someE h (by omega) (by decide)
    have e1 : IntKind.wrap .i64 ((i : Int) + 1) = ((i + 1 : Nat) : Int) := wrap_succ (by omega)
    have hl := wo_len g (l.take i)
    have hl2 := List.length_take_le i l
    rw [e1]
    repeat (first | (refine s_nwc h ?_; clear h; intro kb M h) | (refine s_stc h ?_; clear h; intro M h) | refine t_exI h ?_ | refine t_exB h ?_ | refine t_exS h ?_ | refine t_exP h ?_ | refine t_exSl h ?_ | refine t_exV h ?_ | refine u_exI ?_ | refine u_exB ?_ | refine u_exS ?_ | refine u_exP ?_ | refine u_exSl ?_ | refine u_exV ?_ | refine u_nilc ?_ | (apply Exists.intro; (repeat apply Exists.intro); refine And.intro rfl ?_) | (refine And.intro ?_ ?_; first | exact trivial | exact rfl | exact t_ld h | (refine lds_s (t_ld h) ?_; (repeat (refine lds_s (t_ld h) ?_)); exact lds_nil) | omega) | refine u_bspT ?_ | refine u_bspF ?_)
    refine v_exI (hB.cons.at h (j := 0) hw rfl (by simp [waitE])) ?_
    refine v_exI (hB.cons.at h (j := 1) hw rfl (by simp [waitE]; omega)) ?_
    refine v_exI (hB.cons.at h (j := 2) hw rfl (by simp [waitE]; omega)) ?_
    repeat (first | (refine s_nwc h ?_; clear h; intro kb M h) | (refine s_stc h ?_; clear h; intro M h) | refine t_exI h ?_ | refine t_exB h ?_ | refine t_exS h ?_ | refine t_exP h ?_ | refine t_exSl h ?_ | refine t_exV h ?_ | refine u_exI ?_ | refine u_exB ?_ | refine u_exS ?_ | refine u_exP ?_ | refine u_exSl ?_ | refine u_exV ?_ | refine u_nilc ?_ | (apply Exists.intro; (repeat apply Exists.intro); refine And.intro rfl ?_) | (refine And.intro ?_ ?_; first | exact trivial | exact rfl | exact t_ld h | (refine lds_s (t_ld h) ?_; (repeat (refine lds_s (t_ld h) ?_)); exact lds_nil) | omega) | refine u_bspT ?_ | refine u_bspF ?_)
    refine bsp_ne.2 ⟨fun hne => ?_, fun heq => ?_⟩
    · have e2 : wo g (l.take (i + 1)) = wo g (l.take i) ++ [w] := by rw [take_snoc hw, wo_app]; simp [wo, hne]
      repeat (first | (refine s_nwc h ?_; clear h; intro kb M h) | (refine s_stc h ?_; clear h; intro M h) | refine t_exI h ?_ | refine t_exB h ?_ | refine t_exS h ?_ | refine t_exP h ?_ | refine t_exSl h ?_ | refine t_exV h ?_ | refine u_exI ?_ | refine u_exB ?_ | refine u_exS ?_ | refine u_exP ?_ | refine u_exSl ?_ | refine u_exV ?_ | refine u_nilc ?_ | (apply Exists.intro; (repeat apply Exists.intro); refine And.intro rfl ?_) | (refine And.intro ?_ ?_; first | exact trivial | exact rfl | exact t_ld h | (refine lds_s (t_ld h) ?_; (repeat (refine lds_s (t_ld h) ?_)); exact lds_nil) | omega) | refine u_bspT ?_ | refine u_bspF ?_)
      refine h.rowAppend1 el_wait [w] rfl rfl (by simp; omega) ?_
      clear h
      intro A' c' M h
      repeat (first | (refine s_nwc h ?_; clear h; intro kb M h) | (refine s_stc h ?_; clear h; intro M h) | refine t_exI h ?_ | refine t_exB h ?_ | refine t_exS h ?_ | refine t_exP h ?_ | refine t_exSl h ?_ | refine t_exV h ?_ | refine u_exI ?_ | refine u_exB ?_ | refine u_exS ?_ | refine u_exP ?_ | refine u_exSl ?_ | refine u_exV ?_ | refine u_nilc ?_ | (apply Exists.intro; (repeat apply Exists.intro); refine And.intro rfl ?_) | (refine And.intro ?_ ?_; first | exact trivial | exact rfl | exact t_ld h | (refine lds_s (t_ld h) ?_; (repeat (refine lds_s (t_ld h) ?_)); exact lds_nil) | omega) | refine u_bspT ?_ | refine u_bspF ?_)
      exact ⟨l.length - (i + 1), by omega, i + 1, A', c', by rw [e2], rfl, by omega, by rw [e2]; exact h.fin1⟩
    · have e2 : wo g (l.take (i + 1)) = wo g (l.take i) := by rw [take_snoc hw, wo_app]; simp [wo, heq]
      exact ⟨l.length - (i + 1), by omega, i + 1, A, c', by rw [e2], rfl, by omega, by rw [e2]; exact h.fin0⟩
  · have : i = l.length := by omega
    subst this
    rw [List.take_length] at h ⊢
    exact k _ _ _ h

theorem chans_Drop {g : Int} (h : Hp R L M) [o : ObjAt chanR b L c L'] (hs : c.Small 1000000000) (k : ∀ M', Hp R (objP chanR b (c.drop g) :: L') M' → K (.tuple #[]) M') :
    ACalls Try.prog 89 #[.pointer (some ⟨b, 0, none⟩), .int .i64 g] M K Kp := by
  refine vc_chans_Chan_Drop ?_
  have h' := chan_open h (b := b)
  clear h
  obtain ⟨Ab, cb, As, cs, Ar, cr, h⟩ := h'
  obtain ⟨h1, h2, h3⟩ := hs
  repeat (first | (refine s_nwc h ?_; clear h; intro kb M h) | (refine s_stc h ?_; clear h; intro M h) | refine t_exI h ?_ | refine t_exB h ?_ | refine t_exS h ?_ | refine t_exP h ?_ | refine t_exSl h ?_ | refine t_exV h ?_ | refine u_exI ?_ | refine u_exB ?_ | refine u_exS ?_ | refine u_exP ?_ | refine u_exSl ?_ | refine u_exV ?_ | refine u_nilc ?_ | (apply Exists.intro; (repeat apply Exists.intro); refine And.intro rfl ?_) | (refine And.intro ?_ ?_; first | exact trivial | exact rfl | exact t_ld h | (refine lds_s (t_ld h) ?_; (repeat (refine lds_s (t_ld h) ?_)); exact lds_nil) | omega) | refine u_bspT ?_ | refine u_bspF ?_)
  refine ⟨?_, ?_, trivial⟩
  · refine chans_without h (h.src (A := As)) rfl h2 ?_
    clear h
    intro A' c' M h
    repeat (first | (refine s_nwc h ?_; clear h; intro kb M h) | (refine s_stc h ?_; clear h; intro M h) | refine t_exI h ?_ | refine t_exB h ?_ | refine t_exS h ?_ | refine t_exP h ?_ | refine t_exSl h ?_ | refine t_exV h ?_ | refine u_exI ?_ | refine u_exB ?_ | refine u_exS ?_ | refine u_exP ?_ | refine u_exSl ?_ | refine u_exV ?_ | refine u_nilc ?_ | (apply Exists.intro; (repeat apply Exists.intro); refine And.intro rfl ?_) | (refine And.intro ?_ ?_; first | exact trivial | exact rfl | exact t_ld h | (refine lds_s (t_ld h) ?_; (repeat (refine lds_s (t_ld h) ?_)); exact lds_nil) | omega) | refine u_bspT ?_ | refine u_bspF ?_)
    refine chans_without h (h.src (A := Ar)) rfl h3 ?_
    clear h
    intro B' d' M h
    repeat (first | (refine s_nwc h ?_; clear h; intro kb M h) | (refine s_stc h ?_; clear h; intro M h) | refine t_exI h ?_ | refine t_exB h ?_ | refine t_exS h ?_ | refine t_exP h ?_ | refine t_exSl h ?_ | refine t_exV h ?_ | refine u_exI ?_ | refine u_exB ?_ | refine u_exS ?_ | refine u_exP ?_ | refine u_exSl ?_ | refine u_exV ?_ | refine u_nilc ?_ | (apply Exists.intro; (repeat apply Exists.intro); refine And.intro rfl ?_) | (refine And.intro ?_ ?_; first | exact trivial | exact rfl | exact t_ld h | (refine lds_s (t_ld h) ?_; (repeat (refine lds_s (t_ld h) ?_)); exact lds_nil) | omega) | refine u_bspT ?_ | refine u_bspF ?_)
    exact k _ (chan_close h b).fin1
  · repeat (first | (refine s_nwc h ?_; clear h; intro kb M h) | (refine s_stc h ?_; clear h; intro M h) | refine t_exI h ?_ | refine t_exB h ?_ | refine t_exS h ?_ | refine t_exP h ?_ | refine t_exSl h ?_ | refine t_exV h ?_ | refine u_exI ?_ | refine u_exB ?_ | refine u_exS ?_ | refine u_exP ?_ | refine u_exSl ?_ | refine u_exV ?_ | refine u_nilc ?_ | (apply Exists.intro; (repeat apply Exists.intro); refine And.intro rfl ?_) | (refine And.intro ?_ ?_; first | exact trivial | exact rfl | exact t_ld h | (refine lds_s (t_ld h) ?_; (repeat (refine lds_s (t_ld h) ?_)); exact lds_nil) | omega) | refine u_bspT ?_ | refine u_bspF ?_)
    refine chans_without h (h.src (A := As)) rfl h2 ?_
    clear h
    intro A' c' M h
    repeat (first | (refine s_nwc h ?_; clear h; intro kb M h) | (refine s_stc h ?_; clear h; intro M h) | refine t_exI h ?_ | refine t_exB h ?_ | refine t_exS h ?_ | refine t_exP h ?_ | refine t_exSl h ?_ | refine t_exV h ?_ | refine u_exI ?_ | refine u_exB ?_ | refine u_exS ?_ | refine u_exP ?_ | refine u_exSl ?_ | refine u_exV ?_ | refine u_nilc ?_ | (apply Exists.intro; (repeat apply Exists.intro); refine And.intro rfl ?_) | (refine And.intro ?_ ?_; first | exact trivial | exact rfl | exact t_ld h | (refine lds_s (t_ld h) ?_; (repeat (refine lds_s (t_ld h) ?_)); exact lds_nil) | omega) | refine u_bspT ?_ | refine u_bspF ?_)
    refine chans_without h (h.src (A := Ar)) rfl h3 ?_
    clear h
    intro B' d' M h
    repeat (first | (refine s_nwc h ?_; clear h; intro kb M h) | (refine s_stc h ?_; clear h; intro M h) | refine t_exI h ?_ | refine t_exB h ?_ | refine t_exS h ?_ | refine t_exP h ?_ | refine t_exSl h ?_ | refine t_exV h ?_ | refine u_exI ?_ | refine u_exB ?_ | refine u_exS ?_ | refine u_exP ?_ | refine u_exSl ?_ | refine u_exV ?_ | refine u_nilc ?_ | (apply Exists.intro; (repeat apply Exists.intro); refine And.intro rfl ?_) | (refine And.intro ?_ ?_; first | exact trivial | exact rfl | exact t_ld h | (refine lds_s (t_ld h) ?_; (repeat (refine lds_s (t_ld h) ?_)); exact lds_nil) | omega) | refine u_bspT ?_ | refine u_bspF ?_)
    exact k _ (chan_close h b).fin1

theorem Chan.small_new (room : Int) : (Chan.new room).Small 1000000000 := by simp [Chan.Small, Chan.new]
end
end Go.Proofs
