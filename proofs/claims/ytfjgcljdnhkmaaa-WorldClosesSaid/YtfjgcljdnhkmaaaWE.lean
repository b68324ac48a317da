/- A part of proofs about functions of one program: a condition over a partial memory that is enough for a call, and what calls answer by it. No condition of its own. -/
import Derived.Test.YtfjgcljdnhkmaaaWD
/- The world's instructions: spawn, shut. -/
namespace Go.Proofs
open Go.AF
set_option linter.unusedVariables false
set_option maxRecDepth 100000
set_option maxHeartbeats 1000000
attribute [local irreducible] exI exB exS exP exSl exV nilc stc nwc semK semU bsp
theorem el_pg : ElemOk Try.prog 69 65 1 8 [.pointer none] := ElemOk.mk' (zv := .pointer none) (by kernel_rfl) (by kernel_rfl) rfl (by omega)
section
variable {R : Mem} {L L' : List HP} {M : Mem} {K : Value → Mem → Prop} {Kp : List PanicEntry → Mem → Prop} {pa : PA} {p : Prg} {gg : List GA} {dr : Value} {b : Nat} {x : Wd}
def newG (x : Wd) (fn v : Int) : Wd := { x with gs := x.gs ++ [⟨0, [Frm.begin fn v], .zero⟩] }
theorem w_newG {a : WA} {k bs : Nat} {A' : Option Addr} {c' : Nat} {fn v : Int} (hl : wLens gg a x)
    (h : Hp R (pt b (wCells pa p dr { a with ag := A', cg := c', gb := a.gb ++ [k] } x) 76 :: rowPG A' c' (a.gb ++ [k]) :: pt k [.int .i64 0, .slice (some ⟨bs, 0, none⟩) 1 1, .int .i64 0, .int .i64 0, .int .i64 0, .int .i64 0] 68 ::
      rowF (some ⟨bs, 0, none⟩) 1 [Frm.begin fn v] :: objsP gorR a.gb (x.gs.zip gg) :: rowPC a.ac a.cc a.cb :: objsP chanR a.cb x.chans :: rowPL a.al a.cl a.lb :: objsP lockR a.lb x.locks :: rowH a.ah a.ch x.hl :: rowB a.ao a.co x.out :: rowI a.ar a.cr x.ready :: L) M) :
    Hp R (objP (worldR pa p (gg ++ [(some ⟨bs, 0, none⟩, 1)]) dr) b (newG x fn v) :: L) M := by
  obtain ⟨l1, l2, l3, l4⟩ := hl
  have h1 := gor_close h k
  have h2 := h1.objs_snoc gorR k (by rw [List.length_zip]; omega)
  have e : x.gs.zip gg ++ [(⟨0, [Frm.begin fn v], ⟨0, 0, 0, 0⟩⟩, (some ⟨bs, 0, none⟩, 1))] = (newG x fn v).gs.zip (gg ++ [(some ⟨bs, 0, none⟩, 1)]) := by
    unfold newG
    rw [List.zip_append (by omega)]; rfl
  rw [e] at h2
  exact world_close (a := { a with ag := A', cg := c', gb := a.gb ++ [k] }) (p := p) (pa := pa) (dr := dr) (gg := gg ++ [(some ⟨bs, 0, none⟩, 1)]) (x := newG x fn v) ⟨by simp [newG, l1], by simp [newG, l2], l3, l4⟩ h2 b
theorem gorAt_newG {g fn v : Int} (hg : gorOk x g) : gorAt (newG x fn v) g = gorAt x g := by
  obtain ⟨h0, h1, h2, h3⟩ := hg
  unfold gorAt newG
  dsimp only
  rw [List.getD_eq_getElem?_getD, List.getElem?_append_left (by omega), ← List.getD_eq_getElem?_getD]
theorem world_spawn {g : Int} {i : Ins} {bs c : Nat} (h : Hp R L M) [o : WAt b L pa p gg dr x L'] (hgg : gg[g.toNat]? = some (some ⟨bs, 0, none⟩, c)) (hg : gorOk x g) (hb : isReg i.b) (hc : isReg i.c) (hs : x.Sm)
    (k : Out.Ok (x.spawn g i) (fun y => ∀ gg' M', Hp R (objP (worldR pa p gg' dr) b y :: L') M' → K (.tuple #[]) M')
      (fun n y => ∀ M', Hp R (objP (worldR pa p gg dr) b y :: L') M' → Kp [{ v := .iface 92 (.int .i64 n), recovered := false }] M')) :
    ACalls Try.prog 47 #[.pointer (some ⟨b, 0, none⟩), .int .i64 g, .pointer (some ⟨bs, ((gorAt x g).fs.length - 1) * 11, none⟩), .agg #[.int .i64 i.op, .int .i64 i.a, .int .i64 i.b, .int .i64 i.c]] M K Kp := by
  refine vc_world_World_spawn ?_
  obtain ⟨s1, s2, s3, s4, s5, s6, s7, s8⟩ := hs
  unfold Wd.spawn at k
  refine s_nwc h ?_
  clear h
  intro kb M h
  have hC := h
  have h' := world_open h (b := b)
  clear h
  obtain ⟨a, hl, h⟩ := h'
  have hl' := hl
  obtain ⟨l1, l2, l3, l4⟩ := hl'
  refine t_exSl h ?_
  refine bsp_dec.2 ⟨fun hn => ?_, fun hn => ?_⟩
  · rw [if_pos (by omega)] at k
    exact k _ (hC.drop.pick o.pick)
  rw [if_neg (by omega)] at k
  refine t_exSl h ?_
  refine ⟨fun vs M => ∃ bs', Hp R (objP (worldR pa p (gg ++ [(some ⟨bs', 0, none⟩, 1)]) dr) b (newG x i.a (topReg x g i.b)) :: pt kb [.int .i64 i.op, .int .i64 i.a, .int .i64 i.b, .int .i64 i.c] 31 :: L') M, ?_, ?_⟩
  · repeat (first | (refine s_nwc h ?_; clear h; intro kb M h) | (refine s_stc h ?_; clear h; intro M h) | refine t_exI h ?_ | refine t_exB h ?_ | refine t_exS h ?_ | refine t_exP h ?_ | refine t_exSl h ?_ | refine t_exV h ?_ | refine u_exI ?_ | refine u_exB ?_ | refine u_exS ?_ | refine u_exP ?_ | refine u_exSl ?_ | refine u_exV ?_ | refine u_nilc ?_ | (apply Exists.intro; (repeat apply Exists.intro); refine And.intro rfl ?_) | (refine And.intro ?_ ?_; first | exact trivial | exact rfl | exact t_ld h | (refine lds_s (t_ld h) ?_; (repeat (refine lds_s (t_ld h) ?_)); exact lds_nil) | omega) | refine u_bspT ?_ | refine u_bspF ?_)
    refine ⟨hb.1, hb.2, w_reg (b := b) hC hg hgg hb rfl ?_⟩
    clear hC
    refine ⟨?_, ?_, trivial⟩
    · repeat (first | (refine s_nwc h ?_; clear h; intro kb M h) | (refine s_stc h ?_; clear h; intro M h) | refine t_exI h ?_ | refine t_exB h ?_ | refine t_exS h ?_ | refine t_exP h ?_ | refine t_exSl h ?_ | refine t_exV h ?_ | refine u_exI ?_ | refine u_exB ?_ | refine u_exS ?_ | refine u_exP ?_ | refine u_exSl ?_ | refine u_exV ?_ | refine u_nilc ?_ | (apply Exists.intro; (repeat apply Exists.intro); refine And.intro rfl ?_) | (refine And.intro ?_ ?_; first | exact trivial | exact rfl | exact t_ld h | (refine lds_s (t_ld h) ?_; (repeat (refine lds_s (t_ld h) ?_)); exact lds_nil) | omega) | refine u_bspT ?_ | refine u_bspF ?_)
      refine frame_Begin h ?_
      clear h
      intro bs' M h
      repeat (first | (refine s_nwc h ?_; clear h; intro kb M h) | (refine s_stc h ?_; clear h; intro M h) | refine t_exI h ?_ | refine t_exB h ?_ | refine t_exS h ?_ | refine t_exP h ?_ | refine t_exSl h ?_ | refine t_exV h ?_ | refine u_exI ?_ | refine u_exB ?_ | refine u_exS ?_ | refine u_exP ?_ | refine u_exSl ?_ | refine u_exV ?_ | refine u_nilc ?_ | (apply Exists.intro; (repeat apply Exists.intro); refine And.intro rfl ?_) | (refine And.intro ?_ ?_; first | exact trivial | exact rfl | exact t_ld h | (refine lds_s (t_ld h) ?_; (repeat (refine lds_s (t_ld h) ?_)); exact lds_nil) | omega) | refine u_bspT ?_ | refine u_bspF ?_)
      refine h.rowAppend1 el_pg [_] rfl rfl (by simp; omega) ?_
      clear h
      intro A' c' M h
      repeat (first | (refine s_nwc h ?_; clear h; intro kb M h) | (refine s_stc h ?_; clear h; intro M h) | refine t_exI h ?_ | refine t_exB h ?_ | refine t_exS h ?_ | refine t_exP h ?_ | refine t_exSl h ?_ | refine t_exV h ?_ | refine u_exI ?_ | refine u_exB ?_ | refine u_exS ?_ | refine u_exP ?_ | refine u_exSl ?_ | refine u_exV ?_ | refine u_nilc ?_ | (apply Exists.intro; (repeat apply Exists.intro); refine And.intro rfl ?_) | (refine And.intro ?_ ?_; first | exact trivial | exact rfl | exact t_ld h | (refine lds_s (t_ld h) ?_; (repeat (refine lds_s (t_ld h) ?_)); exact lds_nil) | omega) | refine u_bspT ?_ | refine u_bspF ?_)
      exact ⟨bs', w_newG hl (h.sub (by repeat (first | exact Sub.refl | refine Sub.cons (by first | exact Pick.here | exact (.there .here) | exact (.there (.there .here)) | exact (.there (.there (.there .here))) | exact (.there (.there (.there (.there .here)))) | exact (.there (.there (.there (.there (.there .here))))) | exact (.there (.there (.there (.there (.there (.there .here)))))) | exact (.there (.there (.there (.there (.there (.there (.there .here))))))) | exact (.there (.there (.there (.there (.there (.there (.there (.there .here)))))))) | exact (.there (.there (.there (.there (.there (.there (.there (.there (.there .here))))))))) | exact (.there (.there (.there (.there (.there (.there (.there (.there (.there (.there .here)))))))))) | exact (.there (.there (.there (.there (.there (.there (.there (.there (.there (.there (.there .here))))))))))) | exact (.there (.there (.there (.there (.there (.there (.there (.there (.there (.there (.there (.there .here)))))))))))) | exact (.there (.there (.there (.there (.there (.there (.there (.there (.there (.there (.there (.there (.there .here))))))))))))) | exact (.there (.there (.there (.there (.there (.there (.there (.there (.there (.there (.there (.there (.there (.there .here)))))))))))))) | exact (.there (.there (.there (.there (.there (.there (.there (.there (.there (.there (.there (.there (.there (.there (.there .here)))))))))))))))) ?_ | refine Sub.drop ?_)))⟩
    · refine frame_Begin h ?_
      clear h
      intro bs' M h
      repeat (first | (refine s_nwc h ?_; clear h; intro kb M h) | (refine s_stc h ?_; clear h; intro M h) | refine t_exI h ?_ | refine t_exB h ?_ | refine t_exS h ?_ | refine t_exP h ?_ | refine t_exSl h ?_ | refine t_exV h ?_ | refine u_exI ?_ | refine u_exB ?_ | refine u_exS ?_ | refine u_exP ?_ | refine u_exSl ?_ | refine u_exV ?_ | refine u_nilc ?_ | (apply Exists.intro; (repeat apply Exists.intro); refine And.intro rfl ?_) | (refine And.intro ?_ ?_; first | exact trivial | exact rfl | exact t_ld h | (refine lds_s (t_ld h) ?_; (repeat (refine lds_s (t_ld h) ?_)); exact lds_nil) | omega) | refine u_bspT ?_ | refine u_bspF ?_)
      refine h.rowAppend1 el_pg [_] rfl rfl (by simp; omega) ?_
      clear h
      intro A' c' M h
      repeat (first | (refine s_nwc h ?_; clear h; intro kb M h) | (refine s_stc h ?_; clear h; intro M h) | refine t_exI h ?_ | refine t_exB h ?_ | refine t_exS h ?_ | refine t_exP h ?_ | refine t_exSl h ?_ | refine t_exV h ?_ | refine u_exI ?_ | refine u_exB ?_ | refine u_exS ?_ | refine u_exP ?_ | refine u_exSl ?_ | refine u_exV ?_ | refine u_nilc ?_ | (apply Exists.intro; (repeat apply Exists.intro); refine And.intro rfl ?_) | (refine And.intro ?_ ?_; first | exact trivial | exact rfl | exact t_ld h | (refine lds_s (t_ld h) ?_; (repeat (refine lds_s (t_ld h) ?_)); exact lds_nil) | omega) | refine u_bspT ?_ | refine u_bspF ?_)
      exact ⟨bs', w_newG hl (h.sub (by repeat (first | exact Sub.refl | refine Sub.cons (by first | exact Pick.here | exact (.there .here) | exact (.there (.there .here)) | exact (.there (.there (.there .here))) | exact (.there (.there (.there (.there .here)))) | exact (.there (.there (.there (.there (.there .here))))) | exact (.there (.there (.there (.there (.there (.there .here)))))) | exact (.there (.there (.there (.there (.there (.there (.there .here))))))) | exact (.there (.there (.there (.there (.there (.there (.there (.there .here)))))))) | exact (.there (.there (.there (.there (.there (.there (.there (.there (.there .here))))))))) | exact (.there (.there (.there (.there (.there (.there (.there (.there (.there (.there .here)))))))))) | exact (.there (.there (.there (.there (.there (.there (.there (.there (.there (.there (.there .here))))))))))) | exact (.there (.there (.there (.there (.there (.there (.there (.there (.there (.there (.there (.there .here)))))))))))) | exact (.there (.there (.there (.there (.there (.there (.there (.there (.there (.there (.there (.there (.there .here))))))))))))) | exact (.there (.there (.there (.there (.there (.there (.there (.there (.there (.there (.there (.there (.there (.there .here)))))))))))))) | exact (.there (.there (.there (.there (.there (.there (.there (.there (.there (.there (.there (.there (.there (.there (.there .here)))))))))))))))) ?_ | refine Sub.drop ?_)))⟩
  · clear h hC
    rintro _ M ⟨bs', h⟩
    have hlen : (newG x i.a (topReg x g i.b)).gs.length = x.gs.length + 1 := by simp [newG]
    have hn2 : (x.gs.length : Int) = (a.gb.length : Int) := by omega
    rw [← hn2]
    refine world_wake (b := b) h (by omega) (by omega) (by show x.ready.length ≤ _; omega) ?_
    clear h
    intro M h
    repeat (first | (refine s_nwc h ?_; clear h; intro kb M h) | (refine s_stc h ?_; clear h; intro M h) | refine t_exI h ?_ | refine t_exB h ?_ | refine t_exS h ?_ | refine t_exP h ?_ | refine t_exSl h ?_ | refine t_exV h ?_ | refine u_exI ?_ | refine u_exB ?_ | refine u_exS ?_ | refine u_exP ?_ | refine u_exSl ?_ | refine u_exV ?_ | refine u_nilc ?_ | (apply Exists.intro; (repeat apply Exists.intro); refine And.intro rfl ?_) | (refine And.intro ?_ ?_; first | exact trivial | exact rfl | exact t_ld h | (refine lds_s (t_ld h) ?_; (repeat (refine lds_s (t_ld h) ?_)); exact lds_nil) | omega) | refine u_bspT ?_ | refine u_bspF ?_)
    have hg2 : gorAt ((newG x i.a (topReg x g i.b)).wake (x.gs.length : Int)) g = gorAt x g := by
      rw [← gorAt_newG (fn := i.a) (v := topReg x g i.b) hg]
      obtain ⟨h0, h1, _⟩ := hg
      have hne : x.gs.length ≠ g.toNat := by omega
      simp [gorAt, Wd.wake, Wd.putG, List.getElem?_set, hne]
    have hg3 : gorOk ((newG x i.a (topReg x g i.b)).wake (x.gs.length : Int)) g := by
      refine ⟨hg.1, ?_, ?_, ?_⟩
      · have h1 := hg.2.1
        simp only [Wd.wake, Wd.putG, List.length_set, hlen]; omega
      · rw [hg2]; exact hg.2.2.1
      · rw [hg2]; exact hg.2.2.2
    have hgg2 : (gg ++ [(some (⟨bs', 0, none⟩ : Addr), 1)])[g.toNat]? = some (some ⟨bs, 0, none⟩, c) := by
      rw [List.getElem?_append_left (by have := hg.2.1; have := hg.1; omega)]; exact hgg
    refine ⟨hc.1, hc.2, w_stReg (b := b) h hg3 hgg2 hc (by rw [hg2]) ?_⟩
    clear h
    intro M h
    repeat (first | (refine s_nwc h ?_; clear h; intro kb M h) | (refine s_stc h ?_; clear h; intro M h) | refine t_exI h ?_ | refine t_exB h ?_ | refine t_exS h ?_ | refine t_exP h ?_ | refine t_exSl h ?_ | refine t_exV h ?_ | refine u_exI ?_ | refine u_exB ?_ | refine u_exS ?_ | refine u_exP ?_ | refine u_exSl ?_ | refine u_exV ?_ | refine u_nilc ?_ | (apply Exists.intro; (repeat apply Exists.intro); refine And.intro rfl ?_) | (refine And.intro ?_ ?_; first | exact trivial | exact rfl | exact t_ld h | (refine lds_s (t_ld h) ?_; (repeat (refine lds_s (t_ld h) ?_)); exact lds_nil) | omega) | refine u_bspT ?_ | refine u_bspF ?_)
    exact k _ _ h.fin1
end
end Go.Proofs
