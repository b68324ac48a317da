/- A part of proofs about functions of one program: a condition over a partial memory that is enough for a call, and what calls answer by it. No condition of its own. -/
import Derived.Test.YtfjgcljdnhkmaaaWK
/- A new world. -/
namespace Go.Proofs
open Go.AF
set_option linter.unusedVariables false
set_option maxRecDepth 100000
set_option maxHeartbeats 1000000
attribute [local irreducible] exI exB exS exP exSl exV nilc stc nwc semK semU bsp
def Wd.new (p : Prg) : Wd := ⟨[⟨1, [Frm.begin 0 0], .zero⟩], 0, p.chs.map Chan.new, List.replicate p.locks.toNat ⟨-1, []⟩, [], 0, [], 0, 0, []⟩
theorem el_pc : ElemOk Try.prog 71 77 1 8 [.pointer none] := ElemOk.mk' (zv := .pointer none) (by kernel_rfl) (by kernel_rfl) rfl (by omega)
theorem el_pl : ElemOk Try.prog 72 79 1 8 [.pointer none] := ElemOk.mk' (zv := .pointer none) (by kernel_rfl) (by kernel_rfl) rfl (by omega)
section
variable {R : Mem} {L L' L2 : List HP} {M : Mem} {K : Value → Mem → Prop} {Kp : List PanicEntry → Mem → Prop} {pa : PA} {p : Prg} {gg : List GA} {dr : Value} {b : Nat} {x : Wd} {g : Int}
theorem world_Chan {i : Int} (h : Hp R L M) [o : IAt b L pa p x L'] (hk : chOk x i) (hs : (chAt x.chans i).Small 1000000)
    (k : ∀ A ca B cb D cd M', Hp R (objP (idleR pa p) b x :: rowW D cd (chAt x.chans i).rcv :: rowW B cb (chAt x.chans i).snd :: rowB A ca (chAt x.chans i).buf :: L') M' →
      K (.agg #[.slice A (chAt x.chans i).buf.length ca, .slice B (chAt x.chans i).snd.length cb, .slice D (chAt x.chans i).rcv.length cd, .bool (chAt x.chans i).closed]) M') :
    ACalls Try.prog 12 #[.pointer (some ⟨b, 0, none⟩), .int .i64 i] M K Kp := by
  refine vc_world_World_Chan ?_
  obtain ⟨k0, k1⟩ := hk
  refine s_nwc h ?_
  clear h
  intro kb M h
  have h' := idle_open h (b := b)
  clear h
  obtain ⟨a, gg, dr, n, hl, h⟩ := h'
  have hl' := hl
  obtain ⟨l1, l2, l3, l4⟩ := hl'
  refine bsp_dec.2 ⟨fun hn => by omega, fun _ => ?_⟩
  refine t_exSl h ?_
  refine bsp_dec.2 ⟨fun hn => by omega, fun _ => ?_⟩
  refine t_exSl h ?_
  refine ⟨k0, by omega, ?_⟩
  obtain ⟨cb, hcb⟩ := idx_ex (l := a.cb) (i := i.toNat) (by omega)
  refine w_g h hcb fun q hq => ?_
  obtain ⟨y, hy⟩ := idx_ex (l := x.chans) (i := i.toNat) (by omega)
  have e : chAt x.chans i = y := by simp [chAt, hy]
  rw [e] at k hs
  replace h := h.objs_out chanR hcb hy
  refine chans_State h (hs.mono (by omega)) ?_
  clear h
  intro A ca B cb' D cd M h
  repeat (first | (refine s_nwc h ?_; clear h; intro kb M h) | (refine s_stc h ?_; clear h; intro M h) | refine t_exI h ?_ | refine t_exB h ?_ | refine t_exS h ?_ | refine t_exP h ?_ | refine t_exSl h ?_ | refine t_exV h ?_ | refine u_exI ?_ | refine u_exB ?_ | refine u_exS ?_ | refine u_exP ?_ | refine u_exSl ?_ | refine u_exV ?_ | refine u_nilc ?_ | (apply Exists.intro; (repeat apply Exists.intro); refine And.intro rfl ?_) | (refine And.intro ?_ ?_; first | exact trivial | exact rfl | exact t_ld h | (refine lds_s (t_ld h) ?_; (repeat (refine lds_s (t_ld h) ?_)); exact lds_nil) | omega) | refine u_bspT ?_ | refine u_bspF ?_)
  replace h := h.objs_same chanR cb hcb hy
  exact k _ _ _ _ _ _ _ (idle_mk (a := a) (gg := gg) (dr := dr) (n := n) hl (h.sub (by repeat (first | exact Sub.refl | refine Sub.cons (by first | exact Pick.here | exact (.there .here) | exact (.there (.there .here)) | exact (.there (.there (.there .here))) | exact (.there (.there (.there (.there .here)))) | exact (.there (.there (.there (.there (.there .here))))) | exact (.there (.there (.there (.there (.there (.there .here)))))) | exact (.there (.there (.there (.there (.there (.there (.there .here))))))) | exact (.there (.there (.there (.there (.there (.there (.there (.there .here)))))))) | exact (.there (.there (.there (.there (.there (.there (.there (.there (.there .here))))))))) | exact (.there (.there (.there (.there (.there (.there (.there (.there (.there (.there .here)))))))))) | exact (.there (.there (.there (.there (.there (.there (.there (.there (.there (.there (.there .here))))))))))) | exact (.there (.there (.there (.there (.there (.there (.there (.there (.there (.there (.there (.there .here)))))))))))) | exact (.there (.there (.there (.there (.there (.there (.there (.there (.there (.there (.there (.there (.there .here))))))))))))) | exact (.there (.there (.there (.there (.there (.there (.there (.there (.there (.there (.there (.there (.there (.there .here)))))))))))))) | exact (.there (.there (.there (.there (.there (.there (.there (.there (.there (.there (.there (.there (.there (.there (.there .here)))))))))))))))) ?_ | refine Sub.drop ?_))))
theorem new_ch {j : Nat} {q A' : Nat} {c' : Nat} {v : Int} {a : WA} {n k : Nat} {Ac : Option Addr} {Q : List HP} (hl : wLens gg a x)
    (h : Hp R (pt b (wCellsI pa p dr { a with ac := Ac, cc := c', cb := a.cb ++ [k] } x n) 76 :: rowPC Ac c' (a.cb ++ [k]) :: objP chanR k (Chan.new v) :: objsP chanR a.cb x.chans :: objsP gorR a.gb (x.gs.zip gg) :: rowPG a.ag a.cg a.gb :: rowPL a.al a.cl a.lb :: objsP lockR a.lb x.locks :: rowH a.ah a.ch x.hl :: rowB a.ao a.co x.out :: Q) M) :
    Hp R (objP (idleR pa p) b { x with chans := x.chans ++ [Chan.new v] } :: Q) M := by
  obtain ⟨l1, l2, l3, l4⟩ := hl
  have h2 := h.objs_snoc chanR k l3
  exact idle_mk (a := { a with ac := Ac, cc := c', cb := a.cb ++ [k] }) (gg := gg) (dr := dr) (n := n) (x := { x with chans := x.chans ++ [Chan.new v] }) ⟨l1, l2, by simp [l3], l4⟩ (h2.sub (by repeat (first | exact Sub.refl | refine Sub.cons (by first | exact Pick.here | exact (.there .here) | exact (.there (.there .here)) | exact (.there (.there (.there .here))) | exact (.there (.there (.there (.there .here)))) | exact (.there (.there (.there (.there (.there .here))))) | exact (.there (.there (.there (.there (.there (.there .here)))))) | exact (.there (.there (.there (.there (.there (.there (.there .here))))))) | exact (.there (.there (.there (.there (.there (.there (.there (.there .here)))))))) | exact (.there (.there (.there (.there (.there (.there (.there (.there (.there .here))))))))) | exact (.there (.there (.there (.there (.there (.there (.there (.there (.there (.there .here)))))))))) | exact (.there (.there (.there (.there (.there (.there (.there (.there (.there (.there (.there .here))))))))))) | exact (.there (.there (.there (.there (.there (.there (.there (.there (.there (.there (.there (.there .here)))))))))))) | exact (.there (.there (.there (.there (.there (.there (.there (.there (.there (.there (.there (.there (.there .here))))))))))))) | exact (.there (.there (.there (.there (.there (.there (.there (.there (.there (.there (.there (.there (.there (.there .here)))))))))))))) | exact (.there (.there (.there (.there (.there (.there (.there (.there (.there (.there (.there (.there (.there (.there (.there .here)))))))))))))))) ?_ | refine Sub.drop ?_)))
theorem new_lk {c' : Nat} {a : WA} {n k : Nat} {Ac : Option Addr} {Q : List HP} (hl : wLens gg a x)
    (h : Hp R (pt b (wCellsI pa p dr { a with al := Ac, cl := c', lb := a.lb ++ [k] } x n) 76 :: rowPL Ac c' (a.lb ++ [k]) :: objP lockR k ⟨-1, []⟩ :: objsP lockR a.lb x.locks :: objsP gorR a.gb (x.gs.zip gg) :: rowPG a.ag a.cg a.gb :: rowPC a.ac a.cc a.cb :: objsP chanR a.cb x.chans :: rowH a.ah a.ch x.hl :: rowB a.ao a.co x.out :: Q) M) :
    Hp R (objP (idleR pa p) b { x with locks := x.locks ++ [⟨-1, []⟩] } :: Q) M := by
  obtain ⟨l1, l2, l3, l4⟩ := hl
  have h2 := h.objs_snoc lockR k l4
  exact idle_mk (a := { a with al := Ac, cl := c', lb := a.lb ++ [k] }) (gg := gg) (dr := dr) (n := n) (x := { x with locks := x.locks ++ [⟨-1, []⟩] }) ⟨l1, l2, l3, by simp [l4]⟩ (h2.sub (by repeat (first | exact Sub.refl | refine Sub.cons (by first | exact Pick.here | exact (.there .here) | exact (.there (.there .here)) | exact (.there (.there (.there .here))) | exact (.there (.there (.there (.there .here)))) | exact (.there (.there (.there (.there (.there .here))))) | exact (.there (.there (.there (.there (.there (.there .here)))))) | exact (.there (.there (.there (.there (.there (.there (.there .here))))))) | exact (.there (.there (.there (.there (.there (.there (.there (.there .here)))))))) | exact (.there (.there (.there (.there (.there (.there (.there (.there (.there .here))))))))) | exact (.there (.there (.there (.there (.there (.there (.there (.there (.there (.there .here)))))))))) | exact (.there (.there (.there (.there (.there (.there (.there (.there (.there (.there (.there .here))))))))))) | exact (.there (.there (.there (.there (.there (.there (.there (.there (.there (.there (.there (.there .here)))))))))))) | exact (.there (.there (.there (.there (.there (.there (.there (.there (.there (.there (.there (.there (.there .here))))))))))))) | exact (.there (.there (.there (.there (.there (.there (.there (.there (.there (.there (.there (.there (.there (.there .here)))))))))))))) | exact (.there (.there (.there (.there (.there (.there (.there (.there (.there (.there (.there (.there (.there (.there (.there .here)))))))))))))))) ?_ | refine Sub.drop ?_)))
theorem world_New (h : Hp R L M) (hch : RS intE R pa.c pa.cc p.chs) (hc : p.chs.length ≤ 1000000) (hk : 0 ≤ p.locks ∧ p.locks ≤ 1000000)
    (k : ∀ b M', Hp R (objP (idleR pa p) b (Wd.new p) :: L) M' → K (.pointer (some ⟨b, 0, none⟩)) M') :
    ACalls Try.prog 7 #[.agg #[.slice pa.f p.funcs.length pa.fc, .slice pa.c p.chs.length pa.cc, .int .i64 p.locks, .slice pa.k p.cases.length pa.kc]] M K Kp := by
  refine vc_world_New ?_
  repeat (first | (refine s_nwc h ?_; clear h; intro kb M h) | (refine s_stc h ?_; clear h; intro M h) | refine t_exI h ?_ | refine t_exB h ?_ | refine t_exS h ?_ | refine t_exP h ?_ | refine t_exSl h ?_ | refine t_exV h ?_ | refine u_exI ?_ | refine u_exB ?_ | refine u_exS ?_ | refine u_exP ?_ | refine u_exSl ?_ | refine u_exV ?_ | refine u_nilc ?_ | (apply Exists.intro; (repeat apply Exists.intro); refine And.intro rfl ?_) | (refine And.intro ?_ ?_; first | exact trivial | exact rfl | exact t_ld h | (refine lds_s (t_ld h) ?_; (repeat (refine lds_s (t_ld h) ?_)); exact lds_nil) | omega) | refine u_bspT ?_ | refine u_bspF ?_)
  refine frame_Begin h ?_
  clear h
  intro bs M h
  repeat (first | (refine s_nwc h ?_; clear h; intro kb M h) | (refine s_stc h ?_; clear h; intro M h) | refine t_exI h ?_ | refine t_exB h ?_ | refine t_exS h ?_ | refine t_exP h ?_ | refine t_exSl h ?_ | refine t_exV h ?_ | refine u_exI ?_ | refine u_exB ?_ | refine u_exS ?_ | refine u_exP ?_ | refine u_exSl ?_ | refine u_exV ?_ | refine u_nilc ?_ | (apply Exists.intro; (repeat apply Exists.intro); refine And.intro rfl ?_) | (refine And.intro ?_ ?_; first | exact trivial | exact rfl | exact t_ld h | (refine lds_s (t_ld h) ?_; (repeat (refine lds_s (t_ld h) ?_)); exact lds_nil) | omega) | refine u_bspT ?_ | refine u_bspF ?_)
  rename_i kp _ _ kr _ kw _
  replace h := gor_close h kr
  replace h := (h.objs_nil gorR).objs_snoc gorR kr rfl
  replace h := (h.pt kw).row_pt (E := ptrE) (l := [kr]) rfl
  replace h := (h.row_nil ptrE 77).objs_nil chanR
  replace h := (h.row_nil ptrE 79).objs_nil lockR
  replace h := (h.row_nil itemE 86).row_nil intE 2
  have base : Hp R (objP (idleR pa p) kb { Wd.new p with chans := (p.chs.take 0).map Chan.new, locks := [] } :: pt kp [.slice pa.f p.funcs.length pa.fc, .slice pa.c p.chs.length pa.cc, .int .i64 p.locks, .slice pa.k p.cases.length pa.kc] 28 :: L) _ :=
    idle_mk (a := ⟨some ⟨kw, 0, none⟩, 1, [kr], none, 0, [], none, 0, [], none, 0, none, 0, none, 0⟩) (gg := [(some ⟨bs, 0, none⟩, 1)]) (dr := .nilFunc) (n := 0) (x := { Wd.new p with chans := [], locks := [] }) ⟨rfl, rfl, rfl, rfl⟩ (h.sub (by repeat (first | exact Sub.refl | refine Sub.cons (by first | exact Pick.here | exact (.there .here) | exact (.there (.there .here)) | exact (.there (.there (.there .here))) | exact (.there (.there (.there (.there .here)))) | exact (.there (.there (.there (.there (.there .here))))) | exact (.there (.there (.there (.there (.there (.there .here)))))) | exact (.there (.there (.there (.there (.there (.there (.there .here))))))) | exact (.there (.there (.there (.there (.there (.there (.there (.there .here)))))))) | exact (.there (.there (.there (.there (.there (.there (.there (.there (.there .here))))))))) | exact (.there (.there (.there (.there (.there (.there (.there (.there (.there (.there .here)))))))))) | exact (.there (.there (.there (.there (.there (.there (.there (.there (.there (.there (.there .here))))))))))) | exact (.there (.there (.there (.there (.there (.there (.there (.there (.there (.there (.there (.there .here)))))))))))) | exact (.there (.there (.there (.there (.there (.there (.there (.there (.there (.there (.there (.there (.there .here))))))))))))) | exact (.there (.there (.there (.there (.there (.there (.there (.there (.there (.there (.there (.there (.there (.there .here)))))))))))))) | exact (.there (.there (.there (.there (.there (.there (.there (.there (.there (.there (.there (.there (.there (.there (.there .here)))))))))))))))) ?_ | refine Sub.drop ?_)))
  clear h
  refine ⟨fun d vs M => ∃ j : Nat, vs = [.int .i64 (j : Int)] ∧ d = p.chs.length - j ∧ j ≤ p.chs.length ∧ Hp R (objP (idleR pa p) kb { Wd.new p with chans := (p.chs.take j).map Chan.new, locks := [] } :: pt kp [.slice pa.f p.funcs.length pa.fc, .slice pa.c p.chs.length pa.cc, .int .i64 p.locks, .slice pa.k p.cases.length pa.kc] 28 :: L) M,
    ⟨_, 0, rfl, rfl, by omega, base⟩, ?_⟩
  clear base
  rintro d _ nn M ⟨j, he, hd, hj, h⟩
  simp only [List.cons.injEq, Value.int.injEq, and_true, true_and] at he
  subst he
  refine bsp_dec.2 ⟨fun hlt => ?_, fun hge => ?_⟩
  · obtain ⟨v, hv⟩ := idx_ex (l := p.chs) (i := j) (by omega)
    have hsn : (p.chs.take (j + 1)).map Chan.new = (p.chs.take j).map Chan.new ++ [Chan.new v] := by rw [take_snoc hv, List.map_append]; rfl
    have hjl : ((p.chs.take j).map Chan.new).length ≤ 1000000 := by simp; omega
    rw [wrap_succ (by omega)]
    refine ⟨by omega, hlt, ?_⟩
    obtain ⟨cb, co, hcb⟩ := hch.some (by omega) (by decide)
    have hch2 := hch
    rw [hcb] at hch2 ⊢
    refine u_nilc ?_
    simp only [Int.toNat_natCast]
    refine v_exI (Src.at (hch2.src (L := _)) h (i := j) (j := 0) hv rfl (by simp [intE])) ?_
    refine ⟨fun _ M => Hp R (objP (idleR pa p) kb { Wd.new p with chans := (p.chs.take j).map Chan.new ++ [Chan.new v], locks := [] } :: pt kp [.slice pa.f p.funcs.length pa.fc, .slice pa.c p.chs.length pa.cc, .int .i64 p.locks, .slice pa.k p.cases.length pa.kc] 28 :: L) M, ⟨?_, ?_, trivial⟩, ?_⟩
    · have h' := idle_open h (b := kb)
      clear h
      obtain ⟨a, gg, dr, n, hl, h⟩ := h'
      have hl3 : a.cb.length = ((p.chs.take j).map Chan.new).length := hl.2.2.1
      refine t_exSl h ?_
      refine chans_New h ?_
      clear h
      intro kc M h
      repeat (first | (refine s_nwc h ?_; clear h; intro kb M h) | (refine s_stc h ?_; clear h; intro M h) | refine t_exI h ?_ | refine t_exB h ?_ | refine t_exS h ?_ | refine t_exP h ?_ | refine t_exSl h ?_ | refine t_exV h ?_ | refine u_exI ?_ | refine u_exB ?_ | refine u_exS ?_ | refine u_exP ?_ | refine u_exSl ?_ | refine u_exV ?_ | refine u_nilc ?_ | (apply Exists.intro; (repeat apply Exists.intro); refine And.intro rfl ?_) | (refine And.intro ?_ ?_; first | exact trivial | exact rfl | exact t_ld h | (refine lds_s (t_ld h) ?_; (repeat (refine lds_s (t_ld h) ?_)); exact lds_nil) | omega) | refine u_bspT ?_ | refine u_bspF ?_)
      refine h.rowAppend1 el_pc [kc] rfl rfl (by simp only [List.length_singleton]; omega) ?_
      clear h
      intro A' c' M h
      repeat (first | (refine s_nwc h ?_; clear h; intro kb M h) | (refine s_stc h ?_; clear h; intro M h) | refine t_exI h ?_ | refine t_exB h ?_ | refine t_exS h ?_ | refine t_exP h ?_ | refine t_exSl h ?_ | refine t_exV h ?_ | refine u_exI ?_ | refine u_exB ?_ | refine u_exS ?_ | refine u_exP ?_ | refine u_exSl ?_ | refine u_exV ?_ | refine u_nilc ?_ | (apply Exists.intro; (repeat apply Exists.intro); refine And.intro rfl ?_) | (refine And.intro ?_ ?_; first | exact trivial | exact rfl | exact t_ld h | (refine lds_s (t_ld h) ?_; (repeat (refine lds_s (t_ld h) ?_)); exact lds_nil) | omega) | refine u_bspT ?_ | refine u_bspF ?_)
      exact new_ch (j := j) (q := j) (A' := j) (a := a) (x := { Wd.new p with chans := (p.chs.take j).map Chan.new, locks := [] }) hl (h.sub (by repeat (first | exact Sub.refl | refine Sub.cons (by first | exact Pick.here | exact (.there .here) | exact (.there (.there .here)) | exact (.there (.there (.there .here))) | exact (.there (.there (.there (.there .here)))) | exact (.there (.there (.there (.there (.there .here))))) | exact (.there (.there (.there (.there (.there (.there .here)))))) | exact (.there (.there (.there (.there (.there (.there (.there .here))))))) | exact (.there (.there (.there (.there (.there (.there (.there (.there .here)))))))) | exact (.there (.there (.there (.there (.there (.there (.there (.there (.there .here))))))))) | exact (.there (.there (.there (.there (.there (.there (.there (.there (.there (.there .here)))))))))) | exact (.there (.there (.there (.there (.there (.there (.there (.there (.there (.there (.there .here))))))))))) | exact (.there (.there (.there (.there (.there (.there (.there (.there (.there (.there (.there (.there .here)))))))))))) | exact (.there (.there (.there (.there (.there (.there (.there (.there (.there (.there (.there (.there (.there .here))))))))))))) | exact (.there (.there (.there (.there (.there (.there (.there (.there (.there (.there (.there (.there (.there (.there .here)))))))))))))) | exact (.there (.there (.there (.there (.there (.there (.there (.there (.there (.there (.there (.there (.there (.there (.there .here)))))))))))))))) ?_ | refine Sub.drop ?_)))
    · have h' := idle_open h (b := kb)
      clear h
      obtain ⟨a, gg, dr, n, hl, h⟩ := h'
      have hl3 : a.cb.length = ((p.chs.take j).map Chan.new).length := hl.2.2.1
      refine chans_New h ?_
      clear h
      intro kc M h
      repeat (first | (refine s_nwc h ?_; clear h; intro kb M h) | (refine s_stc h ?_; clear h; intro M h) | refine t_exI h ?_ | refine t_exB h ?_ | refine t_exS h ?_ | refine t_exP h ?_ | refine t_exSl h ?_ | refine t_exV h ?_ | refine u_exI ?_ | refine u_exB ?_ | refine u_exS ?_ | refine u_exP ?_ | refine u_exSl ?_ | refine u_exV ?_ | refine u_nilc ?_ | (apply Exists.intro; (repeat apply Exists.intro); refine And.intro rfl ?_) | (refine And.intro ?_ ?_; first | exact trivial | exact rfl | exact t_ld h | (refine lds_s (t_ld h) ?_; (repeat (refine lds_s (t_ld h) ?_)); exact lds_nil) | omega) | refine u_bspT ?_ | refine u_bspF ?_)
      refine h.rowAppend1 el_pc [kc] rfl rfl (by simp only [List.length_singleton]; omega) ?_
      clear h
      intro A' c' M h
      repeat (first | (refine s_nwc h ?_; clear h; intro kb M h) | (refine s_stc h ?_; clear h; intro M h) | refine t_exI h ?_ | refine t_exB h ?_ | refine t_exS h ?_ | refine t_exP h ?_ | refine t_exSl h ?_ | refine t_exV h ?_ | refine u_exI ?_ | refine u_exB ?_ | refine u_exS ?_ | refine u_exP ?_ | refine u_exSl ?_ | refine u_exV ?_ | refine u_nilc ?_ | (apply Exists.intro; (repeat apply Exists.intro); refine And.intro rfl ?_) | (refine And.intro ?_ ?_; first | exact trivial | exact rfl | exact t_ld h | (refine lds_s (t_ld h) ?_; (repeat (refine lds_s (t_ld h) ?_)); exact lds_nil) | omega) | refine u_bspT ?_ | refine u_bspF ?_)
      exact new_ch (j := j) (q := j) (A' := j) (a := a) (x := { Wd.new p with chans := (p.chs.take j).map Chan.new, locks := [] }) hl (h.sub (by repeat (first | exact Sub.refl | refine Sub.cons (by first | exact Pick.here | exact (.there .here) | exact (.there (.there .here)) | exact (.there (.there (.there .here))) | exact (.there (.there (.there (.there .here)))) | exact (.there (.there (.there (.there (.there .here))))) | exact (.there (.there (.there (.there (.there (.there .here)))))) | exact (.there (.there (.there (.there (.there (.there (.there .here))))))) | exact (.there (.there (.there (.there (.there (.there (.there (.there .here)))))))) | exact (.there (.there (.there (.there (.there (.there (.there (.there (.there .here))))))))) | exact (.there (.there (.there (.there (.there (.there (.there (.there (.there (.there .here)))))))))) | exact (.there (.there (.there (.there (.there (.there (.there (.there (.there (.there (.there .here))))))))))) | exact (.there (.there (.there (.there (.there (.there (.there (.there (.there (.there (.there (.there .here)))))))))))) | exact (.there (.there (.there (.there (.there (.there (.there (.there (.there (.there (.there (.there (.there .here))))))))))))) | exact (.there (.there (.there (.there (.there (.there (.there (.there (.there (.there (.there (.there (.there (.there .here)))))))))))))) | exact (.there (.there (.there (.there (.there (.there (.there (.there (.there (.there (.there (.there (.there (.there (.there .here)))))))))))))))) ?_ | refine Sub.drop ?_)))
    · clear h
      intro _ M h
      refine ⟨p.chs.length - (j + 1), by omega, j + 1, rfl, rfl, by omega, ?_⟩
      rw [hsn, ← hcb]; exact h
  · obtain rfl : j = p.chs.length := by omega
    rw [List.take_length] at h
    refine t_exI h ?_
    obtain ⟨nl, hnl⟩ := Int.eq_ofNat_of_zero_le hk.1
    refine ⟨fun d vs M => ∃ j : Nat, vs = [.int .i64 (j : Int)] ∧ d = nl - j ∧ j ≤ nl ∧ Hp R (objP (idleR pa p) kb { Wd.new p with locks := List.replicate j ⟨-1, []⟩ } :: pt kp [.slice pa.f p.funcs.length pa.fc, .slice pa.c p.chs.length pa.cc, .int .i64 p.locks, .slice pa.k p.cases.length pa.kc] 28 :: L) M,
      ⟨_, 0, rfl, rfl, by omega, h⟩, ?_⟩
    clear h
    rintro d _ nn M ⟨j, he, hd, hj, h⟩
    simp only [List.cons.injEq, Value.int.injEq, and_true, true_and] at he
    subst he
    refine bsp_dec.2 ⟨fun hlt => ?_, fun hge => ?_⟩
    · have hsn : List.replicate (j + 1) (⟨-1, []⟩ : Lk) = List.replicate j ⟨-1, []⟩ ++ [⟨-1, []⟩] := List.replicate_succ'
      rw [wrap_succ (by omega)]
      refine ⟨fun _ M => Hp R (objP (idleR pa p) kb { Wd.new p with locks := List.replicate j ⟨-1, []⟩ ++ [⟨-1, []⟩] } :: pt kp [.slice pa.f p.funcs.length pa.fc, .slice pa.c p.chs.length pa.cc, .int .i64 p.locks, .slice pa.k p.cases.length pa.kc] 28 :: L) M, ⟨?_, ?_, trivial⟩, ?_⟩
      · have h' := idle_open h (b := kb)
        clear h
        obtain ⟨a, gg, dr, n, hl, h⟩ := h'
        have hl3 : a.lb.length = (List.replicate j (⟨-1, []⟩ : Lk)).length := hl.2.2.2
        rw [List.length_replicate] at hl3
        refine t_exSl h ?_
        refine locks_New h ?_
        clear h
        intro kc M h
        repeat (first | (refine s_nwc h ?_; clear h; intro kb M h) | (refine s_stc h ?_; clear h; intro M h) | refine t_exI h ?_ | refine t_exB h ?_ | refine t_exS h ?_ | refine t_exP h ?_ | refine t_exSl h ?_ | refine t_exV h ?_ | refine u_exI ?_ | refine u_exB ?_ | refine u_exS ?_ | refine u_exP ?_ | refine u_exSl ?_ | refine u_exV ?_ | refine u_nilc ?_ | (apply Exists.intro; (repeat apply Exists.intro); refine And.intro rfl ?_) | (refine And.intro ?_ ?_; first | exact trivial | exact rfl | exact t_ld h | (refine lds_s (t_ld h) ?_; (repeat (refine lds_s (t_ld h) ?_)); exact lds_nil) | omega) | refine u_bspT ?_ | refine u_bspF ?_)
        refine h.rowAppend1 el_pl [kc] rfl rfl (by simp only [List.length_singleton]; omega) ?_
        clear h
        intro A' c' M h
        repeat (first | (refine s_nwc h ?_; clear h; intro kb M h) | (refine s_stc h ?_; clear h; intro M h) | refine t_exI h ?_ | refine t_exB h ?_ | refine t_exS h ?_ | refine t_exP h ?_ | refine t_exSl h ?_ | refine t_exV h ?_ | refine u_exI ?_ | refine u_exB ?_ | refine u_exS ?_ | refine u_exP ?_ | refine u_exSl ?_ | refine u_exV ?_ | refine u_nilc ?_ | (apply Exists.intro; (repeat apply Exists.intro); refine And.intro rfl ?_) | (refine And.intro ?_ ?_; first | exact trivial | exact rfl | exact t_ld h | (refine lds_s (t_ld h) ?_; (repeat (refine lds_s (t_ld h) ?_)); exact lds_nil) | omega) | refine u_bspT ?_ | refine u_bspF ?_)
        exact new_lk (a := a) (x := { Wd.new p with locks := List.replicate j ⟨-1, []⟩ }) hl (h.sub (by repeat (first | exact Sub.refl | refine Sub.cons (by first | exact Pick.here | exact (.there .here) | exact (.there (.there .here)) | exact (.there (.there (.there .here))) | exact (.there (.there (.there (.there .here)))) | exact (.there (.there (.there (.there (.there .here))))) | exact (.there (.there (.there (.there (.there (.there .here)))))) | exact (.there (.there (.there (.there (.there (.there (.there .here))))))) | exact (.there (.there (.there (.there (.there (.there (.there (.there .here)))))))) | exact (.there (.there (.there (.there (.there (.there (.there (.there (.there .here))))))))) | exact (.there (.there (.there (.there (.there (.there (.there (.there (.there (.there .here)))))))))) | exact (.there (.there (.there (.there (.there (.there (.there (.there (.there (.there (.there .here))))))))))) | exact (.there (.there (.there (.there (.there (.there (.there (.there (.there (.there (.there (.there .here)))))))))))) | exact (.there (.there (.there (.there (.there (.there (.there (.there (.there (.there (.there (.there (.there .here))))))))))))) | exact (.there (.there (.there (.there (.there (.there (.there (.there (.there (.there (.there (.there (.there (.there .here)))))))))))))) | exact (.there (.there (.there (.there (.there (.there (.there (.there (.there (.there (.there (.there (.there (.there (.there .here)))))))))))))))) ?_ | refine Sub.drop ?_)))
      · have h' := idle_open h (b := kb)
        clear h
        obtain ⟨a, gg, dr, n, hl, h⟩ := h'
        have hl3 : a.lb.length = (List.replicate j (⟨-1, []⟩ : Lk)).length := hl.2.2.2
        rw [List.length_replicate] at hl3
        refine locks_New h ?_
        clear h
        intro kc M h
        repeat (first | (refine s_nwc h ?_; clear h; intro kb M h) | (refine s_stc h ?_; clear h; intro M h) | refine t_exI h ?_ | refine t_exB h ?_ | refine t_exS h ?_ | refine t_exP h ?_ | refine t_exSl h ?_ | refine t_exV h ?_ | refine u_exI ?_ | refine u_exB ?_ | refine u_exS ?_ | refine u_exP ?_ | refine u_exSl ?_ | refine u_exV ?_ | refine u_nilc ?_ | (apply Exists.intro; (repeat apply Exists.intro); refine And.intro rfl ?_) | (refine And.intro ?_ ?_; first | exact trivial | exact rfl | exact t_ld h | (refine lds_s (t_ld h) ?_; (repeat (refine lds_s (t_ld h) ?_)); exact lds_nil) | omega) | refine u_bspT ?_ | refine u_bspF ?_)
        refine h.rowAppend1 el_pl [kc] rfl rfl (by simp only [List.length_singleton]; omega) ?_
        clear h
        intro A' c' M h
        repeat (first | (refine s_nwc h ?_; clear h; intro kb M h) | (refine s_stc h ?_; clear h; intro M h) | refine t_exI h ?_ | refine t_exB h ?_ | refine t_exS h ?_ | refine t_exP h ?_ | refine t_exSl h ?_ | refine t_exV h ?_ | refine u_exI ?_ | refine u_exB ?_ | refine u_exS ?_ | refine u_exP ?_ | refine u_exSl ?_ | refine u_exV ?_ | refine u_nilc ?_ | (apply Exists.intro; (repeat apply Exists.intro); refine And.intro rfl ?_) | (refine And.intro ?_ ?_; first | exact trivial | exact rfl | exact t_ld h | (refine lds_s (t_ld h) ?_; (repeat (refine lds_s (t_ld h) ?_)); exact lds_nil) | omega) | refine u_bspT ?_ | refine u_bspF ?_)
        exact new_lk (a := a) (x := { Wd.new p with locks := List.replicate j ⟨-1, []⟩ }) hl (h.sub (by repeat (first | exact Sub.refl | refine Sub.cons (by first | exact Pick.here | exact (.there .here) | exact (.there (.there .here)) | exact (.there (.there (.there .here))) | exact (.there (.there (.there (.there .here)))) | exact (.there (.there (.there (.there (.there .here))))) | exact (.there (.there (.there (.there (.there (.there .here)))))) | exact (.there (.there (.there (.there (.there (.there (.there .here))))))) | exact (.there (.there (.there (.there (.there (.there (.there (.there .here)))))))) | exact (.there (.there (.there (.there (.there (.there (.there (.there (.there .here))))))))) | exact (.there (.there (.there (.there (.there (.there (.there (.there (.there (.there .here)))))))))) | exact (.there (.there (.there (.there (.there (.there (.there (.there (.there (.there (.there .here))))))))))) | exact (.there (.there (.there (.there (.there (.there (.there (.there (.there (.there (.there (.there .here)))))))))))) | exact (.there (.there (.there (.there (.there (.there (.there (.there (.there (.there (.there (.there (.there .here))))))))))))) | exact (.there (.there (.there (.there (.there (.there (.there (.there (.there (.there (.there (.there (.there (.there .here)))))))))))))) | exact (.there (.there (.there (.there (.there (.there (.there (.there (.there (.there (.there (.there (.there (.there (.there .here)))))))))))))))) ?_ | refine Sub.drop ?_)))
      · clear h
        intro _ M h
        refine ⟨nl - (j + 1), by omega, j + 1, rfl, rfl, by omega, ?_⟩
        rw [hsn]; exact h
    · obtain rfl : j = nl := by omega
      have e : Wd.new p = { Wd.new p with locks := List.replicate j ⟨-1, []⟩ } := by unfold Wd.new; rw [hnl]; rfl
      rw [← e] at h
      exact k _ _ h.fin1
end
end Go.Proofs
