/- A part of proofs about functions of one program: a condition over a partial memory that is enough for a call, and what calls answer by it. No condition of its own. -/
import Derived.Test.YtfjgcljdnhkmaaaWB
/- The world's numbers in and out of channels. -/
namespace Go.Proofs
open Go.AF
set_option linter.unusedVariables false
set_option maxRecDepth 100000
set_option maxHeartbeats 1000000
attribute [local irreducible] exI exB exS exP exSl exV nilc stc nwc semK semU bsp
/-- A channel that is there. -/
def chOk (x : Wd) (k : Int) : Prop := 0 ≤ k ∧ k < x.chans.length
instance (x : Wd) (k : Int) : Decidable (chOk x k) := by unfold chOk; infer_instance
def putOk (p : Prg) (x : Wd) (k v : Int) : Prop := chOk x k ∧ (((chAt x.chans k).send v).2.2.1 = true → rcvOk p x ((chAt x.chans k).send v).2.1) ∧ ((chAt x.chans k).send v).1.Small 1000000
instance (p : Prg) (x : Wd) (k v : Int) : Decidable (putOk p x k v) := by unfold putOk; infer_instance
def getOk (x : Wd) (k : Int) : Prop := chOk x k ∧ ((chAt x.chans k).recv.2.2.2.2.1 = true → sndOk x (chAt x.chans k).recv.2.2.2.1) ∧ (chAt x.chans k).recv.1.Small 1000000
instance (x : Wd) (k : Int) : Decidable (getOk x k) := by unfold getOk; infer_instance
theorem Sm_putCh {x : Wd} {k : Int} {c : Chan} (h : x.Sm) (hc : c.Small 1000000) : (x.putCh k c).Sm := by
  obtain ⟨s1, s2, s3⟩ := h
  refine ⟨fun d hd => ?_, by simpa [Wd.putCh] using s2, s3⟩
  rcases mem_set hd with h | rfl
  · exact s1 d h
  · exact hc
section
variable {R : Mem} {L L' : List HP} {M : Mem} {K : Value → Mem → Prop} {Kp : List PanicEntry → Mem → Prop} {pa : PA} {p : Prg} {gg : List GA} {dr : Value} {b : Nat} {x : Wd}
theorem lens_ch {a : WA} {k : Int} {c : Chan} (hl : wLens gg a x) : wLens gg a (x.putCh k c) := by
  obtain ⟨l1, l2, l3, l4⟩ := hl
  exact ⟨l1, l2, by simpa [Wd.putCh] using l3, l4⟩
/-- A channel of an open world comes to the front. -/
theorem w_ch {a : WA} {k : Int} (h : Hp R L M) [q : ObjsAt chanR L a.cb x.chans L'] (hl : wLens gg a x) (hk : chOk x k) : ∃ cb, a.cb[k.toNat]? = some cb ∧ x.chans[k.toNat]? = some (chAt x.chans k) ∧ Hp R (objP chanR cb (chAt x.chans k) :: objsX chanR a.cb x.chans k.toNat :: L') M := by
  obtain ⟨l1, l2, l3, l4⟩ := hl
  obtain ⟨k0, k1⟩ := hk
  obtain ⟨cb, hcb⟩ := idx_ex (l := a.cb) (i := k.toNat) (by omega)
  obtain ⟨y, hy⟩ := idx_ex (l := x.chans) (i := k.toNat) (by omega)
  have e : chAt x.chans k = y := by simp [chAt, hy]
  rw [e]
  exact ⟨cb, hcb, hy, h.objs_out chanR hcb hy⟩
theorem trap_eq {n : Int} {M : Mem} (h : Kp [{ v := .iface 92 (.int .i64 n), recovered := false }] M) : Kp [{ v := .iface 92 (.int .i64 n), recovered := false }] M := h
theorem world_put {k v : Int} (h : Hp R L M) [o : WAt b L pa p gg dr x L'] (hp : RS casE R pa.k pa.kc p.cases) (hk : putOk p x k v) (hs : x.Sm)
    (k1 : ∀ y ok M', x.put p k v = .on (y, ok) → Hp R (objP (worldR pa p gg dr) b y :: L') M' → K (.bool ok) M')
    (k2 : ∀ y n M', x.put p k v = .trap n y → Hp R (objP (worldR pa p gg dr) b y :: L') M' → Kp [{ v := .iface 92 (.int .i64 n), recovered := false }] M') :
    ACalls Try.prog 43 #[.pointer (some ⟨b, 0, none⟩), .int .i64 k, .int .i64 v] M K Kp := by
  refine vc_world_World_put ?_
  obtain ⟨hc, hr, hsm⟩ := hk
  have hs' := hs
  obtain ⟨s1, s2, s3, s4, s5, s6, s7, s8⟩ := hs'
  have h' := world_open h (b := b)
  clear h
  obtain ⟨a, hl, h⟩ := h'
  have hl' := hl
  obtain ⟨l1, l2, l3, l4⟩ := hl'
  have hc' := hc
  obtain ⟨c0, c1⟩ := hc'
  have h' := w_ch h hl hc
  clear h
  obtain ⟨cb, hcb, hch, h⟩ := h'
  repeat (first | (refine s_nwc h ?_; clear h; intro kb M h) | (refine s_stc h ?_; clear h; intro M h) | refine t_exI h ?_ | refine t_exB h ?_ | refine t_exS h ?_ | refine t_exP h ?_ | refine t_exSl h ?_ | refine t_exV h ?_ | refine u_exI ?_ | refine u_exB ?_ | refine u_exS ?_ | refine u_exP ?_ | refine u_exSl ?_ | refine u_exV ?_ | refine u_nilc ?_ | (apply Exists.intro; (repeat apply Exists.intro); refine And.intro rfl ?_) | (refine And.intro ?_ ?_; first | exact trivial | exact rfl | exact t_ld h | (refine lds_s (t_ld h) ?_; (repeat (refine lds_s (t_ld h) ?_)); exact lds_nil) | omega) | refine u_bspT ?_ | refine u_bspF ?_)
  refine w_g h hcb fun q hq => ?_
  have hsc : (chAt x.chans k).Small 1000000 := s1 _ (chAt_mem c0 c1)
  refine chans_Send h (hsc.mono (by omega)) ?_
  clear h
  intro M h
  replace h := h.objs_in chanR cb hcb (by omega)
  unfold Wd.put at k1 k2
  dsimp only at k1 k2
  generalize (chAt x.chans k).send v = s at h k1 k2 hr hsm
  obtain ⟨c', w, ok, e⟩ := s
  dsimp only [sendV] at h k1 k2 hr hsm ⊢
  refine ⟨w.g, w.cs, w.v, ok, e, rfl, ?_⟩
  repeat (first | (refine s_nwc h ?_; clear h; intro kb M h) | (refine s_stc h ?_; clear h; intro M h) | refine t_exI h ?_ | refine t_exB h ?_ | refine t_exS h ?_ | refine t_exP h ?_ | refine t_exSl h ?_ | refine t_exV h ?_ | refine u_exI ?_ | refine u_exB ?_ | refine u_exS ?_ | refine u_exP ?_ | refine u_exSl ?_ | refine u_exV ?_ | refine u_nilc ?_ | (apply Exists.intro; (repeat apply Exists.intro); refine And.intro rfl ?_) | (refine And.intro ?_ ?_; first | exact trivial | exact rfl | exact t_ld h | (refine lds_s (t_ld h) ?_; (repeat (refine lds_s (t_ld h) ?_)); exact lds_nil) | omega) | refine u_bspT ?_ | refine u_bspF ?_)
  refine bsp_eq.2 ⟨fun e10 => ?_, fun e10 => ?_⟩
  · rw [if_pos e10] at k2
    replace h := world_close (a := a) (p := p) (pa := pa) (dr := dr) (gg := gg) (x := x.putCh k c') (lens_ch hl) h b
    exact k2 _ _ _ rfl h.fin1
  · rw [if_neg e10] at k1
    replace h := world_close (a := a) (p := p) (pa := pa) (dr := dr) (gg := gg) (x := x.putCh k c') (lens_ch hl) h b
    refine bsp_iff.2 ⟨fun ht => ?_, fun ht => ?_⟩
    · subst ht
      simp only [if_true] at k1
      repeat (first | (refine s_nwc h ?_; clear h; intro kb M h) | (refine s_stc h ?_; clear h; intro M h) | refine t_exI h ?_ | refine t_exB h ?_ | refine t_exS h ?_ | refine t_exP h ?_ | refine t_exSl h ?_ | refine t_exV h ?_ | refine u_exI ?_ | refine u_exB ?_ | refine u_exS ?_ | refine u_exP ?_ | refine u_exSl ?_ | refine u_exV ?_ | refine u_nilc ?_ | (apply Exists.intro; (repeat apply Exists.intro); refine And.intro rfl ?_) | (refine And.intro ?_ ?_; first | exact trivial | exact rfl | exact t_ld h | (refine lds_s (t_ld h) ?_; (repeat (refine lds_s (t_ld h) ?_)); exact lds_nil) | omega) | refine u_bspT ?_ | refine u_bspF ?_)
      refine world_received (b := b) (v := w) h hp (show rcvOk p (x.putCh k c') w from hr rfl) (Sm_putCh hs hsm) ?_
      clear h
      intro M h
      exact ⟨rfl, k1 _ _ _ rfl h.fin1⟩
    · subst ht
      simp only [Bool.false_eq_true, if_false] at k1
      exact k1 _ _ _ rfl h.fin1
theorem world_get {k : Int} (h : Hp R L M) [o : WAt b L pa p gg dr x L'] (hk : getOk x k) (hs : x.Sm)
    (k1 : ∀ M', Hp R (objP (worldR pa p gg dr) b (x.get k).1 :: L') M' → K (.tuple #[.int .i64 (x.get k).2.1, .int .i64 (x.get k).2.2.1, .bool (x.get k).2.2.2]) M') :
    ACalls Try.prog 44 #[.pointer (some ⟨b, 0, none⟩), .int .i64 k] M K Kp := by
  refine vc_world_World_get ?_
  obtain ⟨hc, hr, hsm⟩ := hk
  have hs' := hs
  obtain ⟨s1, s2, s3, s4, s5, s6, s7, s8⟩ := hs'
  have h' := world_open h (b := b)
  clear h
  obtain ⟨a, hl, h⟩ := h'
  have hl' := hl
  obtain ⟨l1, l2, l3, l4⟩ := hl'
  have hc' := hc
  obtain ⟨c0, c1⟩ := hc'
  have h' := w_ch h hl hc
  clear h
  obtain ⟨cb, hcb, hch, h⟩ := h'
  repeat (first | (refine s_nwc h ?_; clear h; intro kb M h) | (refine s_stc h ?_; clear h; intro M h) | refine t_exI h ?_ | refine t_exB h ?_ | refine t_exS h ?_ | refine t_exP h ?_ | refine t_exSl h ?_ | refine t_exV h ?_ | refine u_exI ?_ | refine u_exB ?_ | refine u_exS ?_ | refine u_exP ?_ | refine u_exSl ?_ | refine u_exV ?_ | refine u_nilc ?_ | (apply Exists.intro; (repeat apply Exists.intro); refine And.intro rfl ?_) | (refine And.intro ?_ ?_; first | exact trivial | exact rfl | exact t_ld h | (refine lds_s (t_ld h) ?_; (repeat (refine lds_s (t_ld h) ?_)); exact lds_nil) | omega) | refine u_bspT ?_ | refine u_bspF ?_)
  refine w_g h hcb fun q hq => ?_
  have hsc : (chAt x.chans k).Small 1000000 := s1 _ (chAt_mem c0 c1)
  refine chans_Recv h (hsc.mono (by omega)) ?_
  clear h
  intro M h
  replace h := h.objs_in chanR cb hcb (by omega)
  unfold Wd.get at k1
  dsimp only at k1
  generalize (chAt x.chans k).recv = s at h k1 hr hsm
  obtain ⟨c', v, some, w, woken, e⟩ := s
  dsimp only [recvV] at h k1 hr hsm ⊢
  refine ⟨v, some, w.g, w.cs, w.v, woken, e, rfl, ?_⟩
  repeat (first | (refine s_nwc h ?_; clear h; intro kb M h) | (refine s_stc h ?_; clear h; intro M h) | refine t_exI h ?_ | refine t_exB h ?_ | refine t_exS h ?_ | refine t_exP h ?_ | refine t_exSl h ?_ | refine t_exV h ?_ | refine u_exI ?_ | refine u_exB ?_ | refine u_exS ?_ | refine u_exP ?_ | refine u_exSl ?_ | refine u_exV ?_ | refine u_nilc ?_ | (apply Exists.intro; (repeat apply Exists.intro); refine And.intro rfl ?_) | (refine And.intro ?_ ?_; first | exact trivial | exact rfl | exact t_ld h | (refine lds_s (t_ld h) ?_; (repeat (refine lds_s (t_ld h) ?_)); exact lds_nil) | omega) | refine u_bspT ?_ | refine u_bspF ?_)
  replace h := world_close (a := a) (p := p) (pa := pa) (dr := dr) (gg := gg) (x := x.putCh k c') (lens_ch hl) h b
  refine bsp_iff.2 ⟨fun ht => ?_, fun ht => ?_⟩
  · subst ht
    simp only [if_true] at k1
    repeat (first | (refine s_nwc h ?_; clear h; intro kb M h) | (refine s_stc h ?_; clear h; intro M h) | refine t_exI h ?_ | refine t_exB h ?_ | refine t_exS h ?_ | refine t_exP h ?_ | refine t_exSl h ?_ | refine t_exV h ?_ | refine u_exI ?_ | refine u_exB ?_ | refine u_exS ?_ | refine u_exP ?_ | refine u_exSl ?_ | refine u_exV ?_ | refine u_nilc ?_ | (apply Exists.intro; (repeat apply Exists.intro); refine And.intro rfl ?_) | (refine And.intro ?_ ?_; first | exact trivial | exact rfl | exact t_ld h | (refine lds_s (t_ld h) ?_; (repeat (refine lds_s (t_ld h) ?_)); exact lds_nil) | omega) | refine u_bspT ?_ | refine u_bspF ?_)
    refine world_sent (b := b) (v := w) h (show sndOk (x.putCh k c') w from hr rfl) (Sm_putCh hs hsm) ?_
    clear h
    intro M h
    repeat (first | (refine s_nwc h ?_; clear h; intro kb M h) | (refine s_stc h ?_; clear h; intro M h) | refine t_exI h ?_ | refine t_exB h ?_ | refine t_exS h ?_ | refine t_exP h ?_ | refine t_exSl h ?_ | refine t_exV h ?_ | refine u_exI ?_ | refine u_exB ?_ | refine u_exS ?_ | refine u_exP ?_ | refine u_exSl ?_ | refine u_exV ?_ | refine u_nilc ?_ | (apply Exists.intro; (repeat apply Exists.intro); refine And.intro rfl ?_) | (refine And.intro ?_ ?_; first | exact trivial | exact rfl | exact t_ld h | (refine lds_s (t_ld h) ?_; (repeat (refine lds_s (t_ld h) ?_)); exact lds_nil) | omega) | refine u_bspT ?_ | refine u_bspF ?_)
    refine bsp_iff.2 ⟨fun hb => ?_, fun hb => ?_⟩
    · subst hb
      repeat (first | (refine s_nwc h ?_; clear h; intro kb M h) | (refine s_stc h ?_; clear h; intro M h) | refine t_exI h ?_ | refine t_exB h ?_ | refine t_exS h ?_ | refine t_exP h ?_ | refine t_exSl h ?_ | refine t_exV h ?_ | refine u_exI ?_ | refine u_exB ?_ | refine u_exS ?_ | refine u_exP ?_ | refine u_exSl ?_ | refine u_exV ?_ | refine u_nilc ?_ | (apply Exists.intro; (repeat apply Exists.intro); refine And.intro rfl ?_) | (refine And.intro ?_ ?_; first | exact trivial | exact rfl | exact t_ld h | (refine lds_s (t_ld h) ?_; (repeat (refine lds_s (t_ld h) ?_)); exact lds_nil) | omega) | refine u_bspT ?_ | refine u_bspF ?_)
      exact k1 _ h.fin1
    · subst hb
      exact k1 _ h.fin1
  · subst ht
    simp only [Bool.false_eq_true, if_false] at k1
    repeat (first | (refine s_nwc h ?_; clear h; intro kb M h) | (refine s_stc h ?_; clear h; intro M h) | refine t_exI h ?_ | refine t_exB h ?_ | refine t_exS h ?_ | refine t_exP h ?_ | refine t_exSl h ?_ | refine t_exV h ?_ | refine u_exI ?_ | refine u_exB ?_ | refine u_exS ?_ | refine u_exP ?_ | refine u_exSl ?_ | refine u_exV ?_ | refine u_nilc ?_ | (apply Exists.intro; (repeat apply Exists.intro); refine And.intro rfl ?_) | (refine And.intro ?_ ?_; first | exact trivial | exact rfl | exact t_ld h | (refine lds_s (t_ld h) ?_; (repeat (refine lds_s (t_ld h) ?_)); exact lds_nil) | omega) | refine u_bspT ?_ | refine u_bspF ?_)
    refine bsp_iff.2 ⟨fun hb => ?_, fun hb => ?_⟩
    · subst hb
      repeat (first | (refine s_nwc h ?_; clear h; intro kb M h) | (refine s_stc h ?_; clear h; intro M h) | refine t_exI h ?_ | refine t_exB h ?_ | refine t_exS h ?_ | refine t_exP h ?_ | refine t_exSl h ?_ | refine t_exV h ?_ | refine u_exI ?_ | refine u_exB ?_ | refine u_exS ?_ | refine u_exP ?_ | refine u_exSl ?_ | refine u_exV ?_ | refine u_nilc ?_ | (apply Exists.intro; (repeat apply Exists.intro); refine And.intro rfl ?_) | (refine And.intro ?_ ?_; first | exact trivial | exact rfl | exact t_ld h | (refine lds_s (t_ld h) ?_; (repeat (refine lds_s (t_ld h) ?_)); exact lds_nil) | omega) | refine u_bspT ?_ | refine u_bspF ?_)
      exact k1 _ h.fin1
    · subst hb
      exact k1 _ h.fin1
end
end Go.Proofs
