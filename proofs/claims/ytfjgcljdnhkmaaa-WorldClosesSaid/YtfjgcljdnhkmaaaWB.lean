/- A part of proofs about functions of one program: a condition over a partial memory that is enough for a call, and what calls answer by it. No condition of its own. -/
import Derived.Test.YtfjgcljdnhkmaaaWA
/- The world's steps between goroutines and channels. -/
namespace Go.Proofs
open Go.AF
set_option linter.unusedVariables false
set_option maxRecDepth 100000
set_option maxHeartbeats 1000000
attribute [local irreducible] exI exB exS exP exSl exV nilc stc nwc semK semU bsp
theorem gorAt_putReg {x : Wd} {g q v : Int} (h : gorOk x g) : gorAt (x.putReg g q v) g = (gorAt x g).putTop ((gorAt x g).top.set q v) := gorAt_put h.1 h.2.1
theorem gorOk_putReg {x : Wd} {g q v : Int} (h : gorOk x g) : gorOk (x.putReg g q v) g := by
  obtain ⟨h0, h1, h2, h3⟩ := h
  refine ⟨h0, by simpa [Wd.putReg, Wd.putG] using h1, ?_, ?_⟩ <;> rw [gorAt_putReg ⟨h0, h1, h2, h3⟩] <;> simpa [Gor.putTop]
theorem wt_putReg {x : Wd} {g q v : Int} (h : gorOk x g) : (gorAt (x.putReg g q v) g).wt = (gorAt x g).wt := by rw [gorAt_putReg h]; rfl
theorem gorOk_chosen {x : Wd} {g k : Int} (h : gorOk x g) : gorOk (x.chosen g k) g := gorOk_putReg h
theorem Sm_putG {x : Wd} {g : Int} {y : Gor} (h : x.Sm) : (x.putG g y).Sm := by
  obtain ⟨s1, s2, s3, s4⟩ := h
  exact ⟨s1, s2, by simpa [Wd.putG] using s3, s4⟩
theorem Sm_leave {x : Wd} {g : Int} (h : x.Sm) : (x.leave g).Sm := by
  obtain ⟨s1, s2, s3⟩ := h
  refine ⟨fun c hc => ?_, by simpa [Wd.leave] using s2, s3⟩
  obtain ⟨d, hd, rfl⟩ := List.mem_map.1 hc
  exact (s1 d hd).drop g
theorem Sm_chosen {x : Wd} {g k : Int} (h : x.Sm) : (x.chosen g k).Sm := Sm_leave (Sm_putG h)
theorem wrap_id {z : Int} (h0 : 0 ≤ z) (h : z < 9223372036854775808) : IntKind.wrap .i64 z = z := by
  obtain ⟨n, rfl⟩ := Int.eq_ofNat_of_zero_le h0
  exact wrap_nat (by omega)
section
variable {R : Mem} {L L' : List HP} {M : Mem} {K : Value → Mem → Prop} {Kp : List PanicEntry → Mem → Prop} {pa : PA} {p : Prg} {gg : List GA} {dr : Value} {b : Nat} {x : Wd}
theorem cas_at {A : Option Addr} {c : Nat} {l : List Cas} {q : Int} {G : Nat → Nat → Int → Prop} (h : Hp R L M) (hp : RS casE R A c l) (h0 : 0 ≤ q) (hq : q < l.length) (k : ∀ b o, G b o (l.getD q.toNat ⟨0, 0, 0⟩).reg) :
    nilc A fun b o => exI (M.ld ⟨b, ((o + q.toNat * 3) + 2), none⟩) .i64 fun n => G b o n := by
  obtain ⟨bb, o, rfl⟩ := hp.some (by omega) (by decide)
  obtain ⟨y, hy⟩ := idx_ex (l := l) (i := q.toNat) (by omega)
  have e : l.getD q.toNat ⟨0, 0, 0⟩ = y := by simp [hy]
  refine u_nilc ?_
  refine v_exI (Src.at (hp.src (L := L)) h (i := q.toNat) (j := 2) hy rfl (by show _ = o + (q.toNat * 3 + 2); omega)) ?_
  have := k bb o
  rwa [e] at this
theorem world_received {v : Wt} {some : Int} (h : Hp R L M) [o : WAt b L pa p gg dr x L'] (hp : RS casE R pa.k pa.kc p.cases) (hv : rcvOk p x v) (hs : x.Sm)
    (k : ∀ M', Hp R (objP (worldR pa p gg dr) b (x.received p v some) :: L') M' → K (.tuple #[]) M') : ACalls Try.prog 73 #[.pointer (Option.some ⟨b, 0, none⟩), .agg #[.int .i64 v.g, .int .i64 v.cs, .int .i64 v.v], .int .i64 some] M K Kp := by
  refine vc_world_World_received ?_
  obtain ⟨hg, hv⟩ := hv
  have hg' := hg
  obtain ⟨h0, h1, h2, h3⟩ := hg'
  have hs' := hs
  obtain ⟨s1, s2, s3, s4, s5, s6, s7, s8⟩ := hs'
  have h' := world_at h (b := b) h0 h1
  clear h
  obtain ⟨a, gb, A, c, hl, hgb, hgg, h⟩ := h'
  have hl' := hl
  obtain ⟨l1, l2, l3, l4⟩ := hl'
  repeat (first | (refine s_nwc h ?_; clear h; intro kb M h) | (refine s_stc h ?_; clear h; intro M h) | refine t_exI h ?_ | refine t_exB h ?_ | refine t_exS h ?_ | refine t_exP h ?_ | refine t_exSl h ?_ | refine t_exV h ?_ | refine u_exI ?_ | refine u_exB ?_ | refine u_exS ?_ | refine u_exP ?_ | refine u_exSl ?_ | refine u_exV ?_ | refine u_nilc ?_ | (apply Exists.intro; (repeat apply Exists.intro); refine And.intro rfl ?_) | (refine And.intro ?_ ?_; first | exact trivial | exact rfl | exact t_ld h | (refine lds_s (t_ld h) ?_; (repeat (refine lds_s (t_ld h) ?_)); exact lds_nil) | omega) | refine u_bspT ?_ | refine u_bspF ?_)
  refine w_g h hgb fun q hq => ?_
  repeat (first | (refine s_nwc h ?_; clear h; intro kb M h) | (refine s_stc h ?_; clear h; intro M h) | refine t_exI h ?_ | refine t_exB h ?_ | refine t_exS h ?_ | refine t_exP h ?_ | refine t_exSl h ?_ | refine t_exV h ?_ | refine u_exI ?_ | refine u_exB ?_ | refine u_exS ?_ | refine u_exP ?_ | refine u_exSl ?_ | refine u_exV ?_ | refine u_nilc ?_ | (apply Exists.intro; (repeat apply Exists.intro); refine And.intro rfl ?_) | (refine And.intro ?_ ?_; first | exact trivial | exact rfl | exact t_ld h | (refine lds_s (t_ld h) ?_; (repeat (refine lds_s (t_ld h) ?_)); exact lds_nil) | omega) | refine u_bspT ?_ | refine u_bspF ?_)
  refine w_g h hgb fun q2 hq2 => ?_
  repeat (first | (refine s_nwc h ?_; clear h; intro kb M h) | (refine s_stc h ?_; clear h; intro M h) | refine t_exI h ?_ | refine t_exB h ?_ | refine t_exS h ?_ | refine t_exP h ?_ | refine t_exSl h ?_ | refine t_exV h ?_ | refine u_exI ?_ | refine u_exB ?_ | refine u_exS ?_ | refine u_exP ?_ | refine u_exSl ?_ | refine u_exV ?_ | refine u_nilc ?_ | (apply Exists.intro; (repeat apply Exists.intro); refine And.intro rfl ?_) | (refine And.intro ?_ ?_; first | exact trivial | exact rfl | exact t_ld h | (refine lds_s (t_ld h) ?_; (repeat (refine lds_s (t_ld h) ?_)); exact lds_nil) | omega) | refine u_bspT ?_ | refine u_bspF ?_)
  obtain ⟨bs, rfl⟩ := h.row_some (A := A) h2 (by decide)
  refine frame_Top h2 (by omega) ?_
  repeat (first | (refine s_nwc h ?_; clear h; intro kb M h) | (refine s_stc h ?_; clear h; intro M h) | refine t_exI h ?_ | refine t_exB h ?_ | refine t_exS h ?_ | refine t_exP h ?_ | refine t_exSl h ?_ | refine t_exV h ?_ | refine u_exI ?_ | refine u_exB ?_ | refine u_exS ?_ | refine u_exP ?_ | refine u_exSl ?_ | refine u_exV ?_ | refine u_nilc ?_ | (apply Exists.intro; (repeat apply Exists.intro); refine And.intro rfl ?_) | (refine And.intro ?_ ?_; first | exact trivial | exact rfl | exact t_ld h | (refine lds_s (t_ld h) ?_; (repeat (refine lds_s (t_ld h) ?_)); exact lds_nil) | omega) | refine u_bspT ?_ | refine u_bspF ?_)
  refine ⟨w_ld h hq2 hgb, ?_⟩
  repeat (first | (refine s_nwc h ?_; clear h; intro kb M h) | (refine s_stc h ?_; clear h; intro M h) | refine t_exI h ?_ | refine t_exB h ?_ | refine t_exS h ?_ | refine t_exP h ?_ | refine t_exSl h ?_ | refine t_exV h ?_ | refine u_exI ?_ | refine u_exB ?_ | refine u_exS ?_ | refine u_exP ?_ | refine u_exSl ?_ | refine u_exV ?_ | refine u_nilc ?_ | (apply Exists.intro; (repeat apply Exists.intro); refine And.intro rfl ?_) | (refine And.intro ?_ ?_; first | exact trivial | exact rfl | exact t_ld h | (refine lds_s (t_ld h) ?_; (repeat (refine lds_s (t_ld h) ?_)); exact lds_nil) | omega) | refine u_bspT ?_ | refine u_bspF ?_)
  refine ⟨w_ld h hq2 hgb, ?_⟩
  repeat (first | (refine s_nwc h ?_; clear h; intro kb M h) | (refine s_stc h ?_; clear h; intro M h) | refine t_exI h ?_ | refine t_exB h ?_ | refine t_exS h ?_ | refine t_exP h ?_ | refine t_exSl h ?_ | refine t_exV h ?_ | refine u_exI ?_ | refine u_exB ?_ | refine u_exS ?_ | refine u_exP ?_ | refine u_exSl ?_ | refine u_exV ?_ | refine u_nilc ?_ | (apply Exists.intro; (repeat apply Exists.intro); refine And.intro rfl ?_) | (refine And.intro ?_ ?_; first | exact trivial | exact rfl | exact t_ld h | (refine lds_s (t_ld h) ?_; (repeat (refine lds_s (t_ld h) ?_)); exact lds_nil) | omega) | refine u_bspT ?_ | refine u_bspF ?_)
  unfold Wd.received at k
  refine bsp_eq.2 ⟨fun e16 => ?_, fun e16 => ?_⟩
  · simp only [e16, if_true] at k hv
    obtain ⟨v1, v2, v3, v4, v5⟩ := hv
    repeat (first | (refine s_nwc h ?_; clear h; intro kb M h) | (refine s_stc h ?_; clear h; intro M h) | refine t_exI h ?_ | refine t_exB h ?_ | refine t_exS h ?_ | refine t_exP h ?_ | refine t_exSl h ?_ | refine t_exV h ?_ | refine u_exI ?_ | refine u_exB ?_ | refine u_exS ?_ | refine u_exP ?_ | refine u_exSl ?_ | refine u_exV ?_ | refine u_nilc ?_ | (apply Exists.intro; (repeat apply Exists.intro); refine And.intro rfl ?_) | (refine And.intro ?_ ?_; first | exact trivial | exact rfl | exact t_ld h | (refine lds_s (t_ld h) ?_; (repeat (refine lds_s (t_ld h) ?_)); exact lds_nil) | omega) | refine u_bspT ?_ | refine u_bspF ?_)
    rw [wrap_id v1 (by omega)]
    refine ⟨v1, by omega, cas_at (q := (gorAt x v.g).wt.a + v.cs) h hp v1 v2 fun _ _ => ?_⟩
    repeat (first | (refine s_nwc h ?_; clear h; intro kb M h) | (refine s_stc h ?_; clear h; intro M h) | refine t_exI h ?_ | refine t_exB h ?_ | refine t_exS h ?_ | refine t_exP h ?_ | refine t_exSl h ?_ | refine t_exV h ?_ | refine u_exI ?_ | refine u_exB ?_ | refine u_exS ?_ | refine u_exP ?_ | refine u_exSl ?_ | refine u_exV ?_ | refine u_nilc ?_ | (apply Exists.intro; (repeat apply Exists.intro); refine And.intro rfl ?_) | (refine And.intro ?_ ?_; first | exact trivial | exact rfl | exact t_ld h | (refine lds_s (t_ld h) ?_; (repeat (refine lds_s (t_ld h) ?_)); exact lds_nil) | omega) | refine u_bspT ?_ | refine u_bspF ?_)
    refine ⟨v4.1, v4.2, f_st h (gor_top h2) v4 rfl ?_⟩
    clear h
    intro M h
    repeat (first | (refine s_nwc h ?_; clear h; intro kb M h) | (refine s_stc h ?_; clear h; intro M h) | refine t_exI h ?_ | refine t_exB h ?_ | refine t_exS h ?_ | refine t_exP h ?_ | refine t_exSl h ?_ | refine t_exV h ?_ | refine u_exI ?_ | refine u_exB ?_ | refine u_exS ?_ | refine u_exP ?_ | refine u_exSl ?_ | refine u_exV ?_ | refine u_nilc ?_ | (apply Exists.intro; (repeat apply Exists.intro); refine And.intro rfl ?_) | (refine And.intro ?_ ?_; first | exact trivial | exact rfl | exact t_ld h | (refine lds_s (t_ld h) ?_; (repeat (refine lds_s (t_ld h) ?_)); exact lds_nil) | omega) | refine u_bspT ?_ | refine u_bspF ?_)
    replace h := world_in h gb hl hgb hgg
    replace h := world_close (a := a) (p := p) (pa := pa) (dr := dr) (gg := gg) (x := x.putReg v.g (casAt p ((gorAt x v.g).wt.a + v.cs)).reg v.v) (lens_put hl) h b
    have v5' := v5
    rw [← wt_putReg (q := (casAt p ((gorAt x v.g).wt.a + v.cs)).reg) (v := v.v) hg] at v5'
    refine world_chosen (b := b) h (gorOk_putReg hg) v5' (Sm_putG hs) ?_
    clear h
    intro M h
    repeat (first | (refine s_nwc h ?_; clear h; intro kb M h) | (refine s_stc h ?_; clear h; intro M h) | refine t_exI h ?_ | refine t_exB h ?_ | refine t_exS h ?_ | refine t_exP h ?_ | refine t_exSl h ?_ | refine t_exV h ?_ | refine u_exI ?_ | refine u_exB ?_ | refine u_exS ?_ | refine u_exP ?_ | refine u_exSl ?_ | refine u_exV ?_ | refine u_nilc ?_ | (apply Exists.intro; (repeat apply Exists.intro); refine And.intro rfl ?_) | (refine And.intro ?_ ?_; first | exact trivial | exact rfl | exact t_ld h | (refine lds_s (t_ld h) ?_; (repeat (refine lds_s (t_ld h) ?_)); exact lds_nil) | omega) | refine u_bspT ?_ | refine u_bspF ?_)
    have hg2 := gorOk_chosen (k := v.cs) (gorOk_putReg (q := (casAt p ((gorAt x v.g).wt.a + v.cs)).reg) (v := v.v) hg)
    refine world_wake (b := b) h hg2.1 hg2.2.1 (by show x.ready.length ≤ _; omega) ?_
    clear h
    intro M h
    exact ⟨rfl, k _ h.fin1⟩
  · simp only [e16, if_false] at k hv
    obtain ⟨v1, v2⟩ := hv
    repeat (first | (refine s_nwc h ?_; clear h; intro kb M h) | (refine s_stc h ?_; clear h; intro M h) | refine t_exI h ?_ | refine t_exB h ?_ | refine t_exS h ?_ | refine t_exP h ?_ | refine t_exSl h ?_ | refine t_exV h ?_ | refine u_exI ?_ | refine u_exB ?_ | refine u_exS ?_ | refine u_exP ?_ | refine u_exSl ?_ | refine u_exV ?_ | refine u_nilc ?_ | (apply Exists.intro; (repeat apply Exists.intro); refine And.intro rfl ?_) | (refine And.intro ?_ ?_; first | exact trivial | exact rfl | exact t_ld h | (refine lds_s (t_ld h) ?_; (repeat (refine lds_s (t_ld h) ?_)); exact lds_nil) | omega) | refine u_bspT ?_ | refine u_bspF ?_)
    refine ⟨v1.1, v1.2, ?_⟩
    repeat (first | (refine s_nwc h ?_; clear h; intro kb M h) | (refine s_stc h ?_; clear h; intro M h) | refine t_exI h ?_ | refine t_exB h ?_ | refine t_exS h ?_ | refine t_exP h ?_ | refine t_exSl h ?_ | refine t_exV h ?_ | refine u_exI ?_ | refine u_exB ?_ | refine u_exS ?_ | refine u_exP ?_ | refine u_exSl ?_ | refine u_exV ?_ | refine u_nilc ?_ | (apply Exists.intro; (repeat apply Exists.intro); refine And.intro rfl ?_) | (refine And.intro ?_ ?_; first | exact trivial | exact rfl | exact t_ld h | (refine lds_s (t_ld h) ?_; (repeat (refine lds_s (t_ld h) ?_)); exact lds_nil) | omega) | refine u_bspT ?_ | refine u_bspF ?_)
    refine f_st h (gor_top h2) v1 rfl ?_
    clear h
    intro M h
    repeat (first | (refine s_nwc h ?_; clear h; intro kb M h) | (refine s_stc h ?_; clear h; intro M h) | refine t_exI h ?_ | refine t_exB h ?_ | refine t_exS h ?_ | refine t_exP h ?_ | refine t_exSl h ?_ | refine t_exV h ?_ | refine u_exI ?_ | refine u_exB ?_ | refine u_exS ?_ | refine u_exP ?_ | refine u_exSl ?_ | refine u_exV ?_ | refine u_nilc ?_ | (apply Exists.intro; (repeat apply Exists.intro); refine And.intro rfl ?_) | (refine And.intro ?_ ?_; first | exact trivial | exact rfl | exact t_ld h | (refine lds_s (t_ld h) ?_; (repeat (refine lds_s (t_ld h) ?_)); exact lds_nil) | omega) | refine u_bspT ?_ | refine u_bspF ?_)
    have hi2 : ((gorAt x v.g).fs.set ((gorAt x v.g).fs.length - 1) ((gorAt x v.g).top.set (gorAt x v.g).wt.b v.v))[(gorAt x v.g).fs.length - 1]? = Option.some ((gorAt x v.g).top.set (gorAt x v.g).wt.b v.v) := by
      rw [List.getElem?_set_self]; omega
    refine ⟨v2.1, v2.2, f_st h hi2 v2 rfl ?_⟩
    clear h
    intro M h
    rw [set_set'] at h
    repeat (first | (refine s_nwc h ?_; clear h; intro kb M h) | (refine s_stc h ?_; clear h; intro M h) | refine t_exI h ?_ | refine t_exB h ?_ | refine t_exS h ?_ | refine t_exP h ?_ | refine t_exSl h ?_ | refine t_exV h ?_ | refine u_exI ?_ | refine u_exB ?_ | refine u_exS ?_ | refine u_exP ?_ | refine u_exSl ?_ | refine u_exV ?_ | refine u_nilc ?_ | (apply Exists.intro; (repeat apply Exists.intro); refine And.intro rfl ?_) | (refine And.intro ?_ ?_; first | exact trivial | exact rfl | exact t_ld h | (refine lds_s (t_ld h) ?_; (repeat (refine lds_s (t_ld h) ?_)); exact lds_nil) | omega) | refine u_bspT ?_ | refine u_bspF ?_)
    replace h := world_in h gb hl hgb hgg (by simp)
    have ex : (x.putReg v.g (gorAt x v.g).wt.b v.v).putReg v.g (gorAt x v.g).wt.c some = x.putG v.g ((gorAt x v.g).putTop (((gorAt x v.g).top.set (gorAt x v.g).wt.b v.v).set (gorAt x v.g).wt.c some)) := by
      have e1 := gorAt_putReg (q := (gorAt x v.g).wt.b) (v := v.v) hg
      have e2 : ∀ (z : Wd) (q u : Int), z.putReg v.g q u = z.putG v.g ((gorAt z v.g).putTop ((gorAt z v.g).top.set q u)) := fun _ _ _ => rfl
      rw [e2 (x.putReg v.g (gorAt x v.g).wt.b v.v), e1]
      have e3 : ((gorAt x v.g).putTop ((gorAt x v.g).top.set (gorAt x v.g).wt.b v.v)).top = (gorAt x v.g).top.set (gorAt x v.g).wt.b v.v := by
        unfold Gor.top Gor.putTop
        dsimp only
        rw [List.length_set, List.getD_eq_getElem?_getD, List.getElem?_set_self (by omega)]; rfl
      rw [e3]
      simp [Wd.putReg, Wd.putG, Gor.putTop]
    rw [ex] at k
    replace h := world_close (a := a) (p := p) (pa := pa) (dr := dr) (gg := gg) (x := x.putG v.g ((gorAt x v.g).putTop (((gorAt x v.g).top.set (gorAt x v.g).wt.b v.v).set (gorAt x v.g).wt.c some))) (lens_put hl) h b
    refine world_wake (b := b) h h0 (by simpa [Wd.putG] using h1) (by show x.ready.length ≤ _; omega) ?_
    clear h
    intro M h
    exact ⟨rfl, k _ h.fin1⟩
theorem world_sent {v : Wt} (h : Hp R L M) [o : WAt b L pa p gg dr x L'] (hv : sndOk x v) (hs : x.Sm)
    (k : ∀ M', Hp R (objP (worldR pa p gg dr) b (x.sent v) :: L') M' → K (.tuple #[]) M') : ACalls Try.prog 75 #[.pointer (some ⟨b, 0, none⟩), .agg #[.int .i64 v.g, .int .i64 v.cs, .int .i64 v.v]] M K Kp := by
  refine vc_world_World_sent ?_
  obtain ⟨hg, hv⟩ := hv
  have hg' := hg
  obtain ⟨h0, h1, h2, h3⟩ := hg'
  have hs' := hs
  obtain ⟨s1, s2, s3, s4, s5, s6, s7, s8⟩ := hs'
  have h' := world_at h (b := b) h0 h1
  clear h
  obtain ⟨a, gb, A, c, hl, hgb, hgg, h⟩ := h'
  have hl' := hl
  obtain ⟨l1, l2, l3, l4⟩ := hl'
  repeat (first | (refine s_nwc h ?_; clear h; intro kb M h) | (refine s_stc h ?_; clear h; intro M h) | refine t_exI h ?_ | refine t_exB h ?_ | refine t_exS h ?_ | refine t_exP h ?_ | refine t_exSl h ?_ | refine t_exV h ?_ | refine u_exI ?_ | refine u_exB ?_ | refine u_exS ?_ | refine u_exP ?_ | refine u_exSl ?_ | refine u_exV ?_ | refine u_nilc ?_ | (apply Exists.intro; (repeat apply Exists.intro); refine And.intro rfl ?_) | (refine And.intro ?_ ?_; first | exact trivial | exact rfl | exact t_ld h | (refine lds_s (t_ld h) ?_; (repeat (refine lds_s (t_ld h) ?_)); exact lds_nil) | omega) | refine u_bspT ?_ | refine u_bspF ?_)
  refine w_g h hgb fun q hq => ?_
  repeat (first | (refine s_nwc h ?_; clear h; intro kb M h) | (refine s_stc h ?_; clear h; intro M h) | refine t_exI h ?_ | refine t_exB h ?_ | refine t_exS h ?_ | refine t_exP h ?_ | refine t_exSl h ?_ | refine t_exV h ?_ | refine u_exI ?_ | refine u_exB ?_ | refine u_exS ?_ | refine u_exP ?_ | refine u_exSl ?_ | refine u_exV ?_ | refine u_nilc ?_ | (apply Exists.intro; (repeat apply Exists.intro); refine And.intro rfl ?_) | (refine And.intro ?_ ?_; first | exact trivial | exact rfl | exact t_ld h | (refine lds_s (t_ld h) ?_; (repeat (refine lds_s (t_ld h) ?_)); exact lds_nil) | omega) | refine u_bspT ?_ | refine u_bspF ?_)
  unfold Wd.sent at k
  have ex : x.putG v.g (gorAt x v.g) = x := by
    obtain ⟨y, hy⟩ := idx_ex (l := x.gs) (i := v.g.toNat) (by omega)
    have e : gorAt x v.g = y := by simp [gorAt, hy]
    rw [e]
    obtain ⟨hi, rfl⟩ := List.getElem?_eq_some_iff.1 hy
    simp [Wd.putG]
  refine bsp_eq.2 ⟨fun e16 => ?_, fun e16 => ?_⟩
  · simp only [e16, if_true] at k hv
    repeat (first | (refine s_nwc h ?_; clear h; intro kb M h) | (refine s_stc h ?_; clear h; intro M h) | refine t_exI h ?_ | refine t_exB h ?_ | refine t_exS h ?_ | refine t_exP h ?_ | refine t_exSl h ?_ | refine t_exV h ?_ | refine u_exI ?_ | refine u_exB ?_ | refine u_exS ?_ | refine u_exP ?_ | refine u_exSl ?_ | refine u_exV ?_ | refine u_nilc ?_ | (apply Exists.intro; (repeat apply Exists.intro); refine And.intro rfl ?_) | (refine And.intro ?_ ?_; first | exact trivial | exact rfl | exact t_ld h | (refine lds_s (t_ld h) ?_; (repeat (refine lds_s (t_ld h) ?_)); exact lds_nil) | omega) | refine u_bspT ?_ | refine u_bspF ?_)
    replace h := world_in h gb hl hgb hgg
    replace h := world_close (a := a) (p := p) (pa := pa) (dr := dr) (gg := gg) (x := x.putG v.g (gorAt x v.g)) (lens_put hl) h b
    rw [ex] at h
    refine world_chosen (b := b) (x := x) h hg (hv trivial) hs ?_
    clear h
    intro M h
    repeat (first | (refine s_nwc h ?_; clear h; intro kb M h) | (refine s_stc h ?_; clear h; intro M h) | refine t_exI h ?_ | refine t_exB h ?_ | refine t_exS h ?_ | refine t_exP h ?_ | refine t_exSl h ?_ | refine t_exV h ?_ | refine u_exI ?_ | refine u_exB ?_ | refine u_exS ?_ | refine u_exP ?_ | refine u_exSl ?_ | refine u_exV ?_ | refine u_nilc ?_ | (apply Exists.intro; (repeat apply Exists.intro); refine And.intro rfl ?_) | (refine And.intro ?_ ?_; first | exact trivial | exact rfl | exact t_ld h | (refine lds_s (t_ld h) ?_; (repeat (refine lds_s (t_ld h) ?_)); exact lds_nil) | omega) | refine u_bspT ?_ | refine u_bspF ?_)
    have hg2 := gorOk_chosen (k := v.cs) hg
    refine world_wake (b := b) h hg2.1 hg2.2.1 (by show x.ready.length ≤ _; omega) ?_
    clear h
    intro M h
    exact ⟨rfl, k _ h.fin1⟩
  · simp only [e16, if_false] at k
    repeat (first | (refine s_nwc h ?_; clear h; intro kb M h) | (refine s_stc h ?_; clear h; intro M h) | refine t_exI h ?_ | refine t_exB h ?_ | refine t_exS h ?_ | refine t_exP h ?_ | refine t_exSl h ?_ | refine t_exV h ?_ | refine u_exI ?_ | refine u_exB ?_ | refine u_exS ?_ | refine u_exP ?_ | refine u_exSl ?_ | refine u_exV ?_ | refine u_nilc ?_ | (apply Exists.intro; (repeat apply Exists.intro); refine And.intro rfl ?_) | (refine And.intro ?_ ?_; first | exact trivial | exact rfl | exact t_ld h | (refine lds_s (t_ld h) ?_; (repeat (refine lds_s (t_ld h) ?_)); exact lds_nil) | omega) | refine u_bspT ?_ | refine u_bspF ?_)
    replace h := world_in h gb hl hgb hgg
    replace h := world_close (a := a) (p := p) (pa := pa) (dr := dr) (gg := gg) (x := x.putG v.g (gorAt x v.g)) (lens_put hl) h b
    rw [ex] at h
    refine world_wake (b := b) (x := x) h h0 h1 (by omega) ?_
    clear h
    intro M h
    exact ⟨rfl, k _ h.fin1⟩
end
end Go.Proofs
