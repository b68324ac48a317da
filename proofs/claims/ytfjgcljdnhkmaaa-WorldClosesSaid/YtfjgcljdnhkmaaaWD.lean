/- A part of proofs about functions of one program: a condition over a partial memory that is enough for a call, and what calls answer by it. No condition of its own. -/
import Derived.Test.YtfjgcljdnhkmaaaWMod2
/- The world's instructions. -/
namespace Go.Proofs
open Go.AF
set_option linter.unusedVariables false
set_option maxRecDepth 100000
set_option maxHeartbeats 1000000
attribute [local irreducible] exI exB exS exP exSl exV nilc stc nwc semK semU bsp
section
variable {R : Mem} {L L' : List HP} {M : Mem} {K : Value → Mem → Prop} {Kp : List PanicEntry → Mem → Prop} {pa : PA} {p : Prg} {gg : List GA} {dr : Value} {b : Nat} {x : Wd}
theorem world_at2 {g : Int} {A : Option Addr} {c : Nat} (h : Hp R L M) [o : WAt b L pa p gg dr x L'] (h0 : 0 ≤ g) (hg : g < x.gs.length) (hgg : gg[g.toNat]? = some (A, c)) :
    ∃ (a : WA) (gb : Nat), wLens gg a x ∧ a.gb[g.toNat]? = some gb ∧
      Hp R (pt gb (gorCells (gorAt x g) A c) 68 :: rowF A c (gorAt x g).fs :: pt b (wCells pa p dr a x) 76 :: objsX gorR a.gb (x.gs.zip gg) g.toNat :: wRest a x L') M := by
  obtain ⟨a, gb, A', c', hl, hgb, hgg', h1⟩ := world_at h (b := b) h0 hg
  rw [hgg] at hgg'
  cases hgg'
  exact ⟨a, gb, hl, hgb, h1⟩
/-- A register of a goroutine's last frame. -/
theorem w_reg {g q : Int} {bs c oo : Nat} {G : Int → Prop} (h : Hp R L M) [o : WAt b L pa p gg dr x L'] (hg : gorOk x g) (hgg : gg[g.toNat]? = some (some ⟨bs, 0, none⟩, c)) (hq : isReg q) (e : oo = ((gorAt x g).fs.length - 1) * 11 + 2 + q.toNat)
    (k : G (topReg x g q)) : exI (M.ld ⟨bs, oo, none⟩) .i64 G := by
  obtain ⟨h0, h1, h2, h3⟩ := hg
  obtain ⟨a, gb, hl, hgb, h4⟩ := world_at2 h (b := b) h0 h1 hgg
  exact f_ld h4 (gor_top h2) hq e k
theorem w_stReg {g q v : Int} {bs c oo : Nat} {G : Mem → Prop} (h : Hp R L M) [o : WAt b L pa p gg dr x L'] (hg : gorOk x g) (hgg : gg[g.toNat]? = some (some ⟨bs, 0, none⟩, c)) (hq : isReg q) (e : oo = ((gorAt x g).fs.length - 1) * 11 + 2 + q.toNat)
    (k : ∀ M', Hp R (objP (worldR pa p gg dr) b (x.putReg g q v) :: L') M' → G M') : stc M ⟨bs, oo, none⟩ (.int .i64 v) G := by
  obtain ⟨h0, h1, h2, h3⟩ := hg
  obtain ⟨a, gb, hl, hgb, h4⟩ := world_at2 h (b := b) h0 h1 hgg
  refine f_st h4 (gor_top h2) hq e fun M' h5 => ?_
  replace h5 := world_in h5 gb hl hgb hgg (by simp)
  exact k M' (world_close (a := a) (p := p) (pa := pa) (dr := dr) (gg := gg) (x := x.putReg g q v) (lens_put hl) h5 b)
/-- A channel's pointer. -/
theorem w_chp {G : Option Addr → Nat → Nat → Prop} (h : Hp R L M) [o : WAt b L pa p gg dr x L'] (k1 : ∀ a : WA, wLens gg a x → Hp R (pt b (wCells pa p dr a x) 76 :: objsP gorR a.gb (x.gs.zip gg) :: wRest a x L') M → G a.ac a.cb.length a.cc) : exSl (M.ld ⟨b, 0 + 6, none⟩) G := by
  obtain ⟨a, hl, h1⟩ := world_open h (b := b)
  exact t_exSl h1 (k1 a hl h1)
def Out.Ok {α : Type} (r : Out α) (k1 : α → Prop) (k2 : Int → Wd → Prop) : Prop := match r with
  | .on y => k1 y
  | .trap n y => k2 n y
def waitOk (x : Wd) (k : Int) : Prop := chOk x k ∧ (chAt x.chans k).Small 999999
instance (x : Wd) (k : Int) : Decidable (waitOk x k) := by unfold waitOk; infer_instance
/-- What a send needs. -/
def sendOk (p : Prg) (x : Wd) (g : Int) (i : Ins) : Prop := gorOk x g ∧ isReg i.b ∧ putOk p x i.a (topReg x g i.b) ∧
  match x.put p i.a (topReg x g i.b) with
  | .on (y, false) => gorOk y g ∧ (gorAt y g).fs.length = (gorAt x g).fs.length ∧ waitOk y i.a
  | _ => True
theorem world_send {g : Int} {i : Ins} {bs c : Nat} (h : Hp R L M) [o : WAt b L pa p gg dr x L'] (hp : RS casE R pa.k pa.kc p.cases) (hgg : gg[g.toNat]? = some (some ⟨bs, 0, none⟩, c)) (hk : sendOk p x g i) (hs : x.Sm)
    (k : Out.Ok (x.send p g i) (fun y => ∀ M', Hp R (objP (worldR pa p gg dr) b y :: L') M' → K (.tuple #[]) M')
      (fun n y => ∀ M', Hp R (objP (worldR pa p gg dr) b y :: L') M' → Kp [{ v := .iface 92 (.int .i64 n), recovered := false }] M')) :
    ACalls Try.prog 49 #[.pointer (some ⟨b, 0, none⟩), .int .i64 g, .pointer (some ⟨bs, ((gorAt x g).fs.length - 1) * 11, none⟩), .agg #[.int .i64 i.op, .int .i64 i.a, .int .i64 i.b, .int .i64 i.c]] M K Kp := by
  refine vc_world_World_send ?_
  obtain ⟨hg, hb, hput, hw⟩ := hk
  repeat (first | (refine s_nwc h ?_; clear h; intro kb M h) | (refine s_stc h ?_; clear h; intro M h) | refine t_exI h ?_ | refine t_exB h ?_ | refine t_exS h ?_ | refine t_exP h ?_ | refine t_exSl h ?_ | refine t_exV h ?_ | refine u_exI ?_ | refine u_exB ?_ | refine u_exS ?_ | refine u_exP ?_ | refine u_exSl ?_ | refine u_exV ?_ | refine u_nilc ?_ | (apply Exists.intro; (repeat apply Exists.intro); refine And.intro rfl ?_) | (refine And.intro ?_ ?_; first | exact trivial | exact rfl | exact t_ld h | (refine lds_s (t_ld h) ?_; (repeat (refine lds_s (t_ld h) ?_)); exact lds_nil) | omega) | refine u_bspT ?_ | refine u_bspF ?_)
  refine ⟨hb.1, hb.2, w_reg (b := b) h hg hgg hb rfl ?_⟩
  unfold Wd.send at k
  refine world_put (b := b) h hp hput hs ?_ ?_
  · intro y ok M' e h
    rw [e] at k hw
    cases ok with
    | true =>
      dsimp only at k
      refine u_exB (u_bspF ?_)
      exact k _ h.fin1
    | false =>
      dsimp only at k hw
      obtain ⟨hgy, hfl, hch, hsm⟩ := hw
      refine u_exB (u_bspT ?_)
      refine w_chp h fun a hl h => ?_
      have hl' := hl
      obtain ⟨l1, l2, l3, l4⟩ := hl'
      have hc' := hch
      obtain ⟨c0, c1⟩ := hc'
      have h' := w_ch h hl hch
      clear h
      obtain ⟨cb, hcb, hchx, h⟩ := h'
      repeat (first | (refine s_nwc h ?_; clear h; intro kb M h) | (refine s_stc h ?_; clear h; intro M h) | refine t_exI h ?_ | refine t_exB h ?_ | refine t_exS h ?_ | refine t_exP h ?_ | refine t_exSl h ?_ | refine t_exV h ?_ | refine u_exI ?_ | refine u_exB ?_ | refine u_exS ?_ | refine u_exP ?_ | refine u_exSl ?_ | refine u_exV ?_ | refine u_nilc ?_ | (apply Exists.intro; (repeat apply Exists.intro); refine And.intro rfl ?_) | (refine And.intro ?_ ?_; first | exact trivial | exact rfl | exact t_ld h | (refine lds_s (t_ld h) ?_; (repeat (refine lds_s (t_ld h) ?_)); exact lds_nil) | omega) | refine u_bspT ?_ | refine u_bspF ?_)
      refine w_g h hcb fun q hq => ?_
      repeat (first | (refine s_nwc h ?_; clear h; intro kb M h) | (refine s_stc h ?_; clear h; intro M h) | refine t_exI h ?_ | refine t_exB h ?_ | refine t_exS h ?_ | refine t_exP h ?_ | refine t_exSl h ?_ | refine t_exV h ?_ | refine u_exI ?_ | refine u_exB ?_ | refine u_exS ?_ | refine u_exP ?_ | refine u_exSl ?_ | refine u_exV ?_ | refine u_nilc ?_ | (apply Exists.intro; (repeat apply Exists.intro); refine And.intro rfl ?_) | (refine And.intro ?_ ?_; first | exact trivial | exact rfl | exact t_ld h | (refine lds_s (t_ld h) ?_; (repeat (refine lds_s (t_ld h) ?_)); exact lds_nil) | omega) | refine u_bspT ?_ | refine u_bspF ?_)
      refine ⟨hb.1, hb.2, ?_⟩
      have h2 := h.objs_same chanR cb hcb hchx
      have h3 := world_close (a := a) (p := p) (pa := pa) (dr := dr) (gg := gg) (x := y) hl h2 b
      refine w_reg (b := b) h3 hgy hgg hb (by rw [hfl]) ?_
      clear h2 h3
      refine chans_WaitSend (w := ⟨g, 0, topReg y g i.b⟩) h (hsm.mono (by omega)) ?_
      clear h
      intro M h
      replace h := h.objs_in chanR cb hcb (by omega)
      replace h := world_close (a := a) (p := p) (pa := pa) (dr := dr) (gg := gg) (x := y.waitS i.a g (topReg y g i.b)) (lens_ch hl) h b
      repeat (first | (refine s_nwc h ?_; clear h; intro kb M h) | (refine s_stc h ?_; clear h; intro M h) | refine t_exI h ?_ | refine t_exB h ?_ | refine t_exS h ?_ | refine t_exP h ?_ | refine t_exSl h ?_ | refine t_exV h ?_ | refine u_exI ?_ | refine u_exB ?_ | refine u_exS ?_ | refine u_exP ?_ | refine u_exSl ?_ | refine u_exV ?_ | refine u_nilc ?_ | (apply Exists.intro; (repeat apply Exists.intro); refine And.intro rfl ?_) | (refine And.intro ?_ ?_; first | exact trivial | exact rfl | exact t_ld h | (refine lds_s (t_ld h) ?_; (repeat (refine lds_s (t_ld h) ?_)); exact lds_nil) | omega) | refine u_bspT ?_ | refine u_bspF ?_)
      refine world_block (b := b) (i := i) (x := y.waitS i.a g (topReg y g i.b)) h hgy.1 hgy.2.1 ?_
      clear h
      intro M h
      exact ⟨rfl, k _ h.fin1⟩
  · intro y n M' e h
    rw [e] at k
    exact k _ h.fin1
/-- What a receive needs. -/
def recvOk (x : Wd) (g : Int) (i : Ins) : Prop := gorOk x g ∧ isReg i.b ∧ isReg i.c ∧ getOk x i.a ∧ gorOk (x.get i.a).1 g ∧ (gorAt (x.get i.a).1 g).fs.length = (gorAt x g).fs.length ∧ ((x.get i.a).2.2.2 = false → waitOk (x.get i.a).1 i.a)
theorem world_recv {g : Int} {i : Ins} {bs c : Nat} (h : Hp R L M) [o : WAt b L pa p gg dr x L'] (hgg : gg[g.toNat]? = some (some ⟨bs, 0, none⟩, c)) (hk : recvOk x g i) (hs : x.Sm)
    (k : ∀ M', Hp R (objP (worldR pa p gg dr) b (x.recv g i) :: L') M' → K (.tuple #[]) M') :
    ACalls Try.prog 50 #[.pointer (some ⟨b, 0, none⟩), .int .i64 g, .pointer (some ⟨bs, ((gorAt x g).fs.length - 1) * 11, none⟩), .agg #[.int .i64 i.op, .int .i64 i.a, .int .i64 i.b, .int .i64 i.c]] M K Kp := by
  refine vc_world_World_recv ?_
  obtain ⟨hg, hb, hc, hget, hgy, hfl, hw⟩ := hk
  repeat (first | (refine s_nwc h ?_; clear h; intro kb M h) | (refine s_stc h ?_; clear h; intro M h) | refine t_exI h ?_ | refine t_exB h ?_ | refine t_exS h ?_ | refine t_exP h ?_ | refine t_exSl h ?_ | refine t_exV h ?_ | refine u_exI ?_ | refine u_exB ?_ | refine u_exS ?_ | refine u_exP ?_ | refine u_exSl ?_ | refine u_exV ?_ | refine u_nilc ?_ | (apply Exists.intro; (repeat apply Exists.intro); refine And.intro rfl ?_) | (refine And.intro ?_ ?_; first | exact trivial | exact rfl | exact t_ld h | (refine lds_s (t_ld h) ?_; (repeat (refine lds_s (t_ld h) ?_)); exact lds_nil) | omega) | refine u_bspT ?_ | refine u_bspF ?_)
  refine world_get (b := b) h hget hs ?_
  clear h
  intro M h
  unfold Wd.recv at k
  generalize x.get i.a = r at h k hgy hfl hw
  obtain ⟨y, v, sm, ok⟩ := r
  dsimp only at h k hgy hfl hw ⊢
  refine ⟨v, sm, ok, rfl, ?_⟩
  cases ok with
  | true =>
    simp only [if_true] at k
    refine u_bspF ?_
    repeat (first | (refine s_nwc h ?_; clear h; intro kb M h) | (refine s_stc h ?_; clear h; intro M h) | refine t_exI h ?_ | refine t_exB h ?_ | refine t_exS h ?_ | refine t_exP h ?_ | refine t_exSl h ?_ | refine t_exV h ?_ | refine u_exI ?_ | refine u_exB ?_ | refine u_exS ?_ | refine u_exP ?_ | refine u_exSl ?_ | refine u_exV ?_ | refine u_nilc ?_ | (apply Exists.intro; (repeat apply Exists.intro); refine And.intro rfl ?_) | (refine And.intro ?_ ?_; first | exact trivial | exact rfl | exact t_ld h | (refine lds_s (t_ld h) ?_; (repeat (refine lds_s (t_ld h) ?_)); exact lds_nil) | omega) | refine u_bspT ?_ | refine u_bspF ?_)
    refine ⟨hb.1, hb.2, ?_⟩
    repeat (first | (refine s_nwc h ?_; clear h; intro kb M h) | (refine s_stc h ?_; clear h; intro M h) | refine t_exI h ?_ | refine t_exB h ?_ | refine t_exS h ?_ | refine t_exP h ?_ | refine t_exSl h ?_ | refine t_exV h ?_ | refine u_exI ?_ | refine u_exB ?_ | refine u_exS ?_ | refine u_exP ?_ | refine u_exSl ?_ | refine u_exV ?_ | refine u_nilc ?_ | (apply Exists.intro; (repeat apply Exists.intro); refine And.intro rfl ?_) | (refine And.intro ?_ ?_; first | exact trivial | exact rfl | exact t_ld h | (refine lds_s (t_ld h) ?_; (repeat (refine lds_s (t_ld h) ?_)); exact lds_nil) | omega) | refine u_bspT ?_ | refine u_bspF ?_)
    refine w_stReg (b := b) h hgy hgg hb (by rw [hfl]) ?_
    clear h
    intro M h
    repeat (first | (refine s_nwc h ?_; clear h; intro kb M h) | (refine s_stc h ?_; clear h; intro M h) | refine t_exI h ?_ | refine t_exB h ?_ | refine t_exS h ?_ | refine t_exP h ?_ | refine t_exSl h ?_ | refine t_exV h ?_ | refine u_exI ?_ | refine u_exB ?_ | refine u_exS ?_ | refine u_exP ?_ | refine u_exSl ?_ | refine u_exV ?_ | refine u_nilc ?_ | (apply Exists.intro; (repeat apply Exists.intro); refine And.intro rfl ?_) | (refine And.intro ?_ ?_; first | exact trivial | exact rfl | exact t_ld h | (refine lds_s (t_ld h) ?_; (repeat (refine lds_s (t_ld h) ?_)); exact lds_nil) | omega) | refine u_bspT ?_ | refine u_bspF ?_)
    have hg2 := gorOk_putReg (q := i.b) (v := v) hgy
    have hf2 : (gorAt (y.putReg g i.b v) g).fs.length = (gorAt x g).fs.length := by rw [gorAt_putReg hgy]; simpa [Gor.putTop] using hfl
    refine ⟨hc.1, hc.2, w_stReg (b := b) h hg2 hgg hc (by rw [hf2]) ?_⟩
    clear h
    intro M h
    repeat (first | (refine s_nwc h ?_; clear h; intro kb M h) | (refine s_stc h ?_; clear h; intro M h) | refine t_exI h ?_ | refine t_exB h ?_ | refine t_exS h ?_ | refine t_exP h ?_ | refine t_exSl h ?_ | refine t_exV h ?_ | refine u_exI ?_ | refine u_exB ?_ | refine u_exS ?_ | refine u_exP ?_ | refine u_exSl ?_ | refine u_exV ?_ | refine u_nilc ?_ | (apply Exists.intro; (repeat apply Exists.intro); refine And.intro rfl ?_) | (refine And.intro ?_ ?_; first | exact trivial | exact rfl | exact t_ld h | (refine lds_s (t_ld h) ?_; (repeat (refine lds_s (t_ld h) ?_)); exact lds_nil) | omega) | refine u_bspT ?_ | refine u_bspF ?_)
    exact k _ h.fin1
  | false =>
    simp only [Bool.false_eq_true, if_false] at k
    refine u_bspT ?_
    obtain ⟨hch, hsm⟩ := hw rfl
    refine w_chp h fun a hl h => ?_
    have hl' := hl
    obtain ⟨l1, l2, l3, l4⟩ := hl'
    have hc' := hch
    obtain ⟨c0, c1⟩ := hc'
    have h' := w_ch h hl hch
    clear h
    obtain ⟨cb, hcb, hchx, h⟩ := h'
    repeat (first | (refine s_nwc h ?_; clear h; intro kb M h) | (refine s_stc h ?_; clear h; intro M h) | refine t_exI h ?_ | refine t_exB h ?_ | refine t_exS h ?_ | refine t_exP h ?_ | refine t_exSl h ?_ | refine t_exV h ?_ | refine u_exI ?_ | refine u_exB ?_ | refine u_exS ?_ | refine u_exP ?_ | refine u_exSl ?_ | refine u_exV ?_ | refine u_nilc ?_ | (apply Exists.intro; (repeat apply Exists.intro); refine And.intro rfl ?_) | (refine And.intro ?_ ?_; first | exact trivial | exact rfl | exact t_ld h | (refine lds_s (t_ld h) ?_; (repeat (refine lds_s (t_ld h) ?_)); exact lds_nil) | omega) | refine u_bspT ?_ | refine u_bspF ?_)
    refine w_g h hcb fun q hq => ?_
    refine chans_WaitRecv (w := ⟨g, 0, 0⟩) h (hsm.mono (by omega)) ?_
    clear h
    intro M h
    replace h := h.objs_in chanR cb hcb (by omega)
    replace h := world_close (a := a) (p := p) (pa := pa) (dr := dr) (gg := gg) (x := y.waitR i.a g) (lens_ch hl) h b
    repeat (first | (refine s_nwc h ?_; clear h; intro kb M h) | (refine s_stc h ?_; clear h; intro M h) | refine t_exI h ?_ | refine t_exB h ?_ | refine t_exS h ?_ | refine t_exP h ?_ | refine t_exSl h ?_ | refine t_exV h ?_ | refine u_exI ?_ | refine u_exB ?_ | refine u_exS ?_ | refine u_exP ?_ | refine u_exSl ?_ | refine u_exV ?_ | refine u_nilc ?_ | (apply Exists.intro; (repeat apply Exists.intro); refine And.intro rfl ?_) | (refine And.intro ?_ ?_; first | exact trivial | exact rfl | exact t_ld h | (refine lds_s (t_ld h) ?_; (repeat (refine lds_s (t_ld h) ?_)); exact lds_nil) | omega) | refine u_bspT ?_ | refine u_bspF ?_)
    refine world_block (b := b) (i := i) (x := y.waitR i.a g) h hgy.1 hgy.2.1 ?_
    clear h
    intro M h
    exact ⟨rfl, k _ h.fin1⟩
theorem world_emit {g : Int} {i : Ins} {bs c : Nat} (h : Hp R L M) [o : WAt b L pa p gg dr x L'] (hgg : gg[g.toNat]? = some (some ⟨bs, 0, none⟩, c)) (hg : gorOk x g) (ha : isReg i.a) (hs : x.Sm)
    (k : Out.Ok (x.emit g i) (fun y => ∀ M', Hp R (objP (worldR pa p gg dr) b y :: L') M' → K (.tuple #[]) M')
      (fun n y => ∀ M', Hp R (objP (worldR pa p gg dr) b y :: L') M' → Kp [{ v := .iface 92 (.int .i64 n), recovered := false }] M')) :
    ACalls Try.prog 55 #[.pointer (some ⟨b, 0, none⟩), .int .i64 g, .pointer (some ⟨bs, ((gorAt x g).fs.length - 1) * 11, none⟩), .agg #[.int .i64 i.op, .int .i64 i.a, .int .i64 i.b, .int .i64 i.c]] M K Kp := by
  refine vc_world_World_emit ?_
  obtain ⟨s1, s2, s3, s4, s5, s6, s7, s8⟩ := hs
  have hg' := hg
  obtain ⟨h0, h1, h2, h3⟩ := hg'
  unfold Wd.emit at k
  refine s_nwc h ?_
  clear h
  intro kb M h
  have h' := world_at2 h (b := b) h0 h1 hgg
  clear h
  obtain ⟨a, gb, hl, hgb, h⟩ := h'
  have hl' := hl
  obtain ⟨l1, l2, l3, l4⟩ := hl'
  have ex : x.putG g (gorAt x g) = x := by
    obtain ⟨y, hy⟩ := idx_ex (l := x.gs) (i := g.toNat) (by omega)
    have e : gorAt x g = y := by simp [gorAt, hy]
    rw [e]
    obtain ⟨hi, rfl⟩ := List.getElem?_eq_some_iff.1 hy
    simp [Wd.putG]
  repeat (first | (refine s_nwc h ?_; clear h; intro kb M h) | (refine s_stc h ?_; clear h; intro M h) | refine t_exI h ?_ | refine t_exB h ?_ | refine t_exS h ?_ | refine t_exP h ?_ | refine t_exSl h ?_ | refine t_exV h ?_ | refine u_exI ?_ | refine u_exB ?_ | refine u_exS ?_ | refine u_exP ?_ | refine u_exSl ?_ | refine u_exV ?_ | refine u_nilc ?_ | (apply Exists.intro; (repeat apply Exists.intro); refine And.intro rfl ?_) | (refine And.intro ?_ ?_; first | exact trivial | exact rfl | exact t_ld h | (refine lds_s (t_ld h) ?_; (repeat (refine lds_s (t_ld h) ?_)); exact lds_nil) | omega) | refine u_bspT ?_ | refine u_bspF ?_)
  refine bsp_dec.2 ⟨fun hn => ?_, fun hn => ?_⟩
  · rw [if_pos (by omega)] at k
    replace h := world_in h gb hl hgb hgg
    have hl2 := lens_put (y := gorAt x g) (g := g) hl
    replace h := world_close (a := a) (p := p) (pa := pa) (dr := dr) (gg := gg) (x := x.putG g (gorAt x g)) hl2 h b
    rw [ex] at h
    exact k _ h.fin1
  · rw [if_neg (by omega)] at k
    repeat (first | (refine s_nwc h ?_; clear h; intro kb M h) | (refine s_stc h ?_; clear h; intro M h) | refine t_exI h ?_ | refine t_exB h ?_ | refine t_exS h ?_ | refine t_exP h ?_ | refine t_exSl h ?_ | refine t_exV h ?_ | refine u_exI ?_ | refine u_exB ?_ | refine u_exS ?_ | refine u_exP ?_ | refine u_exSl ?_ | refine u_exV ?_ | refine u_nilc ?_ | (apply Exists.intro; (repeat apply Exists.intro); refine And.intro rfl ?_) | (refine And.intro ?_ ?_; first | exact trivial | exact rfl | exact t_ld h | (refine lds_s (t_ld h) ?_; (repeat (refine lds_s (t_ld h) ?_)); exact lds_nil) | omega) | refine u_bspT ?_ | refine u_bspF ?_)
    refine ⟨ha.1, ha.2, f_ld h (gor_top h2) ha rfl ?_⟩
    repeat (first | (refine s_nwc h ?_; clear h; intro kb M h) | (refine s_stc h ?_; clear h; intro M h) | refine t_exI h ?_ | refine t_exB h ?_ | refine t_exS h ?_ | refine t_exP h ?_ | refine t_exSl h ?_ | refine t_exV h ?_ | refine u_exI ?_ | refine u_exB ?_ | refine u_exS ?_ | refine u_exP ?_ | refine u_exSl ?_ | refine u_exV ?_ | refine u_nilc ?_ | (apply Exists.intro; (repeat apply Exists.intro); refine And.intro rfl ?_) | (refine And.intro ?_ ?_; first | exact trivial | exact rfl | exact t_ld h | (refine lds_s (t_ld h) ?_; (repeat (refine lds_s (t_ld h) ?_)); exact lds_nil) | omega) | refine u_bspT ?_ | refine u_bspF ?_)
    refine h.rowAppend1 el_i64 [topReg x g i.a] rfl rfl (by simp; omega) ?_
    clear h
    intro A' c' M h
    repeat (first | (refine s_nwc h ?_; clear h; intro kb M h) | (refine s_stc h ?_; clear h; intro M h) | refine t_exI h ?_ | refine t_exB h ?_ | refine t_exS h ?_ | refine t_exP h ?_ | refine t_exSl h ?_ | refine t_exV h ?_ | refine u_exI ?_ | refine u_exB ?_ | refine u_exS ?_ | refine u_exP ?_ | refine u_exSl ?_ | refine u_exV ?_ | refine u_nilc ?_ | (apply Exists.intro; (repeat apply Exists.intro); refine And.intro rfl ?_) | (refine And.intro ?_ ?_; first | exact trivial | exact rfl | exact t_ld h | (refine lds_s (t_ld h) ?_; (repeat (refine lds_s (t_ld h) ?_)); exact lds_nil) | omega) | refine u_bspT ?_ | refine u_bspF ?_)
    replace h := world_in h gb hl hgb hgg
    have hl2 := lens_put (y := gorAt x g) (g := g) hl
    have h5 := world_close (a := { a with ao := A', co := c' }) (p := p) (pa := pa) (dr := dr) (gg := gg) (x := { x.putG g (gorAt x g) with out := x.out ++ [topReg x g i.a] }) hl2 h b
    rw [ex] at h5
    exact k _ h5.fin1
end
end Go.Proofs
