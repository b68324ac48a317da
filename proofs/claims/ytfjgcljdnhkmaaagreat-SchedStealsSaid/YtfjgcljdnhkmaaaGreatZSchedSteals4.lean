/- A part of proofs about functions of one program: a condition over a partial memory that is enough for a call, and what calls answer by it. No condition of its own. -/
import Derived.ChangeArms
import Derived.Deep.Slices
import Derived.OpenShut
import Derived.Recover
import Derived.Scope
import Derived.Test.YtfjgcljdnhkmaaaGreatProg
import Derived.WalkKit
import Derived.Test.YtfjgcljdnhkmaaaGreatZSchedStealsBase
import Derived.Test.YtfjgcljdnhkmaaaGreatZSchedStealsOps
import Derived.Test.YtfjgcljdnhkmaaaGreatZSchedStealsOpsB
import Derived.Test.YtfjgcljdnhkmaaaGreatZSchedStealsOpC
import Derived.Test.YtfjgcljdnhkmaaaGreatZSchedStealsFrame
import Derived.Test.YtfjgcljdnhkmaaaGreatZSchedStealsReg
import Derived.Test.YtfjgcljdnhkmaaaGreatZSchedStealsRegB
import Derived.Test.YtfjgcljdnhkmaaaGreatZSchedStealsRegL
import Derived.Test.YtfjgcljdnhkmaaaGreatZSchedStealsRegC
import Derived.Test.YtfjgcljdnhkmaaaGreatZSchedStealsExec
import Derived.Test.YtfjgcljdnhkmaaaGreatZSchedStealsSound
import Derived.Test.YtfjgcljdnhkmaaaGreatZSchedStealsSoundB
import Derived.Test.YtfjgcljdnhkmaaaGreatZSchedStealsLib
import Derived.Test.YtfjgcljdnhkmaaaGreatZSchedStealsHp
import Derived.Test.YtfjgcljdnhkmaaaGreatZSchedStealsRow
import Derived.Test.YtfjgcljdnhkmaaaGreatZSchedStealsMod
import Derived.Test.YtfjgcljdnhkmaaaGreatZSchedStealsOpen
import Derived.Test.YtfjgcljdnhkmaaaGreatZSchedStealsArgs
import Derived.Test.YtfjgcljdnhkmaaaGreatZSchedStealsDefer
import Derived.Test.YtfjgcljdnhkmaaaGreatZSchedStealsDefer2
import Derived.Test.YtfjgcljdnhkmaaaGreatZSchedSteals0
import Derived.Test.YtfjgcljdnhkmaaaGreatZSchedSteals1
import Derived.Test.YtfjgcljdnhkmaaaGreatZSchedSteals2
import Derived.Test.YtfjgcljdnhkmaaaGreatZSchedSteals3

namespace Go.Proofs
open Go.AF
set_option linter.unusedVariables false
set_option maxRecDepth 100000
set_option maxHeartbeats 1000000
attribute [local irreducible] exI exB exS exP exSl exV nilc stc nwc semK semU bsp
def slE : Enc (Option Addr × Nat × Nat) := ⟨1, fun t => [.slice t.1 t.2.1 t.2.2], fun _ => rfl, fun w v hv => by simp only [List.mem_singleton] at hv; subst hv; rfl⟩
/-- The program stands there, to be read. -/
structure PrgR (R : Mem) (pa : PA) (p : Prg) : Prop where
  funcs : ∃ ts : List (Option Addr × Nat × Nat), RS slE R pa.f pa.fc ts ∧ ts.length = p.funcs.length ∧ ∀ (i : Nat) t f, ts[i]? = some t → p.funcs[i]? = some f → RS insE R t.1 t.2.2 f ∧ t.2.1 = f.length
  cases : RS casE R pa.k pa.kc p.cases
theorem PrgR.le {R R' : Mem} {pa : PA} {p : Prg} (h : PrgR R pa p) (hle : R.le R') : PrgR R' pa p := by
  obtain ⟨⟨ts, h1, h2, h3⟩, h4⟩ := h
  exact ⟨⟨ts, h1.le hle, h2, fun i t f a b => ⟨(h3 i t f a b).1.le hle, (h3 i t f a b).2⟩⟩, h4.le hle⟩
def Wd.next (x : Wd) (g : Int) : Wd := x.putG g ((gorAt x g).putTop (gorAt x g).top.next)
def trapV (n : Int) : List PanicEntry := [{ v := .iface 256 (.int .i64 n), recovered := false }]
/-- What an instruction's function does. -/
def OpSpec (R : Mem) (pa : PA) (p : Prg) (dr : Value) (fnum : Nat) (x : Wd) (g : Int) (i : Ins) (r : Out Wd) (L L2 : List HP) : Prop :=
  ∀ (gg : List GA) (b bs c : Nat) (M : Mem) (K : Value → Mem → Prop) (Kp : List PanicEntry → Mem → Prop) (Q : HP), Hp R (objP (worldR pa p gg dr) b x :: Q :: L) M → gg[g.toNat]? = some (some ⟨bs, 0, none⟩, c) →
    Out.Ok r (fun y => ∀ gg' M', Hp R (objP (worldR pa p gg' dr) b y :: Q :: L2) M' → K (.tuple #[]) M') (fun n y => ∀ gg' M', Hp R (objP (worldR pa p gg' dr) b y :: Q :: L2) M' → Kp (trapV n) M') (fun l y => ∀ gg' M', Hp R (objP (worldR pa p gg' dr) b y :: Q :: L2) M' → Kp l M') →
    ACalls Tryz.prog fnum #[.pointer (some ⟨b, 0, none⟩), .int .i64 g, .pointer (some ⟨bs, ((gorAt x g).fs.length - 1) * 11, none⟩), .agg #[.int .i64 i.op, .int .i64 i.a, .int .i64 i.b, .int .i64 i.c]] M K Kp
theorem Out.Ok.mono {α : Type} {r : Out α} {k1 k1' : α → Prop} {k2 k2' : Int → Wd → Prop} {k3 : List PanicEntry → Wd → Prop} (h : r.Ok k1 k2 k3) (h1 : ∀ y, k1 y → k1' y) (h2 : ∀ n y, k2 n y → k2' n y) : r.Ok k1' k2' := by
  cases r with
  | on y => exact h1 y h
  | trap n y => exact h2 n y h
  | dry l y => trivial
section
variable {R : Mem} {L L' L2 : List HP} {M : Mem} {K : Value → Mem → Prop} {Kp : List PanicEntry → Mem → Prop} {pa : PA} {p : Prg} {gg : List GA} {dr : Value} {b : Nat} {x : Wd} {g : Int} {i : Ins}
theorem op_send (hp : PrgR R pa p) (hk : sendOk p x g i) (hs : x.Sm) : OpSpec R pa p dr 165 x g i (x.send p g i) L L := fun gg b bs c M K Kp Q h hgg k =>
  world_send h hp.cases hgg hk hs (k.mono (fun y hy M' h' => hy gg M' h') (fun n y hy M' h' => hy gg M' h'))
theorem op_recv (hk : recvOk x g i) (hs : x.Sm) : OpSpec R pa p dr 166 x g i (.on (x.recv g i)) L L := fun gg b bs c M K Kp Q h hgg k =>
  world_recv h hgg hk hs fun M' h' => k gg M' h'
theorem op_emit (hg : gorOk x g) (ha : isReg i.a) (hs : x.Sm) : OpSpec R pa p dr 171 x g i (x.emit g i) L L := fun gg b bs c M K Kp Q h hgg k =>
  world_emit h hgg hg ha hs (k.mono (fun y hy M' h' => hy gg M' h') (fun n y hy M' h' => hy gg M' h'))
theorem op_spawn (hg : gorOk x g) (hb : isReg i.b) (hc : isReg i.c) (hs : x.Sm) : OpSpec R pa p dr 163 x g i (x.spawn g i) L L := fun gg b bs c M K Kp Q h hgg k =>
  world_spawn h hgg hg hb hc hs (k.mono (fun y hy => hy) (fun n y hy M' h' => hy gg M' h'))
theorem op_shut (hp : PrgR R pa p) (hk : closeOk p x i) (hs : x.Sm) : OpSpec R pa p dr 167 x g i (x.shut p i) L L := fun gg b bs c M K Kp Q h hgg k =>
  world_shut (f := .nilFunc) h hp.cases hk hs (k.mono (fun y hy M' h' => hy gg M' h') (fun n y hy M' h' => hy gg M' h'))
/-- Which function an op has. -/
def wTab : AL := [(9, .func (.func 161) #[] #[]), (10, .func (.func 162) #[] #[]), (11, .func (.func 163) #[] #[]), (12, .func (.func 164) #[] #[]), (13, .func (.func 165) #[] #[]), (14, .func (.func 166) #[] #[]), (15, .func (.func 167) #[] #[]), (17, .func (.func 168) #[] #[]), (18, .func (.func 169) #[] #[]), (19, .func (.func 170) #[] #[]), (20, .func (.func 171) #[] #[]), (22, .func (.func 172) #[] #[])]
theorem world_table (h : Hp R L M) (k : ∀ m M', Hp R (ob m (mapO wTab) :: L) M' → K (.map (some m)) M') : ACalls Tryz.prog 124 #[] M K Kp := by
  refine vc_world_table ?_
  refine s_nwo h ?_
  clear h
  intro m M h
  replace h : Hp R (ob m (mapO []) :: L) M := h
  have hu : Tryz.prog.underlying 261 = some (.map 32 260) := by kernel_rfl
  have hk : Tryz.prog.underlying 32 = some (.int .i64) := by kernel_rfl
  iterate 12
    refine s_mapUpdate h hu hk ?_
    clear h
    intro M h
  exact k _ _ h
end
end Go.Proofs

namespace Go.Proofs
open Go.AF
set_option linter.unusedVariables false
set_option maxRecDepth 100000
set_option maxHeartbeats 1000000
attribute [local irreducible] exI exB exS exP exSl exV nilc stc nwc semK semU bsp
theorem zip_set2 {α β : Type} : ∀ {l : List α} {m : List β} {i : Nat} {u : α} {v : β}, (l.zip m).set i (u, v) = (l.set i u).zip (m.set i v)
  | [], _, _, _, _ => by simp
  | a :: l, [], i, u, v => by simp
  | a :: l, w :: m, 0, u, v => rfl
  | a :: l, w :: m, i + 1, u, v => by
    have := zip_set2 (l := l) (m := m) (i := i) (u := u) (v := v)
    simp [this]
theorem sx {x : Wd} {g : Int} (h0 : 0 ≤ g) (h1 : g < x.gs.length) : x.putG g (gorAt x g) = x := by
  obtain ⟨y, hy⟩ := idx_ex (l := x.gs) (i := g.toNat) (by omega)
  have e : gorAt x g = y := by simp [gorAt, hy]
  rw [e]
  obtain ⟨hi, rfl⟩ := List.getElem?_eq_some_iff.1 hy
  simp [Wd.putG]
section
variable {R : Mem} {L L' L2 : List HP} {M : Mem} {K : Value → Mem → Prop} {Kp : List PanicEntry → Mem → Prop} {pa : PA} {p : Prg} {gg : List GA} {dr : Value} {b : Nat} {x : Wd} {g : Int} {i : Ins}
theorem op_back (hg : gorOk x g) (ha : isReg i.a) (hin : isReg (gorAt x g).top.into) : OpSpec R pa p dr 162 x g i (.on (x.back g i)) L L := by
  intro gg b bs c M K Kp Q h hgg k
  refine vc_world_World_back ?_
  replace k : ∀ gg' M', Hp R (objP (worldR pa p gg' dr) b (x.back g i) :: Q :: L) M' → K (.tuple #[]) M' := k
  have hg' := hg
  obtain ⟨h0, h1, h2, h3⟩ := hg'
  unfold Wd.back at k
  refine s_nwc h ?_
  clear h
  intro kb M h
  have h' := world_at2 h (b := b) h0 h1 hgg
  clear h
  obtain ⟨a, gb, hl, hgb, h⟩ := h'
  have hl' := hl
  obtain ⟨l1, l2, l3, l4⟩ := hl'
  repeat (first | (refine s_nwc h ?_; clear h; intro kb M h) | (refine s_stc h ?_; clear h; intro M h) | refine t_exI h ?_ | refine t_exB h ?_ | refine t_exS h ?_ | refine t_exP h ?_ | refine t_exSl h ?_ | refine t_exV h ?_ | refine u_exI ?_ | refine u_exB ?_ | refine u_exS ?_ | refine u_exP ?_ | refine u_exSl ?_ | refine u_exV ?_ | refine u_nilc ?_ | (apply Exists.intro; (repeat apply Exists.intro); refine And.intro rfl ?_) | (refine And.intro ?_ ?_; first | exact trivial | exact rfl | exact t_ld h | (refine lds_s (t_ld h) ?_; (repeat (refine lds_s (t_ld h) ?_)); exact lds_nil) | omega) | refine u_bspT ?_ | refine u_bspF ?_)
  refine w_g h hgb fun q hq => ?_
  repeat (first | (refine s_nwc h ?_; clear h; intro kb M h) | (refine s_stc h ?_; clear h; intro M h) | refine t_exI h ?_ | refine t_exB h ?_ | refine t_exS h ?_ | refine t_exP h ?_ | refine t_exSl h ?_ | refine t_exV h ?_ | refine u_exI ?_ | refine u_exB ?_ | refine u_exS ?_ | refine u_exP ?_ | refine u_exSl ?_ | refine u_exV ?_ | refine u_nilc ?_ | (apply Exists.intro; (repeat apply Exists.intro); refine And.intro rfl ?_) | (refine And.intro ?_ ?_; first | exact trivial | exact rfl | exact t_ld h | (refine lds_s (t_ld h) ?_; (repeat (refine lds_s (t_ld h) ?_)); exact lds_nil) | omega) | refine u_bspT ?_ | refine u_bspF ?_)
  refine ⟨ha.1, ha.2, f_ld h (gor_top h2) ha rfl ?_⟩
  refine frame_Return h h2 (by omega) (gor_top h2) hin ?_ ?_
  · intro hlt
    rw [if_neg (by omega)] at k
    refine ⟨_, _, _, _, rfl, u_bspF ?_⟩
    repeat (first | (refine s_nwc h ?_; clear h; intro kb M h) | (refine s_stc h ?_; clear h; intro M h) | refine t_exI h ?_ | refine t_exB h ?_ | refine t_exS h ?_ | refine t_exP h ?_ | refine t_exSl h ?_ | refine t_exV h ?_ | refine u_exI ?_ | refine u_exB ?_ | refine u_exS ?_ | refine u_exP ?_ | refine u_exSl ?_ | refine u_exV ?_ | refine u_nilc ?_ | (apply Exists.intro; (repeat apply Exists.intro); refine And.intro rfl ?_) | (refine And.intro ?_ ?_; first | exact trivial | exact rfl | exact t_ld h | (refine lds_s (t_ld h) ?_; (repeat (refine lds_s (t_ld h) ?_)); exact lds_nil) | omega) | refine u_bspT ?_ | refine u_bspF ?_)
    refine w_g h hgb fun q2 hq2 => ?_
    repeat (first | (refine s_nwc h ?_; clear h; intro kb M h) | (refine s_stc h ?_; clear h; intro M h) | refine t_exI h ?_ | refine t_exB h ?_ | refine t_exS h ?_ | refine t_exP h ?_ | refine t_exSl h ?_ | refine t_exV h ?_ | refine u_exI ?_ | refine u_exB ?_ | refine u_exS ?_ | refine u_exP ?_ | refine u_exSl ?_ | refine u_exV ?_ | refine u_nilc ?_ | (apply Exists.intro; (repeat apply Exists.intro); refine And.intro rfl ?_) | (refine And.intro ?_ ?_; first | exact trivial | exact rfl | exact t_ld h | (refine lds_s (t_ld h) ?_; (repeat (refine lds_s (t_ld h) ?_)); exact lds_nil) | omega) | refine u_bspT ?_ | refine u_bspF ?_)
    refine bsp_eq.2 ⟨fun e0 => ?_, fun e0 => ?_⟩
    · rw [if_pos e0] at k
      repeat (first | (refine s_nwc h ?_; clear h; intro kb M h) | (refine s_stc h ?_; clear h; intro M h) | refine t_exI h ?_ | refine t_exB h ?_ | refine t_exS h ?_ | refine t_exP h ?_ | refine t_exSl h ?_ | refine t_exV h ?_ | refine u_exI ?_ | refine u_exB ?_ | refine u_exS ?_ | refine u_exP ?_ | refine u_exSl ?_ | refine u_exV ?_ | refine u_nilc ?_ | (apply Exists.intro; (repeat apply Exists.intro); refine And.intro rfl ?_) | (refine And.intro ?_ ?_; first | exact trivial | exact rfl | exact t_ld h | (refine lds_s (t_ld h) ?_; (repeat (refine lds_s (t_ld h) ?_)); exact lds_nil) | omega) | refine u_bspT ?_ | refine u_bspF ?_)
      replace h := world_in h gb hl hgb hgg
      have hl2 := lens_put (y := { gorAt x g with st := 4 }) (g := g) hl
      replace h := world_close (a := a) (p := p) (pa := pa) (dr := dr) (gg := gg) (x := { x.putG g { gorAt x g with st := 4 } with end_ := 1 }) hl2 h b
      exact k _ _ h.fin1
    · rw [if_neg e0] at k
      replace h := world_in h gb hl hgb hgg
      have hl2 := lens_put (y := { gorAt x g with st := 4 }) (g := g) hl
      replace h := world_close (a := a) (p := p) (pa := pa) (dr := dr) (gg := gg) (x := x.putG g { gorAt x g with st := 4 }) hl2 h b
      exact k _ _ h.fin1
  · intro hge b' c' M' fr hfr h'
    clear h
    have h := h'
    clear h'
    rw [if_pos hge] at k
    refine ⟨_, _, _, _, rfl, u_bspT ?_⟩
    repeat (first | (refine s_nwc h ?_; clear h; intro kb M h) | (refine s_stc h ?_; clear h; intro M h) | refine t_exI h ?_ | refine t_exB h ?_ | refine t_exS h ?_ | refine t_exP h ?_ | refine t_exSl h ?_ | refine t_exV h ?_ | refine u_exI ?_ | refine u_exB ?_ | refine u_exS ?_ | refine u_exP ?_ | refine u_exSl ?_ | refine u_exV ?_ | refine u_nilc ?_ | (apply Exists.intro; (repeat apply Exists.intro); refine And.intro rfl ?_) | (refine And.intro ?_ ?_; first | exact trivial | exact rfl | exact t_ld h | (refine lds_s (t_ld h) ?_; (repeat (refine lds_s (t_ld h) ?_)); exact lds_nil) | omega) | refine u_bspT ?_ | refine u_bspF ?_)
    refine w_g h hgb fun q2 hq2 => ?_
    repeat (first | (refine s_nwc h ?_; clear h; intro kb M h) | (refine s_stc h ?_; clear h; intro M h) | refine t_exI h ?_ | refine t_exB h ?_ | refine t_exS h ?_ | refine t_exP h ?_ | refine t_exSl h ?_ | refine t_exV h ?_ | refine u_exI ?_ | refine u_exB ?_ | refine u_exS ?_ | refine u_exP ?_ | refine u_exSl ?_ | refine u_exV ?_ | refine u_nilc ?_ | (apply Exists.intro; (repeat apply Exists.intro); refine And.intro rfl ?_) | (refine And.intro ?_ ?_; first | exact trivial | exact rfl | exact t_ld h | (refine lds_s (t_ld h) ?_; (repeat (refine lds_s (t_ld h) ?_)); exact lds_nil) | omega) | refine u_bspT ?_ | refine u_bspF ?_)
    have hlen : (gorAt x g).fs.length - 1 = (((gorAt x g).fs.take ((gorAt x g).fs.length - 1)).set ((gorAt x g).fs.length - 2) (fr.set (gorAt x g).top.into (topReg x g i.a))).length := by simp
    have hfr2 : (gorAt x g).fs.getD ((gorAt x g).fs.length - 2) ⟨0, 0, [], 0⟩ = fr := by rw [List.getD_eq_getElem?_getD, hfr]; rfl
    have h5 := gor_close (A := some ⟨b', 0, none⟩) (fs := ((gorAt x g).fs.take ((gorAt x g).fs.length - 1)).set ((gorAt x g).fs.length - 2) (fr.set (gorAt x g).top.into (topReg x g i.a))) h gb hlen
    have hi := (List.getElem?_eq_some_iff.1 hgb).1
    have h6 := h5.objs_in gorR gb hgb (by rw [List.length_zip]; omega)
    rw [zip_set2] at h6
    have hl2 : wLens (gg.set g.toNat (some ⟨b', 0, none⟩, c')) a (x.putG g ((gorAt x g).back (topReg x g i.a))) := ⟨by simpa [Wd.putG] using l1, by simpa [Wd.putG] using l2, l3, l4⟩
    have e : (gorAt x g).back (topReg x g i.a) = ⟨(gorAt x g).st, ((gorAt x g).fs.take ((gorAt x g).fs.length - 1)).set ((gorAt x g).fs.length - 2) (fr.set (gorAt x g).top.into (topReg x g i.a)), (gorAt x g).wt⟩ := by
      unfold Gor.back; rw [hfr2]
    rw [e] at hl2 k
    have h7 := world_close (a := a) (p := p) (pa := pa) (dr := dr) (gg := gg.set g.toNat (some ⟨b', 0, none⟩, c')) (x := x.putG g ⟨(gorAt x g).st, ((gorAt x g).fs.take ((gorAt x g).fs.length - 1)).set ((gorAt x g).fs.length - 2) (fr.set (gorAt x g).top.into (topReg x g i.a)), (gorAt x g).wt⟩) hl2 h6 b
    exact k _ _ (h7.sub (by repeat (first | exact .refl | refine .cons (by repeat (first | exact .here | apply Pick.there)) ?_ | apply Sub.drop)))
end
end Go.Proofs

namespace Go.Proofs
open Go.AF
set_option linter.unusedVariables false
set_option maxRecDepth 100000
set_option maxHeartbeats 1000000
attribute [local irreducible] exI exB exS exP exSl exV nilc stc nwc semK semU bsp
def Out.fin : Out Wd → Wd
  | .on y => y
  | .trap n y => { y with end_ := 2, code := n }
  | .dry _ y => y
def restOf (op : Int) : Out Wd → Bool
  | .on _ => op == 12 || op == 17
  | .trap _ _ => false
  | .dry _ _ => false
/-- The next instruction of a goroutine, and what it comes to. -/
inductive Step (R : Mem) (pa : PA) (p : Prg) (dr : Value) (x : Wd) (g : Int) (code : List Ins) : Out Wd → Bool → List HP → List HP → Prop where
  | out {L : List HP} (h : (code.length : Int) ≤ (gorAt x g).top.pc) : Step R pa p dr x g code (.trap (-7) x) false L L
  | pure {L : List HP} (i : Ins) (h : code[(gorAt x g).top.pc.toNat]? = some i) (h0 : 0 ≤ i.op) (h8 : i.op ≤ 8) (hk : i.okPure) : Step R pa p dr x g code (.on (x.putG g ((gorAt x g).putTop ((gorAt x g).top.next.pure i)))) false L L
  | sel {L L2 : List HP} {r : Out Wd} (i : Ins) (h : code[(gorAt x g).top.pc.toNat]? = some i) (h16 : i.op = 16) (hs : OpSpec R pa p dr 122 x g i r L L2) : Step R pa p dr x g code r false L L2
  | rnd {L L2 : List HP} {r : Out Wd} (i : Ins) (h : code[(gorAt x g).top.pc.toNat]? = some i) (h21 : i.op = 21) (hs : OpSpec R pa p dr 123 x g i r L L2) : Step R pa p dr x g code r false L L2
  | dflt {L L2 : List HP} {r : Out Wd} (i : Ins) (fn : Nat) (h : code[(gorAt x g).top.pc.toNat]? = some i) (h8 : 8 < i.op) (h16 : i.op ≠ 16) (h21 : i.op ≠ 21) (hf : aget wTab i.op = some (.func (.func fn) #[] #[])) (hn : 1 < fn ∧ fn < 228)
      (hs : OpSpec R pa p dr fn (x.next g) g i r L L2) : Step R pa p dr x g code r (restOf i.op r) L L2
section
variable {R : Mem} {L L' L2 : List HP} {M : Mem} {K : Value → Mem → Prop} {Kp : List PanicEntry → Mem → Prop} {pa : PA} {p : Prg} {gg : List GA} {dr : Value} {b : Nat} {x : Wd} {g : Int} {i : Ins}
theorem f_ldFn {c bs j : Nat} {l : List Frm} {f : Frm} {G : Int → Prop} (h : Hp R L M) [q : RowAt (some ⟨bs, 0, none⟩) L Frm frmE 234 c l L'] (hi : l[j]? = some f) (g : G f.fn) : exI (M.ld ⟨bs, j * 11, none⟩) .i64 G := by
  refine v_exI (Src.at (h.src (A := some ⟨bs, 0, none⟩)) h (i := j) (j := 0) hi rfl ?_) g
  show _ = 0 + (j * 11 + 0); omega
theorem w_trap {n : Int} {v : Value} {Q : HP} (h : Hp R (objP (worldR pa p gg dr) b x :: Q :: L) M) (k : ∀ M', Hp R (objP (worldR pa p gg dr) b { x with end_ := 2, code := n } :: L) M' → K v M') :
    leaveK Tryz.prog 119 (.pointer (some ⟨b, 0, none⟩)) K Kp v (.panicking (trapV n)) M := by
  refine leave_trap ?_
  have h' := world_open h (b := b)
  clear h
  obtain ⟨a, hl, h⟩ := h'
  repeat (first | (refine s_nwc h ?_; clear h; intro kb M h) | (refine s_stc h ?_; clear h; intro M h) | refine t_exI h ?_ | refine t_exB h ?_ | refine t_exS h ?_ | refine t_exP h ?_ | refine t_exSl h ?_ | refine t_exV h ?_ | refine u_exI ?_ | refine u_exB ?_ | refine u_exS ?_ | refine u_exP ?_ | refine u_exSl ?_ | refine u_exV ?_ | refine u_nilc ?_ | (apply Exists.intro; (repeat apply Exists.intro); refine And.intro rfl ?_) | (refine And.intro ?_ ?_; first | exact trivial | exact rfl | exact t_ld h | (refine lds_s (t_ld h) ?_; (repeat (refine lds_s (t_ld h) ?_)); exact lds_nil) | omega) | refine u_bspT ?_ | refine u_bspF ?_)
  exact k _ (world_mk (a := a) (x := { x with end_ := 2, code := n }) hl (h.sub (by repeat (first | exact .refl | refine .cons (by repeat (first | exact .here | apply Pick.there)) ?_ | apply Sub.drop))))
theorem do_rest {k : Nat} {bw : Nat} (h : Hp R L M) [o : PtAt k L [.int .i64 i.op, .int .i64 i.a, .int .i64 i.b, .int .i64 i.c] 34 L'] (g : K (.bool (i.op == 12 || i.op == 17)) M) :
    exI (M.ld ⟨k, 0, none⟩) .i64 fun n => bsp (n == 12) (leaveK Tryz.prog 119 (.pointer (some ⟨bw, 0, none⟩)) K Kp (.bool true) .returning M)
      (exI (M.ld ⟨k, 0, none⟩) .i64 fun n => leaveK Tryz.prog 119 (.pointer (some ⟨bw, 0, none⟩)) K Kp (.bool (n == 17)) .returning M) := by
  have hp := h.pick o.pick
  refine t_exI hp ?_
  refine bsp_eq.2 ⟨fun e => ?_, fun e => ?_⟩
  · rw [e] at g; exact leave_ok g
  · refine t_exI hp ?_
    have : (i.op == 12) = false := by simpa using e
    rw [this, Bool.false_or] at g
    exact leave_ok g
/-- How the next instruction ends. -/
def DoEnd (R : Mem) (pa : PA) (p : Prg) (dr : Value) (b : Nat) (L2 : List HP) (K : Value → Mem → Prop) (Kp : List PanicEntry → Mem → Prop) (r : Out Wd) (rest : Bool) : Prop := match r with
  | .dry l y => ∀ gg' M', Hp R (objP (worldR pa p gg' dr) b y :: L2) M' → leaveK Tryz.prog 119 (.pointer (some ⟨b, 0, none⟩)) K Kp (.bool false) (.panicking l) M'
  | .on y => ∀ gg' M', Hp R (objP (worldR pa p gg' dr) b y :: L2) M' → K (.bool rest) M'
  | .trap n y => ∀ gg' M', Hp R (objP (worldR pa p gg' dr) b { y with end_ := 2, code := n } :: L2) M' → K (.bool rest) M'
theorem world_do {code : List Ins} {r : Out Wd} {rest : Bool} (h : Hp R L M) [o : WAt b L pa p gg dr x L'] (hp : PrgR R pa p) (hg : gorOk x g) (hfn : 0 ≤ (gorAt x g).top.fn) (hcode : p.funcs[(gorAt x g).top.fn.toNat]? = some code)
    (hpc : 0 ≤ (gorAt x g).top.pc ∧ (gorAt x g).top.pc < 1000000000) (hs : Step R pa p dr x g code r rest L' L2)
    (k : DoEnd R pa p dr b L2 K Kp r rest) : ACalls Tryz.prog 88 #[.pointer (some ⟨b, 0, none⟩), .int .i64 g] M K Kp := by
  refine vc_world_World_do ?_
  have hg' := hg
  obtain ⟨h0, h1, h2, h3⟩ := hg'
  have h' := world_at h (b := b) h0 h1
  clear h
  obtain ⟨a, gb, A, c, hl, hgb, hgg, h⟩ := h'
  have hl' := hl
  obtain ⟨l1, l2, l3, l4⟩ := hl'
  obtain ⟨bs, rfl⟩ := h.row_some (A := A) h2 (by decide)
  have hcl : ∀ {M : Mem}, Hp R (pt gb (gorCells (gorAt x g) (some ⟨bs, 0, none⟩) c) 182 :: rowF (some ⟨bs, 0, none⟩) c (gorAt x g).fs :: pt b (wCells pa p dr a x) 164 :: objsX gorR a.gb (x.gs.zip gg) g.toNat :: wRest a x L') M → Hp R (objP (worldR pa p gg dr) b x :: L') M := by
    intro M h
    replace h := world_in h gb hl hgb hgg
    have hl2 := lens_put (y := gorAt x g) (g := g) hl
    replace h := world_close (a := a) (p := p) (pa := pa) (dr := dr) (gg := gg) (x := x.putG g (gorAt x g)) hl2 h b
    rwa [sx h0 h1] at h
  repeat (first | (refine s_nwc h ?_; clear h; intro kb M h) | (refine s_stc h ?_; clear h; intro M h) | refine t_exI h ?_ | refine t_exB h ?_ | refine t_exS h ?_ | refine t_exP h ?_ | refine t_exSl h ?_ | refine t_exV h ?_ | refine u_exI ?_ | refine u_exB ?_ | refine u_exS ?_ | refine u_exP ?_ | refine u_exSl ?_ | refine u_exV ?_ | refine u_nilc ?_ | (apply Exists.intro; (repeat apply Exists.intro); refine And.intro rfl ?_) | (refine And.intro ?_ ?_; first | exact trivial | exact rfl | exact t_ld h | (refine lds_s (t_ld h) ?_; (repeat (refine lds_s (t_ld h) ?_)); exact lds_nil) | omega) | refine u_bspT ?_ | refine u_bspF ?_)
  refine w_g h hgb fun q hq => ?_
  repeat (first | (refine s_nwc h ?_; clear h; intro kb M h) | (refine s_stc h ?_; clear h; intro M h) | refine t_exI h ?_ | refine t_exB h ?_ | refine t_exS h ?_ | refine t_exP h ?_ | refine t_exSl h ?_ | refine t_exV h ?_ | refine u_exI ?_ | refine u_exB ?_ | refine u_exS ?_ | refine u_exP ?_ | refine u_exSl ?_ | refine u_exV ?_ | refine u_nilc ?_ | (apply Exists.intro; (repeat apply Exists.intro); refine And.intro rfl ?_) | (refine And.intro ?_ ?_; first | exact trivial | exact rfl | exact t_ld h | (refine lds_s (t_ld h) ?_; (repeat (refine lds_s (t_ld h) ?_)); exact lds_nil) | omega) | refine u_bspT ?_ | refine u_bspF ?_)
  refine frame_Top h2 (by omega) ?_
  repeat (first | (refine s_nwc h ?_; clear h; intro kb M h) | (refine s_stc h ?_; clear h; intro M h) | refine t_exI h ?_ | refine t_exB h ?_ | refine t_exS h ?_ | refine t_exP h ?_ | refine t_exSl h ?_ | refine t_exV h ?_ | refine u_exI ?_ | refine u_exB ?_ | refine u_exS ?_ | refine u_exP ?_ | refine u_exSl ?_ | refine u_exV ?_ | refine u_nilc ?_ | (apply Exists.intro; (repeat apply Exists.intro); refine And.intro rfl ?_) | (refine And.intro ?_ ?_; first | exact trivial | exact rfl | exact t_ld h | (refine lds_s (t_ld h) ?_; (repeat (refine lds_s (t_ld h) ?_)); exact lds_nil) | omega) | refine u_bspT ?_ | refine u_bspF ?_)
  refine f_ldFn h (gor_top h2) ?_
  obtain ⟨ts, hts, htl, hrow⟩ := hp.funcs
  have hfl := (List.getElem?_eq_some_iff.1 hcode).1
  obtain ⟨t, ht⟩ := idx_ex (l := ts) (i := (gorAt x g).top.fn.toNat) (by omega)
  obtain ⟨hr1, hr2⟩ := hrow _ t code ht hcode
  obtain ⟨tA, tn, tc⟩ := t
  dsimp only at hr1 hr2
  subst hr2
  refine ⟨hfn, by omega, ?_⟩
  obtain ⟨fb, fo, hfb⟩ := hts.some (by omega) (by decide)
  rw [hfb] at hts ⊢
  refine u_nilc ?_
  refine v_exSl (Src.at (hts.src (L := _)) h (i := (gorAt x g).top.fn.toNat) (j := 0) ht rfl (by simp [slE])) ?_
  dsimp only
  refine u_nilc ?_
  refine f_ldPc h (gor_top h2) rfl ?_
  refine bsp_dec.2 ⟨fun hge => ?_, fun hlt => ?_⟩
  · cases hs with
    | out _ =>
      have h5 : Hp R (objP (worldR pa p gg dr) b x :: fact True :: L') M := (Hp.fact_iff.2 ⟨trivial, hcl h⟩).swap
      exact w_trap h5 fun M' h' => k gg M' h'
    | pure i hi => have := (List.getElem?_eq_some_iff.1 hi).1; omega
    | sel i hi => have := (List.getElem?_eq_some_iff.1 hi).1; omega
    | rnd i hi => have := (List.getElem?_eq_some_iff.1 hi).1; omega
    | dflt i fn hi => have := (List.getElem?_eq_some_iff.1 hi).1; omega
  refine u_nilc ?_
  refine f_ldPc h (gor_top h2) rfl ?_
  refine ⟨hpc.1, by omega, ?_⟩
  obtain ⟨i, hi⟩ := idx_ex (l := code) (i := (gorAt x g).top.pc.toNat) (by omega)
  obtain ⟨ib, io, rfl⟩ := hr1.some (by omega) (by decide)
  refine u_nilc ?_
  refine v_exI (Src.at (hr1.src (L := _)) h (i := (gorAt x g).top.pc.toNat) (j := 0) hi rfl (by simp [insE])) ?_
  refine v_exI (Src.at (hr1.src (L := _)) h (i := (gorAt x g).top.pc.toNat) (j := 1) hi rfl (by show _ = io + (_ * 4 + 1); omega)) ?_
  refine v_exI (Src.at (hr1.src (L := _)) h (i := (gorAt x g).top.pc.toNat) (j := 2) hi rfl (by show _ = io + (_ * 4 + 2); omega)) ?_
  refine v_exI (Src.at (hr1.src (L := _)) h (i := (gorAt x g).top.pc.toNat) (j := 3) hi rfl (by show _ = io + (_ * 4 + 3); omega)) ?_
  have hpure : i.okPure ∧ 0 ≤ i.op ∨ 8 < i.op := by
    cases hs with
    | out h => omega
    | pure j hj a1 a2 a3 => rw [hi] at hj; cases hj; exact .inl ⟨a3, a1⟩
    | sel j hj a1 => rw [hi] at hj; cases hj; exact .inr (by omega)
    | rnd j hj a1 => rw [hi] at hj; cases hj; exact .inr (by omega)
    | dflt j fn hj a1 => rw [hi] at hj; cases hj; exact .inr a1
  have hok : i.okPure ∧ 0 ≤ i.op := by
    rcases hpure with h | h
    · exact h
    · exact ⟨⟨fun h => by simp at h; omega, fun h => by omega, fun h => by simp at h; omega⟩, by omega⟩
  refine s_nwc h ?_
  clear h; intro ki M h
  refine s_stc h ?_
  clear h; intro M h
  refine s_stc h ?_
  clear h; intro M h
  refine s_stc h ?_
  clear h; intro M h
  refine s_stc h ?_
  clear h; intro M h
  refine t_exI h (t_exI h (t_exI h (t_exI h ?_)))
  refine frame_Pure h (gor_top h2) hok.1 hok.2 hpc ?_ ?_
  · intro h8 M' h'
    clear h
    have h := h'
    clear h'
    refine u_exB (u_bspT ?_)
    cases hs with
    | out h => omega
    | sel j hj a1 => rw [hi] at hj; cases hj; omega
    | rnd j hj a1 => rw [hi] at hj; cases hj; omega
    | dflt j fn hj a1 => rw [hi] at hj; cases hj; omega
    | pure j hj a1 a2 a3 =>
      rw [hi] at hj; cases hj
      replace h := world_in h gb hl hgb hgg (by simp)
      have hl2 := lens_put (y := (gorAt x g).putTop ((gorAt x g).top.next.pure i)) (g := g) hl
      have h5 := world_close (a := a) (p := p) (pa := pa) (dr := dr) (gg := gg) (x := x.putG g ((gorAt x g).putTop ((gorAt x g).top.next.pure i))) hl2 h b
      refine do_rest h5 ?_
      have e1 : (i.op == 12) = false := by simp; omega
      have e2 : (i.op == 17) = false := by simp; omega
      rw [e1, e2]
      exact k gg _ h5.fin1
  · intro h8 M' h'
    clear h
    have h := h'
    clear h'
    refine u_exB (u_bspF ?_)
    refine t_exI h ?_
    refine bsp_eq.2 ⟨fun e16 => ?_, fun e16 => ?_⟩
    · refine t_exI h (t_exI h (t_exI h (t_exI h ?_)))
      cases hs with
      | out h => omega
      | pure j hj a1 a2 a3 => rw [hi] at hj; cases hj; omega
      | dflt j fn hj a1 a2 => rw [hi] at hj; cases hj; omega
      | rnd j hj a1 => rw [hi] at hj; cases hj; omega
      | sel j hj a1 hop =>
        rw [hi] at hj; cases hj
        replace h := world_in h gb hl hgb hgg
        have hl2 := lens_put (y := gorAt x g) (g := g) hl
        replace h := world_close (a := a) (p := p) (pa := pa) (dr := dr) (gg := gg) (x := x.putG g (gorAt x g)) hl2 h b
        rw [sx h0 h1] at h
        refine hop gg b bs c M' _ _ _ h hgg ?_
        cases r with
        | on y =>
          intro gg' M2 h
          refine ⟨rfl, do_rest h ?_⟩
          have e1 : (i.op == 12) = false := by simp; omega
          have e2 : (i.op == 17) = false := by simp; omega
          rw [e1, e2]
          exact k gg' _ h.fin1
        | trap n y =>
          intro gg' M2 h
          exact w_trap h fun M3 h3 => k gg' M3 h3
        | dry l y =>
          intro gg' M2 h
          exact k gg' M2 h.fin1
    · refine t_exI h ?_
      refine bsp_eq.2 ⟨fun e21 => ?_, fun e21 => ?_⟩
      · refine t_exI h (t_exI h (t_exI h (t_exI h ?_)))
        cases hs with
        | out h => omega
        | pure j hj a1 a2 a3 => rw [hi] at hj; cases hj; omega
        | sel j hj a1 => rw [hi] at hj; cases hj; omega
        | dflt j fn hj a1 a2 a3 => rw [hi] at hj; cases hj; omega
        | rnd j hj a1 hop =>
          rw [hi] at hj; cases hj
          replace h := world_in h gb hl hgb hgg
          have hl2 := lens_put (y := gorAt x g) (g := g) hl
          replace h := world_close (a := a) (p := p) (pa := pa) (dr := dr) (gg := gg) (x := x.putG g (gorAt x g)) hl2 h b
          rw [sx h0 h1] at h
          refine hop gg b bs c M' _ _ _ h hgg ?_
          cases r with
          | on y =>
            intro gg' M2 h
            refine ⟨rfl, do_rest h ?_⟩
            have e1 : (i.op == 12) = false := by simp; omega
            have e2 : (i.op == 17) = false := by simp; omega
            rw [e1, e2]
            exact k gg' _ h.fin1
          | trap n y =>
            intro gg' M2 h
            exact w_trap h fun M3 h3 => k gg' M3 h3
          | dry l y =>
            intro gg' M2 h
            exact k gg' M2 h.fin1
      cases hs with
      | out h => omega
      | pure j hj a1 a2 a3 => rw [hi] at hj; cases hj; omega
      | sel j hj a1 => rw [hi] at hj; cases hj; omega
      | rnd j hj a1 => rw [hi] at hj; cases hj; omega
      | dflt j fn hj a1 a2 a3 hf hn hop =>
        rw [hi] at hj; cases hj
        refine u_nilc ?_
        refine f_ldPc h (gor_top h2) rfl ?_
        refine u_nilc ?_
        rw [wrap_succ' hpc.1 (by omega)]
        refine f_stPc h (gor_top h2) rfl ?_
        clear h; intro M h
        refine t_exI h (t_exI h (t_exI h (t_exI h (t_exI h ?_))))
        refine world_table h ?_
        clear h; intro mp M h
        refine ⟨lds_s (t_ld h) (lds_s (t_ld h) (lds_s (t_ld h) (lds_s (t_ld h) lds_nil))), t_ld h, ?_⟩
        have hu : Tryz.prog.underlying 261 = some (.map 32 260) := by kernel_rfl
        have hkk : Tryz.prog.underlying 32 = some (.int .i64) := by kernel_rfl
        obtain ⟨ti, hti, htz⟩ : ∃ ti, Tryz.prog.info? 260 = some ti ∧ ti.zero = some .nilFunc := ⟨_, rfl, rfl⟩
        refine s_lookup h hu hkk hti htz ?_
        rw [hf]
        refine ⟨lds_s (t_ld h) (lds_s (t_ld h) (lds_s (t_ld h) (lds_s (t_ld h) lds_nil))), t_ld h, ?_⟩
        refine callK_fn hn ?_
        replace h := world_in h gb hl hgb hgg (by simp)
        have hl2 := lens_put (y := (gorAt x g).putTop (gorAt x g).top.next) (g := g) hl
        have h5 := world_close (a := a) (p := p) (pa := pa) (dr := dr) (gg := gg) (x := x.next g) hl2 h b
        have h6 : Hp R (objP (worldR pa p gg dr) b (x.next g) :: pt ki [.int .i64 i.op, .int .i64 i.a, .int .i64 i.b, .int .i64 i.c] 34 :: L') M := h5.sub (by repeat (first | exact .refl | refine .cons (by repeat (first | exact .here | apply Pick.there)) ?_ | apply Sub.drop))
        clear h h5
        have hfl : (gorAt (x.next g) g).fs.length = (gorAt x g).fs.length := by
          unfold Wd.next; rw [gorAt_put h0 h1]; simp [Gor.putTop]
        have hc := hop gg b bs c M (fun v90 M91 => (v90 = (.tuple #[])) ∧ ((Mem.lds M91 ⟨ki, 0, none⟩ 0 4) = some [(.int .i64 i.op), (.int .i64 i.a), (.int .i64 i.b), (.int .i64 i.c)]) ∧ ((Mem.ld M91 ⟨ki, 0, none⟩) = (some (.int .i64 i.op))) ∧
          exI (M91.ld ⟨ki, 0, none⟩) .i64 fun n => bsp (n == 12) (leaveK Tryz.prog 119 (.pointer (some ⟨b, 0, none⟩)) K Kp (.bool true) .returning M91)
            (exI (M91.ld ⟨ki, 0, none⟩) .i64 fun n => leaveK Tryz.prog 119 (.pointer (some ⟨b, 0, none⟩)) K Kp (.bool (n == 17)) .returning M91))
          (fun l M => leaveK Tryz.prog 119 (.pointer (some ⟨b, 0, none⟩)) K Kp (.bool false) (.panicking l) M) _ h6 hgg ?_
        · rw [hfl] at hc
          exact hc
        cases r with
        | on y =>
          intro gg' M2 h
          exact ⟨rfl, lds_s (t_ld h) (lds_s (t_ld h) (lds_s (t_ld h) (lds_s (t_ld h) lds_nil))), t_ld h, do_rest h (k gg' _ h.fin1)⟩
        | trap n y =>
          intro gg' M2 h
          exact w_trap h fun M3 h3 => k gg' M3 h3
        | dry l y =>
          intro gg' M2 h
          exact k gg' M2 h.fin1
end
end Go.Proofs

namespace Go.Proofs
open Go.AF
set_option linter.unusedVariables false
set_option maxRecDepth 100000
set_option maxHeartbeats 1000000
attribute [local irreducible] exI exB exS exP exSl exV nilc stc nwc semK semU bsp
abbrev wCellsI (pa : PA) (p : Prg) (dr : Value) (a : WA) (x : Wd) (n : Nat) : List Value :=
  [.slice pa.f p.funcs.length pa.fc, .slice pa.c p.chs.length pa.cc, .int .i64 p.locks, .slice pa.k p.cases.length pa.kc, .slice a.ag a.gb.length a.cg, .int .u64 x.clock,
   .slice a.ac a.cb.length a.cc, .slice a.al a.lb.length a.cl, .slice a.ah x.hl.length a.ch, .int .u64 x.hseq, .slice a.ao x.out.length a.co, .int .i64 x.end_, .int .i64 x.code, .slice a.ar n a.cr, dr]
abbrev wRestI (a : WA) (x : Wd) (L : List HP) : List HP :=
  rowPG a.ag a.cg a.gb :: rowPC a.ac a.cc a.cb :: objsP chanR a.cb x.chans :: rowPL a.al a.cl a.lb :: objsP lockR a.lb x.locks :: rowH a.ah a.ch x.hl :: rowB a.ao a.co x.out :: L
/-- A world stands at b, while nothing goes on in it. -/
def idleR (pa : PA) (p : Prg) : Rep Wd := ⟨fun b x => exs fun q : WA × List GA × Value × Nat =>
  sep (pt b (wCellsI pa p q.2.2.1 q.1 x q.2.2.2) 164 :: objsP gorR q.1.gb (x.gs.zip q.2.1) :: fact (wLens q.2.1 q.1 x) :: wRestI q.1 x [])⟩
section
variable {R : Mem} {L L' L2 : List HP} {M : Mem} {K : Value → Mem → Prop} {Kp : List PanicEntry → Mem → Prop} {pa : PA} {p : Prg} {gg : List GA} {dr : Value} {b : Nat} {x : Wd} {g : Int}
class IAt (b : Nat) (L : List HP) (pa : outParam PA) (p : outParam Prg) (x : outParam Wd) (L' : outParam (List HP)) : Prop where
  pick : Pick L (objP (idleR pa p) b x) L'
instance IAt.here : IAt b (objP (idleR pa p) b x :: L) pa p x L := ⟨.here⟩
instance (priority := low) IAt.there {Q : HP} [h : IAt b L pa p x L'] : IAt b (Q :: L) pa p x (Q :: L') := ⟨.there h.pick⟩
theorem idle_open (h : Hp R L M) [o : IAt b L pa p x L'] : ∃ (a : WA) (gg : List GA) (dr : Value) (n : Nat), wLens gg a x ∧ Hp R (pt b (wCellsI pa p dr a x n) 164 :: objsP gorR a.gb (x.gs.zip gg) :: wRestI a x L') M := by
  have := h.pick o.pick
  unfold objP at this
  simp only [idleR, wRestI, Hp.ex_iff, Hp.sep_iff, List.cons_append, List.nil_append] at this
  obtain ⟨⟨a, gg, dr, n⟩, h⟩ := this
  have h2 := h.pick (P := fact (wLens gg a x)) (.there (.there .here))
  exact ⟨a, gg, dr, n, (Hp.fact_iff.1 h2).1, (Hp.fact_iff.1 h2).2⟩
theorem idle_mk {a : WA} {n : Nat} (hl : wLens gg a x) (h : Hp R (pt b (wCellsI pa p dr a x n) 164 :: objsP gorR a.gb (x.gs.zip gg) :: wRestI a x L) M) : Hp R (objP (idleR pa p) b x :: L) M := by
  refine Hp.objI ?_
  simp only [idleR, wRestI, Hp.ex_iff, Hp.sep_iff, List.cons_append, List.nil_append]
  refine ⟨(a, gg, dr, n), ?_⟩
  have h2 : Hp R (fact (wLens gg a x) :: pt b (wCellsI pa p dr a x n) 164 :: objsP gorR a.gb (x.gs.zip gg) :: wRestI a x L) M := Hp.fact_iff.2 ⟨hl, h⟩
  exact h2.unpick (.there (.there .here))
/-- Who could go on: is kept. -/
def keepOf (x : Wd) (g : Int) (rest : Bool) : Bool := !rest && x.end_ == 0 && (gorAt x g).st == 1
/-- What the panic of a draw becomes behind the deferred call. -/
def DryOk (l l' : List PanicEntry) : Prop := ∀ (b : Nat) (v : Value) (M : Mem) (K : Value → Mem → Prop) (Kp : List PanicEntry → Mem → Prop), Kp l' M → leaveK Tryz.prog 119 (.pointer (some ⟨b, 0, none⟩)) K Kp v (.panicking l) M
/-- How an instruction's call ends. -/
def ExecEnd (R : Mem) (pa : PA) (p : Prg) (b : Nat) (g : Int) (L2 : List HP) (K : Value → Mem → Prop) (Kp : List PanicEntry → Mem → Prop) (r : Out Wd) (rest : Bool) : Prop := match r with
  | .dry l y => ∃ l', DryOk l l' ∧ ∀ M', Hp R (objP (idleR pa p) b y :: L2) M' → Kp l' M'
  | .on y => ∀ R' A c M', R.le R' → RS intE R' A c y.ready → Hp R' (objP (idleR pa p) b y :: L2) M' → K (.agg #[.bool (keepOf y g rest), .slice A y.ready.length c]) M'
  | .trap n y => ∀ R' A c M', R.le R' → RS intE R' A c y.ready → Hp R' (objP (idleR pa p) b { y with end_ := 2, code := n } :: L2) M' → K (.agg #[.bool (keepOf { y with end_ := 2, code := n } g rest), .slice A y.ready.length c]) M'
theorem DoEnd.of {r : Out Wd} {rest : Bool} (hd : ¬ ∃ l y, r = .dry l y) (k : ∀ gg' M', Hp R (objP (worldR pa p gg' dr) b r.fin :: L2) M' → K (.bool rest) M') : DoEnd R pa p dr b L2 K Kp r rest := by
  cases r with
  | on y => exact k
  | trap n y => exact k
  | dry l y => exact absurd ⟨l, y, rfl⟩ hd
theorem ExecEnd.get {r : Out Wd} {rest : Bool} (hd : ¬ ∃ l y, r = .dry l y) (k : ExecEnd R pa p b g L2 K Kp r rest) :
    ∀ R' A c M', R.le R' → RS intE R' A c r.fin.ready → Hp R' (objP (idleR pa p) b r.fin :: L2) M' → K (.agg #[.bool (keepOf r.fin g rest), .slice A r.fin.ready.length c]) M' := by
  cases r with
  | on y => exact k
  | trap n y => exact k
  | dry l y => exact absurd ⟨l, y, rfl⟩ hd
theorem world_Exec {code : List Ins} {r : Out Wd} {rest : Bool} (h : Hp R L M) [o : IAt b L pa p x L'] (hp : PrgR R pa p) (hg : gorOk x g) (he : x.end_ = 0) (hst : (gorAt x g).st = 1)
    (hfn : 0 ≤ (gorAt x g).top.fn) (hcode : p.funcs[(gorAt x g).top.fn.toNat]? = some code)
    (hpc : 0 ≤ (gorAt x g).top.pc ∧ (gorAt x g).top.pc < 1000000000) (hdr : ∃ f c d, dr = .func f c d) (hs : ∀ Q, Step R pa p dr { x with ready := [] } g code r rest (Q :: L') (Q :: L2)) (hlen : g < r.fin.gs.length)
    (k : ExecEnd R pa p b g L2 K Kp r rest) :
    ACalls Tryz.prog 41 #[.pointer (some ⟨b, 0, none⟩), .int .i64 g, dr] M K Kp := by
  refine vc_world_World_Exec ?_
  have hg' := hg
  obtain ⟨h0, h1, h2, h3⟩ := hg'
  refine s_nwc h ?_
  clear h
  intro kb M h
  have h' := idle_open h (b := b)
  clear h
  obtain ⟨a, gg, dr0, n0, hl, h⟩ := h'
  have hl' := hl
  obtain ⟨l1, l2, l3, l4⟩ := hl'
  refine bsp_dec.2 ⟨fun hn => by omega, fun _ => ?_⟩
  refine t_exSl h ?_
  refine bsp_dec.2 ⟨fun hn => by omega, fun _ => ?_⟩
  refine t_exI h ?_
  refine bsp_ne.2 ⟨fun hn => absurd he hn, fun _ => ?_⟩
  refine t_exSl h ?_
  refine ⟨h0, by omega, ?_⟩
  obtain ⟨gb, hgb⟩ := idx_ex (l := a.gb) (i := g.toNat) (by omega)
  refine w_g h hgb fun q hq => ?_
  obtain ⟨ga, hga⟩ := idx_ex (l := gg) (i := g.toNat) (by omega)
  obtain ⟨y, hy⟩ := idx_ex (l := x.gs) (i := g.toNat) (by omega)
  have ey : gorAt x g = y := by simp [gorAt, hy]
  rw [ey] at hst
  refine u_nilc ?_
  have hld : M.ld ⟨gb, 0, none⟩ = some (.int .i64 y.st) := by
    have h9 := gor_open (b := gb) (h.objs_out gorR hgb (zip_atL hy hga))
    exact t_ld h9
  rw [hld]
  refine u_exI ?_
  refine bsp_ne.2 ⟨fun hn => absurd hst hn, fun _ => ?_⟩
  refine s_stc h ?_
  clear h hld; intro M h
  have hpc2 : ∀ X : Prop, X → pcell dr X := by
    obtain ⟨f, c, d, rfl⟩ := hdr
    intro X hX; exact hX
  refine hpc2 _ ?_
  refine s_stc h ?_
  clear h; intro M h
  have h4 := h.row_nil intE 3
  have h5 : Hp R (objP (worldR pa p gg dr) b { x with ready := [] } :: pt kb [.bool false, .slice none 0 0] 120 :: L') M := world_mk (a := { a with ar := none, cr := 0 }) (x := { x with ready := [] }) hl (h4.sub (by repeat (first | exact .refl | refine .cons (by repeat (first | exact .here | apply Pick.there)) ?_ | apply Sub.drop)))
  clear h h4
  by_cases hdry : ∃ l y, r = .dry l y
  · obtain ⟨l, y, rfl⟩ := hdry
    refine world_do (b := b) (x := { x with ready := [] }) h5 hp hg hfn hcode hpc (hs _) ?_
    clear h5
    intro gg' M h
    obtain ⟨l', hdr2, k⟩ := k
    refine hdr2 _ _ _ _ _ (k _ ?_)
    have h' := world_open h (b := b)
    clear h
    obtain ⟨a2, hl2, h⟩ := h'
    exact idle_mk (a := a2) (n := y.ready.length) (gg := gg') (dr := dr) hl2 (h.sub (by repeat (first | exact .refl | refine .cons (by repeat (first | exact .here | apply Pick.there)) ?_ | apply Sub.drop)))
  refine world_do (b := b) (x := { x with ready := [] }) h5 hp hg hfn hcode hpc (hs _) (.of hdry ?_)
  clear h5
  intro gg' M h
  replace k := ExecEnd.get hdry k
  generalize r.fin = z at h k hlen
  have h' := world_open h (b := b)
  clear h
  obtain ⟨a2, hl2, h⟩ := h'
  have hl2' := hl2
  obtain ⟨m1, m2, m3, m4⟩ := hl2'
  have fin : ∀ t : Bool, t = keepOf z g rest → stc M ⟨kb, 0, none⟩ (.bool t) fun M58 =>
        stc M58 ⟨kb, (0 + 1), none⟩ (.slice a2.ar z.ready.length a2.cr) fun M59 =>
        exB (Mem.ld M59 ⟨kb, 0, none⟩) fun t60 =>
        exSl (Mem.ld M59 ⟨kb, (0 + 1), none⟩) fun A61 k62 k63 =>
        K (.agg #[(.bool t60), (.slice A61 k62 k63)]) M59 := by
    intro t ht
    refine s_stc h ?_
    clear h; intro M h
    refine s_stc h ?_
    clear h; intro M h
    refine t_exB h (t_exSl h ?_)
    obtain ⟨R', hle, hrs, h6⟩ := h.sealRow a2.ar
    subst ht
    exact k R' _ _ _ hle hrs (idle_mk (a := a2) (n := z.ready.length) (gg := gg') (dr := dr) hl2 (h6.sub (by repeat (first | exact .refl | refine .cons (by repeat (first | exact .here | apply Pick.there)) ?_ | apply Sub.drop))))
  refine u_exB ?_
  cases rest with
  | true =>
    refine u_bspF ?_
    refine t_exSl h ?_
    exact fin false (by simp [keepOf])
  | false =>
    refine u_bspT ?_
    refine t_exI h ?_
    refine bsp_eq.2 ⟨fun e0 => ?_, fun e0 => ?_⟩
    · refine t_exSl h ?_
      refine ⟨h0, by omega, ?_⟩
      obtain ⟨gb2, hgb2⟩ := idx_ex (l := a2.gb) (i := g.toNat) (by omega)
      refine w_g h hgb2 fun q2 hq2 => ?_
      obtain ⟨ga2, hga2⟩ := idx_ex (l := gg') (i := g.toNat) (by omega)
      obtain ⟨y2, hy2⟩ := idx_ex (l := z.gs) (i := g.toNat) (by omega)
      have ey2 : gorAt z g = y2 := by simp [gorAt, hy2]
      refine u_nilc ?_
      have hld : M.ld ⟨gb2, 0, none⟩ = some (.int .i64 y2.st) := by
        have h9 := gor_open (b := gb2) (h.objs_out gorR hgb2 (zip_atL hy2 hga2))
        exact t_ld h9
      rw [hld]
      refine u_exI ?_
      refine t_exSl h ?_
      exact fin (y2.st == 1) (by simp [keepOf, e0, ey2])
    · refine t_exSl h ?_
      have : (z.end_ == 0) = false := by simpa using e0
      exact fin false (by simp [keepOf, this])
end
end Go.Proofs

namespace Go.Proofs
open Go.AF
set_option linter.unusedVariables false
set_option maxRecDepth 100000
set_option maxHeartbeats 1000000
attribute [local irreducible] exI exB exS exP exSl exV nilc stc nwc semK semU bsp
section
variable {R : Mem} {L L' L2 : List HP} {M : Mem} {K : Value → Mem → Prop} {Kp : List PanicEntry → Mem → Prop} {pa : PA} {p : Prg} {gg : List GA} {dr : Value} {b : Nat} {x : Wd} {g : Int}
theorem world_End (h : Hp R L M) [o : IAt b L pa p x L'] (k : K (.tuple #[.int .i64 x.end_, .int .i64 x.code]) M) : ACalls Tryz.prog 60 #[.pointer (some ⟨b, 0, none⟩)] M K Kp := by
  refine vc_world_World_End ?_
  have h' := idle_open h (b := b)
  clear h
  obtain ⟨a, gg, dr, n, hl, h⟩ := h'
  refine t_exI h (t_exI h ?_)
  exact k
theorem world_Status (h : Hp R L M) [o : IAt b L pa p x L'] (h0 : 0 ≤ g) (h1 : g < x.gs.length) (k : K (.int .i64 (gorAt x g).st) M) : ACalls Tryz.prog 65 #[.pointer (some ⟨b, 0, none⟩), .int .i64 g] M K Kp := by
  refine vc_world_World_Status ?_
  have h' := idle_open h (b := b)
  clear h
  obtain ⟨a, gg, dr, n, hl, h⟩ := h'
  have hl' := hl
  obtain ⟨l1, l2, l3, l4⟩ := hl'
  refine bsp_dec.2 ⟨fun hn => by omega, fun _ => ?_⟩
  refine t_exSl h ?_
  refine bsp_dec.2 ⟨fun hn => by omega, fun _ => ?_⟩
  refine t_exSl h ?_
  refine ⟨h0, by omega, ?_⟩
  obtain ⟨gb, hgb⟩ := idx_ex (l := a.gb) (i := g.toNat) (by omega)
  refine w_g h hgb fun q hq => ?_
  obtain ⟨ga, hga⟩ := idx_ex (l := gg) (i := g.toNat) (by omega)
  obtain ⟨y, hy⟩ := idx_ex (l := x.gs) (i := g.toNat) (by omega)
  have ey : gorAt x g = y := by simp [gorAt, hy]
  rw [ey] at k
  refine u_nilc ?_
  have hld : M.ld ⟨gb, 0, none⟩ = some (.int .i64 y.st) := by
    have h9 := gor_open (b := gb) (h.objs_out gorR hgb (zip_atL hy hga))
    exact t_ld h9
  rw [hld]
  exact u_exI k
end
end Go.Proofs

namespace Go.Proofs
open Go.AF
set_option linter.unusedVariables false
set_option maxRecDepth 100000
set_option maxHeartbeats 1000000
attribute [local irreducible] exI exB exS exP exSl exV nilc stc nwc semK semU bsp
def Wd.new (p : Prg) : Wd := ⟨[⟨1, [Frm.begin 0 0], .zero⟩], 0, p.chs.map Chan.new, List.replicate p.locks.toNat ⟨-1, []⟩, [], 0, [], 0, 0, []⟩
theorem el_pc : ElemOk Tryz.prog 159 183 1 8 [.pointer none] := ElemOk.mk' (zv := .pointer none) (by kernel_rfl) (by kernel_rfl) rfl (by omega)
theorem el_pl : ElemOk Tryz.prog 160 185 1 8 [.pointer none] := ElemOk.mk' (zv := .pointer none) (by kernel_rfl) (by kernel_rfl) rfl (by omega)
section
variable {R : Mem} {L L' L2 : List HP} {M : Mem} {K : Value → Mem → Prop} {Kp : List PanicEntry → Mem → Prop} {pa : PA} {p : Prg} {gg : List GA} {dr : Value} {b : Nat} {x : Wd} {g : Int}
theorem new_ch {j : Nat} {q A' : Nat} {c' : Nat} {v : Int} {a : WA} {n k : Nat} {Ac : Option Addr} {Q : List HP} (hl : wLens gg a x)
    (h : Hp R (pt b (wCellsI pa p dr { a with ac := Ac, cc := c', cb := a.cb ++ [k] } x n) 164 :: rowPC Ac c' (a.cb ++ [k]) :: objP chanR k (Chan.new v) :: objsP chanR a.cb x.chans :: objsP gorR a.gb (x.gs.zip gg) :: rowPG a.ag a.cg a.gb :: rowPL a.al a.cl a.lb :: objsP lockR a.lb x.locks :: rowH a.ah a.ch x.hl :: rowB a.ao a.co x.out :: Q) M) :
    Hp R (objP (idleR pa p) b { x with chans := x.chans ++ [Chan.new v] } :: Q) M := by
  obtain ⟨l1, l2, l3, l4⟩ := hl
  have h2 := h.objs_snoc chanR k l3
  exact idle_mk (a := { a with ac := Ac, cc := c', cb := a.cb ++ [k] }) (gg := gg) (dr := dr) (n := n) (x := { x with chans := x.chans ++ [Chan.new v] }) ⟨l1, l2, by simp [l3], l4⟩ (h2.sub (by repeat (first | exact .refl | refine .cons (by repeat (first | exact .here | apply Pick.there)) ?_ | apply Sub.drop)))
theorem new_lk {c' : Nat} {a : WA} {n k : Nat} {Ac : Option Addr} {Q : List HP} (hl : wLens gg a x)
    (h : Hp R (pt b (wCellsI pa p dr { a with al := Ac, cl := c', lb := a.lb ++ [k] } x n) 164 :: rowPL Ac c' (a.lb ++ [k]) :: objP lockR k ⟨-1, []⟩ :: objsP lockR a.lb x.locks :: objsP gorR a.gb (x.gs.zip gg) :: rowPG a.ag a.cg a.gb :: rowPC a.ac a.cc a.cb :: objsP chanR a.cb x.chans :: rowH a.ah a.ch x.hl :: rowB a.ao a.co x.out :: Q) M) :
    Hp R (objP (idleR pa p) b { x with locks := x.locks ++ [⟨-1, []⟩] } :: Q) M := by
  obtain ⟨l1, l2, l3, l4⟩ := hl
  have h2 := h.objs_snoc lockR k l4
  exact idle_mk (a := { a with al := Ac, cl := c', lb := a.lb ++ [k] }) (gg := gg) (dr := dr) (n := n) (x := { x with locks := x.locks ++ [⟨-1, []⟩] }) ⟨l1, l2, l3, by simp [l4]⟩ (h2.sub (by repeat (first | exact .refl | refine .cons (by repeat (first | exact .here | apply Pick.there)) ?_ | apply Sub.drop)))
theorem world_New (h : Hp R L M) (hch : RS intE R pa.c pa.cc p.chs) (hc : p.chs.length ≤ 1000000) (hk : 0 ≤ p.locks ∧ p.locks ≤ 1000000)
    (k : ∀ b M', Hp R (objP (idleR pa p) b (Wd.new p) :: L) M' → K (.pointer (some ⟨b, 0, none⟩)) M') :
    ACalls Tryz.prog 36 #[.agg #[.slice pa.f p.funcs.length pa.fc, .slice pa.c p.chs.length pa.cc, .int .i64 p.locks, .slice pa.k p.cases.length pa.kc]] M K Kp := by
  refine vc_world_New ?_
  repeat (first | (refine s_nwc h ?_; clear h; intro kb M h) | (refine s_stc h ?_; clear h; intro M h) | refine t_exI h ?_ | refine t_exB h ?_ | refine t_exS h ?_ | refine t_exP h ?_ | refine t_exSl h ?_ | refine t_exV h ?_ | refine u_exI ?_ | refine u_exB ?_ | refine u_exS ?_ | refine u_exP ?_ | refine u_exSl ?_ | refine u_exV ?_ | refine u_nilc ?_ | (apply Exists.intro; (repeat apply Exists.intro); refine And.intro rfl ?_) | (refine And.intro ?_ ?_; first | exact trivial | exact rfl | exact t_ld h | (refine lds_s (t_ld h) ?_; (repeat (refine lds_s (t_ld h) ?_)); exact lds_nil) | omega) | refine u_bspT ?_ | refine u_bspF ?_)
  refine frame_Begin h ?_
  clear h
  intro bs M h
  repeat (first | (refine s_nwc h ?_; clear h; intro kb M h) | (refine s_stc h ?_; clear h; intro M h) | refine t_exI h ?_ | refine t_exB h ?_ | refine t_exS h ?_ | refine t_exP h ?_ | refine t_exSl h ?_ | refine t_exV h ?_ | refine u_exI ?_ | refine u_exB ?_ | refine u_exS ?_ | refine u_exP ?_ | refine u_exSl ?_ | refine u_exV ?_ | refine u_nilc ?_ | (apply Exists.intro; (repeat apply Exists.intro); refine And.intro rfl ?_) | (refine And.intro ?_ ?_; first | exact trivial | exact rfl | exact t_ld h | (refine lds_s (t_ld h) ?_; (repeat (refine lds_s (t_ld h) ?_)); exact lds_nil) | omega) | refine u_bspT ?_ | refine u_bspF ?_)
  rename_i kp _ _ kr _ kw _
  replace h := gor_close h kr
  replace h := (h.objs_nil gorR).objs_snoc gorR kr rfl
  replace h := (h.pt kw).row_pt (E := ptrE) (l := [kr]) rfl
  replace h := (h.row_nil ptrE 183).objs_nil chanR
  replace h := (h.row_nil ptrE 185).objs_nil lockR
  replace h := (h.row_nil itemE 205).row_nil intE 2
  have base : Hp R (objP (idleR pa p) kb { Wd.new p with chans := (p.chs.take 0).map Chan.new, locks := [] } :: pt kp [.slice pa.f p.funcs.length pa.fc, .slice pa.c p.chs.length pa.cc, .int .i64 p.locks, .slice pa.k p.cases.length pa.kc] 41 :: L) _ :=
    idle_mk (a := ⟨some ⟨kw, 0, none⟩, 1, [kr], none, 0, [], none, 0, [], none, 0, none, 0, none, 0⟩) (gg := [(some ⟨bs, 0, none⟩, 1)]) (dr := .nilFunc) (n := 0) (x := { Wd.new p with chans := [], locks := [] }) ⟨rfl, rfl, rfl, rfl⟩ (h.sub (by repeat (first | exact .refl | refine .cons (by repeat (first | exact .here | apply Pick.there)) ?_ | apply Sub.drop)))
  clear h
  refine ⟨fun d vs M => ∃ j : Nat, vs = [.int .i64 (j : Int)] ∧ d = p.chs.length - j ∧ j ≤ p.chs.length ∧ Hp R (objP (idleR pa p) kb { Wd.new p with chans := (p.chs.take j).map Chan.new, locks := [] } :: pt kp [.slice pa.f p.funcs.length pa.fc, .slice pa.c p.chs.length pa.cc, .int .i64 p.locks, .slice pa.k p.cases.length pa.kc] 41 :: L) M,
    ⟨_, 0, rfl, rfl, by omega, base⟩, ?_⟩
  clear base
  rintro d _ nn M ⟨j, he, hd, hj, h⟩
  simp only [List.cons.injEq, Value.int.injEq, and_true, true_and] at he
  subst he
  refine bsp_dec.2 ⟨fun hlt => ?_, fun hge => ?_⟩
  · obtain ⟨v, hv⟩ := idx_ex (l := p.chs) (i := j) (by omega)
    have hsn : (p.chs.take (j + 1)).map Chan.new = (p.chs.take j).map Chan.new ++ [Chan.new v] := by rw [take_snoc hv, List.map_append]; rfl
    have hjl : ((p.chs.take j).map Chan.new).length ≤ 1000000 := by simp; omega
    rw [wrap_succ (by omega)]
    refine ⟨by omega, hlt, ?_⟩
    obtain ⟨cb, co, hcb⟩ := hch.some (by omega) (by decide)
    have hch2 := hch
    rw [hcb] at hch2 ⊢
    refine u_nilc ?_
    simp only [Int.toNat_natCast]
    refine v_exI (Src.at (hch2.src (L := _)) h (i := j) (j := 0) hv rfl (by simp [intE])) ?_
    refine ⟨fun _ M => Hp R (objP (idleR pa p) kb { Wd.new p with chans := (p.chs.take j).map Chan.new ++ [Chan.new v], locks := [] } :: pt kp [.slice pa.f p.funcs.length pa.fc, .slice pa.c p.chs.length pa.cc, .int .i64 p.locks, .slice pa.k p.cases.length pa.kc] 41 :: L) M, ⟨?_, ?_, trivial⟩, ?_⟩
    · have h' := idle_open h (b := kb)
      clear h
      obtain ⟨a, gg, dr, n, hl, h⟩ := h'
      have hl3 : a.cb.length = ((p.chs.take j).map Chan.new).length := hl.2.2.1
      refine t_exSl h ?_
      refine chans_New h ?_
      clear h
      intro kc M h
      repeat (first | (refine s_nwc h ?_; clear h; intro kb M h) | (refine s_stc h ?_; clear h; intro M h) | refine t_exI h ?_ | refine t_exB h ?_ | refine t_exS h ?_ | refine t_exP h ?_ | refine t_exSl h ?_ | refine t_exV h ?_ | refine u_exI ?_ | refine u_exB ?_ | refine u_exS ?_ | refine u_exP ?_ | refine u_exSl ?_ | refine u_exV ?_ | refine u_nilc ?_ | (apply Exists.intro; (repeat apply Exists.intro); refine And.intro rfl ?_) | (refine And.intro ?_ ?_; first | exact trivial | exact rfl | exact t_ld h | (refine lds_s (t_ld h) ?_; (repeat (refine lds_s (t_ld h) ?_)); exact lds_nil) | omega) | refine u_bspT ?_ | refine u_bspF ?_)
      refine h.rowAppend1 el_pc [kc] rfl rfl (by simp only [List.length_singleton]; omega) ?_
      clear h
      intro A' c' M h
      repeat (first | (refine s_nwc h ?_; clear h; intro kb M h) | (refine s_stc h ?_; clear h; intro M h) | refine t_exI h ?_ | refine t_exB h ?_ | refine t_exS h ?_ | refine t_exP h ?_ | refine t_exSl h ?_ | refine t_exV h ?_ | refine u_exI ?_ | refine u_exB ?_ | refine u_exS ?_ | refine u_exP ?_ | refine u_exSl ?_ | refine u_exV ?_ | refine u_nilc ?_ | (apply Exists.intro; (repeat apply Exists.intro); refine And.intro rfl ?_) | (refine And.intro ?_ ?_; first | exact trivial | exact rfl | exact t_ld h | (refine lds_s (t_ld h) ?_; (repeat (refine lds_s (t_ld h) ?_)); exact lds_nil) | omega) | refine u_bspT ?_ | refine u_bspF ?_)
      exact new_ch (j := j) (q := j) (A' := j) (a := a) (x := { Wd.new p with chans := (p.chs.take j).map Chan.new, locks := [] }) hl (h.sub (by repeat (first | exact .refl | refine .cons (by repeat (first | exact .here | apply Pick.there)) ?_ | apply Sub.drop)))
    · have h' := idle_open h (b := kb)
      clear h
      obtain ⟨a, gg, dr, n, hl, h⟩ := h'
      have hl3 : a.cb.length = ((p.chs.take j).map Chan.new).length := hl.2.2.1
      refine chans_New h ?_
      clear h
      intro kc M h
      repeat (first | (refine s_nwc h ?_; clear h; intro kb M h) | (refine s_stc h ?_; clear h; intro M h) | refine t_exI h ?_ | refine t_exB h ?_ | refine t_exS h ?_ | refine t_exP h ?_ | refine t_exSl h ?_ | refine t_exV h ?_ | refine u_exI ?_ | refine u_exB ?_ | refine u_exS ?_ | refine u_exP ?_ | refine u_exSl ?_ | refine u_exV ?_ | refine u_nilc ?_ | (apply Exists.intro; (repeat apply Exists.intro); refine And.intro rfl ?_) | (refine And.intro ?_ ?_; first | exact trivial | exact rfl | exact t_ld h | (refine lds_s (t_ld h) ?_; (repeat (refine lds_s (t_ld h) ?_)); exact lds_nil) | omega) | refine u_bspT ?_ | refine u_bspF ?_)
      refine h.rowAppend1 el_pc [kc] rfl rfl (by simp only [List.length_singleton]; omega) ?_
      clear h
      intro A' c' M h
      repeat (first | (refine s_nwc h ?_; clear h; intro kb M h) | (refine s_stc h ?_; clear h; intro M h) | refine t_exI h ?_ | refine t_exB h ?_ | refine t_exS h ?_ | refine t_exP h ?_ | refine t_exSl h ?_ | refine t_exV h ?_ | refine u_exI ?_ | refine u_exB ?_ | refine u_exS ?_ | refine u_exP ?_ | refine u_exSl ?_ | refine u_exV ?_ | refine u_nilc ?_ | (apply Exists.intro; (repeat apply Exists.intro); refine And.intro rfl ?_) | (refine And.intro ?_ ?_; first | exact trivial | exact rfl | exact t_ld h | (refine lds_s (t_ld h) ?_; (repeat (refine lds_s (t_ld h) ?_)); exact lds_nil) | omega) | refine u_bspT ?_ | refine u_bspF ?_)
      exact new_ch (j := j) (q := j) (A' := j) (a := a) (x := { Wd.new p with chans := (p.chs.take j).map Chan.new, locks := [] }) hl (h.sub (by repeat (first | exact .refl | refine .cons (by repeat (first | exact .here | apply Pick.there)) ?_ | apply Sub.drop)))
    · clear h
      intro _ M h
      refine ⟨p.chs.length - (j + 1), by omega, j + 1, rfl, rfl, by omega, ?_⟩
      rw [hsn, ← hcb]; exact h
  · obtain rfl : j = p.chs.length := by omega
    rw [List.take_length] at h
    refine t_exI h ?_
    obtain ⟨nl, hnl⟩ := Int.eq_ofNat_of_zero_le hk.1
    refine ⟨fun d vs M => ∃ j : Nat, vs = [.int .i64 (j : Int)] ∧ d = nl - j ∧ j ≤ nl ∧ Hp R (objP (idleR pa p) kb { Wd.new p with locks := List.replicate j ⟨-1, []⟩ } :: pt kp [.slice pa.f p.funcs.length pa.fc, .slice pa.c p.chs.length pa.cc, .int .i64 p.locks, .slice pa.k p.cases.length pa.kc] 41 :: L) M,
      ⟨_, 0, rfl, rfl, by omega, h⟩, ?_⟩
    clear h
    rintro d _ nn M ⟨j, he, hd, hj, h⟩
    simp only [List.cons.injEq, Value.int.injEq, and_true, true_and] at he
    subst he
    refine bsp_dec.2 ⟨fun hlt => ?_, fun hge => ?_⟩
    · have hsn : List.replicate (j + 1) (⟨-1, []⟩ : Lk) = List.replicate j ⟨-1, []⟩ ++ [⟨-1, []⟩] := List.replicate_succ'
      rw [wrap_succ (by omega)]
      refine ⟨fun _ M => Hp R (objP (idleR pa p) kb { Wd.new p with locks := List.replicate j ⟨-1, []⟩ ++ [⟨-1, []⟩] } :: pt kp [.slice pa.f p.funcs.length pa.fc, .slice pa.c p.chs.length pa.cc, .int .i64 p.locks, .slice pa.k p.cases.length pa.kc] 41 :: L) M, ⟨?_, ?_, trivial⟩, ?_⟩
      · have h' := idle_open h (b := kb)
        clear h
        obtain ⟨a, gg, dr, n, hl, h⟩ := h'
        have hl3 : a.lb.length = (List.replicate j (⟨-1, []⟩ : Lk)).length := hl.2.2.2
        rw [List.length_replicate] at hl3
        refine t_exSl h ?_
        refine locks_New h ?_
        clear h
        intro kc M h
        repeat (first | (refine s_nwc h ?_; clear h; intro kb M h) | (refine s_stc h ?_; clear h; intro M h) | refine t_exI h ?_ | refine t_exB h ?_ | refine t_exS h ?_ | refine t_exP h ?_ | refine t_exSl h ?_ | refine t_exV h ?_ | refine u_exI ?_ | refine u_exB ?_ | refine u_exS ?_ | refine u_exP ?_ | refine u_exSl ?_ | refine u_exV ?_ | refine u_nilc ?_ | (apply Exists.intro; (repeat apply Exists.intro); refine And.intro rfl ?_) | (refine And.intro ?_ ?_; first | exact trivial | exact rfl | exact t_ld h | (refine lds_s (t_ld h) ?_; (repeat (refine lds_s (t_ld h) ?_)); exact lds_nil) | omega) | refine u_bspT ?_ | refine u_bspF ?_)
        refine h.rowAppend1 el_pl [kc] rfl rfl (by simp only [List.length_singleton]; omega) ?_
        clear h
        intro A' c' M h
        repeat (first | (refine s_nwc h ?_; clear h; intro kb M h) | (refine s_stc h ?_; clear h; intro M h) | refine t_exI h ?_ | refine t_exB h ?_ | refine t_exS h ?_ | refine t_exP h ?_ | refine t_exSl h ?_ | refine t_exV h ?_ | refine u_exI ?_ | refine u_exB ?_ | refine u_exS ?_ | refine u_exP ?_ | refine u_exSl ?_ | refine u_exV ?_ | refine u_nilc ?_ | (apply Exists.intro; (repeat apply Exists.intro); refine And.intro rfl ?_) | (refine And.intro ?_ ?_; first | exact trivial | exact rfl | exact t_ld h | (refine lds_s (t_ld h) ?_; (repeat (refine lds_s (t_ld h) ?_)); exact lds_nil) | omega) | refine u_bspT ?_ | refine u_bspF ?_)
        exact new_lk (a := a) (x := { Wd.new p with locks := List.replicate j ⟨-1, []⟩ }) hl (h.sub (by repeat (first | exact .refl | refine .cons (by repeat (first | exact .here | apply Pick.there)) ?_ | apply Sub.drop)))
      · have h' := idle_open h (b := kb)
        clear h
        obtain ⟨a, gg, dr, n, hl, h⟩ := h'
        have hl3 : a.lb.length = (List.replicate j (⟨-1, []⟩ : Lk)).length := hl.2.2.2
        rw [List.length_replicate] at hl3
        refine locks_New h ?_
        clear h
        intro kc M h
        repeat (first | (refine s_nwc h ?_; clear h; intro kb M h) | (refine s_stc h ?_; clear h; intro M h) | refine t_exI h ?_ | refine t_exB h ?_ | refine t_exS h ?_ | refine t_exP h ?_ | refine t_exSl h ?_ | refine t_exV h ?_ | refine u_exI ?_ | refine u_exB ?_ | refine u_exS ?_ | refine u_exP ?_ | refine u_exSl ?_ | refine u_exV ?_ | refine u_nilc ?_ | (apply Exists.intro; (repeat apply Exists.intro); refine And.intro rfl ?_) | (refine And.intro ?_ ?_; first | exact trivial | exact rfl | exact t_ld h | (refine lds_s (t_ld h) ?_; (repeat (refine lds_s (t_ld h) ?_)); exact lds_nil) | omega) | refine u_bspT ?_ | refine u_bspF ?_)
        refine h.rowAppend1 el_pl [kc] rfl rfl (by simp only [List.length_singleton]; omega) ?_
        clear h
        intro A' c' M h
        repeat (first | (refine s_nwc h ?_; clear h; intro kb M h) | (refine s_stc h ?_; clear h; intro M h) | refine t_exI h ?_ | refine t_exB h ?_ | refine t_exS h ?_ | refine t_exP h ?_ | refine t_exSl h ?_ | refine t_exV h ?_ | refine u_exI ?_ | refine u_exB ?_ | refine u_exS ?_ | refine u_exP ?_ | refine u_exSl ?_ | refine u_exV ?_ | refine u_nilc ?_ | (apply Exists.intro; (repeat apply Exists.intro); refine And.intro rfl ?_) | (refine And.intro ?_ ?_; first | exact trivial | exact rfl | exact t_ld h | (refine lds_s (t_ld h) ?_; (repeat (refine lds_s (t_ld h) ?_)); exact lds_nil) | omega) | refine u_bspT ?_ | refine u_bspF ?_)
        exact new_lk (a := a) (x := { Wd.new p with locks := List.replicate j ⟨-1, []⟩ }) hl (h.sub (by repeat (first | exact .refl | refine .cons (by repeat (first | exact .here | apply Pick.there)) ?_ | apply Sub.drop)))
      · clear h
        intro _ M h
        refine ⟨nl - (j + 1), by omega, j + 1, rfl, rfl, by omega, ?_⟩
        rw [hsn]; exact h
    · obtain rfl : j = nl := by omega
      have e : Wd.new p = { Wd.new p with locks := List.replicate j ⟨-1, []⟩ } := by unfold Wd.new; rw [hnl]; rfl
      rw [← e] at h
      exact k _ _ h.fin1
end
end Go.Proofs

namespace Go.Proofs
open Go.AF
set_option linter.unusedVariables false
set_option maxRecDepth 100000
set_option maxHeartbeats 1000000
attribute [local irreducible] exI exB exS exP exSl exV nilc stc nwc semK semU bsp
def caseList (p : Prg) (i : Ins) : List Cas := (p.cases.drop i.a.toNat).take i.b.toNat
def regs8 (f : Frm) : List Int := [f.r.getD 0 0, f.r.getD 1 0, f.r.getD 2 0, f.r.getD 3 0, f.r.getD 4 0, f.r.getD 5 0, f.r.getD 6 0, f.r.getD 7 0]
/-- What a draw came to. -/
inductive Drawn where
  | num (d : Int)
  | dry (l : List PanicEntry)
/-- What a drawer does, asked for a number below n. -/
def DrawSpec (R : Mem) (dr : Value) (kind n : Int) (d : Drawn) (L L2 : List HP) : Prop := ∀ (Q : HP) (M : Mem) (K : Value → Mem → Prop) (Kp : List PanicEntry → Mem → Prop), Hp R (Q :: L) M →
  (match d with
    | .num v => ∀ M', Hp R (Q :: L2) M' → K (.int .i64 v) M'
    | .dry l => ∀ M', Hp R (Q :: L2) M' → Kp l M') → callK Cx dr [.int .i64 kind, .int .i64 n] M K Kp
/-- A select's case is done. -/
def Wd.chooseAt (p : Prg) (x : Wd) (g : Int) (i : Ins) (k : Int) : Out Wd :=
  let c := (caseList p i).getD k.toNat ⟨0, 0, 0⟩
  let x1 := x.next g
  if c.way = 1 then match x1.put p c.ch (topReg x1 g c.reg) with
    | .trap n y => .trap n y
    | .dry l y => .dry l y
    | .on (y, _) => .on (y.putReg g i.c k)
  else .on (((x1.get c.ch).1.putReg g c.reg (x1.get c.ch).2.1).putReg g i.c k)
/-- A select of which no case can go. -/
def Wd.chooseNone (p : Prg) (x : Wd) (g : Int) (i : Ins) : Wd :=
  let x1 := x.next g
  match els (caseList p i) with
    | some k => x1.putReg g i.c (k : Int)
    | none => Wd.block { x1 with chans := waitTo g (regs8 (gorAt x1 g).top) (caseList p i) x1.chans (caseList p i).length } g i
/-- A select, by a draw among so many. -/
def Wd.choose (p : Prg) (x : Wd) (g : Int) (i : Ins) (d : Drawn) : Out Wd :=
  if enabled (caseList p i) x.chans = [] then .on (x.chooseNone p g i)
  else match d with
    | .num v => x.chooseAt p g i ((enabled (caseList p i) x.chans).getD v.toNat 0)
    | .dry l => .dry l x
section
variable {R : Mem} {L L' L2 : List HP} {M : Mem} {K : Value → Mem → Prop} {Kp : List PanicEntry → Mem → Prop} {pa : PA} {p : Prg} {gg : List GA} {dr : Value} {b : Nat} {x : Wd} {g : Int} {i : Ins}
def casesOk (p : Prg) (i : Ins) : Prop := 0 ≤ i.a ∧ 0 ≤ i.b ∧ i.a + i.b ≤ p.cases.length ∧ p.cases.length ≤ 1000
instance (p : Prg) (i : Ins) : Decidable (casesOk p i) := by unfold casesOk; infer_instance
theorem world_cases (h : Hp R L M) [o : WAt b L pa p gg dr x L'] (hp : PrgR R pa p) (hk : casesOk p i)
    (k : ∀ A c M', RS casE R A c (caseList p i) → Hp R (objP (worldR pa p gg dr) b x :: L') M' → K (.slice A (caseList p i).length c) M') :
    ACalls Tryz.prog 154 #[.pointer (some ⟨b, 0, none⟩), .agg #[.int .i64 i.op, .int .i64 i.a, .int .i64 i.b, .int .i64 i.c]] M K Kp := by
  refine vc_world_World_cases ?_
  obtain ⟨a0, b0, hab, hl⟩ := hk
  have hcap := hp.cases.2
  refine s_nwc h ?_
  clear h; intro kb M h
  have hC := h.drop.pick o.pick
  have h' := world_open h (b := b)
  clear h
  obtain ⟨a, hl2, h⟩ := h'
  refine t_exSl h (t_exI h (t_exI h (t_exI h ?_)))
  rw [wrap_id (by omega) (by omega)]
  refine ⟨by omega, by omega, by omega, by omega, by omega, by omega, ?_⟩
  have e : (caseList p i).length = (i.a + i.b).toNat - i.a.toNat := by
    unfold caseList
    rw [List.length_take, List.length_drop]; omega
  rw [← e]
  simp only [Int.toNat_natCast]
  exact k _ _ _ ((hp.cases.drop i.a.toNat (by omega)).take i.b.toNat) hC
theorem regs_src {bs j : Nat} {l : List Frm} {f : Frm} (hs : Src R L (some ⟨bs, 0, none⟩) (frmE.cells l)) (hi : l[j]? = some f) : Src R L (slA (some ⟨bs, j * 11 + 2, none⟩) 0 8 1) (intE.cells (regs8 f)) := by
  intro M h
  have e : slA (some ⟨bs, j * 11 + 2, none⟩) 0 8 1 = some ⟨bs, j * 11 + 2, none⟩ := by
    unfold slA; rw [if_neg (by omega)]; rfl
  rw [e]
  intro q hq
  have hq8 : q < 8 := by simpa [intE, Enc.cells, regs8] using hq
  have e2 : j * 11 + 2 + q = 0 + (j * frmE.z + (2 + q)) := by show _ = 0 + (j * 11 + (2 + q)); omega
  obtain rfl | rfl | rfl | rfl | rfl | rfl | rfl | rfl : q = 0 ∨ q = 1 ∨ q = 2 ∨ q = 3 ∨ q = 4 ∨ q = 5 ∨ q = 6 ∨ q = 7 := by omega
  all_goals exact Src.at hs h (i := j) hi rfl e2
theorem w_stPc {bs c oo : Nat} {v : Int} {G : Mem → Prop} (h : Hp R L M) [o : WAt b L pa p gg dr x L'] (hg : gorOk x g) (hgg : gg[g.toNat]? = some (some ⟨bs, 0, none⟩, c)) (e : oo = ((gorAt x g).fs.length - 1) * 11 + 1) (hv : v = (gorAt x g).top.pc + 1)
    (k : ∀ M', Hp R (objP (worldR pa p gg dr) b (x.next g) :: L') M' → G M') : stc M ⟨bs, oo, none⟩ (.int .i64 v) G := by
  subst hv
  obtain ⟨h0, h1, h2, h3⟩ := hg
  obtain ⟨a, gb, hl, hgb, h4⟩ := world_at2 h (b := b) h0 h1 hgg
  refine f_stPc h4 (gor_top h2) e fun M' h5 => ?_
  replace h5 := world_in h5 gb hl hgb hgg (by simp)
  exact k M' (world_close (a := a) (p := p) (pa := pa) (dr := dr) (gg := gg) (x := x.next g) (lens_put hl) h5 b)
theorem w_ldPc {bs c oo : Nat} {G : Int → Prop} (h : Hp R L M) [o : WAt b L pa p gg dr x L'] (hg : gorOk x g) (hgg : gg[g.toNat]? = some (some ⟨bs, 0, none⟩, c)) (e : oo = ((gorAt x g).fs.length - 1) * 11 + 1)
    (k : G (gorAt x g).top.pc) : exI (M.ld ⟨bs, oo, none⟩) .i64 G := by
  obtain ⟨h0, h1, h2, h3⟩ := hg
  obtain ⟨a, gb, hl, hgb, h4⟩ := world_at2 h (b := b) h0 h1 hgg
  exact f_ldPc h4 (gor_top h2) e k
theorem gorAt_next (hg : gorOk x g) : gorAt (x.next g) g = (gorAt x g).putTop (gorAt x g).top.next := gorAt_put hg.1 hg.2.1
theorem gorOk_next (hg : gorOk x g) : gorOk (x.next g) g := by
  have e := gorAt_next hg
  obtain ⟨h0, h1, h2, h3⟩ := hg
  refine ⟨h0, by simpa [Wd.next, Wd.putG] using h1, ?_, ?_⟩ <;> rw [e] <;> simpa [Gor.putTop]
theorem fl_next (hg : gorOk x g) : (gorAt (x.next g) g).fs.length = (gorAt x g).fs.length := by rw [gorAt_next hg]; simp [Gor.putTop]
theorem fl_putReg {q v : Int} (hg : gorOk x g) : (gorAt (x.putReg g q v) g).fs.length = (gorAt x g).fs.length := by rw [gorAt_putReg hg]; simp [Gor.putTop]
theorem Sm_next (hs : x.Sm) : (x.next g).Sm := Sm_putG hs
/-- What a select needs. -/
def chooseOk (p : Prg) (x : Wd) (g : Int) (i : Ins) (d : Drawn) : Prop := gorOk x g ∧ casesOk p i ∧ isReg i.c ∧ x.Sm ∧ (gorAt x g).top.pc < 1000000000 ∧ 0 ≤ (gorAt x g).top.pc ∧ (∀ c ∈ caseList p i, c.Ok x.chans.length) ∧
  match enabled (caseList p i) x.chans, d with
  | [], _ => True
  | _, .dry _ => True
  | can, .num v => 0 ≤ v ∧ v < can.length ∧
    let k := can.getD v.toNat 0
    let c := (caseList p i).getD k.toNat ⟨0, 0, 0⟩
    let x1 := x.next g
    0 ≤ k ∧ k < (caseList p i).length ∧ isReg c.reg ∧
    if c.way = 1 then putOk p x1 c.ch (topReg x1 g c.reg) ∧ (match x1.put p c.ch (topReg x1 g c.reg) with
      | .on (y, _) => gorOk y g ∧ (gorAt y g).fs.length = (gorAt x g).fs.length
      | _ => True)
    else getOk x1 c.ch ∧ gorOk (x1.get c.ch).1 g ∧ (gorAt (x1.get c.ch).1 g).fs.length = (gorAt x g).fs.length
theorem op_choose {d : Drawn} (hp : PrgR R pa p) (hk : chooseOk p x g i d) (hd : if enabled (caseList p i) x.chans = [] then L2 = L else DrawSpec R dr 3 ((enabled (caseList p i) x.chans).length : Int) d L L2) :
    OpSpec R pa p dr 122 x g i (x.choose p g i d) L L2 := by
  intro gg b bs c M K Kp Q h hgg k
  obtain ⟨hg, hcs, hic, hs, hpc, hpc0, hok, hk⟩ := hk
  have hg' := hg
  obtain ⟨h0, h1, h2, h3⟩ := hg'
  have hs' := hs
  obtain ⟨s1, s2, s3, s4, s5, s6, s7, s8⟩ := hs'
  have hcl : (caseList p i).length ≤ 1000 := by
    obtain ⟨_, _, _, hl⟩ := hcs
    unfold caseList
    rw [List.length_take, List.length_drop]; omega
  refine vc_world_World_choose ?_
  refine s_nwc h ?_
  clear h; intro k1 M h
  refine t_exI h (t_exI h (t_exI h (t_exI h ?_)))
  refine world_cases (b := b) h hp hcs ?_
  clear h; intro A ca M hA h
  refine u_exSl ?_
  unfold Wd.choose at k
  have hen : ∀ {X : HP} {M : Mem} {L3 : List HP}, Hp R (objP (worldR pa p gg dr) b x :: L3) M → ∀ (K1 : Value → Mem → Prop), (∀ A' c' M', Hp R (rowI A' c' (enabled (caseList p i) x.chans) :: objP (worldR pa p gg dr) b x :: L3) M' → K1 (.slice A' (enabled (caseList p i) x.chans).length c') M') →
      exSl (M.ld ⟨b, 0 + 6, none⟩) fun A12 k13 k14 => ACalls Tryz.prog 155 #[.slice A (caseList p i).length ca, .slice A12 k13 k14] M K1 Kp := by
    intro X M L3 h K1 k1
    have h' := world_open h (b := b)
    clear h
    obtain ⟨a, hl, h⟩ := h'
    have hl' := hl
    obtain ⟨l1, l2, l3, l4⟩ := hl'
    refine t_exSl h ?_
    refine picks_Enabled h (hA.src) (Src.row (A := a.ac)) rfl rfl (by omega) l3 hok ?_
    clear h; intro A' c' M h
    exact k1 _ _ _ ((world_close (a := a) (p := p) (pa := pa) (dr := dr) (gg := gg) (x := x) hl h b).swap)
  refine hen (X := Q) h _ ?_
  clear h hen; intro A2 c2 M h
  refine u_exSl ?_
  by_cases hcan : enabled (caseList p i) x.chans = []
  · rw [if_pos hcan] at k hd
    subst hd
    rw [hcan] at h ⊢
    refine u_bspT ?_
    unfold Wd.chooseNone at k
    dsimp only at k
    refine w_ldPc (b := b) h hg hgg rfl ?_
    rw [wrap_succ' hpc0 (by omega)]
    refine w_stPc (b := b) h hg hgg rfl rfl ?_
    clear h; intro M h
    have hg1 := gorOk_next hg
    have hf1 := fl_next hg
    refine picks_Else h hA.src rfl (by omega) ?_
    clear h; intro M h
    refine ⟨_, _, rfl, ?_⟩
    cases he : els (caseList p i) with
    | some q =>
      rw [he] at k
      dsimp only at k ⊢
      refine u_bspT ?_
      refine t_exI h ?_
      refine ⟨hic.1, hic.2, ?_⟩
      refine w_stReg (b := b) h hg1 hgg hic (by rw [hf1]) ?_
      clear h; intro M h
      exact k _ _ (h.sub (by repeat (first | exact .refl | refine .cons (by repeat (first | exact .here | apply Pick.there)) ?_ | apply Sub.drop)))
    | none =>
      rw [he] at k
      dsimp only at k ⊢
      refine u_bspF ⟨by decide, by decide, by decide, by decide, by decide, by decide, ?_⟩
      have hb1 := hg1
      obtain ⟨g0, g1, g2, g3⟩ := hb1
      have h' := world_at2 h (b := b) g0 g1 hgg
      clear h
      obtain ⟨a, gb, hl, hgb, h⟩ := h'
      have hl' := hl
      obtain ⟨l1, l2, l3, l4⟩ := hl'
      refine t_exSl h ?_
      refine picks_Wait (regs := regs8 (gorAt (x.next g) g).top) h hA.src (Src.row (A := a.ac)) ?_ rfl rfl rfl rfl (by omega) l3 hok (fun c hc => s1 c hc) ?_
      · have e9 : ∀ {L9 : List HP}, Src R L9 (some ⟨bs, 0, none⟩) (frmE.cells (gorAt (x.next g) g).fs) → Src R L9 (slA (some ⟨bs, ((gorAt x g).fs.length - 1) * 11 + 2, none⟩) 0 8 1) (intE.cells (regs8 (gorAt (x.next g) g).top)) := fun hs => by
          have := regs_src hs (gor_top g2)
          rwa [hf1] at this
        exact e9 Src.row
      clear h; intro M h
      refine ⟨rfl, ?_⟩
      refine t_exI h (t_exI h (t_exI h (t_exI h ?_)))
      replace h := world_in h gb hl hgb hgg
      have hl2 := lens_put (y := gorAt (x.next g) g) (g := g) hl
      have hcl2 : ∀ x' : Wd, x' = { (x.next g).putG g (gorAt (x.next g) g) with chans := waitTo g (regs8 (gorAt (x.next g) g).top) (caseList p i) x.chans (caseList p i).length } → wLens gg a x' := by
        rintro _ rfl
        obtain ⟨m1, m2, m3, m4⟩ := hl2
        exact ⟨m1, m2, by show _ = List.length _; rw [waitTo_len]; exact l3, m4⟩
      replace h := world_close (a := a) (p := p) (pa := pa) (dr := dr) (gg := gg) (x := { (x.next g).putG g (gorAt (x.next g) g) with chans := waitTo g (regs8 (gorAt (x.next g) g).top) (caseList p i) x.chans (caseList p i).length }) (hcl2 _ rfl) h b
      rw [sx g0 g1] at h
      refine world_block (b := b) (i := i) (x := { x.next g with chans := waitTo g (regs8 (gorAt (x.next g) g).top) (caseList p i) x.chans (caseList p i).length }) h g0 g1 ?_
      clear h; intro M h
      exact ⟨rfl, k _ _ (h.sub (by repeat (first | exact .refl | refine .cons (by repeat (first | exact .here | apply Pick.there)) ?_ | apply Sub.drop)))⟩
  rw [if_neg hcan] at k hd
  have hcl0 : 0 < (enabled (caseList p i) x.chans).length := by
    cases hh : enabled (caseList p i) x.chans with
    | nil => exact absurd hh hcan
    | cons _ _ => simp
  refine u_bspD (by simp; omega) ?_
  have hdr : M.ld ⟨b, 0 + 14, none⟩ = some dr := by
    obtain ⟨a, hl, h9⟩ := world_open h (b := b)
    exact t_ld h9
  rw [hdr]
  refine u_exV ?_
  have h5 : Hp R (sep [rowI A2 c2 (enabled (caseList p i) x.chans), objP (worldR pa p gg dr) b x, pt k1 [.int .i64 i.op, .int .i64 i.a, .int .i64 i.b, .int .i64 i.c] 34, Q] :: L) M := Hp.sep_iff.2 (h.sub (by repeat (first | exact .refl | refine .cons (by repeat (first | exact .here | apply Pick.there)) ?_ | apply Sub.drop)))
  refine hd _ _ _ _ h5 ?_
  clear h h5 hdr
  cases d with
  | dry l =>
    dsimp only at k ⊢
    intro M h5
    have h : Hp R (rowI A2 c2 (enabled (caseList p i) x.chans) :: objP (worldR pa p gg dr) b x :: pt k1 [.int .i64 i.op, .int .i64 i.a, .int .i64 i.b, .int .i64 i.c] 34 :: Q :: L2) M := Hp.sep_iff.1 h5
    exact k _ _ (h.sub (by repeat (first | exact .refl | refine .cons (by repeat (first | exact .here | apply Pick.there)) ?_ | apply Sub.drop)))
  | num v =>
    dsimp only at k ⊢
    intro M h5
    have h : Hp R (rowI A2 c2 (enabled (caseList p i) x.chans) :: objP (worldR pa p gg dr) b x :: pt k1 [.int .i64 i.op, .int .i64 i.a, .int .i64 i.b, .int .i64 i.c] 34 :: Q :: L2) M := Hp.sep_iff.1 h5
    clear h5
    have hk2 : 0 ≤ v ∧ v < (enabled (caseList p i) x.chans).length ∧
        0 ≤ (enabled (caseList p i) x.chans).getD v.toNat 0 ∧ (enabled (caseList p i) x.chans).getD v.toNat 0 < (caseList p i).length ∧ isReg ((caseList p i).getD ((enabled (caseList p i) x.chans).getD v.toNat 0).toNat ⟨0, 0, 0⟩).reg ∧
        if ((caseList p i).getD ((enabled (caseList p i) x.chans).getD v.toNat 0).toNat ⟨0, 0, 0⟩).way = 1 then putOk p (x.next g) ((caseList p i).getD ((enabled (caseList p i) x.chans).getD v.toNat 0).toNat ⟨0, 0, 0⟩).ch (topReg (x.next g) g ((caseList p i).getD ((enabled (caseList p i) x.chans).getD v.toNat 0).toNat ⟨0, 0, 0⟩).reg) ∧
          (match (x.next g).put p ((caseList p i).getD ((enabled (caseList p i) x.chans).getD v.toNat 0).toNat ⟨0, 0, 0⟩).ch (topReg (x.next g) g ((caseList p i).getD ((enabled (caseList p i) x.chans).getD v.toNat 0).toNat ⟨0, 0, 0⟩).reg) with
            | .on (y, _) => gorOk y g ∧ (gorAt y g).fs.length = (gorAt x g).fs.length
            | _ => True)
        else getOk (x.next g) ((caseList p i).getD ((enabled (caseList p i) x.chans).getD v.toNat 0).toNat ⟨0, 0, 0⟩).ch ∧ gorOk ((x.next g).get ((caseList p i).getD ((enabled (caseList p i) x.chans).getD v.toNat 0).toNat ⟨0, 0, 0⟩).ch).1 g ∧ (gorAt ((x.next g).get ((caseList p i).getD ((enabled (caseList p i) x.chans).getD v.toNat 0).toNat ⟨0, 0, 0⟩).ch).1 g).fs.length = (gorAt x g).fs.length := by
      revert hk
      cases hh : enabled (caseList p i) x.chans with
      | nil => exact absurd hh hcan
      | cons a l => exact fun hk => hk
    clear hk hcan hd
    generalize hcane : enabled (caseList p i) x.chans = can at h k hk2 hcl0 ⊢
    obtain ⟨v0, v1, q0, q1, hcr, hk3⟩ := hk2
    refine u_exI ⟨v0, v1, ?_⟩
    obtain ⟨ab, rfl⟩ := h.row_some (A := A2) hcl0 (by decide)
    refine u_nilc ?_
    obtain ⟨q, hq⟩ := idx_ex (l := can) (i := v.toNat) (by omega)
    have hqe : can.getD v.toNat 0 = q := by simp [hq]
    rw [hqe] at k q0 q1 hcr hk3
    refine v_exI (Src.at (h.src (A := some ⟨ab, 0, none⟩)) h (i := v.toNat) (j := 0) hq rfl (by simp [intE])) ?_
    unfold Wd.chooseAt at k
    dsimp only at k
    obtain ⟨cc, hcc⟩ := idx_ex (l := caseList p i) (i := q.toNat) (by omega)
    have hce : (caseList p i).getD q.toNat ⟨0, 0, 0⟩ = cc := by simp [hcc]
    rw [hce] at k hcr hk3
    refine w_ldPc (b := b) h hg hgg rfl ?_
    rw [wrap_succ' hpc0 (by omega)]
    refine w_stPc (b := b) h hg hgg rfl rfl ?_
    clear h; intro M h
    have hg1 := gorOk_next hg
    have hf1 := fl_next hg
    have hs1 : (x.next g).Sm := Sm_next hs
    generalize hx1 : x.next g = x1 at h k hk3 hg1 hf1 hs1
    refine ⟨q0, q1, ?_⟩
    obtain ⟨cb, co, rfl⟩ := hA.some (by omega) (by decide)
    refine u_nilc ?_
    refine v_exI (Src.at (hA.src (L := _)) h (i := q.toNat) (j := 0) hcc rfl (by simp [casE])) ?_
    refine v_exI (Src.at (hA.src (L := _)) h (i := q.toNat) (j := 1) hcc rfl (by show _ = co + (_ * 3 + 1); omega)) ?_
    refine v_exI (Src.at (hA.src (L := _)) h (i := q.toNat) (j := 2) hcc rfl (by show _ = co + (_ * 3 + 2); omega)) ?_
    refine s_nwc h ?_
    clear h; intro kc M h
    refine s_stc h ?_
    clear h; intro M h
    refine s_stc h ?_
    clear h; intro M h
    refine s_stc h ?_
    clear h; intro M h
    refine t_exI h ?_
    refine bsp_eq.2 ⟨fun e1 => ?_, fun e1 => ?_⟩
    · rw [if_pos e1] at k hk3
      obtain ⟨hput, hy⟩ := hk3
      refine t_exI h (t_exI h ⟨hcr.1, hcr.2, ?_⟩)
      refine w_reg (b := b) h hg1 hgg hcr (by rw [hf1]) ?_
      refine world_put (b := b) h hp.cases hput hs1 ?_ ?_
      · clear h
        intro y ok M e h
        rw [e] at k hy
        dsimp only at k hy
        refine u_exB ?_
        refine t_exI h ⟨hic.1, hic.2, ?_⟩
        refine w_stReg (b := b) h hy.1 hgg hic (by rw [hy.2]) ?_
        clear h; intro M h
        exact k _ _ (h.sub (by repeat (first | exact .refl | refine .cons (by repeat (first | exact .here | apply Pick.there)) ?_ | apply Sub.drop)))
      · clear h
        intro y n M e h
        rw [e] at k
        exact k _ _ (h.sub (by repeat (first | exact .refl | refine .cons (by repeat (first | exact .here | apply Pick.there)) ?_ | apply Sub.drop)))
    · rw [if_neg e1] at k hk3
      obtain ⟨hget, hgy, hfl⟩ := hk3
      refine t_exI h (t_exI h ?_)
      refine world_get (b := b) h hget hs1 ?_
      clear h; intro M h
      generalize x1.get cc.ch = r at h k hgy hfl
      obtain ⟨y, w, sm, ok⟩ := r
      dsimp only at h k hgy hfl ⊢
      refine ⟨_, _, _, rfl, t_ld h, hcr.1, hcr.2, ?_⟩
      refine w_stReg (b := b) h hgy hgg hcr (by rw [hfl]) ?_
      clear h; intro M h
      refine ⟨t_ld h, t_exI h ⟨hic.1, hic.2, ?_⟩⟩
      refine w_stReg (b := b) h (gorOk_putReg hgy) hgg hic (by rw [fl_putReg hgy, hfl]) ?_
      clear h; intro M h
      exact k _ _ (h.sub (by repeat (first | exact .refl | refine .cons (by repeat (first | exact .here | apply Pick.there)) ?_ | apply Sub.drop)))
end
end Go.Proofs

namespace Go.Proofs
open Go.AF
set_option linter.unusedVariables false
set_option maxRecDepth 100000
set_option maxHeartbeats 1000000
attribute [local irreducible] exI exB exS exP exSl exV nilc stc nwc semK semU bsp
def HItem.before (a b : HItem) : Bool := decide (a.t < b.t) || (a.t == b.t && decide (a.seq < b.seq))
def hAt (l : List HItem) (i : Nat) : HItem := l.getD i ⟨0, 0, 0⟩
def hSwap (l : List HItem) (i j : Nat) : List HItem := (l.set i (hAt l j)).set j (hAt l i)
def hUp : Nat → Nat → List HItem → List HItem
  | 0, _, l => l
  | f + 1, i, l => if 0 < i ∧ (hAt l i).before (hAt l ((i - 1) / 4)) = true then hUp f ((i - 1) / 4) (hSwap l i ((i - 1) / 4)) else l
def hLeastFrom (l : List HItem) : Nat → Nat → Nat → Nat
  | 0, _, out => out
  | n + 1, k, out => if k < l.length then hLeastFrom l n (k + 1) (if (hAt l k).before (hAt l out) then k else out) else out
def hLeast (l : List HItem) (i : Nat) : Nat := hLeastFrom l 4 (4 * i + 1) i
def hDown : Nat → Nat → List HItem → List HItem
  | 0, _, l => l
  | f + 1, i, l => if hLeast l i = i then l else hDown f (hLeast l i) (hSwap l i (hLeast l i))
def hPush (l : List HItem) (x : HItem) : List HItem := hUp l.length l.length (l ++ [x])
def hRemove (l : List HItem) (i : Nat) : List HItem :=
  if i < l.length - 1 then hUp i i (hDown l.length i ((hSwap l i (l.length - 1)).take (l.length - 1))) else (hSwap l i (l.length - 1)).take (l.length - 1)
/-- Those left, those that wake. -/
def hWake : Nat → List HItem → Int → List HItem × List HItem
  | 0, l, _ => (l, [])
  | f + 1, l, now => if 0 < l.length ∧ (hAt l 0).t ≤ now then ((hWake f (hRemove l 0) now).1, hAt l 0 :: (hWake f (hRemove l 0) now).2) else (l, [])
def hSorted : Nat → List HItem → List HItem
  | 0, _ => []
  | f + 1, l => if 0 < l.length then hAt l 0 :: hSorted f (hRemove l 0) else []
theorem hUp_succ {f i : Nat} {l : List HItem} : hUp (f + 1) i l = if 0 < i ∧ (hAt l i).before (hAt l ((i - 1) / 4)) = true then hUp f ((i - 1) / 4) (hSwap l i ((i - 1) / 4)) else l := rfl
theorem hLeastFrom_succ {l : List HItem} {n k out : Nat} : hLeastFrom l (n + 1) k out = if k < l.length then hLeastFrom l n (k + 1) (if (hAt l k).before (hAt l out) then k else out) else out := rfl
theorem hDown_succ {f i : Nat} {l : List HItem} : hDown (f + 1) i l = if hLeast l i = i then l else hDown f (hLeast l i) (hSwap l i (hLeast l i)) := rfl
theorem hWake_succ {f : Nat} {l : List HItem} {now : Int} : hWake (f + 1) l now = if 0 < l.length ∧ (hAt l 0).t ≤ now then ((hWake f (hRemove l 0) now).1, hAt l 0 :: (hWake f (hRemove l 0) now).2) else (l, []) := rfl
theorem hSwap_len {l : List HItem} {i j : Nat} : (hSwap l i j).length = l.length := by simp [hSwap]
theorem hUp_len : ∀ {f i : Nat} {l : List HItem}, (hUp f i l).length = l.length
  | 0, _, _ => rfl
  | f + 1, i, l => by unfold hUp; split; rw [hUp_len, hSwap_len]; rfl
theorem hDown_len : ∀ {f i : Nat} {l : List HItem}, (hDown f i l).length = l.length
  | 0, _, _ => rfl
  | f + 1, i, l => by unfold hDown; split; rfl; rw [hDown_len, hSwap_len]
theorem hRemove_len {l : List HItem} {i : Nat} : (hRemove l i).length = l.length - 1 := by
  unfold hRemove; split
  · rw [hUp_len, hDown_len, List.length_take, hSwap_len]; omega
  · rw [List.length_take, hSwap_len]; omega
theorem hPush_len {l : List HItem} {x : HItem} : (hPush l x).length = l.length + 1 := by unfold hPush; rw [hUp_len]; simp
theorem hAt_of {l : List HItem} {i : Nat} (h : i < l.length) : l[i]? = some (hAt l i) := by
  unfold hAt; rw [List.getD_eq_getElem?_getD, List.getElem?_eq_getElem h]; rfl
theorem hLeastFrom_in {l : List HItem} : ∀ (n k out : Nat), out < l.length → out < k → hLeastFrom l n k out < l.length ∧ (out ≤ hLeastFrom l n k out)
  | 0, _, _, h, _ => ⟨h, Nat.le_refl _⟩
  | n + 1, k, out, h, hk => by
    unfold hLeastFrom; split
    · rename_i hl
      split
      · have := hLeastFrom_in n (k + 1) k hl (by omega); omega
      · exact hLeastFrom_in n (k + 1) out h (by omega)
    · exact ⟨h, Nat.le_refl _⟩
theorem hLeast_in {l : List HItem} {i : Nat} (h : i < l.length) : hLeast l i < l.length ∧ i ≤ hLeast l i := hLeastFrom_in 4 _ i h (by omega)
/-- A heap's head stands at b, o. -/
structure Hdr (b o : Nat) (P : Option Addr → Nat → Nat → Int → HP) : Prop where
  ldS : ∀ (R : Mem) (L : List HP) (M : Mem) (A : Option Addr) (n c : Nat) (s : Int), Hp R (P A n c s :: L) M → M.ld ⟨b, o, none⟩ = some (.slice A n c)
  ldI : ∀ (R : Mem) (L : List HP) (M : Mem) (A : Option Addr) (n c : Nat) (s : Int), Hp R (P A n c s :: L) M → M.ld ⟨b, o + 1, none⟩ = some (.int .u64 s)
  stS : ∀ (R : Mem) (L : List HP) (M : Mem) (A A' : Option Addr) (n c n' c' : Nat) (s : Int) (G : Mem → Prop), Hp R (P A n c s :: L) M → (∀ M', Hp R (P A' n' c' s :: L) M' → G M') → stc M ⟨b, o, none⟩ (.slice A' n' c') G
  stI : ∀ (R : Mem) (L : List HP) (M : Mem) (A : Option Addr) (n c : Nat) (s s' : Int) (G : Mem → Prop), Hp R (P A n c s :: L) M → (∀ M', Hp R (P A n c s' :: L) M' → G M') → stc M ⟨b, o + 1, none⟩ (.int .u64 s') G
theorem el_item : ElemOk Tryz.prog 65 205 3 24 [.int .u64 0, .int .u64 0, .int .i64 0] := ElemOk.mk' (zv := .agg #[.int .u64 0, .int .u64 0, .int .i64 0]) (by kernel_rfl) (by kernel_rfl) rfl (by omega)
section
variable {R : Mem} {L L' : List HP} {M : Mem} {K : Value → Mem → Prop} {Kp : List PanicEntry → Mem → Prop} {b o : Nat} {P : Option Addr → Nat → Nat → Int → HP} {A : Option Addr} {c : Nat} {s : Int} {l : List HItem} {i j : Nat}
theorem ld_item {q o0 o1 o2 o3 : Nat} {x : HItem} {G : Int → Int → Int → Prop} (h : Hp R L M) (hs : Src R L (some ⟨q, o0, none⟩) (itemE.cells l)) (hi : l[i]? = some x) (e1 : o1 = o0 + i * 3) (e2 : o2 = o0 + i * 3 + 1) (e3 : o3 = o0 + i * 3 + 2) (g : G x.t x.seq x.id) :
    exI (M.ld ⟨q, o1, none⟩) .u64 fun a => exI (M.ld ⟨q, o2, none⟩) .u64 fun b => exI (M.ld ⟨q, o3, none⟩) .i64 fun d => G a b d := by
  refine v_exI (Src.at hs h (i := i) (j := 0) hi rfl (by rw [e1]; rfl)) ?_
  refine v_exI (Src.at hs h (i := i) (j := 1) hi rfl (by rw [e2]; show _ = o0 + (i * 3 + 1); omega)) ?_
  exact v_exI (Src.at hs h (i := i) (j := 2) hi rfl (by rw [e3]; show _ = o0 + (i * 3 + 2); omega)) g
theorem st_item {q o1 o2 o3 : Nat} {x y : HItem} {G : Mem → Prop} (h : Hp R L M) [r : RowAt (some ⟨q, 0, none⟩) L HItem itemE 205 c l L'] (hi : l[i]? = some x) (e1 : o1 = i * 3) (e2 : o2 = i * 3 + 1) (e3 : o3 = i * 3 + 2)
    (k : ∀ M', Hp R (rowH (some ⟨q, 0, none⟩) c (l.set i y) :: L') M' → G M') :
    stc M ⟨q, o1, none⟩ (.int .u64 y.t) fun M1 => stc M1 ⟨q, o2, none⟩ (.int .u64 y.seq) fun M2 => stc M2 ⟨q, o3, none⟩ (.int .i64 y.id) G := by
  have hl := (List.getElem?_eq_some_iff.1 hi).1
  refine s_row (E := itemE) (a := x) (a' := ⟨y.t, x.seq, x.id⟩) i 0 h hi (by decide) rfl e1 ?_
  clear h; intro M h
  refine s_row (E := itemE) (a := ⟨y.t, x.seq, x.id⟩) (a' := ⟨y.t, y.seq, x.id⟩) i 1 h (by simp [hl]) (by decide) rfl e2 ?_
  clear h; intro M h
  refine s_row (E := itemE) (a := ⟨y.t, y.seq, x.id⟩) (a' := y) i 2 h (by simp [hl]) (by decide) rfl e3 ?_
  clear h; intro M h
  rw [set_set', set_set'] at h
  exact k _ h
theorem heap_before {x y : HItem} (h : Hp R L M) (k : ∀ M', Hp R L M' → K (.bool (x.before y)) M') : ACalls Tryz.prog 186 #[.agg #[.int .u64 x.t, .int .u64 x.seq, .int .i64 x.id], .agg #[.int .u64 y.t, .int .u64 y.seq, .int .i64 y.id]] M K Kp := by
  refine vc_heap_before ?_
  repeat (first | (refine s_nwc h ?_; clear h; intro kb M h) | (refine s_stc h ?_; clear h; intro M h) | refine t_exI h ?_ | refine t_exB h ?_ | refine t_exS h ?_ | refine t_exP h ?_ | refine t_exSl h ?_ | refine t_exV h ?_ | refine u_exI ?_ | refine u_exB ?_ | refine u_exS ?_ | refine u_exP ?_ | refine u_exSl ?_ | refine u_exV ?_ | refine u_nilc ?_ | (apply Exists.intro; (repeat apply Exists.intro); refine And.intro rfl ?_) | (refine And.intro ?_ ?_; first | exact trivial | exact rfl | exact t_ld h | (refine lds_s (t_ld h) ?_; (repeat (refine lds_s (t_ld h) ?_)); exact lds_nil) | omega) | refine u_bspT ?_ | refine u_bspF ?_)
  unfold HItem.before at k
  refine bsp_dec.2 ⟨fun h1 => ?_, fun h1 => ?_⟩
  · have := k _ h.fin0
    rwa [decide_eq_true h1, Bool.true_or] at this
  · repeat (first | (refine s_nwc h ?_; clear h; intro kb M h) | (refine s_stc h ?_; clear h; intro M h) | refine t_exI h ?_ | refine t_exB h ?_ | refine t_exS h ?_ | refine t_exP h ?_ | refine t_exSl h ?_ | refine t_exV h ?_ | refine u_exI ?_ | refine u_exB ?_ | refine u_exS ?_ | refine u_exP ?_ | refine u_exSl ?_ | refine u_exV ?_ | refine u_nilc ?_ | (apply Exists.intro; (repeat apply Exists.intro); refine And.intro rfl ?_) | (refine And.intro ?_ ?_; first | exact trivial | exact rfl | exact t_ld h | (refine lds_s (t_ld h) ?_; (repeat (refine lds_s (t_ld h) ?_)); exact lds_nil) | omega) | refine u_bspT ?_ | refine u_bspF ?_)
    refine bsp_eq.2 ⟨fun h2 => ?_, fun h2 => ?_⟩
    · repeat (first | (refine s_nwc h ?_; clear h; intro kb M h) | (refine s_stc h ?_; clear h; intro M h) | refine t_exI h ?_ | refine t_exB h ?_ | refine t_exS h ?_ | refine t_exP h ?_ | refine t_exSl h ?_ | refine t_exV h ?_ | refine u_exI ?_ | refine u_exB ?_ | refine u_exS ?_ | refine u_exP ?_ | refine u_exSl ?_ | refine u_exV ?_ | refine u_nilc ?_ | (apply Exists.intro; (repeat apply Exists.intro); refine And.intro rfl ?_) | (refine And.intro ?_ ?_; first | exact trivial | exact rfl | exact t_ld h | (refine lds_s (t_ld h) ?_; (repeat (refine lds_s (t_ld h) ?_)); exact lds_nil) | omega) | refine u_bspT ?_ | refine u_bspF ?_)
      have := k _ h.fin0
      rwa [decide_eq_false h1, Bool.false_or, beq_iff_eq.2 h2, Bool.true_and] at this
    · have := k _ h.fin0
      rwa [decide_eq_false h1, Bool.false_or, show (x.t == y.t) = false from by simpa using h2, Bool.false_and] at this
theorem heap_swap (D : Hdr b o P) (h : Hp R (P A l.length c s :: rowH A c l :: L) M) (hi : i < l.length) (hj : j < l.length)
    (k : ∀ M', Hp R (P A l.length c s :: rowH A c (hSwap l i j) :: L) M' → K (.tuple #[]) M') : ACalls Tryz.prog 136 #[.pointer (some ⟨b, o, none⟩), .int .i64 (i : Int), .int .i64 (j : Int)] M K Kp := by
  refine vc_heap_Heap_swap ?_
  obtain ⟨q, rfl⟩ := h.row_some (A := A) (by omega) (by decide)
  have hs := h.src (A := some ⟨q, 0, none⟩)
  rw [D.ldS _ _ _ _ _ _ _ h]
  refine u_exSl (u_exSl (u_exSl ⟨by omega, by omega, u_nilc ?_⟩))
  refine ld_item h hs (hAt_of hj) (by simp) (by simp) (by simp) ?_
  refine u_exSl ⟨by omega, by omega, u_nilc ?_⟩
  refine ld_item h hs (hAt_of hi) (by simp) (by simp) (by simp) ?_
  clear hs
  refine ⟨by omega, by omega, u_nilc ?_⟩
  refine st_item (y := hAt l j) h (hAt_of hi) (by simp) (by simp) (by simp) ?_
  clear h; intro M h
  refine ⟨by omega, by omega, u_nilc ?_⟩
  have hj2 : (l.set i (hAt l j))[j]? = some (hAt l j) := by
    rw [List.getElem?_set]
    split
    · rfl
    · exact hAt_of hj
  refine st_item (y := hAt l i) h hj2 (by simp) (by simp) (by simp) ?_
  clear h; intro M h
  exact k _ (h.sub (by repeat (first | exact .refl | refine .cons (by repeat (first | exact .here | apply Pick.there)) ?_ | apply Sub.drop)))
theorem heap_least (D : Hdr b o P) (h : Hp R (P A l.length c s :: rowH A c l :: L) M) (hi : i < l.length) (hl : l.length ≤ 1000000)
    (k : ∀ M', Hp R (P A l.length c s :: rowH A c l :: L) M' → K (.int .i64 (hLeast l i : Int)) M') : ACalls Tryz.prog 185 #[.pointer (some ⟨b, o, none⟩), .int .i64 (i : Int)] M K Kp := by
  refine vc_heap_Heap_least ?_
  have e1 : IntKind.wrap .i64 (IntKind.wrap .i64 (4 * (i : Int)) + 1) = ((4 * i + 1 : Nat) : Int) := by
    rw [wrap_id (z := 4 * (i : Int)) (by omega) (by omega), wrap_id (by omega) (by omega)]; omega
  have e4 : IntKind.wrap .i64 (IntKind.wrap .i64 (4 * (i : Int)) + 4) = ((4 * i + 4 : Nat) : Int) := by
    rw [wrap_id (z := 4 * (i : Int)) (by omega) (by omega), wrap_id (by omega) (by omega)]; omega
  rw [e1, e4]
  refine ⟨fun d vs M => ∃ kk out : Nat, vs = [.int .i64 (out : Int), .int .i64 (kk : Int)] ∧ d = 4 * i + 5 - kk ∧ kk ≤ 4 * i + 5 ∧ out < l.length ∧ out < kk ∧ hLeastFrom l (4 * i + 5 - kk) kk out = hLeast l i ∧ Hp R (P A l.length c s :: rowH A c l :: L) M,
    ⟨_, 4 * i + 1, i, rfl, rfl, by omega, hi, by omega, by rw [show 4 * i + 5 - (4 * i + 1) = 4 from by omega]; rfl, h⟩, ?_⟩
  clear h
  rintro d _ n5 n6 M ⟨kk, out, he, hd, hkk, ho, hok, hf, h⟩
  simp only [List.cons.injEq, Value.int.injEq, and_true, true_and] at he
  obtain ⟨rfl, rfl⟩ := he
  refine bsp_dec.2 ⟨fun hle => ?_, fun hgt => ?_⟩
  · rw [D.ldS _ _ _ _ _ _ _ h]
    obtain ⟨n, hn⟩ : ∃ n, 4 * i + 5 - kk = n + 1 := ⟨4 * i + 4 - kk, by omega⟩
    rw [hn] at hf
    rw [hLeastFrom_succ] at hf
    refine u_exSl ?_
    refine bsp_dec.2 ⟨fun hlt => ?_, fun hge => ?_⟩
    · rw [if_pos (by omega)] at hf
      obtain ⟨q, rfl⟩ := h.row_some (A := A) (by omega) (by decide)
      have hs := h.src (A := some ⟨q, 0, none⟩)
      refine u_exSl ⟨by omega, by omega, u_nilc ?_⟩
      refine ld_item h hs (hAt_of (i := kk) (by omega)) (by simp) (by simp) (by simp) ?_
      refine u_exSl ⟨by omega, by omega, u_nilc ?_⟩
      refine ld_item h hs (hAt_of (i := out) (by omega)) (by simp) (by simp) (by simp) ?_
      refine heap_before h ?_
      clear h hs; intro M h
      refine u_exB ?_
      have e : IntKind.wrap .i64 ((kk : Int) + 1) = ((kk + 1 : Nat) : Int) := by rw [wrap_id (by omega) (by omega)]; omega
      rw [e]
      cases hb : (hAt l kk).before (hAt l out) with
      | true =>
        rw [hb] at hf
        exact u_bspT ⟨n, by omega, kk + 1, kk, rfl, by omega, by omega, by omega, by omega, by rw [show 4 * i + 5 - (kk + 1) = n from by omega]; exact hf, h⟩
      | false =>
        rw [hb] at hf
        exact u_bspF ⟨n, by omega, kk + 1, out, rfl, by omega, by omega, by omega, by omega, by rw [show 4 * i + 5 - (kk + 1) = n from by omega]; exact hf, h⟩
    · rw [if_neg (by omega)] at hf
      subst hf
      exact k _ h
  · have : 4 * i + 5 - kk = 0 := by omega
    rw [this] at hf
    have hf2 : out = hLeast l i := hf
    subst hf2
    exact k _ h
theorem heap_down (D : Hdr b o P) {f : Nat} (h : Hp R (P A l.length c s :: rowH A c l :: L) M) (hi : i < l.length) (hl : l.length ≤ 1000000) (hf : l.length ≤ f + i)
    (k : ∀ M', Hp R (P A l.length c s :: rowH A c (hDown f i l) :: L) M' → K (.tuple #[]) M') : ACalls Tryz.prog 137 #[.pointer (some ⟨b, o, none⟩), .int .i64 (i : Int)] M K Kp := by
  refine vc_heap_Heap_down ?_
  refine heap_least D h hi hl ?_
  clear h; intro M h
  refine u_exI ?_
  refine ⟨fun d vs M => ∃ (f' i' : Nat) (l' : List HItem), vs = [.int .i64 (i' : Int), .int .i64 (hLeast l' i' : Int)] ∧ d = l.length - i' ∧ i' < l.length ∧ l'.length = l.length ∧ l.length ≤ f' + i' ∧ hDown f' i' l' = hDown f i l ∧ Hp R (P A l.length c s :: rowH A c l' :: L) M,
    ⟨_, f, i, l, rfl, rfl, hi, rfl, hf, rfl, h⟩, ?_⟩
  clear h
  rintro d _ n5 n6 M ⟨f', i', l', he, hd, hi', hl', hf', hfe, h⟩
  simp only [List.cons.injEq, Value.int.injEq, and_true, true_and] at he
  obtain ⟨rfl, rfl⟩ := he
  obtain ⟨g, rfl⟩ : ∃ g, f' = g + 1 := ⟨f' - 1, by omega⟩
  rw [hDown_succ] at hfe
  obtain ⟨m1, m2⟩ := hLeast_in (l := l') (i := i') (by omega)
  rw [← hl'] at h
  refine bsp_ne.2 ⟨fun hne => ?_, fun heq => ?_⟩
  · rw [if_neg (by intro e; apply hne; rw [e])] at hfe
    refine heap_swap D h (i := i') (j := hLeast l' i') (by omega) (by omega) ?_
    clear h; intro M h
    refine ⟨rfl, ?_⟩
    have hln : (hSwap l' i' (hLeast l' i')).length = l'.length := hSwap_len
    rw [← hln] at h
    refine heap_least D h (by omega) (by omega) ?_
    clear h; intro M h
    rw [hln] at h
    refine u_exI ?_
    exact ⟨l.length - hLeast l' i', by omega, g, hLeast l' i', _, rfl, rfl, by omega, by omega, by omega, hfe, by rw [← hl']; exact h⟩
  · rw [if_pos (by omega)] at hfe
    subst hfe
    rw [hl'] at h
    exact k _ h
theorem heap_up (D : Hdr b o P) {f : Nat} (h : Hp R (P A l.length c s :: rowH A c l :: L) M) (hi : i < l.length) (hl : l.length ≤ 1000000) (hf : i ≤ f)
    (k : ∀ M', Hp R (P A l.length c s :: rowH A c (hUp f i l) :: L) M' → K (.tuple #[]) M') : ACalls Tryz.prog 138 #[.pointer (some ⟨b, o, none⟩), .int .i64 (i : Int)] M K Kp := by
  refine vc_heap_Heap_up ?_
  refine ⟨fun d vs M => ∃ (f' i' : Nat) (l' : List HItem), vs = [.int .i64 (i' : Int)] ∧ d = i' ∧ i' < l.length ∧ l'.length = l.length ∧ i' ≤ f' ∧ hUp f' i' l' = hUp f i l ∧ Hp R (P A l.length c s :: rowH A c l' :: L) M,
    ⟨_, f, i, l, rfl, rfl, hi, rfl, hf, rfl, h⟩, ?_⟩
  clear h
  rintro d _ n5 M ⟨f', i', l', he, hd, hi', hl', hf', hfe, h⟩
  simp only [List.cons.injEq, Value.int.injEq, and_true, true_and] at he
  subst he
  refine bsp_dec.2 ⟨fun hgt => ?_, fun hle => ?_⟩
  · obtain ⟨g, rfl⟩ : ∃ g, f' = g + 1 := ⟨f' - 1, by omega⟩
    rw [hUp_succ] at hfe
    have ep : IntKind.wrap .i64 (Int.tdiv (IntKind.wrap .i64 ((i' : Int) - 1)) 4) = (((i' - 1) / 4 : Nat) : Int) := by
      rw [wrap_id (z := (i' : Int) - 1) (by omega) (by omega), show ((i' : Int) - 1) = ((i' - 1 : Nat) : Int) from by omega, show (4 : Int) = ((4 : Nat) : Int) from rfl, ← Int.ofNat_tdiv, wrap_id (by omega) (by omega)]
    have hp : (i' - 1) / 4 < i' := by omega
    generalize hpe : (i' - 1) / 4 = p at ep hfe hp
    rw [ep, D.ldS _ _ _ _ _ _ _ h]
    obtain ⟨q, rfl⟩ := h.row_some (A := A) (by omega) (by decide)
    have hs := h.src (A := some ⟨q, 0, none⟩)
    refine ⟨by omega, u_exSl ⟨by omega, by omega, u_nilc ?_⟩⟩
    refine ld_item h hs (hAt_of (i := i') (by omega)) (by simp) (by simp) (by simp) ?_
    refine u_exSl ⟨by omega, by omega, u_nilc ?_⟩
    refine ld_item h hs (hAt_of (i := p) (by omega)) (by simp) (by simp) (by simp) ?_
    refine heap_before h ?_
    clear h hs; intro M h
    refine u_exB ?_
    cases hb : (hAt l' i').before (hAt l' p) with
    | true =>
      rw [if_pos ⟨by omega, hb⟩] at hfe
      refine u_bspT ⟨by omega, ?_⟩
      rw [← hl'] at h
      refine heap_swap D h (i := i') (j := p) (by omega) (by omega) ?_
      clear h; intro M h
      rw [hl'] at h
      exact ⟨rfl, by omega, p, by omega, g, p, _, rfl, rfl, by omega, by rw [hSwap_len]; exact hl', by omega, hfe, h⟩
    | false =>
      rw [if_neg (by rintro ⟨_, h2⟩; rw [hb] at h2; cases h2)] at hfe
      refine u_bspF ?_
      subst hfe
      exact k _ h
  · have : hUp f' i' l' = l' := by
      have h0 : i' = 0 := by omega
      subst h0
      cases f' with
      | zero => rfl
      | succ g => rw [hUp_succ]; rw [if_neg (by omega)]
    rw [this] at hfe
    subst hfe
    exact k _ h
theorem heap_Push (D : Hdr b o P) {t id : Int} (h : Hp R (P A l.length c s :: rowH A c l :: L) M) (hl : l.length < 1000000)
    (k : ∀ v A' c' M', Hp R (P A' (l.length + 1) c' (IntKind.wrap .u64 (s + 1)) :: rowH A' c' (hPush l ⟨t, s, id⟩) :: L) M' → K (.int .u64 v) M') : ACalls Tryz.prog 214 #[.pointer (some ⟨b, o, none⟩), .int .u64 t, .int .i64 id] M K Kp := by
  refine vc_heap_Heap_Push ?_
  rw [D.ldS _ _ _ _ _ _ _ h, D.ldI _ _ _ _ _ _ _ h]
  refine u_exSl (u_exI ?_)
  refine s_nwc h ?_
  clear h; intro kb M h
  replace h : Hp R (P A l.length c s :: rowH A c l :: pt kb [.int .u64 t, .int .u64 s, .int .i64 id] 205 :: L) M := h.sub (by repeat (first | exact .refl | refine .cons (by repeat (first | exact .here | apply Pick.there)) ?_ | apply Sub.drop))
  refine h.rowAppend1 (A := A) el_item [(⟨t, s, id⟩ : HItem)] rfl rfl (by simp only [List.length_singleton]; omega) ?_
  clear h; intro A' c' M h
  refine u_exSl ?_
  have hlen : (l ++ [(⟨t, s, id⟩ : HItem)]).length = l.length + 1 := by simp
  refine D.stS _ _ _ _ _ _ _ _ _ _ _ h.swap ?_
  clear h; intro M h
  rw [D.ldI _ _ _ _ _ _ _ h]
  refine u_exI ?_
  refine D.stI _ _ _ _ _ _ _ _ _ h ?_
  clear h; intro M h
  rw [D.ldS _ _ _ _ _ _ _ h]
  refine u_exSl ?_
  have e : IntKind.wrap .i64 (((l ++ [(⟨t, s, id⟩ : HItem)]).length : Int) - 1) = ((l.length : Nat) : Int) := by
    rw [wrap_id (by omega) (by omega)]; omega
  rw [e]
  refine heap_up D (f := l.length) h (by omega) (by omega) (Nat.le_refl _) ?_
  clear h; intro M h
  refine ⟨rfl, ?_⟩
  rw [D.ldI _ _ _ _ _ _ _ h]
  refine u_exI ?_
  rw [hlen] at h
  exact k _ _ _ _ h
theorem heap_remove (D : Hdr b o P) (h : Hp R (P A l.length c s :: rowH A c l :: L) M) (hi : i < l.length) (hl : l.length ≤ 1000000)
    (k : ∀ M', Hp R (P A (l.length - 1) c s :: rowH A c (hRemove l i) :: L) M' → K (.agg #[.int .u64 (hAt l i).t, .int .u64 (hAt l i).seq, .int .i64 (hAt l i).id]) M') : ACalls Tryz.prog 106 #[.pointer (some ⟨b, o, none⟩), .int .i64 (i : Int)] M K Kp := by
  refine vc_heap_Heap_remove ?_
  have hcap := h.row_le A
  obtain ⟨q, rfl⟩ := h.row_some (A := A) (by omega) (by decide)
  refine s_nwc h ?_
  clear h; intro k1 M h
  have hs := h.src (A := some ⟨q, 0, none⟩)
  replace h : Hp R (P (some ⟨q, 0, none⟩) l.length c s :: rowH (some ⟨q, 0, none⟩) c l :: pt k1 [.int .u64 0, .int .u64 0, .int .i64 0] 205 :: L) M := h.sub (by repeat (first | exact .refl | refine .cons (by repeat (first | exact .here | apply Pick.there)) ?_ | apply Sub.drop))
  replace hs := h.src (A := some ⟨q, 0, none⟩)
  rw [D.ldS _ _ _ _ _ _ _ h]
  refine u_exSl ⟨by omega, by omega, u_nilc ?_⟩
  refine ld_item h hs (hAt_of hi) (by simp) (by simp) (by simp) ?_
  clear hs
  generalize hx : hAt l i = x at k
  refine s_nwc h ?_
  clear h; intro k2 M h
  refine s_stc h ?_
  clear h; intro M h
  refine s_stc h ?_
  clear h; intro M h
  refine s_stc h ?_
  clear h; intro M h
  replace h : Hp R (P (some ⟨q, 0, none⟩) l.length c s :: rowH (some ⟨q, 0, none⟩) c l :: pt k2 [.int .u64 x.t, .int .u64 x.seq, .int .i64 x.id] 205 :: pt k1 [.int .u64 0, .int .u64 0, .int .i64 0] 205 :: L) M := h.sub (by repeat (first | exact .refl | refine .cons (by repeat (first | exact .here | apply Pick.there)) ?_ | apply Sub.drop))
  rw [D.ldS _ _ _ _ _ _ _ h]
  have e : IntKind.wrap .i64 ((l.length : Int) - 1) = ((l.length - 1 : Nat) : Int) := by
    rw [wrap_id (by omega) (by omega)]; omega
  refine u_exSl ?_
  rw [e]
  refine heap_swap D h hi (j := l.length - 1) (by omega) ?_
  clear h; intro M h
  refine ⟨rfl, ?_⟩
  rw [D.ldS _ _ _ _ _ _ _ h]
  refine u_exSl ⟨by omega, by omega, by omega, by omega, by omega, by omega, ?_⟩
  have e2 : slA (some ⟨q, 0, none⟩) 0 (Int.toNat (c : Int)) 3 = some ⟨q, 0, none⟩ := by
    unfold slA; rw [if_neg (by simp; omega)]; rfl
  rw [e2]
  simp only [Int.toNat_natCast, Nat.sub_zero]
  refine D.stS _ _ _ _ _ _ _ _ _ _ _ h ?_
  clear h; intro M h
  have hln : ((hSwap l i (l.length - 1)).take (l.length - 1)).length = l.length - 1 := by rw [List.length_take, hSwap_len]; omega
  have fin : ∀ (M : Mem) (Q : List HP), Hp R (P (some ⟨q, 0, none⟩) (l.length - 1) c s :: rowH (some ⟨q, 0, none⟩) c (hRemove l i) :: pt k2 [.int .u64 x.t, .int .u64 x.seq, .int .i64 x.id] 205 :: pt k1 [.int .u64 0, .int .u64 0, .int .i64 0] 205 :: L) M →
      exI (Mem.ld M ⟨k2, 0, none⟩) .u64 fun n29 => exI (Mem.ld M ⟨k2, (0 + 1), none⟩) .u64 fun n30 => exI (Mem.ld M ⟨k2, (0 + 2), none⟩) .i64 fun n31 =>
      stc M ⟨k1, 0, none⟩ (.int .u64 n29) fun M32 => stc M32 ⟨k1, (0 + 1), none⟩ (.int .u64 n30) fun M33 => stc M33 ⟨k1, (0 + 2), none⟩ (.int .i64 n31) fun M34 =>
      exI (Mem.ld M34 ⟨k1, 0, none⟩) .u64 fun n35 => exI (Mem.ld M34 ⟨k1, (0 + 1), none⟩) .u64 fun n36 => exI (Mem.ld M34 ⟨k1, (0 + 2), none⟩) .i64 fun n37 =>
      K (.agg #[(.int .u64 n35), (.int .u64 n36), (.int .i64 n37)]) M34 := by
    intro M _ h
    refine t_exI h (t_exI h (t_exI h ?_))
    refine s_stc h ?_
    clear h; intro M h
    refine s_stc h ?_
    clear h; intro M h
    refine s_stc h ?_
    clear h; intro M h
    refine t_exI h (t_exI h (t_exI h ?_))
    exact k _ (h.sub (by repeat (first | exact .refl | refine .cons (by repeat (first | exact .here | apply Pick.there)) ?_ | apply Sub.drop)))
  replace h : Hp R (P (some ⟨q, 0, none⟩) (l.length - 1) c s :: rowH (some ⟨q, 0, none⟩) c ((hSwap l i (l.length - 1)).take (l.length - 1)) :: pt k2 [.int .u64 x.t, .int .u64 x.seq, .int .i64 x.id] 205 :: pt k1 [.int .u64 0, .int .u64 0, .int .i64 0] 205 :: L) M := (h.swap.row_take (l.length - 1)).swap
  unfold hRemove at fin
  refine bsp_dec.2 ⟨fun hlt => ?_, fun hge => ?_⟩
  · rw [if_pos (by omega)] at fin
    have h' : Hp R (P (some ⟨q, 0, none⟩) ((hSwap l i (l.length - 1)).take (l.length - 1)).length c s :: rowH (some ⟨q, 0, none⟩) c ((hSwap l i (l.length - 1)).take (l.length - 1)) :: pt k2 [.int .u64 x.t, .int .u64 x.seq, .int .i64 x.id] 205 :: pt k1 [.int .u64 0, .int .u64 0, .int .i64 0] 205 :: L) M := by rw [hln]; exact h
    clear h
    have h := h'
    clear h'
    refine heap_down D (f := l.length) h (by omega) (by omega) (by omega) ?_
    clear h; intro M h
    refine ⟨rfl, ?_⟩
    rw [show ((hSwap l i (l.length - 1)).take (l.length - 1)).length = (hDown l.length i ((hSwap l i (l.length - 1)).take (l.length - 1))).length from hDown_len.symm] at h
    refine heap_up D (f := i) h (by rw [hDown_len]; omega) (by rw [hDown_len]; omega) (Nat.le_refl _) ?_
    clear h; intro M h
    refine ⟨rfl, ?_⟩
    rw [hDown_len, hln] at h
    exact fin M [] h
  · rw [if_neg (by omega)] at fin
    exact fin M [] h
theorem heap_Wake (D : Hdr b o P) {now : Int} (h : Hp R (P A l.length c s :: rowH A c l :: L) M) (hl : l.length ≤ 1000000)
    (k : ∀ A' c' M', Hp R (P A (hWake l.length l now).1.length c s :: rowH A c (hWake l.length l now).1 :: rowH A' c' (hWake l.length l now).2 :: L) M' → K (.slice A' (hWake l.length l now).2.length c') M') :
    ACalls Tryz.prog 89 #[.pointer (some ⟨b, o, none⟩), .int .u64 now] M K Kp := by
  refine vc_heap_Heap_Wake ?_
  have h0 := h.row_nil itemE 205
  refine ⟨fun d vs M => ∃ (A' : Option Addr) (c' : Nat) (out l' : List HItem), vs = [.slice A' out.length c'] ∧ d = l'.length ∧ l'.length + out.length = l.length ∧ (hWake l'.length l' now).1 = (hWake l.length l now).1 ∧ out ++ (hWake l'.length l' now).2 = (hWake l.length l now).2 ∧
      Hp R (P A l'.length c s :: rowH A c l' :: rowH A' c' out :: L) M, ⟨_, none, 0, [], l, rfl, rfl, rfl, rfl, rfl, h0.sub (by repeat (first | exact .refl | refine .cons (by repeat (first | exact .here | apply Pick.there)) ?_ | apply Sub.drop))⟩, ?_⟩
  clear h h0
  rintro d _ A' n' c' M ⟨A2, c2, out, l', he, hd, hln, e1, e2, h⟩
  simp only [List.cons.injEq, Value.slice.injEq, and_true, true_and] at he
  obtain ⟨rfl, rfl, rfl⟩ := he
  rw [D.ldS _ _ _ _ _ _ _ h]
  have stop : ¬ (0 < l'.length ∧ (hAt l' 0).t ≤ now) → K (.slice A' out.length c') M := by
    intro hn
    have e : hWake l'.length l' now = (l', []) := by
      cases hl' : l'.length with
      | zero => rfl
      | succ m => rw [hWake_succ]; rw [if_neg hn]
    rw [e] at e1 e2
    dsimp only at e1 e2
    rw [List.append_nil] at e2
    subst e1; subst e2
    exact k _ _ _ h
  refine u_exSl ?_
  refine bsp_dec.2 ⟨fun hgt => ?_, fun hle => stop (by omega)⟩
  have hcap := h.row_le A
  obtain ⟨q, rfl⟩ := h.row_some (A := A) (by omega) (by decide)
  have hs := h.src (A := some ⟨q, 0, none⟩)
  refine u_exSl ⟨by omega, by omega, u_nilc ?_⟩
  refine v_exI (Src.at hs h (i := 0) (j := 0) (hAt_of (by omega)) rfl rfl) ?_
  clear hs
  refine bsp_dec.2 ⟨fun hle => ?_, fun hgt2 => stop (fun hn => hgt2 hn.2)⟩
  refine heap_remove D h (i := 0) (by omega) (by omega) ?_
  clear h stop; intro M h
  refine ⟨_, _, _, rfl, ?_⟩
  refine s_nwc h ?_
  clear h; intro kb M h
  refine h.rowAppend1 (A := A') el_item [hAt l' 0] rfl rfl (by simp only [List.length_singleton]; omega) ?_
  clear h; intro A3 c3 M h
  refine u_exSl ?_
  have hrl : (hRemove l' 0).length = l'.length - 1 := hRemove_len
  have hw : hWake l'.length l' now = ((hWake (hRemove l' 0).length (hRemove l' 0) now).1, hAt l' 0 :: (hWake (hRemove l' 0).length (hRemove l' 0) now).2) := by
    obtain ⟨m, hm⟩ : ∃ m, l'.length = m + 1 := ⟨l'.length - 1, by omega⟩
    rw [hrl, hm]
    show hWake (m + 1) l' now = _
    rw [hWake_succ]
    rw [if_pos ⟨by omega, hle⟩]; rfl
  rw [hw] at e1 e2
  rw [← hrl] at h
  exact ⟨_, by omega, A3, c3, out ++ [hAt l' 0], hRemove l' 0, rfl, rfl, by simp; omega, e1, by rw [List.append_assoc]; exact e2, h.sub (by repeat (first | exact .refl | refine .cons (by repeat (first | exact .here | apply Pick.there)) ?_ | apply Sub.drop))⟩
end
end Go.Proofs

namespace Go.Proofs
open Go.AF
set_option linter.unusedVariables false
set_option maxRecDepth 100000
set_option maxHeartbeats 1000000
attribute [local irreducible] exI exB exS exP exSl exV nilc stc nwc semK semU bsp
def lkAt (x : Wd) (k : Int) : Lk := x.locks.getD k.toNat ⟨-1, []⟩
def Wd.putLk (x : Wd) (k : Int) (c : Lk) : Wd := { x with locks := x.locks.set k.toNat c }
def Wd.lock (x : Wd) (g : Int) (i : Ins) : Wd := if ((lkAt x i.a).take g).2 then x.putLk i.a ((lkAt x i.a).take g).1 else (x.putLk i.a ((lkAt x i.a).take g).1).block g i
def Wd.unlock (x : Wd) (g : Int) (i : Ins) : Out Wd :=
  if ((lkAt x i.a).give g).2.2 ≠ 0 then .trap (-3) (x.putLk i.a ((lkAt x i.a).give g).1)
  else if ((lkAt x i.a).give g).2.1 ≠ -1 then .on ((x.putLk i.a ((lkAt x i.a).give g).1).wake ((lkAt x i.a).give g).2.1) else .on (x.putLk i.a ((lkAt x i.a).give g).1)
def lkOk (x : Wd) (k : Int) : Prop := 0 ≤ k ∧ k < x.locks.length
instance (x : Wd) (k : Int) : Decidable (lkOk x k) := by unfold lkOk; infer_instance
def unlockOk (x : Wd) (g : Int) (i : Ins) : Prop := lkOk x i.a ∧ (((lkAt x i.a).give g).2.1 ≠ -1 → 0 ≤ ((lkAt x i.a).give g).2.1 ∧ ((lkAt x i.a).give g).2.1 < x.gs.length)
instance (x : Wd) (g : Int) (i : Ins) : Decidable (unlockOk x g i) := by unfold unlockOk; infer_instance
def Wd.rand (x : Wd) (g : Int) (i : Ins) : Drawn → Out Wd
  | .num d => .on ((x.next g).putReg g i.a d)
  | .dry l => .dry l x
def sleepN (x : Wd) (g : Int) (i : Ins) : Int := if 1048576 < topReg x g i.a then 1048576 else topReg x g i.a
def Wd.sleep (x : Wd) (g : Int) (i : Ins) : Wd :=
  if 0 < sleepN x g i then { x.putG g { gorAt x g with st := 3 } with hl := hPush x.hl ⟨IntKind.wrap .u64 (x.clock + IntKind.wrap .u64 (sleepN x g i)), x.hseq, g⟩, hseq := IntKind.wrap .u64 (x.hseq + 1) } else x
def Wd.tick (x : Wd) : Wd := if x.end_ ≠ 0 then { x with ready := [] } else
  let r := hWake x.hl.length x.hl (IntKind.wrap .u64 (x.clock + 1))
  (r.2.map (·.id)).foldl Wd.wake { x with clock := IntKind.wrap .u64 (x.clock + 1), hl := r.1, ready := [] }
section
variable {R : Mem} {L L' L2 : List HP} {M : Mem} {K : Value → Mem → Prop} {Kp : List PanicEntry → Mem → Prop} {pa : PA} {p : Prg} {gg : List GA} {dr : Value} {b : Nat} {x : Wd} {g : Int} {i : Ins}
theorem op_call (hg : gorOk x g) (hb : isReg i.b) : OpSpec R pa p dr 161 x g i (x.call g i) L L := by
  intro gg b bs c M K Kp Q h hgg k
  refine vc_world_World_call ?_
  have hg' := hg
  obtain ⟨h0, h1, h2, h3⟩ := hg'
  unfold Wd.call at k
  refine s_nwc h ?_
  clear h
  intro kb M h
  have hC := h
  have h' := world_at2 h (b := b) h0 h1 hgg
  clear h
  obtain ⟨a, gb, hl, hgb, h⟩ := h'
  have hl' := hl
  obtain ⟨l1, l2, l3, l4⟩ := hl'
  repeat (first | (refine s_nwc h ?_; clear h; intro kb M h) | (refine s_stc h ?_; clear h; intro M h) | refine t_exI h ?_ | refine t_exB h ?_ | refine t_exS h ?_ | refine t_exP h ?_ | refine t_exSl h ?_ | refine t_exV h ?_ | refine u_exI ?_ | refine u_exB ?_ | refine u_exS ?_ | refine u_exP ?_ | refine u_exSl ?_ | refine u_exV ?_ | refine u_nilc ?_ | (apply Exists.intro; (repeat apply Exists.intro); refine And.intro rfl ?_) | (refine And.intro ?_ ?_; first | exact trivial | exact rfl | exact t_ld h | (refine lds_s (t_ld h) ?_; (repeat (refine lds_s (t_ld h) ?_)); exact lds_nil) | omega) | refine u_bspT ?_ | refine u_bspF ?_)
  refine w_g h hgb fun q hq => ?_
  repeat (first | (refine s_nwc h ?_; clear h; intro kb M h) | (refine s_stc h ?_; clear h; intro M h) | refine t_exI h ?_ | refine t_exB h ?_ | refine t_exS h ?_ | refine t_exP h ?_ | refine t_exSl h ?_ | refine t_exV h ?_ | refine u_exI ?_ | refine u_exB ?_ | refine u_exS ?_ | refine u_exP ?_ | refine u_exSl ?_ | refine u_exV ?_ | refine u_nilc ?_ | (apply Exists.intro; (repeat apply Exists.intro); refine And.intro rfl ?_) | (refine And.intro ?_ ?_; first | exact trivial | exact rfl | exact t_ld h | (refine lds_s (t_ld h) ?_; (repeat (refine lds_s (t_ld h) ?_)); exact lds_nil) | omega) | refine u_bspT ?_ | refine u_bspF ?_)
  refine ⟨hb.1, hb.2, f_ld h (gor_top h2) hb rfl ?_⟩
  repeat (first | (refine s_nwc h ?_; clear h; intro kb M h) | (refine s_stc h ?_; clear h; intro M h) | refine t_exI h ?_ | refine t_exB h ?_ | refine t_exS h ?_ | refine t_exP h ?_ | refine t_exSl h ?_ | refine t_exV h ?_ | refine u_exI ?_ | refine u_exB ?_ | refine u_exS ?_ | refine u_exP ?_ | refine u_exSl ?_ | refine u_exV ?_ | refine u_nilc ?_ | (apply Exists.intro; (repeat apply Exists.intro); refine And.intro rfl ?_) | (refine And.intro ?_ ?_; first | exact trivial | exact rfl | exact t_ld h | (refine lds_s (t_ld h) ?_; (repeat (refine lds_s (t_ld h) ?_)); exact lds_nil) | omega) | refine u_bspT ?_ | refine u_bspF ?_)
  refine frame_Call h h2 ?_ ?_
  · intro h16
    rw [if_pos (by omega)] at k
    refine ⟨_, _, _, _, rfl, u_bspT ?_⟩
    exact k _ _ (hC.sub (by repeat (first | exact .refl | refine .cons (by repeat (first | exact .here | apply Pick.there)) ?_ | apply Sub.drop)))
  · intro hlt b' c' M' h'
    clear h hC
    have h := h'
    clear h'
    rw [if_neg (by omega)] at k
    refine ⟨_, _, _, _, rfl, u_bspF ?_⟩
    repeat (first | (refine s_nwc h ?_; clear h; intro kb M h) | (refine s_stc h ?_; clear h; intro M h) | refine t_exI h ?_ | refine t_exB h ?_ | refine t_exS h ?_ | refine t_exP h ?_ | refine t_exSl h ?_ | refine t_exV h ?_ | refine u_exI ?_ | refine u_exB ?_ | refine u_exS ?_ | refine u_exP ?_ | refine u_exSl ?_ | refine u_exV ?_ | refine u_nilc ?_ | (apply Exists.intro; (repeat apply Exists.intro); refine And.intro rfl ?_) | (refine And.intro ?_ ?_; first | exact trivial | exact rfl | exact t_ld h | (refine lds_s (t_ld h) ?_; (repeat (refine lds_s (t_ld h) ?_)); exact lds_nil) | omega) | refine u_bspT ?_ | refine u_bspF ?_)
    refine w_g h hgb fun q2 hq2 => ?_
    repeat (first | (refine s_nwc h ?_; clear h; intro kb M h) | (refine s_stc h ?_; clear h; intro M h) | refine t_exI h ?_ | refine t_exB h ?_ | refine t_exS h ?_ | refine t_exP h ?_ | refine t_exSl h ?_ | refine t_exV h ?_ | refine u_exI ?_ | refine u_exB ?_ | refine u_exS ?_ | refine u_exP ?_ | refine u_exSl ?_ | refine u_exV ?_ | refine u_nilc ?_ | (apply Exists.intro; (repeat apply Exists.intro); refine And.intro rfl ?_) | (refine And.intro ?_ ?_; first | exact trivial | exact rfl | exact t_ld h | (refine lds_s (t_ld h) ?_; (repeat (refine lds_s (t_ld h) ?_)); exact lds_nil) | omega) | refine u_bspT ?_ | refine u_bspF ?_)
    have hlen : (gorAt x g).fs.length + 1 = ((gorAt x g).fs ++ [(⟨i.a, 0, [topReg x g i.b, 0, 0, 0, 0, 0, 0, 0], i.c⟩ : Frm)]).length := by simp
    have h5 := gor_close (A := some ⟨b', 0, none⟩) (fs := (gorAt x g).fs ++ [⟨i.a, 0, [topReg x g i.b, 0, 0, 0, 0, 0, 0, 0], i.c⟩]) h gb hlen
    have hi := (List.getElem?_eq_some_iff.1 hgb).1
    have h6 := h5.objs_in gorR gb hgb (by rw [List.length_zip]; omega)
    rw [zip_set2] at h6
    have hl2 : wLens (gg.set g.toNat (some ⟨b', 0, none⟩, c')) a (x.putG g ⟨(gorAt x g).st, (gorAt x g).fs ++ [⟨i.a, 0, [topReg x g i.b, 0, 0, 0, 0, 0, 0, 0], i.c⟩], (gorAt x g).wt⟩) := ⟨by simpa [Wd.putG] using l1, by simpa [Wd.putG] using l2, l3, l4⟩
    have h7 := world_close (a := a) (p := p) (pa := pa) (dr := dr) (gg := gg.set g.toNat (some ⟨b', 0, none⟩, c')) (x := x.putG g ⟨(gorAt x g).st, (gorAt x g).fs ++ [⟨i.a, 0, [topReg x g i.b, 0, 0, 0, 0, 0, 0, 0], i.c⟩], (gorAt x g).wt⟩) hl2 h6 b
    exact k _ _ (h7.sub (by repeat (first | exact .refl | refine .cons (by repeat (first | exact .here | apply Pick.there)) ?_ | apply Sub.drop)))
theorem lens_lk {a : WA} {k : Int} {c : Lk} (hl : wLens gg a x) : wLens gg a (x.putLk k c) := by
  obtain ⟨l1, l2, l3, l4⟩ := hl
  exact ⟨l1, l2, l3, by simpa [Wd.putLk] using l4⟩
theorem op_lock (hg : gorOk x g) (hk : lkOk x i.a) (hs : x.Sm) : OpSpec R pa p dr 169 x g i (.on (x.lock g i)) L L := by
  intro gg b bs c M K Kp Q h hgg k
  refine vc_world_World_lock ?_
  replace k : ∀ gg' M', Hp R (objP (worldR pa p gg' dr) b (x.lock g i) :: Q :: L) M' → K (.tuple #[]) M' := k
  unfold Wd.lock at k
  obtain ⟨s1, s2, s3, s4, s5, s6, s7, s8⟩ := hs
  obtain ⟨k0, k1⟩ := hk
  refine s_nwc h ?_
  clear h
  intro kb M h
  have h' := world_open h (b := b)
  clear h
  obtain ⟨a, hl, h⟩ := h'
  have hl' := hl
  obtain ⟨l1, l2, l3, l4⟩ := hl'
  refine t_exSl h (t_exI h ⟨k0, by omega, ?_⟩)
  obtain ⟨lb, hlb⟩ := idx_ex (l := a.lb) (i := i.a.toNat) (by omega)
  refine w_g h hlb fun q hq => ?_
  obtain ⟨y, hy⟩ := idx_ex (l := x.locks) (i := i.a.toNat) (by omega)
  have e : lkAt x i.a = y := by simp [lkAt, hy]
  rw [e] at k
  replace h := h.objs_out lockR hlb hy
  refine locks_Take h (Nat.le_trans (s6 y (List.mem_of_getElem? hy)) (by decide)) ?_
  clear h; intro M h
  replace h := h.objs_in lockR lb hlb (by omega)
  replace h := world_close (a := a) (p := p) (pa := pa) (dr := dr) (gg := gg) (x := x.putLk i.a (y.take g).1) (lens_lk hl) h b
  refine u_exB ?_
  cases ht : (y.take g).2 with
  | true =>
    rw [ht] at k
    simp only [if_true] at k
    refine u_bspF ?_
    exact k _ _ (h.sub (by repeat (first | exact .refl | refine .cons (by repeat (first | exact .here | apply Pick.there)) ?_ | apply Sub.drop)))
  | false =>
    rw [ht] at k
    simp only [Bool.false_eq_true, if_false] at k
    refine u_bspT ?_
    refine t_exI h (t_exI h (t_exI h (t_exI h ?_)))
    refine world_block (b := b) (i := i) h hg.1 (show g < (x.putLk i.a (y.take g).1).gs.length from hg.2.1) ?_
    clear h; intro M h
    exact ⟨rfl, k _ _ (h.sub (by repeat (first | exact .refl | refine .cons (by repeat (first | exact .here | apply Pick.there)) ?_ | apply Sub.drop)))⟩
theorem op_unlock (hk : unlockOk x g i) (hs : x.Sm) : OpSpec R pa p dr 170 x g i (x.unlock g i) L L := by
  intro gg b bs c M K Kp Q h hgg k
  refine vc_world_World_unlock ?_
  unfold Wd.unlock at k
  obtain ⟨s1, s2, s3, s4, s5, s6, s7, s8⟩ := hs
  obtain ⟨⟨k0, k1⟩, hw⟩ := hk
  refine s_nwc h ?_
  clear h
  intro kb M h
  have h' := world_open h (b := b)
  clear h
  obtain ⟨a, hl, h⟩ := h'
  have hl' := hl
  obtain ⟨l1, l2, l3, l4⟩ := hl'
  refine t_exSl h (t_exI h ⟨k0, by omega, ?_⟩)
  obtain ⟨lb, hlb⟩ := idx_ex (l := a.lb) (i := i.a.toNat) (by omega)
  refine w_g h hlb fun q hq => ?_
  obtain ⟨y, hy⟩ := idx_ex (l := x.locks) (i := i.a.toNat) (by omega)
  have e : lkAt x i.a = y := by simp [lkAt, hy]
  rw [e] at k hw
  replace h := h.objs_out lockR hlb hy
  refine locks_Give h (Nat.le_trans (s6 y (List.mem_of_getElem? hy)) (by decide)) ?_
  clear h; intro M h
  replace h := h.objs_in lockR lb hlb (by omega)
  replace h := world_close (a := a) (p := p) (pa := pa) (dr := dr) (gg := gg) (x := x.putLk i.a (y.give g).1) (lens_lk hl) h b
  refine ⟨_, _, rfl, ?_⟩
  refine bsp_ne.2 ⟨fun hn => ?_, fun hn => ?_⟩
  · rw [if_pos hn] at k
    exact k _ _ (h.sub (by repeat (first | exact .refl | refine .cons (by repeat (first | exact .here | apply Pick.there)) ?_ | apply Sub.drop)))
  rw [if_neg (by simpa using hn)] at k
  refine bsp_ne.2 ⟨fun hn2 => ?_, fun hn2 => ?_⟩
  · rw [if_pos hn2] at k
    obtain ⟨w0, w1⟩ := hw hn2
    refine world_wake (b := b) h w0 (show _ < ((x.putLk i.a (y.give g).1).gs.length : Int) from w1) (by show x.ready.length ≤ _; omega) ?_
    clear h; intro M h
    exact ⟨rfl, k _ _ (h.sub (by repeat (first | exact .refl | refine .cons (by repeat (first | exact .here | apply Pick.there)) ?_ | apply Sub.drop)))⟩
  · rw [if_neg (by simpa using hn2)] at k
    exact k _ _ (h.sub (by repeat (first | exact .refl | refine .cons (by repeat (first | exact .here | apply Pick.there)) ?_ | apply Sub.drop)))
theorem op_stop : OpSpec R pa p dr 172 x g i (.trap i.a x) L L := by
  intro gg b bs c M K Kp Q h hgg k
  refine vc_world_World_stop ?_
  refine s_nwc h ?_
  clear h
  intro kb M h
  refine t_exI h ?_
  exact k _ _ (h.sub (by repeat (first | exact .refl | refine .cons (by repeat (first | exact .here | apply Pick.there)) ?_ | apply Sub.drop)))
theorem op_yield : OpSpec R pa p dr 164 x g i (.on x) L L := by
  intro gg b bs c M K Kp Q h hgg k
  refine vc_world_World_yield ?_
  refine s_nwc h ?_
  clear h
  intro kb M h
  exact k _ _ (h.sub (by repeat (first | exact .refl | refine .cons (by repeat (first | exact .here | apply Pick.there)) ?_ | apply Sub.drop)))
theorem op_rand {d : Drawn} (hg : gorOk x g) (ha : isReg i.a) (hpc : 0 ≤ (gorAt x g).top.pc ∧ (gorAt x g).top.pc < 1000000000) (hd : DrawSpec R dr 4 i.b d L L2) : OpSpec R pa p dr 123 x g i (x.rand g i d) L L2 := by
  intro gg b bs c M K Kp Q h hgg k
  refine vc_world_World_rand ?_
  refine s_nwc h ?_
  clear h
  intro kb M h
  have hdr : M.ld ⟨b, 0 + 14, none⟩ = some dr := by
    obtain ⟨a, hl, h9⟩ := world_open h (b := b)
    exact t_ld h9
  rw [hdr]
  refine u_exV (t_exI h ?_)
  have h5 : Hp R (sep [objP (worldR pa p gg dr) b x, pt kb [.int .i64 i.op, .int .i64 i.a, .int .i64 i.b, .int .i64 i.c] 34, Q] :: L) M := Hp.sep_iff.2 (h.sub (by repeat (first | exact .refl | refine .cons (by repeat (first | exact .here | apply Pick.there)) ?_ | apply Sub.drop)))
  refine hd _ _ _ _ h5 ?_
  clear h h5 hdr
  cases d with
  | dry l =>
    dsimp only at k ⊢
    intro M h5
    have h : Hp R (objP (worldR pa p gg dr) b x :: pt kb [.int .i64 i.op, .int .i64 i.a, .int .i64 i.b, .int .i64 i.c] 34 :: Q :: L2) M := Hp.sep_iff.1 h5
    exact k _ _ (h.sub (by repeat (first | exact .refl | refine .cons (by repeat (first | exact .here | apply Pick.there)) ?_ | apply Sub.drop)))
  | num v =>
    dsimp only at k ⊢
    intro M h5
    have h : Hp R (objP (worldR pa p gg dr) b x :: pt kb [.int .i64 i.op, .int .i64 i.a, .int .i64 i.b, .int .i64 i.c] 34 :: Q :: L2) M := Hp.sep_iff.1 h5
    clear h5
    refine u_exI ?_
    refine w_ldPc (b := b) h hg hgg rfl ?_
    rw [wrap_succ' hpc.1 (by omega)]
    refine w_stPc (b := b) h hg hgg rfl rfl ?_
    clear h; intro M h
    refine t_exI h ⟨ha.1, ha.2, ?_⟩
    refine w_stReg (b := b) h (gorOk_next hg) hgg ha (by rw [fl_next hg]) ?_
    clear h; intro M h
    exact k _ _ (h.sub (by repeat (first | exact .refl | refine .cons (by repeat (first | exact .here | apply Pick.there)) ?_ | apply Sub.drop)))
abbrev wPre (pa : PA) (p : Prg) (a : WA) (x : Wd) : List Value :=
  [.slice pa.f p.funcs.length pa.fc, .slice pa.c p.chs.length pa.cc, .int .i64 p.locks, .slice pa.k p.cases.length pa.kc, .slice a.ag a.gb.length a.cg, .int .u64 x.clock, .slice a.ac a.cb.length a.cc, .slice a.al a.lb.length a.cl]
abbrev wCellsH (pa : PA) (p : Prg) (dr : Value) (a : WA) (x : Wd) (nr : Nat) (A : Option Addr) (n c : Nat) (s : Int) : List Value :=
  [.slice pa.f p.funcs.length pa.fc, .slice pa.c p.chs.length pa.cc, .int .i64 p.locks, .slice pa.k p.cases.length pa.kc, .slice a.ag a.gb.length a.cg, .int .u64 x.clock,
   .slice a.ac a.cb.length a.cc, .slice a.al a.lb.length a.cl, .slice A n c, .int .u64 s, .slice a.ao x.out.length a.co, .int .i64 x.end_, .int .i64 x.code, .slice a.ar nr a.cr, dr]
theorem w_hdr {a : WA} {nr T : Nat} : Hdr b (0 + 8) (fun A n c s => pt b (wCellsH pa p dr a x nr A n c s) T) :=
  ⟨fun R L M A n c s h => t_ld h, fun R L M A n c s h => t_ld h, fun R L M A A' n c n' c' s G h k => s_stc h k, fun R L M A n c s s' G h k => s_stc h k⟩
theorem op_sleep (hg : gorOk x g) (ha : isReg i.a) (hs : x.hl.length < 1000000) : OpSpec R pa p dr 168 x g i (.on (x.sleep g i)) L L := by
  intro gg b bs c M K Kp Q h hgg k
  refine vc_world_World_sleep ?_
  replace k : ∀ gg' M', Hp R (objP (worldR pa p gg' dr) b (x.sleep g i) :: Q :: L) M' → K (.tuple #[]) M' := k
  have hg' := hg
  obtain ⟨h0, h1, h2, h3⟩ := hg'
  unfold Wd.sleep at k
  refine s_nwc h ?_
  clear h
  intro kb M h
  refine t_exI h ⟨ha.1, ha.2, ?_⟩
  refine w_reg (b := b) h hg hgg ha rfl ?_
  have hC := h
  have h' := world_open h (b := b)
  clear h
  obtain ⟨a, hl, h⟩ := h'
  have hl' := hl
  obtain ⟨l1, l2, l3, l4⟩ := hl'
  have e : (if (1048576 : Int) < topReg x g i.a then 1048576 else topReg x g i.a) = sleepN x g i := rfl
  rw [e]
  refine bsp_dec.2 ⟨fun hn => ?_, fun hn => ?_⟩
  · rw [if_pos (by omega)] at k
    refine t_exI h ?_
    clear hC
    replace h : Hp R (pt b (wCellsH pa p dr a x x.ready.length a.ah x.hl.length a.ch x.hseq) 164 :: rowH a.ah a.ch x.hl :: objsP gorR a.gb (x.gs.zip gg) :: rowPG a.ag a.cg a.gb :: rowPC a.ac a.cc a.cb :: objsP chanR a.cb x.chans :: rowPL a.al a.cl a.lb :: objsP lockR a.lb x.locks :: rowB a.ao a.co x.out :: rowI a.ar a.cr x.ready :: Q :: L) M := h.sub (by repeat (first | exact .refl | refine .cons (by repeat (first | exact .here | apply Pick.there)) ?_ | apply Sub.drop))
    refine heap_Push (w_hdr (a := a) (x := x)) h hs ?_
    clear h; intro v A' c' M h
    refine u_exI ?_
    have h9 : Hp R (objP (worldR pa p gg dr) b { x with hl := hPush x.hl ⟨IntKind.wrap .u64 (x.clock + IntKind.wrap .u64 (sleepN x g i)), x.hseq, g⟩, hseq := IntKind.wrap .u64 (x.hseq + 1) } :: Q :: L) M := by
      have := hPush_len (l := x.hl) (x := ⟨IntKind.wrap .u64 (x.clock + IntKind.wrap .u64 (sleepN x g i)), x.hseq, g⟩)
      rw [← this] at h
      exact world_mk (a := { a with ah := A', ch := c' }) (x := { x with hl := hPush x.hl ⟨IntKind.wrap .u64 (x.clock + IntKind.wrap .u64 (sleepN x g i)), x.hseq, g⟩, hseq := IntKind.wrap .u64 (x.hseq + 1) }) ⟨l1, l2, l3, l4⟩ (h.sub (by repeat (first | exact .refl | refine .cons (by repeat (first | exact .here | apply Pick.there)) ?_ | apply Sub.drop)))
    clear h hl l1 l2 l3 l4
    have h := h9
    clear h9
    have h' := world_at2 (x := { x with hl := hPush x.hl ⟨IntKind.wrap .u64 (x.clock + IntKind.wrap .u64 (sleepN x g i)), x.hseq, g⟩, hseq := IntKind.wrap .u64 (x.hseq + 1) }) h (b := b) h0 h1 hgg
    clear h
    obtain ⟨a2, gb, hl, hgb, h⟩ := h'
    have hl' := hl
    obtain ⟨l1, l2, l3, l4⟩ := hl'
    refine t_exSl h ⟨h0, by dsimp only at l1; omega, ?_⟩
    refine w_g h hgb fun q hq => ?_
    refine u_nilc ?_
    refine s_stc h ?_
    clear h; intro M h
    replace h := world_in h gb hl hgb hgg
    have hl2 := lens_put (y := { gorAt x g with st := 3 }) (g := g) hl
    replace h := world_close (a := a2) (p := p) (pa := pa) (dr := dr) (gg := gg) (x := { x.putG g { gorAt x g with st := 3 } with hl := hPush x.hl ⟨IntKind.wrap .u64 (x.clock + IntKind.wrap .u64 (sleepN x g i)), x.hseq, g⟩, hseq := IntKind.wrap .u64 (x.hseq + 1) }) hl2 h b
    exact k _ _ (h.sub (by repeat (first | exact .refl | refine .cons (by repeat (first | exact .here | apply Pick.there)) ?_ | apply Sub.drop)))
  · rw [if_neg (by omega)] at k
    exact k _ _ (hC.sub (by repeat (first | exact .refl | refine .cons (by repeat (first | exact .here | apply Pick.there)) ?_ | apply Sub.drop)))
theorem wake_gs {l : List Int} : ∀ {x : Wd}, (l.foldl Wd.wake x).gs.length = x.gs.length := by
  induction l with
  | nil => intro x; rfl
  | cons a l ih => intro x; rw [List.foldl_cons, ih]; simp [Wd.wake, Wd.putG]
theorem wake_ready {l : List Int} : ∀ {x : Wd}, (l.foldl Wd.wake x).ready = x.ready ++ l := by
  induction l with
  | nil => intro x; simp
  | cons a l ih => intro x; rw [List.foldl_cons, ih]; simp [Wd.wake]
theorem world_Tick (h : Hp R L M) [o : IAt b L pa p x L'] (hs : x.hl.length ≤ 1000000) (hw : ∀ y ∈ (hWake x.hl.length x.hl (IntKind.wrap .u64 (x.clock + 1))).2, 0 ≤ y.id ∧ y.id < x.gs.length)
    (k : ∀ R' A c M', R.le R' → RS intE R' A c x.tick.ready → Hp R' (objP (idleR pa p) b x.tick :: L') M' → K (.slice A x.tick.ready.length c) M') :
    ACalls Tryz.prog 43 #[.pointer (some ⟨b, 0, none⟩)] M K Kp := by
  refine vc_world_World_Tick ?_
  have h' := idle_open h (b := b)
  clear h
  obtain ⟨a, gg, dr, n, hl, h⟩ := h'
  have hl' := hl
  obtain ⟨l1, l2, l3, l4⟩ := hl'
  unfold Wd.tick at k
  dsimp only at k
  refine t_exI h ?_
  refine bsp_ne.2 ⟨fun he => ?_, fun he => ?_⟩
  · rw [if_pos he] at k
    exact k R none 0 M (Mem.le_refl _) (RS.nil _ _) (idle_mk (a := a) (gg := gg) (dr := dr) (n := n) (x := { x with ready := [] }) hl h)
  rw [if_neg (by simpa using he)] at k
  refine t_exI h ?_
  refine s_stc h ?_
  clear h; intro M h
  refine s_stc h ?_
  clear h; intro M h
  refine t_exI h ?_
  replace h : Hp R (pt b (wCellsH pa p dr { a with ar := none, cr := 0 } { x with clock := IntKind.wrap .u64 (x.clock + 1) } 0 a.ah x.hl.length a.ch x.hseq) 164 :: rowH a.ah a.ch x.hl :: objsP gorR a.gb (x.gs.zip gg) :: rowPG a.ag a.cg a.gb :: rowPC a.ac a.cc a.cb :: objsP chanR a.cb x.chans :: rowPL a.al a.cl a.lb :: objsP lockR a.lb x.locks :: rowB a.ao a.co x.out :: L') M := h.sub (by repeat (first | exact .refl | refine .cons (by repeat (first | exact .here | apply Pick.there)) ?_ | apply Sub.drop))
  refine heap_Wake (w_hdr (a := { a with ar := none, cr := 0 }) (x := { x with clock := IntKind.wrap .u64 (x.clock + 1) })) h hs ?_
  clear h; intro A' c' M h
  have hlen : (hWake x.hl.length x.hl (IntKind.wrap .u64 (x.clock + 1))).2.length ≤ x.hl.length := by
    have : ∀ (f : Nat) (l : List HItem) (now : Int), (hWake f l now).2.length ≤ f := by
      intro f
      induction f with
      | zero => intro l now; exact Nat.le_refl _
      | succ f ih => intro l now; unfold hWake; split
                     · have := ih (hRemove l 0) now; simp; exact this
                     · exact Nat.zero_le _
    exact this _ _ _
  generalize hWake x.hl.length x.hl (IntKind.wrap .u64 (x.clock + 1)) = r at h k hw hlen
  refine u_exSl ?_
  have h0 := h.row_nil intE 3
  have hW : Hp R (objP (worldR pa p gg dr) b { x with clock := IntKind.wrap .u64 (x.clock + 1), hl := r.1, ready := [] } :: rowH A' c' r.2 :: L') M :=
    world_mk (a := { a with ar := none, cr := 0 }) (x := { x with clock := IntKind.wrap .u64 (x.clock + 1), hl := r.1, ready := [] }) ⟨l1, l2, l3, l4⟩ (h0.sub (by repeat (first | exact .refl | refine .cons (by repeat (first | exact .here | apply Pick.there)) ?_ | apply Sub.drop)))
  clear h h0
  generalize hx1 : ({ x with clock := IntKind.wrap .u64 (x.clock + 1), hl := r.1, ready := [] } : Wd) = x1 at hW k
  have hgs : x1.gs.length = x.gs.length := by rw [← hx1]
  have hrd : x1.ready = [] := by rw [← hx1]
  refine ⟨fun d vs M => ∃ j : Nat, vs = [.int .i64 (j : Int)] ∧ d = r.2.length - j ∧ j ≤ r.2.length ∧ Hp R (objP (worldR pa p gg dr) b (((r.2.take j).map (·.id)).foldl Wd.wake x1) :: rowH A' c' r.2 :: L') M, ⟨_, 0, rfl, rfl, by omega, hW⟩, ?_⟩
  clear hW
  rintro d _ nn M ⟨j, he2, hd, hj, h⟩
  simp only [List.cons.injEq, Value.int.injEq, and_true, true_and] at he2
  subst he2
  refine bsp_dec.2 ⟨fun hlt => ?_, fun hge => ?_⟩
  · obtain ⟨w, hww⟩ := idx_ex (l := r.2) (i := j) (by omega)
    have hwm := hw w (List.mem_of_getElem? hww)
    obtain ⟨q, rfl⟩ := h.row_some (A := A') (by omega) (by decide)
    have hsr := h.src (A := some ⟨q, 0, none⟩)
    refine ⟨by omega, hlt, u_nilc ?_⟩
    refine ld_item h hsr hww (by simp) (by simp) (by simp) ?_
    clear hsr
    refine s_nwc h ?_
    clear h; intro kw M h
    refine s_stc h ?_
    clear h; intro M h
    refine s_stc h ?_
    clear h; intro M h
    refine s_stc h ?_
    clear h; intro M h
    refine t_exI h ?_
    refine world_wake (b := b) h hwm.1 (by rw [wake_gs, hgs]; exact hwm.2) (by rw [wake_ready, hrd]; simp; omega) ?_
    clear h; intro M h
    refine ⟨rfl, r.2.length - (j + 1), by omega, j + 1, by rw [wrap_succ (by omega)], rfl, by omega, ?_⟩
    rw [take_snoc hww, List.map_append, List.foldl_append]
    exact h.sub (by repeat (first | exact .refl | refine .cons (by repeat (first | exact .here | apply Pick.there)) ?_ | apply Sub.drop))
  · have hjl : j = r.2.length := by omega
    subst hjl
    rw [List.take_length] at h
    generalize hz : (r.2.map (·.id)).foldl Wd.wake x1 = z at h k
    have h' := world_open h (b := b)
    clear h
    obtain ⟨a2, hl2, h⟩ := h'
    refine t_exSl h ?_
    obtain ⟨R', hle, hrs, h6⟩ := h.sealRow a2.ar
    exact k R' _ _ _ hle hrs (idle_mk (a := a2) (n := z.ready.length) (gg := gg) (dr := dr) hl2 (h6.sub (by repeat (first | exact .refl | refine .cons (by repeat (first | exact .here | apply Pick.there)) ?_ | apply Sub.drop))))
end
end Go.Proofs

namespace Go.Proofs
open Go.AF
set_option linter.unusedVariables false
set_option maxRecDepth 100000
set_option maxHeartbeats 1000000
attribute [local irreducible] exI exB exS exP exSl exV nilc stc nwc semK semU bsp
def sendOk2 (x : Wd) (g : Int) (i : Ins) : Out (Wd × Bool) → Prop
  | .on (y, false) => gorOk y g ∧ (gorAt y g).fs.length = (gorAt x g).fs.length ∧ waitOk y i.a
  | .on (_, true) => True
  | .trap _ _ => True
  | .dry _ _ => True
instance (x : Wd) (g : Int) (i : Ins) (r : Out (Wd × Bool)) : Decidable (sendOk2 x g i r) := match r with
  | .on (y, false) => by unfold sendOk2; infer_instance
  | .on (_, true) => isTrue trivial
  | .trap _ _ => isTrue trivial
  | .dry _ _ => isTrue trivial
theorem sendOk_of {p : Prg} {x : Wd} {g : Int} {i : Ins} (h : gorOk x g ∧ isReg i.b ∧ putOk p x i.a (topReg x g i.b) ∧ sendOk2 x g i (x.put p i.a (topReg x g i.b))) : sendOk p x g i := by
  obtain ⟨h1, h2, h3, h4⟩ := h
  refine ⟨h1, h2, h3, ?_⟩
  generalize x.put p i.a (topReg x g i.b) = r at h4
  match r, h4 with
  | .on (y, false), h4 => exact h4
  | .on (y, true), _ => trivial
  | .trap _ _, _ => trivial
  | .dry _ _, _ => trivial
instance (x : Wd) (g : Int) (i : Ins) : Decidable (recvOk x g i) := by unfold recvOk; infer_instance
instance (p : Prg) (x : Wd) (i : Ins) : Decidable (closeOk p x i) := by unfold closeOk; infer_instance
/-- What a select's drawn case needs. -/
def caseOk (p : Prg) (x : Wd) (g : Int) (i : Ins) (k : Int) : Prop :=
  let c := (caseList p i).getD k.toNat ⟨0, 0, 0⟩
  let x1 := x.next g
  0 ≤ k ∧ k < (caseList p i).length ∧ isReg c.reg ∧
    if c.way = 1 then putOk p x1 c.ch (topReg x1 g c.reg) ∧ (match x1.put p c.ch (topReg x1 g c.reg) with
      | .on (y, _) => gorOk y g ∧ (gorAt y g).fs.length = (gorAt x g).fs.length
      | _ => True)
    else getOk x1 c.ch ∧ gorOk (x1.get c.ch).1 g ∧ (gorAt (x1.get c.ch).1 g).fs.length = (gorAt x g).fs.length
instance (g : Int) (n : Nat) (r : Out (Wd × Bool)) : Decidable (match r with
      | .on (y, _) => gorOk y g ∧ (gorAt y g).fs.length = n
      | _ => True) := match r with
  | .on (y, _) => by dsimp only; infer_instance
  | .trap _ _ => isTrue trivial
  | .dry _ _ => isTrue trivial
instance (p : Prg) (x : Wd) (g : Int) (i : Ins) (k : Int) : Decidable (caseOk p x g i k) := by unfold caseOk; infer_instance
def chooseOkB (p : Prg) (x : Wd) (g : Int) (i : Ins) (d : Drawn) : Bool :=
  decide (gorOk x g ∧ casesOk p i ∧ isReg i.c ∧ x.Sm ∧ (gorAt x g).top.pc < 1000000000 ∧ 0 ≤ (gorAt x g).top.pc ∧ (∀ c ∈ caseList p i, c.Ok x.chans.length)) &&
  (match d with
    | .dry _ => true
    | .num v => (enabled (caseList p i) x.chans).isEmpty || decide (0 ≤ v ∧ v < (enabled (caseList p i) x.chans).length ∧ caseOk p x g i ((enabled (caseList p i) x.chans).getD v.toNat 0)))
theorem chooseOk_of {p : Prg} {x : Wd} {g : Int} {i : Ins} {d : Drawn} (h : chooseOkB p x g i d = true) : chooseOk p x g i d := by
  unfold chooseOkB at h
  rw [Bool.and_eq_true] at h
  obtain ⟨h1, h2⟩ := h
  obtain ⟨a1, a2, a3, a4, a5, a6, a7⟩ := of_decide_eq_true h1
  refine ⟨a1, a2, a3, a4, a5, a6, a7, ?_⟩
  cases d with
  | dry l => split <;> trivial
  | num v =>
    dsimp only at h2
    cases he : enabled (caseList p i) x.chans with
    | nil => trivial
    | cons q l =>
      rw [he] at h2
      rw [List.isEmpty_cons, Bool.false_or] at h2
      have h3 := of_decide_eq_true h2
      exact h3
/-- What an op behind the pure ones comes to, if all it needs is there. -/
def deed (p : Prg) (x : Wd) (g : Int) (i : Ins) : Option (Out Wd) :=
  if i.op = 10 then (if gorOk x g ∧ isReg i.a ∧ isReg (gorAt x g).top.into then some (.on (x.back g i)) else none)
  else if i.op = 11 then (if gorOk x g ∧ isReg i.b ∧ isReg i.c ∧ x.Sm then some (x.spawn g i) else none)
  else if i.op = 13 then (if (gorOk x g ∧ isReg i.b ∧ putOk p x i.a (topReg x g i.b) ∧ sendOk2 x g i (x.put p i.a (topReg x g i.b))) ∧ x.Sm then some (x.send p g i) else none)
  else if i.op = 14 then (if recvOk x g i ∧ x.Sm then some (.on (x.recv g i)) else none)
  else if i.op = 15 then (if closeOk p x i ∧ x.Sm then some (x.shut p i) else none)
  else if i.op = 20 then (if gorOk x g ∧ isReg i.a ∧ x.Sm then some (x.emit g i) else none)
  else if i.op = 9 then (if gorOk x g ∧ isReg i.b then some (x.call g i) else none)
  else if i.op = 12 then some (.on x)
  else if i.op = 17 then (if gorOk x g ∧ isReg i.a ∧ x.hl.length < 1000000 then some (.on (x.sleep g i)) else none)
  else if i.op = 18 then (if gorOk x g ∧ lkOk x i.a ∧ x.Sm then some (.on (x.lock g i)) else none)
  else if i.op = 19 then (if unlockOk x g i ∧ x.Sm then some (x.unlock g i) else none)
  else if i.op = 22 then some (.trap i.a x)
  else none
def insAt (p : Prg) (x : Wd) (g : Int) : Option Ins := match p.funcs[(gorAt x g).top.fn.toNat]? with
  | none => none
  | some code => code[(gorAt x g).top.pc.toNat]?
/-- Can it go on? -/
def canGo (x : Wd) (g : Int) : Prop := 0 ≤ g ∧ g < x.gs.length ∧ x.end_ = 0 ∧ (gorAt x g).st = 1
instance (x : Wd) (g : Int) : Decidable (canGo x g) := by unfold canGo; infer_instance
/-- What the next instruction draws: the kind, below how many. -/
def asks (p : Prg) (x : Wd) (g : Int) : Option (Int × Int) :=
  if canGo x g then match insAt p x g with
    | none => none
    | some i => if i.op = 21 then some (4, i.b) else if i.op = 16 then (if enabled (caseList p i) x.chans = [] then none else some (3, (enabled (caseList p i) x.chans).length)) else none
  else none
/-- A goroutine's step, by a draw: what it comes to, may it not go on at once. -/
def execR (p : Prg) (x0 : Wd) (g : Int) (d : Drawn) : Option (Out Wd × Bool) :=
  let x := { x0 with ready := [] }
  if canGo x g then
    if gorOk x g ∧ 0 ≤ (gorAt x g).top.fn ∧ 0 ≤ (gorAt x g).top.pc ∧ (gorAt x g).top.pc < 1000000000 then
      match p.funcs[(gorAt x g).top.fn.toNat]? with
      | none => none
      | some code => match code[(gorAt x g).top.pc.toNat]? with
        | none => some (.trap (-7) x, false)
        | some i =>
          if 0 ≤ i.op ∧ i.op ≤ 8 then (if i.okPure then some (.on (x.putG g ((gorAt x g).putTop ((gorAt x g).top.next.pure i))), false) else none)
          else if i.op = 16 then (if chooseOkB p x g i d = true then (if g < (x.choose p g i d).fin.gs.length then some (x.choose p g i d, false) else none) else none)
          else if i.op = 21 then (if isReg i.a then (if g < (x.rand g i d).fin.gs.length then some (x.rand g i d, false) else none) else none)
          else match deed p (x.next g) g i with
            | none => none
            | some r => if g < r.fin.gs.length then some (r, restOf i.op r) else none
    else none
  else some (.on x, true)
/-- A goroutine's step: the world, can it go on. -/
def exec (p : Prg) (x : Wd) (g : Int) (d : Drawn) : Option (Wd × Bool) := match execR p x g d with
  | some (.on y, rest) => some (y, keepOf y g rest)
  | some (.trap n y, rest) => some ({ y with end_ := 2, code := n }, keepOf { y with end_ := 2, code := n } g rest)
  | _ => none
section
variable {R : Mem} {L L' L2 : List HP} {M : Mem} {K : Value → Mem → Prop} {Kp : List PanicEntry → Mem → Prop} {pa : PA} {p : Prg} {gg : List GA} {dr : Value} {b : Nat} {x : Wd} {g : Int}
theorem ite_some {α : Type} {c : Prop} [Decidable c] {a b : α} (h : (if c then some a else none) = some b) : c ∧ b = a := by
  split at h
  · rename_i hc; cases h; exact ⟨hc, rfl⟩
  · cases h
theorem deed_step {i : Ins} {r : Out Wd} (hp : PrgR R pa p) (h : deed p x g i = some r) : ∃ fn, aget wTab i.op = some (.func (.func fn) #[] #[]) ∧ (1 < fn ∧ fn < 228) ∧ i.op ≠ 16 ∧ i.op ≠ 21 ∧ 8 < i.op ∧ ∀ L, OpSpec R pa p dr fn x g i r L L := by
  unfold deed at h
  by_cases e : i.op = 10
  · rw [if_pos e] at h
    obtain ⟨hc, rfl⟩ := ite_some h
    exact ⟨162, by rw [e]; rfl, by decide, by omega, by omega, by omega, fun L => op_back hc.1 hc.2.1 hc.2.2⟩
  rw [if_neg e] at h
  clear e
  by_cases e : i.op = 11
  · rw [if_pos e] at h
    obtain ⟨hc, rfl⟩ := ite_some h
    exact ⟨163, by rw [e]; rfl, by decide, by omega, by omega, by omega, fun L => op_spawn hc.1 hc.2.1 hc.2.2.1 hc.2.2.2⟩
  rw [if_neg e] at h
  clear e
  by_cases e : i.op = 13
  · rw [if_pos e] at h
    obtain ⟨hc, rfl⟩ := ite_some h
    exact ⟨165, by rw [e]; rfl, by decide, by omega, by omega, by omega, fun L => op_send hp (sendOk_of hc.1) hc.2⟩
  rw [if_neg e] at h
  clear e
  by_cases e : i.op = 14
  · rw [if_pos e] at h
    obtain ⟨hc, rfl⟩ := ite_some h
    exact ⟨166, by rw [e]; rfl, by decide, by omega, by omega, by omega, fun L => op_recv hc.1 hc.2⟩
  rw [if_neg e] at h
  clear e
  by_cases e : i.op = 15
  · rw [if_pos e] at h
    obtain ⟨hc, rfl⟩ := ite_some h
    exact ⟨167, by rw [e]; rfl, by decide, by omega, by omega, by omega, fun L => op_shut hp hc.1 hc.2⟩
  rw [if_neg e] at h
  clear e
  by_cases e : i.op = 20
  · rw [if_pos e] at h
    obtain ⟨hc, rfl⟩ := ite_some h
    exact ⟨171, by rw [e]; rfl, by decide, by omega, by omega, by omega, fun L => op_emit hc.1 hc.2.1 hc.2.2⟩
  rw [if_neg e] at h
  clear e
  by_cases e : i.op = 9
  · rw [if_pos e] at h
    obtain ⟨hc, rfl⟩ := ite_some h
    exact ⟨161, by rw [e]; rfl, by decide, by omega, by omega, by omega, fun L => op_call hc.1 hc.2⟩
  rw [if_neg e] at h
  clear e
  by_cases e : i.op = 12
  · rw [if_pos e] at h
    cases h
    exact ⟨164, by rw [e]; rfl, by decide, by omega, by omega, by omega, fun L => op_yield⟩
  rw [if_neg e] at h
  clear e
  by_cases e : i.op = 17
  · rw [if_pos e] at h
    obtain ⟨hc, rfl⟩ := ite_some h
    exact ⟨168, by rw [e]; rfl, by decide, by omega, by omega, by omega, fun L => op_sleep hc.1 hc.2.1 hc.2.2⟩
  rw [if_neg e] at h
  clear e
  by_cases e : i.op = 18
  · rw [if_pos e] at h
    obtain ⟨hc, rfl⟩ := ite_some h
    exact ⟨169, by rw [e]; rfl, by decide, by omega, by omega, by omega, fun L => op_lock hc.1 hc.2.1 hc.2.2⟩
  rw [if_neg e] at h
  clear e
  by_cases e : i.op = 19
  · rw [if_pos e] at h
    obtain ⟨hc, rfl⟩ := ite_some h
    exact ⟨170, by rw [e]; rfl, by decide, by omega, by omega, by omega, fun L => op_unlock hc.1 hc.2⟩
  rw [if_neg e] at h
  clear e
  by_cases e : i.op = 22
  · rw [if_pos e] at h
    cases h
    exact ⟨172, by rw [e]; rfl, by decide, by omega, by omega, by omega, fun L => op_stop⟩
  rw [if_neg e] at h
  clear e
  cases h
theorem idle_ready {l : List Int} (h : Hp R (objP (idleR pa p) b x :: L) M) : Hp R (objP (idleR pa p) b { x with ready := l } :: L) M := by
  obtain ⟨a, gg, dr, n, hl, h⟩ := idle_open h (b := b)
  exact idle_mk (a := a) (gg := gg) (dr := dr) (n := n) (x := { x with ready := l }) hl h
theorem DrawSpec.cons {kind n : Int} {d : Drawn} {Q : HP} (h : DrawSpec R dr kind n d L L2) : DrawSpec R dr kind n d (Q :: L) (Q :: L2) := by
  intro Q' M K Kp hM k
  refine h (sep [Q', Q]) M K Kp (Hp.sep_iff.2 hM) ?_
  cases d with
  | num v => exact fun M' h' => k M' (Hp.sep_iff.1 h')
  | dry l => exact fun M' h' => k M' (Hp.sep_iff.1 h')
theorem law_ExecR {d : Drawn} {r : Out Wd} {rest : Bool} (h : Hp R L M) [o : IAt b L pa p x L'] (hp : PrgR R pa p) (hdr : ∃ f c d, dr = .func f c d) (he : execR p x g d = some (r, rest))
    (hd : match asks p { x with ready := [] } g with | none => L2 = L' | some (kd, n) => DrawSpec R dr kd n d L' L2) (k : ExecEnd R pa p b g L2 K Kp r rest) :
    ACalls Tryz.prog 41 #[.pointer (some ⟨b, 0, none⟩), .int .i64 g, dr] M K Kp := by
  unfold execR at he
  dsimp only at he
  split at he
  · rename_i hg
    have hg' := hg
    obtain ⟨h0, h1, hr0, hr1⟩ := hg'
    split at he
    · rename_i hpc
      obtain ⟨hgo, hf0, hp0, hp1⟩ := hpc
      split at he
      · cases he
      · rename_i code hcode
        have done : ∀ (r : Out Wd) (rest : Bool), ExecEnd R pa p b g L2 K Kp r rest → (∀ Q, Step R pa p dr { x with ready := [] } g code r rest (Q :: L') (Q :: L2)) → g < r.fin.gs.length → ACalls Tryz.prog 41 #[.pointer (some ⟨b, 0, none⟩), .int .i64 g, dr] M K Kp := by
          intro r rest k hs hl
          exact world_Exec (x := x) h hp (show gorOk x g from hgo) hr0 hr1 hf0 hcode ⟨hp0, hp1⟩ hdr hs hl k
        have hask : ∀ i, code[(gorAt x g).top.pc.toNat]? = some i → asks p { x with ready := [] } g = if i.op = 21 then some (4, i.b) else if i.op = 16 then (if enabled (caseList p i) x.chans = [] then none else some (3, ((enabled (caseList p i) x.chans).length : Int))) else none := by
          intro i hi
          unfold asks
          rw [if_pos hg]
          unfold insAt
          rw [show p.funcs[(gorAt { x with ready := [] } g).top.fn.toNat]? = some code from hcode]
          dsimp only
          rw [show code[(gorAt { x with ready := [] } g).top.pc.toNat]? = some i from hi]
        split at he
        · rename_i hnone
          cases he
          have e : asks p { x with ready := [] } g = none := by
            unfold asks
            rw [if_pos hg]
            unfold insAt
            rw [show p.funcs[(gorAt { x with ready := [] } g).top.fn.toNat]? = some code from hcode]
            dsimp only
            rw [hnone]
          rw [e] at hd
          dsimp only at hd
          subst hd
          refine done (.trap (-7) { x with ready := [] }) false k (fun Q => .out ?_) h1
          have := List.getElem?_eq_none_iff.1 hnone
          omega
        · rename_i i hi
          have e := hask i hi
          rw [e] at hd
          clear e hask
          split at he
          · rename_i h8
            split at he
            · rename_i hok
              cases he
              rw [if_neg (by omega), if_neg (by omega)] at hd
              dsimp only at hd
              subst hd
              exact done (.on _) false k (fun Q => .pure i hi h8.1 h8.2 hok) (by simpa [Out.fin, Wd.putG] using h1)
            · cases he
          split at he
          · rename_i e16
            split at he
            · rename_i hok
              split at he
              · rename_i hl
                cases he
                rw [if_neg (by omega), if_pos e16] at hd
                refine done _ false k (fun Q => .sel i hi e16 (op_choose hp (chooseOk_of hok) ?_)) hl
                split at hd
                · rename_i hq
                  split at hq
                  · rename_i hq2
                    rw [if_pos (by exact hq2), hd]
                  · cases hq
                · rename_i kd n hq
                  split at hq
                  · cases hq
                  · rename_i hq2
                    cases hq
                    rw [if_neg (by exact hq2)]
                    exact hd.cons
              · cases he
            · cases he
          split at he
          · rename_i e21
            split at he
            · rename_i hok
              split at he
              · rename_i hl
                cases he
                rw [if_pos e21] at hd
                exact done _ false k (fun Q => .rnd i hi e21 (op_rand hgo hok ⟨hp0, hp1⟩ (DrawSpec.cons hd))) hl
              · cases he
            · cases he
          split at he
          · cases he
          · rename_i e16 e21 _ r' hdd
            split at he
            · rename_i hl
              cases he
              rw [if_neg e21, if_neg e16] at hd
              dsimp only at hd
              subst hd
              obtain ⟨fn, f1, f2, f3, f4, f5, f6⟩ := deed_step (R := R) (pa := pa) (dr := dr) hp hdd
              exact done _ _ k (fun Q => .dflt i fn hi f5 f3 f4 f1 f2 (f6 _)) hl
            · cases he
    · cases he
  · rename_i hr
    cases he
    have e : asks p { x with ready := [] } g = none := by
      unfold asks
      rw [if_neg hr]
    rw [e] at hd
    dsimp only at hd
    subst hd
    refine vc_world_World_Exec ?_
    refine s_nwc h ?_
    clear h
    intro kb M h
    have hC := h
    have h' := idle_open h (b := b)
    clear h
    obtain ⟨a, gg, dr0, n0, hl, h⟩ := h'
    have hl' := hl
    obtain ⟨l1, l2, l3, l4⟩ := hl'
    have fin : stc M ⟨kb, 0, none⟩ (.bool false) fun M34 => stc M34 ⟨kb, (0 + 1), none⟩ (.slice none 0 0) fun M35 =>
        exB (Mem.ld M35 ⟨kb, 0, none⟩) fun t36 => exSl (Mem.ld M35 ⟨kb, (0 + 1), none⟩) fun A37 k38 k39 => K (.agg #[(.bool t36), (.slice A37 k38 k39)]) M35 := by
      have h := hC
      clear hC
      refine s_stc h ?_
      clear h; intro M h
      refine s_stc h ?_
      clear h; intro M h
      refine t_exB h (t_exSl h ?_)
      have k2 := k R none 0 M (Mem.le_refl _) (RS.nil _ _) (idle_ready (h.drop.pick o.pick))
      exact k2
    refine bsp_dec.2 ⟨fun hn => fin, fun h0 => ?_⟩
    refine t_exSl h ?_
    refine bsp_dec.2 ⟨fun hn => fin, fun h1 => ?_⟩
    refine t_exI h ?_
    refine bsp_ne.2 ⟨fun hn => fin, fun he0 => ?_⟩
    refine t_exSl h ?_
    refine ⟨by omega, by omega, ?_⟩
    obtain ⟨gb, hgb⟩ := idx_ex (l := a.gb) (i := g.toNat) (by omega)
    refine w_g h hgb fun q hq => ?_
    obtain ⟨ga, hga⟩ := idx_ex (l := gg) (i := g.toNat) (by omega)
    obtain ⟨z, hy⟩ := idx_ex (l := x.gs) (i := g.toNat) (by omega)
    have ey : gorAt x g = z := by simp [gorAt, hy]
    refine u_nilc ?_
    have hld : M.ld ⟨gb, 0, none⟩ = some (.int .i64 z.st) := by
      have h9 := gor_open (b := gb) (h.objs_out gorR hgb (zip_atL hy hga))
      exact t_ld h9
    rw [hld]
    refine u_exI ?_
    refine bsp_ne.2 ⟨fun hn => fin, fun hn => ?_⟩
    exact absurd ⟨by omega, by show g < (x.gs.length : Int); omega, he0, by show (gorAt x g).st = 1; rw [ey]; exact hn⟩ hr
end
end Go.Proofs

namespace Go.Proofs
open Go.AF
set_option linter.unusedVariables false
set_option maxRecDepth 100000
set_option maxHeartbeats 1000000
attribute [local irreducible] exI exB exS exP exSl exV nilc stc nwc semK semU bsp
def goes (y : Gor) : Bool := y.st == 1 || y.st == 3
def Wd.stuck (x : Wd) : Bool := x.end_ == 0 && !(x.gs.any goes)
section
variable {R : Mem} {L L' L2 : List HP} {M : Mem} {K : Value → Mem → Prop} {Kp : List PanicEntry → Mem → Prop} {pa : PA} {p : Prg} {b : Nat} {x : Wd} {g : Int}
theorem world_Stuck (h : Hp R L M) [o : IAt b L pa p x L'] (hs : x.gs.length ≤ 1000000) (k : K (.bool x.stuck) M) : ACalls Tryz.prog 44 #[.pointer (some ⟨b, 0, none⟩)] M K Kp := by
  refine vc_world_World_Stuck ?_
  unfold Wd.stuck at k
  have h' := idle_open h (b := b)
  clear h
  obtain ⟨a, gg, dr, n, hl, h⟩ := h'
  have hl' := hl
  obtain ⟨l1, l2, l3, l4⟩ := hl'
  refine t_exI h ?_
  refine bsp_ne.2 ⟨fun he => ?_, fun he => ?_⟩
  · rw [show (x.end_ == 0) = false from by simpa using he, Bool.false_and] at k
    exact k
  rw [show (x.end_ == 0) = true from by simpa using he, Bool.true_and] at k
  refine t_exSl h ?_
  refine ⟨fun d vs M' => ∃ j : Nat, vs = [.int .i64 (j : Int)] ∧ d = x.gs.length - j ∧ j ≤ x.gs.length ∧ (x.gs.take j).any goes = false ∧ M' = M, ⟨_, 0, rfl, rfl, by omega, rfl, rfl⟩, ?_⟩
  rintro d _ nn M' ⟨j, he2, hd, hj, ha, rfl⟩
  simp only [List.cons.injEq, Value.int.injEq, and_true, true_and] at he2
  subst he2
  refine bsp_dec.2 ⟨fun hlt => ?_, fun hge => ?_⟩
  · obtain ⟨gb, hgb⟩ := idx_ex (l := a.gb) (i := j) (by omega)
    obtain ⟨ga, hga⟩ := idx_ex (l := gg) (i := j) (by omega)
    obtain ⟨y, hy⟩ := idx_ex (l := x.gs) (i := j) (by omega)
    have hld : M'.ld ⟨gb, 0, none⟩ = some (.int .i64 y.st) := by
      have h9 := gor_open (b := gb) (h.objs_out gorR hgb (zip_atL hy hga))
      exact t_ld h9
    refine ⟨by omega, by omega, ?_⟩
    refine w_g h hgb fun q hq => ?_
    refine u_nilc ?_
    rw [hld]
    refine u_exI ?_
    have hym := List.mem_of_getElem? hy
    refine bsp_eq.2 ⟨fun e1 => ?_, fun e1 => ?_⟩
    · have : x.gs.any goes = true := List.any_eq_true.2 ⟨y, hym, by simp [goes, e1]⟩
      rw [this] at k
      exact k
    refine u_nilc ?_
    rw [hld]
    refine u_exI ?_
    refine bsp_eq.2 ⟨fun e3 => ?_, fun e3 => ?_⟩
    · have : x.gs.any goes = true := List.any_eq_true.2 ⟨y, hym, by simp [goes, e3]⟩
      rw [this] at k
      exact k
    refine ⟨x.gs.length - (j + 1), by omega, j + 1, by rw [wrap_succ (by omega)], rfl, by omega, ?_, rfl⟩
    rw [take_snoc hy, List.any_append, ha]
    simp [goes, e1, e3]
  · have hjl : j = x.gs.length := by omega
    subst hjl
    rw [List.take_length] at ha
    rw [ha] at k
    exact k
end
end Go.Proofs

namespace Go.Proofs
open Go.AF
set_option linter.unusedVariables false
set_option maxRecDepth 100000
set_option maxHeartbeats 1000000
attribute [local irreducible] exI exB exS exP exSl exV nilc stc nwc semK semU bsp
def recE : Enc (Int × Int) := ⟨2, fun w => [.int .i64 w.1, .int .u64 w.2], fun _ => rfl, fun w v hv => by
  simp only [List.mem_cons, List.not_mem_nil, or_false] at hv; obtain rfl | rfl := hv <;> rfl⟩
/-- Numbers, or decisions, one behind the other; the place. -/
inductive SrcK where
  | orc (l : List Int) (at_ : Nat)
  | tape (l : List (Int × Int)) (at_ : Nat)
/-- A source: what comes, what was taken. -/
structure Sou where
  k : SrcK
  taken : List (Int × Int)
def dryV : List PanicEntry := [{ v := .iface 227 (.agg #[]), recovered := false }]
def unV (at_ kind n k v : Int) : List PanicEntry := [{ v := .iface 155 (.agg #[.int .i64 at_, .int .i64 kind, .int .i64 n, .int .i64 k, .int .u64 v]), recovered := false }]
def max1 (n : Int) : Int := if 1 > n then 1 else n
/-- The next one, of a kind, below some. -/
def SrcK.next (k : SrcK) (kind m : Int) : SrcK × Drawn := match k with
  | .orc l i => match l[i]? with
    | none => (.orc l i, .dry dryV)
    | some v => (.orc l (i + 1), .num (Int.tmod v m))
  | .tape l i => match l[i]? with
    | none => (.tape l i, .dry dryV)
    | some (q, v) => if q ≠ kind then (.tape l i, .dry (unV i kind m q v)) else if v ≥ m then (.tape l i, .dry (unV i kind m q v)) else (.tape l (i + 1), .num v)
def Sou.draw (x : Sou) (kind n : Int) : Sou × Drawn := match x.k.next kind (max1 n) with
  | (k', .num v) => (⟨k', x.taken ++ [(kind, v)]⟩, .num v)
  | (k', .dry l) => (⟨k', x.taken⟩, .dry l)
/-- All numbers are some. -/
def SrcK.Ok : SrcK → Prop
  | .orc l i => l.length ≤ 1000000000 ∧ i ≤ l.length ∧ ∀ v ∈ l, 0 ≤ v ∧ v < 18446744073709551616
  | .tape l i => l.length ≤ 1000000000 ∧ i ≤ l.length ∧ ∀ v ∈ l, 0 ≤ v.2 ∧ v.2 < 18446744073709551616
def Sou.Ok (x : Sou) : Prop := x.k.Ok ∧ x.taken.length ≤ 1000000000
abbrev rowRec (A : Option Addr) (c : Nat) (l : List (Int × Int)) : HP := rowP recE 153 A c l
abbrev rowU (A : Option Addr) (c : Nat) (l : List Int) : HP := rowP u64E 36 A c l
def kR : Rep SrcK := ⟨fun b k => match k with
  | .orc l i => exs fun A : Option Addr => exs fun c : Nat => sep [pt b [.slice A l.length c, .int .i64 (i : Int)] 147, rowU A c l]
  | .tape l i => exs fun A : Option Addr => exs fun c : Nat => sep [pt b [.slice A l.length c, .int .i64 (i : Int)] 175, rowRec A c l]⟩
def nextV : SrcK → Nat → Value
  | .orc _ _, b => .func (.func 54) #[.pointer (some ⟨b, 0, none⟩)] #[]
  | .tape _ _, b => .func (.func 66) #[.pointer (some ⟨b, 0, none⟩)] #[]
def leftV : SrcK → Nat → Value
  | .orc _ _, b => .func (.func 55) #[.pointer (some ⟨b, 0, none⟩)] #[]
  | .tape _ _, b => .func (.func 67) #[.pointer (some ⟨b, 0, none⟩)] #[]
def souR (see : Value) : Rep Sou := ⟨fun b x => exs fun A : Option Addr => exs fun c : Nat => exs fun kb : Nat =>
  sep [pt b [nextV x.k kb, leftV x.k kb, .slice A x.taken.length c, see] 151, rowRec A c x.taken, objP kR kb x.k]⟩
theorem el_rec : ElemOk Tryz.prog 97 153 2 16 [.int .i64 0, .int .u64 0] := ElemOk.mk' (zv := .agg #[.int .i64 0, .int .u64 0]) (by kernel_rfl) (by kernel_rfl) rfl (by omega)
theorem el_u64 : ElemOk Tryz.prog 35 36 1 8 [.int .u64 0] := ElemOk.mk' (zv := .int .u64 0) (by kernel_rfl) (by kernel_rfl) rfl (by omega)
theorem callK_first {C : Ctx} {g : Nat} {first : Array Value} {args : List Value} {M : Mem} {K : Value → Mem → Prop} {Kp : List PanicEntry → Mem → Prop} (hg : 1 < g ∧ g < C.ok) (h : ACalls C.P g (first.toList ++ args).toArray M K Kp) : callK C (.func (.func g) first #[]) args M K Kp := by
  unfold callK
  simp only
  rw [if_pos hg]
  simpa using h
theorem max1_pos (n : Int) : 1 ≤ max1 n := by unfold max1; split <;> omega
theorem wrapU_id {z : Int} (h0 : 0 ≤ z) (h : z < 18446744073709551616) : IntKind.wrap .u64 z = z := by
  obtain ⟨n, rfl⟩ := Int.eq_ofNat_of_zero_le h0
  rw [IntKind.wrap_u64]; omega
section
variable {R : Mem} {L L' L2 : List HP} {M : Mem} {K : Value → Mem → Prop} {Kp : List PanicEntry → Mem → Prop} {b : Nat} {x : Sou} {see : Value}
theorem next_num {k : SrcK} {kind m : Int} (hok : k.Ok) (hm : 1 ≤ m) {k' : SrcK} {v : Int} (h : k.next kind m = (k', .num v)) : 0 ≤ v ∧ v < m := by
  cases k with
  | orc l i =>
    unfold SrcK.next at h
    dsimp only at h
    split at h
    · cases h
    · rename_i w hw
      cases h
      have := hok.2.2 w (List.mem_of_getElem? hw)
      exact ⟨Int.tmod_nonneg _ this.1, Int.tmod_lt_of_pos _ (by omega)⟩
  | tape l i =>
    unfold SrcK.next at h
    dsimp only at h
    split at h
    · cases h
    · rename_i q w hw
      have := hok.2.2 _ (List.mem_of_getElem? hw)
      split at h
      · cases h
      · split at h
        · cases h
        · cases h
          exact ⟨this.1, by omega⟩
theorem next_ok {k : SrcK} {kind m : Int} (hok : k.Ok) : (k.next kind m).1.Ok := by
  cases k with
  | orc l i =>
    unfold SrcK.next
    dsimp only
    split
    · exact hok
    · rename_i w hw
      have := (List.getElem?_eq_some_iff.1 hw).1
      exact ⟨hok.1, by omega, hok.2.2⟩
  | tape l i =>
    unfold SrcK.next
    dsimp only
    split
    · exact hok
    · rename_i q w hw
      have := (List.getElem?_eq_some_iff.1 hw).1
      split
      · exact hok
      · split
        · exact hok
        · exact ⟨hok.1, by omega, hok.2.2⟩
theorem nextV_same {k : SrcK} {kind m : Int} {kb : Nat} : nextV (k.next kind m).1 kb = nextV k kb ∧ leftV (k.next kind m).1 kb = leftV k kb := by
  cases k with
  | orc l i => unfold SrcK.next; dsimp only; split <;> exact ⟨rfl, rfl⟩
  | tape l i =>
    unfold SrcK.next; dsimp only; split
    · exact ⟨rfl, rfl⟩
    · split
      · exact ⟨rfl, rfl⟩
      · split <;> exact ⟨rfl, rfl⟩
theorem k_next {k : SrcK} {kb : Nat} {kind m : Int} (h : Hp R (objP kR kb k :: L) M) (hok : k.Ok) (hm : 1 ≤ m) (hm2 : m < 9223372036854775808)
    (g : match (k.next kind m).2 with
      | .num v => ∀ M', Hp R (objP kR kb (k.next kind m).1 :: L) M' → K (.int .u64 v) M'
      | .dry l => ∀ M', Hp R (objP kR kb (k.next kind m).1 :: L) M' → Kp l M') :
    callK Cx (nextV k kb) [.int .i64 kind, .int .i64 m] M K Kp := by
  cases k with
  | orc l i =>
    refine callK_first ⟨by decide, by show _ < 228; decide⟩ ?_
    refine vc_source_oracle_draw ?_
    obtain ⟨o1, o2, o3⟩ := hok
    unfold SrcK.next at g
    dsimp only at g
    have h2 := h.obj kR kb
    simp only [kR, Hp.ex_iff, Hp.sep_iff, List.cons_append, List.nil_append] at h2
    obtain ⟨A, c, h2⟩ := h2
    clear h
    have h := h2
    clear h2
    have mk : ∀ {M : Mem} {i : Nat}, Hp R (pt kb [.slice A l.length c, .int .i64 (i : Int)] 147 :: rowU A c l :: L) M → Hp R (objP kR kb (.orc l i) :: L) M := by
      intro M i h
      refine Hp.objI ?_
      simp only [kR, Hp.ex_iff, Hp.sep_iff, List.cons_append, List.nil_append]
      exact ⟨_, _, h⟩
    refine t_exI h (t_exSl h ?_)
    refine bsp_dec.2 ⟨fun hge => ?_, fun hlt => ?_⟩
    · have e : l[i]? = none := List.getElem?_eq_none_iff.2 (by omega)
      rw [e] at g
      exact g _ (mk h)
    · obtain ⟨w, hw⟩ := idx_ex (l := l) (i := i) (by omega)
      rw [hw] at g
      have hwb := o3 w (List.mem_of_getElem? hw)
      refine t_exI h ?_
      rw [wrap_succ (by omega)]
      refine s_stc h ?_
      clear h; intro M h
      refine t_exSl h (t_exI h ?_)
      have e : IntKind.wrap .i64 (((i + 1 : Nat) : Int) - 1) = (i : Int) := by rw [wrap_id (by omega) (by omega)]; omega
      rw [e]
      obtain ⟨q, rfl⟩ := h.row_some (A := A) (by omega) (by decide)
      refine ⟨by omega, by omega, u_nilc ?_⟩
      refine v_exI (Src.at (h.src (A := some ⟨q, 0, none⟩)) h (i := i) (j := 0) hw rfl (by simp [u64E])) ?_
      rw [wrapU_id (by omega) (by omega)]
      exact ⟨by omega, g _ (mk h)⟩
  | tape l i =>
    refine callK_first ⟨by decide, by show _ < 228; decide⟩ ?_
    refine vc_source_tape_draw ?_
    obtain ⟨o1, o2, o3⟩ := hok
    unfold SrcK.next at g
    dsimp only at g
    have h2 := h.obj kR kb
    simp only [kR, Hp.ex_iff, Hp.sep_iff, List.cons_append, List.nil_append] at h2
    obtain ⟨A, c, h2⟩ := h2
    clear h
    have h := h2
    clear h2
    have mk : ∀ {M : Mem} {i : Nat}, Hp R (pt kb [.slice A l.length c, .int .i64 (i : Int)] 175 :: rowRec A c l :: L) M → Hp R (objP kR kb (.tape l i) :: L) M := by
      intro M i h
      refine Hp.objI ?_
      simp only [kR, Hp.ex_iff, Hp.sep_iff, List.cons_append, List.nil_append]
      exact ⟨_, _, h⟩
    refine t_exI h (t_exSl h ?_)
    refine bsp_dec.2 ⟨fun hge => ?_, fun hlt => ?_⟩
    · have e : l[i]? = none := List.getElem?_eq_none_iff.2 (by omega)
      rw [e] at g
      exact g _ (mk h)
    · obtain ⟨⟨q, w⟩, hw⟩ := idx_ex (l := l) (i := i) (by omega)
      rw [hw] at g
      dsimp only at g
      have hwb := o3 _ (List.mem_of_getElem? hw)
      dsimp only at hwb
      refine t_exSl h (t_exI h ?_)
      obtain ⟨q0, rfl⟩ := h.row_some (A := A) (by omega) (by decide)
      refine ⟨by omega, by omega, u_nilc ?_⟩
      refine v_exI (Src.at (h.src (A := some ⟨q0, 0, none⟩)) h (i := i) (j := 0) hw rfl (by simp [recE])) ?_
      refine v_exI (Src.at (h.src (A := some ⟨q0, 0, none⟩)) h (i := i) (j := 1) hw rfl (by simp [recE])) ?_
      refine s_nwc h ?_
      clear h; intro kk M h
      refine s_stc h ?_
      clear h; intro M h
      refine s_stc h ?_
      clear h; intro M h
      refine t_exI h ?_
      refine bsp_ne.2 ⟨fun hne => ?_, fun heq => ?_⟩
      · rw [if_pos hne] at g
        refine t_exI h (t_exI h (t_exI h ?_))
        exact g _ (mk (h.sub (by repeat (first | exact .refl | refine .cons (by repeat (first | exact .here | apply Pick.there)) ?_ | apply Sub.drop))))
      · rw [if_neg (by simpa using heq)] at g
        refine t_exI h ?_
        rw [wrapU_id (by omega) (by omega)]
        refine bsp_dec.2 ⟨fun hge => ?_, fun hlt2 => ?_⟩
        · rw [if_pos hge] at g
          refine t_exI h (t_exI h (t_exI h ?_))
          exact g _ (mk (h.sub (by repeat (first | exact .refl | refine .cons (by repeat (first | exact .here | apply Pick.there)) ?_ | apply Sub.drop))))
        · rw [if_neg hlt2] at g
          refine t_exI h ?_
          rw [wrap_succ (by omega)]
          refine s_stc h ?_
          clear h; intro M h
          refine t_exI h ?_
          exact g _ (mk (h.sub (by repeat (first | exact .refl | refine .cons (by repeat (first | exact .here | apply Pick.there)) ?_ | apply Sub.drop))))
theorem sou_open (h : Hp R L M) [o : ObjAt (souR see) b L x L'] : ∃ A c kb, Hp R (pt b [nextV x.k kb, leftV x.k kb, .slice A x.taken.length c, see] 151 :: rowRec A c x.taken :: objP kR kb x.k :: L') M := by
  have := h.obj (souR see) b
  simpa only [souR, Hp.ex_iff, Hp.sep_iff, List.cons_append, List.nil_append] using this
theorem sou_mk {A : Option Addr} {c kb : Nat} (h : Hp R (pt b [nextV x.k kb, leftV x.k kb, .slice A x.taken.length c, see] 151 :: rowRec A c x.taken :: objP kR kb x.k :: L) M) : Hp R (objP (souR see) b x :: L) M := by
  refine Hp.objI ?_
  simp only [souR, Hp.ex_iff, Hp.sep_iff, List.cons_append, List.nil_append]
  exact ⟨_, _, _, h⟩
theorem source_Draw {kind n : Int} (h : Hp R L M) [o : ObjAt (souR .nilFunc) b L x L'] (hok : x.Ok) (hn : n < 9223372036854775808) (ht : x.taken.length < 100000000)
    (g : match (x.draw kind n).2 with
      | .num v => ∀ M', Hp R (objP (souR .nilFunc) b (x.draw kind n).1 :: L') M' → K (.int .i64 v) M'
      | .dry l => ∀ M', Hp R (objP (souR .nilFunc) b (x.draw kind n).1 :: L') M' → Kp l M') :
    ACalls Tryz.prog 98 #[.pointer (some ⟨b, 0, none⟩), .int .i64 kind, .int .i64 n] M K Kp := by
  refine vc_source_Source_Draw ?_
  have h' := sou_open (see := .nilFunc) h (b := b)
  clear h
  obtain ⟨A, c, kb, h⟩ := h'
  refine t_exV h ?_
  have em : (if (1 : Int) > n then 1 else n) = max1 n := rfl
  rw [em]
  have hm1 := max1_pos n
  have hm2 : max1 n < 9223372036854775808 := by unfold max1; split <;> omega
  have hnv := nextV_same (k := x.k) (kind := kind) (m := max1 n) (kb := kb)
  obtain ⟨hn1, hn2⟩ := hnv
  have hnum := fun k' v => next_num (k := x.k) (kind := kind) hok.1 hm1 (k' := k') (v := v)
  unfold Sou.draw at g
  replace h : Hp R (objP kR kb x.k :: pt b [nextV x.k kb, leftV x.k kb, .slice A x.taken.length c, .nilFunc] 151 :: rowRec A c x.taken :: L') M := h.sub (by repeat (first | exact .refl | refine .cons (by repeat (first | exact .here | apply Pick.there)) ?_ | apply Sub.drop))
  refine k_next (kind := kind) h hok.1 hm1 hm2 ?_
  clear h
  generalize hr : x.k.next kind (max1 n) = r at g hn1 hn2 hnum
  obtain ⟨k', d⟩ := r
  dsimp only at hn1 hn2 ⊢
  rw [← hn1, ← hn2]
  cases d with
  | dry l =>
    dsimp only at g ⊢
    intro M h
    exact g _ (sou_mk (x := ⟨k', x.taken⟩) (h.sub (by repeat (first | exact .refl | refine .cons (by repeat (first | exact .here | apply Pick.there)) ?_ | apply Sub.drop))))
  | num v =>
    dsimp only at g ⊢
    obtain ⟨v0, v1⟩ := hnum k' v rfl
    intro M h
    refine u_exI ?_
    refine s_nwc h ?_
    clear h; intro k5 M h
    refine s_stc h ?_
    clear h; intro M h
    refine s_stc h ?_
    clear h; intro M h
    refine t_exSl h (t_exI h (t_exI h ?_))
    refine s_nwc h ?_
    clear h; intro k14 M h
    refine h.rowAppend1 (A := A) el_rec [(kind, v)] rfl rfl (by simp only [List.length_singleton]; omega) ?_
    clear h; intro A' c' M h
    refine u_exSl ?_
    refine s_stc h ?_
    clear h; intro M h
    refine t_exV h ?_
    unfold fnilc
    dsimp only
    refine u_bspF (t_exI h ?_)
    rw [wrap_id (by omega) (by omega)]
    exact g _ (sou_mk (x := ⟨k', x.taken ++ [(kind, v)]⟩) (h.sub (by repeat (first | exact .refl | refine .cons (by repeat (first | exact .here | apply Pick.there)) ?_ | apply Sub.drop))))
theorem source_Oracle {B : Option Addr} {m cb : Nat} {l : List Int} (h : Hp R L M) (hB : Src R L B (u64E.cells l)) (hm : m = l.length) (hl : l.length ≤ 1000000000)
    (g : ∀ b M', Hp R (objP (souR .nilFunc) b ⟨.orc l 0, []⟩ :: L) M' → K (.pointer (some ⟨b, 0, none⟩)) M') :
    ACalls Tryz.prog 17 #[.slice B m cb] M K Kp := by
  refine vc_source_Oracle ?_
  refine s_nwc h ?_
  clear h; intro k1 M h
  refine h.rowCopy u64E el_u64 l hB.cons hm (by omega) ?_
  clear h; intro A' c' M h
  refine u_exSl ?_
  refine s_nwc h ?_
  clear h; intro k8 M h
  refine s_nwc h ?_
  clear h; intro k10 M h
  have h2 := h.row_nil recE 153
  refine g k10 _ (sou_mk (x := ⟨.orc l 0, []⟩) (A := none) (c := 0) (kb := k8) ?_)
  have h3 : Hp R (objP kR k8 (.orc l 0) :: rowRec none 0 [] :: pt k10 [nextV (.orc l 0) k8, leftV (.orc l 0) k8, .slice none 0 0, .nilFunc] 151 :: L) M := by
    refine Hp.objI ?_
    simp only [kR, Hp.ex_iff, Hp.sep_iff, List.cons_append, List.nil_append]
    exact ⟨A', c', h2.sub (by repeat (first | exact .refl | refine .cons (by repeat (first | exact .here | apply Pick.there)) ?_ | apply Sub.drop))⟩
  exact h3.sub (by repeat (first | exact .refl | refine .cons (by repeat (first | exact .here | apply Pick.there)) ?_ | apply Sub.drop))
/-- Draws, handed on as a function. -/
theorem draw_spec {kind n : Int} (hok : x.Ok) (hn : n < 9223372036854775808) (ht : x.taken.length < 100000000) :
    DrawSpec R (.func (.func 98) #[.pointer (some ⟨b, 0, none⟩)] #[]) kind n (x.draw kind n).2 (objP (souR .nilFunc) b x :: L) (objP (souR .nilFunc) b (x.draw kind n).1 :: L) := by
  intro Q M K Kp h k
  refine callK_first ⟨by decide, by show _ < 228; decide⟩ ?_
  refine source_Draw h hok hn ht ?_
  cases hd : (x.draw kind n).2 with
  | num v => rw [hd] at k; exact fun M' h' => k M' h'.swap
  | dry l => rw [hd] at k; exact fun M' h' => k M' h'.swap
end
end Go.Proofs

namespace Go.Proofs
open Go.AF
set_option linter.unusedVariables false
set_option maxRecDepth 100000
set_option maxHeartbeats 1000000
attribute [local irreducible] exI exB exS exP exSl exV nilc stc nwc semK semU bsp
structure Prc where
  q : Loc
  turns : Int
  by_ : Int
structure Mch where
  p : Int
  g : Int
  left : Int
  deriving DecidableEq
structure Cfg where
  P : Int
  M : Int
  R : Int
  S : Int
structure Sc where
  w : Wd
  c : Cfg
  ps : List Prc
  ms : List Mch
  gl : List Int
  d : Sou
  steps : Int
/-- A step: what it was, of which machine, of which goroutine; who could go on by it. -/
structure Ev where
  kind : Int
  m : Int
  g : Int
  ready : List Int
def procE : Enc (Nat × Int × Int) := ⟨3, fun w => [.pointer (some ⟨w.1, 0, none⟩), .int .i64 w.2.1, .int .i64 w.2.2], fun _ => rfl, fun w v hv => by
  simp only [List.mem_cons, List.not_mem_nil, or_false] at hv; obtain rfl | rfl | rfl := hv <;> rfl⟩
def machE : Enc Mch := ⟨3, fun w => [.int .i64 w.p, .int .i64 w.g, .int .i64 w.left], fun _ => rfl, fun w v hv => by
  simp only [List.mem_cons, List.not_mem_nil, or_false] at hv; obtain rfl | rfl | rfl := hv <;> rfl⟩
def prow (bs : List Nat) (ps : List Prc) : List (Nat × Int × Int) := List.zipWith (fun b (p : Prc) => (b, p.turns, p.by_)) bs ps
def mcAt (x : Sc) (m : Int) : Mch := x.ms.getD m.toNat ⟨-1, -1, 0⟩
def prAt (x : Sc) (i : Int) : Prc := x.ps.getD i.toNat ⟨⟨-1, 0, []⟩, 0, -1⟩
def Sc.setM (x : Sc) (m : Int) (y : Mch) : Sc := { x with ms := x.ms.set m.toNat y }
def Sc.setP (x : Sc) (i : Int) (y : Prc) : Sc := { x with ps := x.ps.set i.toNat y }
structure SA where
  ap : Option Addr
  cp : Nat
  lb : List Nat
  am : Option Addr
  cm : Nat
abbrev rowPr (A : Option Addr) (c : Nat) (l : List (Nat × Int × Int)) : HP := rowP procE 141 A c l
abbrev rowMc (A : Option Addr) (c : Nat) (l : List Mch) : HP := rowP machE 143 A c l
abbrev scCells (wb db : Nat) (a : SA) (x : Sc) (A : Option Addr) (n c : Nat) : List Value :=
  [.pointer (some ⟨wb, 0, none⟩), .int .i64 x.c.P, .int .i64 x.c.M, .int .i64 x.c.R, .int .i64 x.c.S, .slice a.ap x.ps.length a.cp, .slice a.am x.ms.length a.cm, .slice A n c, .pointer (some ⟨db, 0, none⟩), .int .i64 x.steps]
/-- The scheduler's block, by the head of its global row. -/
abbrev scG (b wb db : Nat) (a : SA) (x : Sc) : Option Addr → Nat → Nat → HP := fun A n c => pt b (scCells wb db a x A n c) 137
theorem sc_gl {b wb db : Nat} {a : SA} {x : Sc} : GlH b (0 + 7) (scG b wb db a x) :=
  ⟨fun R L M A n c h => t_ld h, fun R L M A A' n c n' c' G h k => s_stc h k⟩
abbrev scRest (a : SA) (x : Sc) (L : List HP) : List HP := rowPr a.ap a.cp (prow a.lb x.ps) :: objsP locR a.lb (x.ps.map Prc.q) :: rowMc a.am a.cm x.ms :: L
def schR (pa : PA) (p : Prg) (wb db : Nat) : Rep Sc := ⟨fun b x => exs fun a : SA =>
  sep (glP (scG b wb db a x) x.gl :: objP (idleR pa p) wb x.w :: objP (souR .nilFunc) db x.d :: fact (a.lb.length = x.ps.length) :: scRest a x [])⟩
class ScAt (b : Nat) (L : List HP) (pa : outParam PA) (p : outParam Prg) (wb db : outParam Nat) (x : outParam Sc) (L' : outParam (List HP)) : Prop where
  pick : Pick L (objP (schR pa p wb db) b x) L'
instance ScAt.here {pa : PA} {p : Prg} {wb db b : Nat} {x : Sc} {L : List HP} : ScAt b (objP (schR pa p wb db) b x :: L) pa p wb db x L := ⟨.here⟩
instance (priority := low) ScAt.there {pa : PA} {p : Prg} {wb db b : Nat} {x : Sc} {Q : HP} {L L' : List HP} [h : ScAt b L pa p wb db x L'] : ScAt b (Q :: L) pa p wb db x (Q :: L') := ⟨.there h.pick⟩
section
variable {R : Mem} {L L' L2 : List HP} {M : Mem} {K : Value → Mem → Prop} {Kp : List PanicEntry → Mem → Prop} {pa : PA} {p : Prg} {b wb db : Nat} {x : Sc} {m i : Int}
theorem sch_open (h : Hp R L M) [o : ScAt b L pa p wb db x L'] : ∃ a : SA, a.lb.length = x.ps.length ∧ Hp R (glP (scG b wb db a x) x.gl :: objP (idleR pa p) wb x.w :: objP (souR .nilFunc) db x.d :: scRest a x L') M := by
  have := h.pick o.pick
  unfold objP at this
  simp only [schR, scRest, Hp.ex_iff, Hp.sep_iff, List.cons_append, List.nil_append] at this
  obtain ⟨a, h⟩ := this
  refine ⟨a, ?_⟩
  have h2 := h.pick (P := fact (a.lb.length = x.ps.length)) (.there (.there (.there .here)))
  obtain ⟨e, h3⟩ := Hp.fact_iff.1 h2
  exact ⟨e, h3⟩
theorem sch_mk {a : SA} (hl : a.lb.length = x.ps.length) (h : Hp R (glP (scG b wb db a x) x.gl :: objP (idleR pa p) wb x.w :: objP (souR .nilFunc) db x.d :: scRest a x L) M) : Hp R (objP (schR pa p wb db) b x :: L) M := by
  refine Hp.objI ?_
  simp only [schR, scRest, Hp.ex_iff, Hp.sep_iff, List.cons_append, List.nil_append]
  refine ⟨a, ?_⟩
  have h2 : Hp R (fact (a.lb.length = x.ps.length) :: glP (scG b wb db a x) x.gl :: objP (idleR pa p) wb x.w :: objP (souR .nilFunc) db x.d :: scRest a x L) M := Hp.fact_iff.2 ⟨hl, h⟩
  exact h2.unpick (.there (.there (.there .here)))
/-- The block of an open scheduler lies open, too. -/
theorem sch_op2 {a : SA} (h : Hp R (glP (scG b wb db a x) x.gl :: L) M) : ∃ A c, Hp R (pt b (scCells wb db a x A x.gl.length c) 137 :: rowI A c x.gl :: L) M := gl_open (P := scG b wb db a x) h
theorem sch_cl2 {a : SA} {A : Option Addr} {c n : Nat} {l : List Int} (h : Hp R (pt b (scCells wb db a x A n c) 137 :: rowI A c l :: L) M) (e : n = l.length := by first | rfl | simp) : Hp R (glP (scG b wb db a x) l :: L) M := gl_mk (P := scG b wb db a x) h e
theorem prow_at {bs : List Nat} {ps : List Prc} {i lb : Nat} {pr : Prc} (h1 : bs[i]? = some lb) (h2 : ps[i]? = some pr) : (prow bs ps)[i]? = some (lb, pr.turns, pr.by_) := zip_at h1 h2
theorem prow_set {bs : List Nat} {ps : List Prc} {i lb : Nat} {pr : Prc} (h1 : bs[i]? = some lb) : (prow bs ps).set i (lb, pr.turns, pr.by_) = prow bs (ps.set i pr) := zip_set (f := fun b (p : Prc) => (b, p.turns, p.by_)) h1
theorem prow_len {bs : List Nat} {ps : List Prc} (h : bs.length = ps.length) : (prow bs ps).length = ps.length := by simp [prow, h]
theorem sched_Steps (h : Hp R L M) [o : ScAt b L pa p wb db x L'] (k : K (.int .i64 x.steps) M) : ACalls Tryz.prog 33 #[.pointer (some ⟨b, 0, none⟩)] M K Kp := by
  refine vc_sched_Sched_Steps ?_
  obtain ⟨a, hl, h⟩ := sch_open h (b := b)
  obtain ⟨A, c, h⟩ := sch_op2 h
  exact t_exI h k
def Sc.status (x : Sc) : Int := if x.w.end_ = 1 then 1 else if x.w.end_ = 2 then 2 else if x.w.stuck then 3 else 0
theorem sched_Status (h : Hp R L M) [o : ScAt b L pa p wb db x L'] (hs : x.w.gs.length ≤ 1000000) (k : K (.int .i64 x.status) M) : ACalls Tryz.prog 23 #[.pointer (some ⟨b, 0, none⟩)] M K Kp := by
  refine vc_sched_Sched_Status ?_
  have h' := sch_open h (b := b)
  clear h
  obtain ⟨a, hl, h⟩ := h'
  have h' := sch_op2 h
  clear h
  obtain ⟨A, c, h⟩ := h'
  unfold Sc.status at k
  refine t_exP h ?_
  refine world_End h ?_
  refine ⟨_, _, rfl, ?_⟩
  refine bsp_eq.2 ⟨fun e => ?_, fun e => ?_⟩
  · rw [if_pos e] at k; exact k
  rw [if_neg e] at k
  refine bsp_eq.2 ⟨fun e => ?_, fun e => ?_⟩
  · rw [if_pos e] at k; exact k
  rw [if_neg e] at k
  refine t_exP h ?_
  refine world_Stuck h hs ?_
  refine u_exB ?_
  cases hst : x.w.stuck with
  | true => rw [hst] at k; exact u_bspT k
  | false => rw [hst] at k; exact u_bspF k
def Sc.tick (x : Sc) : Sc × Ev := ({ x with w := x.w.tick, gl := x.gl ++ x.w.tick.ready }, ⟨1, -1, -1, x.w.tick.ready⟩)
def evV (e : Ev) (A : Option Addr) (c : Nat) : Value := .agg #[.int .i64 e.kind, .int .i64 e.m, .int .i64 e.g, .slice A e.ready.length c]
abbrev evPt (k1 : Nat) (e : Ev) (A : Option Addr) (c : Nat) : HP := pt k1 [.int .i64 e.kind, .int .i64 e.m, .int .i64 e.g, .slice A e.ready.length c] 47
/-- An event is stored, and read. -/
theorem ev_st {k1 T n : Nat} {v1 v2 v3 v4 : Value} {e1 e2 e3 : Int} {A : Option Addr} {c : Nat} {G : Mem → Prop} (h : Hp R L M) [q : PtAt k1 L [v1, v2, v3, v4] T L']
    (k : ∀ M', Hp R (pt k1 [.int .i64 e1, .int .i64 e2, .int .i64 e3, .slice A n c] T :: L') M' → G M') :
    stc M ⟨k1, 0, none⟩ (.int .i64 e1) fun M1 => stc M1 ⟨k1, (0 + 1), none⟩ (.int .i64 e2) fun M2 => stc M2 ⟨k1, (0 + 2), none⟩ (.int .i64 e3) fun M3 => stc M3 ⟨k1, (0 + 3), none⟩ (.slice A n c) G := by
  have h := h.pick q.pick
  refine s_stc h ?_
  clear h; intro M h
  refine s_stc h ?_
  clear h; intro M h
  refine s_stc h ?_
  clear h; intro M h
  refine s_stc h ?_
  clear h; intro M h
  exact k _ h
theorem ev_ld {k1 T n : Nat} {e1 e2 e3 : Int} {A : Option Addr} {c : Nat} {G : Int → Int → Int → Option Addr → Nat → Nat → Prop} (h : Hp R L M) [q : PtAt k1 L [.int .i64 e1, .int .i64 e2, .int .i64 e3, .slice A n c] T L'] (g : G e1 e2 e3 A n c) :
    exI (Mem.ld M ⟨k1, 0, none⟩) .i64 fun n1 => exI (Mem.ld M ⟨k1, (0 + 1), none⟩) .i64 fun n2 => exI (Mem.ld M ⟨k1, (0 + 2), none⟩) .i64 fun n3 => exSl (Mem.ld M ⟨k1, (0 + 3), none⟩) fun A k l => G n1 n2 n3 A k l := by
  have h := h.pick q.pick
  exact t_exI h (t_exI h (t_exI h (t_exSl h g)))
def tickOk (x : Sc) : Prop := x.w.hl.length ≤ 1000000 ∧ (∀ y ∈ (hWake x.w.hl.length x.w.hl (IntKind.wrap .u64 (x.w.clock + 1))).2, 0 ≤ y.id ∧ y.id < x.w.gs.length) ∧ x.gl.length + x.w.tick.ready.length ≤ 1000000
instance (x : Sc) : Decidable (tickOk x) := by unfold tickOk; infer_instance
theorem sched_tick (h : Hp R L M) [o : ScAt b L pa p wb db x L'] (hk : tickOk x)
    (k : ∀ R' A c M', R.le R' → RS intE R' A c x.tick.2.ready → Hp R' (objP (schR pa p wb db) b x.tick.1 :: L') M' → K (evV x.tick.2 A c) M') : ACalls Tryz.prog 99 #[.pointer (some ⟨b, 0, none⟩)] M K Kp := by
  refine vc_sched_Sched_tick ?_
  refine s_nwc h ?_
  clear h
  intro k1 M h
  have h' := sch_open h (b := b)
  clear h
  obtain ⟨a, hl, h⟩ := h'
  have h' := sch_op2 h
  clear h
  obtain ⟨A, c, h⟩ := h'
  refine t_exP h ?_
  refine world_Tick h hk.1 hk.2.1 ?_
  clear h; intro R2 Ar cr M hle hrs h
  refine u_exSl ?_
  replace h : Hp R2 (pt b (scCells wb db a x A x.gl.length c) 137 :: rowI A c x.gl :: objP (idleR pa p) wb x.w.tick :: objP (souR .nilFunc) db x.d :: rowPr a.ap a.cp (prow a.lb x.ps) :: objsP locR a.lb (x.ps.map Prc.q) :: rowMc a.am a.cm x.ms :: pt k1 [.int .i64 0, .int .i64 0, .int .i64 0, .slice none 0 0] 47 :: L') M := h.sub (by repeat (first | exact .refl | refine .cons (by repeat (first | exact .here | apply Pick.there)) ?_ | apply Sub.drop))
  replace h := sch_cl2 h
  refine local_gPut (P := scG b wb db a x) sc_gl h (hrs.src) rfl (by have := hk.2.2; omega) ?_
  clear h; intro M h
  refine ⟨rfl, ?_⟩
  refine ev_st h ?_
  clear h; intro M h
  refine ev_ld h ?_
  exact k R2 Ar cr _ hle hrs (sch_mk (a := a) (x := x.tick.1) hl (h.sub (by repeat (first | exact .refl | refine .cons (by repeat (first | exact .here | apply Pick.there)) ?_ | apply Sub.drop))))
end
end Go.Proofs

namespace Go.Proofs
open Go.AF
set_option linter.unusedVariables false
set_option maxRecDepth 100000
set_option maxHeartbeats 1000000
attribute [local irreducible] exI exB exS exP exSl exV nilc stc nwc semK semU bsp
def ownHas (q : Loc) : Bool := q.next != -1 || !q.l.isEmpty
/-- Who goes on in a new turn: the queue, the global row, who, is there one? -/
def ownL (q : Loc) (turns : Int) (gl : List Int) : Loc × List Int × Int × Bool :=
  let a := q.turn gl
  if Int.tmod turns 7 = 6 ∧ 0 < a.2.1.length then (a.1, a.2.1.drop 1, a.2.1.headD 0, true)
  else if ownHas a.1 then (a.1.get.1, a.2.1, a.1.get.2, true)
  else ((a.1.get.1.fetch a.2.1 0).1, (a.1.get.1.fetch a.2.1 0).2.1, (a.1.get.1.fetch a.2.1 0).2.2, !a.2.1.isEmpty)
def stealHas (f : Loc) (v : Int) : Bool := v != -1 || !f.l.isEmpty
theorem turn_len {q : Loc} {gl : List Int} : (q.turn gl).2.1.length ≤ gl.length + q.l.length + 1 := by
  unfold Loc.turn
  split
  · simp; omega
  · unfold Loc.put
    split
    · simp; omega
    · simp; omega
section
variable {R : Mem} {L L' L2 : List HP} {M : Mem} {K : Value → Mem → Prop} {Kp : List PanicEntry → Mem → Prop} {pa : PA} {p : Prg} {b wb db : Nat} {x : Sc} {m i : Int}
def Sc.hold (x : Sc) (m : Int) : Sc × Ev := match x.ps.findIdx? (fun pr => pr.by_ == -1) with
  | some i => (((x.setP (i : Int) { prAt x (i : Int) with by_ := m }).setM m { mcAt x m with p := (i : Int) }), ⟨2, m, -1, []⟩)
  | none => (x, ⟨3, m, -1, []⟩)
theorem scG_setP {a : SA} {y : Prc} : scG b wb db a (x.setP i y) = scG b wb db a x := by
  unfold scG scCells Sc.setP; simp
theorem scG_setM {a : SA} {y : Mch} : scG b wb db a (x.setM i y) = scG b wb db a x := by
  unfold scG scCells Sc.setM; simp
theorem ld_proc {q o0 o1 o2 o3 j lb : Nat} {pr : Prc} {bs : List Nat} {ps : List Prc} {G : Option Addr → Int → Int → Prop} (h : Hp R L M) (hs : Src R L (some ⟨q, o0, none⟩) (procE.cells (prow bs ps))) (h1 : bs[j]? = some lb) (h2 : ps[j]? = some pr)
    (e1 : o1 = o0 + j * 3) (e2 : o2 = o0 + j * 3 + 1) (e3 : o3 = o0 + j * 3 + 2) (g : G (some ⟨lb, 0, none⟩) pr.turns pr.by_) :
    exP (M.ld ⟨q, o1, none⟩) fun A => exI (M.ld ⟨q, o2, none⟩) .i64 fun n => exI (M.ld ⟨q, o3, none⟩) .i64 fun d => G A n d := by
  have h3 := prow_at h1 h2
  refine v_exP (Src.at hs h (i := j) (j := 0) h3 rfl (by rw [e1]; rfl)) ?_
  refine v_exI (Src.at hs h (i := j) (j := 1) h3 rfl (by rw [e2]; show _ = o0 + (j * 3 + 1); omega)) ?_
  exact v_exI (Src.at hs h (i := j) (j := 2) h3 rfl (by rw [e3]; show _ = o0 + (j * 3 + 2); omega)) g
theorem pr_idx {a : SA} (hl : a.lb.length = x.ps.length) (h0 : 0 ≤ i) (h1 : i < x.ps.length) : ∃ lb, a.lb[i.toNat]? = some lb ∧ x.ps[i.toNat]? = some (prAt x i) ∧ (prow a.lb x.ps)[i.toNat]? = some (lb, (prAt x i).turns, (prAt x i).by_) := by
  obtain ⟨lb, hlb⟩ := idx_ex (l := a.lb) (i := i.toNat) (by omega)
  obtain ⟨y, hy⟩ := idx_ex (l := x.ps) (i := i.toNat) (by omega)
  have e : prAt x i = y := by simp [prAt, hy]
  rw [e]
  exact ⟨lb, hlb, hy, prow_at hlb hy⟩
theorem mc_idx (h0 : 0 ≤ m) (h1 : m < x.ms.length) : x.ms[m.toNat]? = some (mcAt x m) := by
  obtain ⟨y, hy⟩ := idx_ex (l := x.ms) (i := m.toNat) (by omega)
  have e : mcAt x m = y := by simp [mcAt, hy]
  rw [e]; exact hy
theorem mapq_same {ps : List Prc} {j : Nat} {pr y : Prc} (h : ps[j]? = some pr) (e : y.q = pr.q) : (ps.set j y).map Prc.q = ps.map Prc.q := by
  obtain ⟨hj, rfl⟩ := List.getElem?_eq_some_iff.1 h
  rw [List.map_set, e]
  have h2 : (ps.map Prc.q)[j]'(by simpa using hj) = ps[j].q := by simp
  rw [← h2]
  exact List.set_getElem_self _
/-- A scheduler, from parts in any order. -/
theorem sch_close {a : SA} {A : Option Addr} {c : Nat} {cs : List Value} {l : List Int} {pw : List (Nat × Int × Int)} {qs : List Loc} {ms : List Mch} {L0 L1 L2 L3 L4 L5 L6 : List HP} (h : Hp R L M) (b : Nat)
    [p0 : PtAt b L cs 137 L0] [p1 : RowAt A L0 Int intE 3 c l L1] [p2 : IAt wb L1 pa p x.w L2] [p3 : ObjAt (souR .nilFunc) db L2 x.d L3] [p4 : RowAt a.ap L3 (Nat × Int × Int) procE 141 a.cp pw L4]
    [p5 : ObjsAt locR L4 a.lb qs L5] [p6 : RowAt a.am L5 Mch machE 143 a.cm ms L6] (hc : cs = scCells wb db a x A x.gl.length c) (hg : l = x.gl) (hl : a.lb.length = x.ps.length) (hp : pw = prow a.lb x.ps) (hq : x.ps.map Prc.q = qs) (hm : ms = x.ms) : Hp R (objP (schR pa p wb db) b x :: L6) M := by
  subst hc; subst hg; subst hp; subst hq; subst hm
  have h2 : Hp R (pt b (scCells wb db a x A x.gl.length c) 137 :: rowI A c x.gl :: objP (idleR pa p) wb x.w :: objP (souR .nilFunc) db x.d :: scRest a x L6) M :=
    h.sub (.cons p0.pick (.cons p1.pick (.cons p2.pick (.cons p3.pick (.cons p4.pick (.cons p5.pick (.cons p6.pick .refl)))))))
  exact sch_mk (a := a) hl (sch_cl2 h2)
theorem sched_hold (h : Hp R L M) [o : ScAt b L pa p wb db x L'] (h0 : 0 ≤ m) (h1 : m < x.ms.length) (hs : x.ps.length ≤ 1000000)
    (k : ∀ M', Hp R (objP (schR pa p wb db) b (x.hold m).1 :: L') M' → K (evV (x.hold m).2 none 0) M') : ACalls Tryz.prog 100 #[.pointer (some ⟨b, 0, none⟩), .int .i64 m] M K Kp := by
  refine vc_sched_Sched_hold ?_
  refine s_nwc h ?_
  clear h
  intro k1 M h
  have h' := sch_open h (b := b)
  clear h
  obtain ⟨a, hl, h⟩ := h'
  have h' := sch_op2 h
  clear h
  obtain ⟨A, c, h⟩ := h'
  refine t_exSl h ?_
  unfold Sc.hold at k
  have hprl := prow_len hl
  refine ⟨fun d vs M => ∃ j : Nat, vs = [.int .i64 (j : Int)] ∧ d = x.ps.length - j ∧ j ≤ x.ps.length ∧ (∀ q pr, q < j → x.ps[q]? = some pr → pr.by_ ≠ -1) ∧
      Hp R (pt b (scCells wb db a x A x.gl.length c) 137 :: rowI A c x.gl :: pt k1 [.int .i64 0, .int .i64 0, .int .i64 0, .slice none 0 0] 47 :: objP (idleR pa p) wb x.w :: objP (souR .nilFunc) db x.d :: scRest a x L') M,
    ⟨_, 0, rfl, rfl, by omega, fun q pr hq => by omega, h.sub (by repeat (first | exact .refl | refine .cons (by repeat (first | exact .here | apply Pick.there)) ?_ | apply Sub.drop))⟩, ?_⟩
  clear h
  rintro d _ nn M ⟨j, he, hd, hj, hp, h⟩
  simp only [List.cons.injEq, Value.int.injEq, and_true, true_and] at he
  subst he
  refine bsp_dec.2 ⟨fun hlt => ?_, fun hge => ?_⟩
  · obtain ⟨lb, hlb, hpr, hrow⟩ := pr_idx (i := (j : Int)) hl (by omega) hlt
    simp only [Int.toNat_natCast] at hlb hpr hrow
    obtain ⟨q, hq⟩ := h.row_some (A := a.ap) (l := prow a.lb x.ps) (by omega) (by decide)
    have hsr := h.src (A := a.ap)
    rw [hq] at hsr
    refine t_exSl h ⟨by omega, hlt, ?_⟩
    rw [hq]
    refine u_nilc ?_
    refine v_exI (Src.at hsr h (i := j) (j := 2) hrow rfl (by show _ = 0 + (j * 3 + 2); simp)) ?_
    refine bsp_eq.2 ⟨fun e => ?_, fun e => ?_⟩
    · have hfi : x.ps.findIdx? (fun pr => pr.by_ == -1) = some j := by
        refine List.findIdx?_eq_some_iff_getElem.2 ⟨by omega, ?_, fun q hq => ?_⟩
        · have := (List.getElem?_eq_some_iff.1 hpr).2
          rw [this]; simpa using e
        · have := hp q _ hq (List.getElem?_eq_getElem (by omega))
          simpa using this
      rw [hfi] at k
      dsimp only at k
      clear hsr
      obtain ⟨q2, hq2⟩ := h.row_some (A := a.am) (l := x.ms) (by omega) (by decide)
      have ea := t_ld h (b := b) (o := 0 + 5) (v := .slice a.ap x.ps.length a.cp)
      rw [hq] at ea
      refine (show ∀ {G}, G (some ⟨q, 0, none⟩) x.ps.length a.cp → exSl (M.ld ⟨b, 0 + 5, none⟩) G from fun g => by rw [ea]; exact u_exSl g) ?_
      refine t_exSl h ⟨by omega, hlt, u_nilc ?_⟩
      have hap : a.ap = some ⟨q, 0, none⟩ := hq
      have ham : a.am = some ⟨q2, 0, none⟩ := hq2
      obtain ⟨ap, cp, lbs, am, cm⟩ := a
      dsimp only at hap ham hrow hlb hl hprl h
      subst hap; subst ham
      refine s_row (E := procE) (a' := (lb, (prAt x (j : Int)).turns, m)) j 2 h hrow (by decide) rfl (by show _ = j * 3 + 2; simp) ?_
      clear h; intro M h
      refine ⟨h0, h1, u_nilc ?_⟩
      refine s_row (E := machE) (a' := { mcAt x m with p := (j : Int) }) m.toNat 0 h (mc_idx h0 h1) (by decide) rfl (by show _ = m.toNat * 3 + 0; simp) ?_
      clear h; intro M h
      refine ev_st h ?_
      clear h; intro M h
      refine ev_ld h ?_
      rw [prow_set (pr := { prAt x (j : Int) with by_ := m }) hlb] at h
      have e3 := mapq_same (y := { prAt x (j : Int) with by_ := m }) hpr rfl
      exact k _ (Hp.fin1 (sch_close (A := A) (c := c) (a := ⟨some ⟨q, 0, none⟩, cp, lbs, some ⟨q2, 0, none⟩, cm⟩) (x := (x.setP (j : Int) { prAt x (j : Int) with by_ := m }).setM m { mcAt x m with p := (j : Int) }) h b (by simp [Sc.setP, Sc.setM, scCells]) (by rfl) (by simpa [Sc.setP, Sc.setM] using hl) (by rfl) (by exact e3) (by rfl)))
    · refine ⟨x.ps.length - (j + 1), by omega, j + 1, by rw [wrap_succ (by omega)], rfl, by omega, fun q' pr' hq' hpr' => ?_, h⟩
      rcases Nat.lt_or_ge q' j with h8 | h8
      · exact hp q' pr' h8 hpr'
      · have : q' = j := by omega
        subst this
        rw [hpr] at hpr'; cases hpr'; exact e
  · have hfi : x.ps.findIdx? (fun pr => pr.by_ == -1) = none := by
      refine List.findIdx?_eq_none_iff.2 fun pr hpr => ?_
      obtain ⟨q, hq, e⟩ := List.getElem_of_mem hpr
      have := hp q pr (by omega) (by rw [← e]; exact List.getElem?_eq_getElem hq)
      simpa using this
    rw [hfi] at k
    dsimp only at k
    refine ev_st h ?_
    clear h; intro M h
    refine ev_ld h ?_
    refine k _ (sch_mk (a := a) hl ?_)
    have h2 := sch_cl2 (h.sub (show Sub _ (pt b (scCells wb db a x A x.gl.length c) 137 :: rowI A c x.gl :: objP (idleR pa p) wb x.w :: objP (souR .nilFunc) db x.d :: scRest a x L') from (by repeat (first | exact .refl | refine .cons (by repeat (first | exact .here | apply Pick.there)) ?_ | apply Sub.drop))))
    exact h2
/-- Behind a queue's call: the queue's object goes back. -/
theorem prow_q {bs : List Nat} {ps : List Prc} {j : Nat} {pr y : Prc} (h : ps[j]? = some pr) (e1 : y.turns = pr.turns) (e2 : y.by_ = pr.by_) : prow bs (ps.set j y) = prow bs ps := by
  obtain ⟨hj, rfl⟩ := List.getElem?_eq_some_iff.1 h
  unfold prow
  refine List.ext_getElem (by simp) fun n h1 h2 => ?_
  simp only [List.getElem_zipWith, List.getElem_set]
  split
  · rename_i he
    subst he
    rw [e1, e2]
  · rfl
/-- Who goes on in a new turn, of the processor i. -/
def Sc.own (x : Sc) (i : Int) : Sc × Int × Bool :=
  let r := ownL (prAt x i).q (prAt x i).turns x.gl
  ({ x.setP i { prAt x i with q := r.1 } with gl := r.2.1 }, r.2.2.1, r.2.2.2)
theorem sched_own {q : Nat} {a : SA} (h : Hp R L M) [o : GlAt (scG b wb db a x) L x.gl L'] [o2 : RowAt (some ⟨q, 0, none⟩) L' (Nat × Int × Int) procE 141 a.cp (prow a.lb x.ps) L2] {L3 : List HP} [o3 : ObjsAt locR L2 a.lb (x.ps.map Prc.q) L3]
    (hap : a.ap = some ⟨q, 0, none⟩) (hl : a.lb.length = x.ps.length) (h0 : 0 ≤ i) (h1 : i < x.ps.length) (hs : x.gl.length ≤ 1000000) (ht : 0 ≤ (prAt x i).turns)
    (k : ∀ M', Hp R (glP (scG b wb db a x) (x.own i).1.gl :: rowPr (some ⟨q, 0, none⟩) a.cp (prow a.lb x.ps) :: objsP locR a.lb ((x.own i).1.ps.map Prc.q) :: L3) M' → K (.tuple #[.int .i64 (x.own i).2.1, .bool (x.own i).2.2]) M') :
    ACalls Tryz.prog 132 #[.pointer (some ⟨b, 0, none⟩), .pointer (some ⟨q, i.toNat * 3, none⟩)] M K Kp := by
  refine vc_sched_Sched_own ?_
  obtain ⟨lb, hlb, hpr, hrow⟩ := pr_idx (i := i) hl h0 h1
  have h2 : Hp R (glP (scG b wb db a x) x.gl :: rowPr (some ⟨q, 0, none⟩) a.cp (prow a.lb x.ps) :: objsP locR a.lb (x.ps.map Prc.q) :: L3) M := h.sub (.cons o.pick (.cons o2.pick (.cons o3.pick .refl)))
  clear h
  have h := h2
  clear h2
  have hq : (x.ps.map Prc.q)[i.toNat]? = some (prAt x i).q := by rw [List.getElem?_map, hpr]; rfl
  unfold Sc.own at k
  dsimp only at k
  have hset : ∀ q', (x.setP i { prAt x i with q := q' }).ps.map Prc.q = (x.ps.map Prc.q).set i.toNat q' := fun q' => by simp [Sc.setP, List.map_set]
  simp only [hset] at k
  unfold ownL at k
  dsimp only at k
  refine v_exP (Src.at (Src.row (A := some ⟨q, 0, none⟩) : Src R _ _ (procE.cells (prow a.lb x.ps))) h (i := i.toNat) (j := 0) hrow rfl (by show _ = 0 + (i.toNat * 3 + 0); simp)) ?_
  replace h := h.objs_out locR hlb hq
  replace h : Hp R (objP locR lb (prAt x i).q :: glP (scG b wb db a x) x.gl :: objsX locR a.lb (x.ps.map Prc.q) i.toNat :: rowPr (some ⟨q, 0, none⟩) a.cp (prow a.lb x.ps) :: L3) M := h.sub (by repeat (first | exact .refl | refine .cons (by repeat (first | exact .here | apply Pick.there)) ?_ | apply Sub.drop))
  have hbd := loc_bd h (b := lb)
  refine local_Turn (P := scG b wb db a x) sc_gl h (by omega) ?_
  clear h; intro M h
  have htl := turn_len (q := (prAt x i).q) (gl := x.gl)
  refine u_exI ?_
  generalize htr : (prAt x i).q.turn x.gl = r at h k htl
  obtain ⟨q1, g1, n1⟩ := r
  dsimp only at h k htl
  have hg1 : g1.length ≤ 100000000 := by obtain ⟨a1, a2, a3⟩ := hbd; omega
  refine v_exI (Src.at (h.src (A := some ⟨q, 0, none⟩)) h (i := i.toNat) (j := 1) hrow rfl (by show _ = 0 + (i.toNat * 3 + 1); omega)) ?_
  refine ⟨by decide, ?_⟩
  -- the last two ways
  have rest : ∀ {M : Mem}, (Hp R (objP locR lb q1 :: glP (scG b wb db a x) g1 :: objsX locR a.lb (x.ps.map Prc.q) i.toNat :: rowPr (some ⟨q, 0, none⟩) a.cp (prow a.lb x.ps) :: L3) M) → ¬ (Int.tmod (prAt x i).turns 7 = 6 ∧ 0 < g1.length) →
      exP (Mem.ld M ⟨q, i.toNat * 3, none⟩) fun A14 =>
        ACalls Tryz.prog 131 #[(.pointer A14)] M (fun v15 M16 =>
        ∃ n17 : Int, ∃ t18 : Bool, (v15 = (.tuple #[(.int .i64 n17), (.bool t18)])) ∧
        bsp t18
         (K (.tuple #[(.int .i64 n17), (.bool true)]) M16)
         (exP (Mem.ld M16 ⟨q, i.toNat * 3, none⟩) fun A19 =>
          ACalls Tryz.prog 179 #[(.pointer A19), (.pointer (some ⟨b, (0 + 7), none⟩)), (.int .i64 0)] M16 (fun v20 M21 =>
          ∃ n22 : Int, ∃ t23 : Bool, (v20 = (.tuple #[(.int .i64 n22), (.bool t23)])) ∧
          K (.tuple #[(.int .i64 n22), (.bool t23)]) M21) Kp)) Kp := by
    intro M h hno
    rw [if_neg hno] at k
    refine v_exP (Src.at (h.src (A := some ⟨q, 0, none⟩)) h (i := i.toNat) (j := 0) hrow rfl (by show _ = 0 + (i.toNat * 3 + 0); simp)) ?_
    refine local_Get h (b := lb) ?_
    clear h; intro t M ht1 ht2 h
    refine ⟨_, _, rfl, ?_⟩
    by_cases hh : ownHas q1 = true
    · rw [if_pos hh] at k
      have : t = true := ht2 (by unfold ownHas at hh; simpa using hh)
      subst this
      refine u_bspT ?_
      replace h := h.objs_in locR lb hlb (by rw [List.length_map]; omega)
      exact k _ (h.sub (by repeat (first | exact .refl | refine .cons (by repeat (first | exact .here | apply Pick.there)) ?_ | apply Sub.drop)))
    · rw [if_neg hh] at k
      have hn : q1.next = -1 ∧ q1.l = [] := by
        unfold ownHas at hh
        rw [Bool.or_eq_true] at hh
        constructor
        · exact Decidable.byContradiction fun e => hh (.inl (by simpa using e))
        · cases hq1 : q1.l with
          | nil => rfl
          | cons _ _ => exact absurd (.inr (by rw [hq1]; rfl)) hh
      have hg : q1.get.2 = -1 := by unfold Loc.get; rw [if_neg (by simpa using hn.1), hn.2]
      have : t = false := ht1 hg hn.1 hn.2
      subst this
      refine u_bspF ?_
      refine v_exP (Src.at (h.src (A := some ⟨q, 0, none⟩)) h (i := i.toNat) (j := 0) hrow rfl (by show _ = 0 + (i.toNat * 3 + 0); simp)) ?_
      replace h : Hp R (objP locR lb q1.get.1 :: glP (scG b wb db a x) g1 :: objsX locR a.lb (x.ps.map Prc.q) i.toNat :: rowPr (some ⟨q, 0, none⟩) a.cp (prow a.lb x.ps) :: L3) M := h.sub (by repeat (first | exact .refl | refine .cons (by repeat (first | exact .here | apply Pick.there)) ?_ | apply Sub.drop))
      refine local_Fetch (P := scG b wb db a x) sc_gl h hg1 (by decide) ?_
      clear h; intro t2 M ht3 ht4 h
      refine ⟨_, _, rfl, ?_⟩
      have ht5 : t2 = !g1.isEmpty := by
        cases g1 with
        | nil => exact ht3 (by unfold Loc.fetch; simp) rfl
        | cons _ _ => exact ht4 (by simp)
      subst ht5
      replace h := h.objs_in locR lb hlb (by rw [List.length_map]; omega)
      exact k _ (h.sub (by repeat (first | exact .refl | refine .cons (by repeat (first | exact .here | apply Pick.there)) ?_ | apply Sub.drop)))
  refine bsp_eq.2 ⟨fun e6 => ?_, fun e6 => ?_⟩
  · replace h : Hp R (glP (scG b wb db a x) g1 :: objP locR lb q1 :: objsX locR a.lb (x.ps.map Prc.q) i.toNat :: rowPr (some ⟨q, 0, none⟩) a.cp (prow a.lb x.ps) :: L3) M := h.sub (by repeat (first | exact .refl | refine .cons (by repeat (first | exact .here | apply Pick.there)) ?_ | apply Sub.drop))
    refine local_gTake (P := scG b wb db a x) (n := 1) sc_gl h (by omega) ?_
    clear h; intro A2 c2 M h
    refine u_exSl ?_
    have e1 : (1 : Int).toNat = 1 := rfl
    rw [e1] at h ⊢
    by_cases hg : 0 < g1.length
    · rw [if_pos ⟨e6, hg⟩] at k
      have hlen : (g1.take 1).length = 1 := by rw [List.length_take]; omega
      rw [hlen]
      refine u_bspT ⟨by omega, by omega, ?_⟩
      obtain ⟨q9, rfl⟩ := h.row_some (A := A2) (by omega) (by decide)
      refine u_nilc ?_
      obtain ⟨v, hv⟩ := idx_ex (l := g1) (i := 0) hg
      have hv2 : (g1.take 1)[0]? = some v := by rw [List.getElem?_take, if_pos (by omega)]; exact hv
      refine v_exI (Src.at (h.src (A := some ⟨q9, 0, none⟩)) h (i := 0) (j := 0) hv2 rfl rfl) ?_
      have hvd : g1.headD 0 = v := by
        cases g1 with
        | nil => simp at hg
        | cons w _ => simp at hv; simpa using hv
      rw [hvd] at k
      replace h : Hp R (objP locR lb q1 :: objsX locR a.lb (x.ps.map Prc.q) i.toNat :: glP (scG b wb db a x) (g1.drop 1) :: rowPr (some ⟨q, 0, none⟩) a.cp (prow a.lb x.ps) :: L3) M := h.sub (by repeat (first | exact .refl | refine .cons (by repeat (first | exact .here | apply Pick.there)) ?_ | apply Sub.drop))
      replace h := h.objs_in locR lb hlb (by rw [List.length_map]; omega)
      exact k _ (h.sub (by repeat (first | exact .refl | refine .cons (by repeat (first | exact .here | apply Pick.there)) ?_ | apply Sub.drop)))
    · have hg0 : g1 = [] := List.eq_nil_of_length_eq_zero (by omega)
      subst hg0
      refine u_bspF ?_
      exact rest (h.sub (by repeat (first | exact .refl | refine .cons (by repeat (first | exact .here | apply Pick.there)) ?_ | apply Sub.drop))) (fun hc => by simp at hc)
  · exact rest (h.sub (by repeat (first | exact .refl | refine .cons (by repeat (first | exact .here | apply Pick.there)) ?_ | apply Sub.drop))) (fun hc => e6 hc.1)
end
end Go.Proofs

namespace Go.Proofs
open Go.AF
set_option linter.unusedVariables false
set_option maxRecDepth 100000
set_option maxHeartbeats 1000000
attribute [local irreducible] exI exB exS exP exSl exV nilc stc nwc semK semU bsp
inductive SOut where
  | ev (e : Ev)
  | dry (l : List PanicEntry)
/-- How it ends: somebody was found, or nobody. -/
def Sc.findEnd (x : Sc) (m i kind g : Int) (ok : Bool) : Sc × Ev :=
  if ok then ((x.setP i { prAt x i with turns := (prAt x i).turns + 1 }).setM m ⟨(mcAt x m).p, g, x.c.S⟩, ⟨kind, m, g, []⟩)
  else ((x.setP i { prAt x i with by_ := -1 }).setM m ⟨-1, -1, 0⟩, ⟨6, m, -1, []⟩)
def Sc.find (x : Sc) (m : Int) : Sc × SOut :=
  let i := (mcAt x m).p
  if 0 < (mcAt x m).left ∧ (prAt x i).q.next ≠ -1 then
    ((x.setP i { prAt x i with q := (prAt x i).q.get.1 }).setM m { mcAt x m with g := (prAt x i).q.get.2 }, .ev ⟨4, m, (prAt x i).q.get.2, []⟩)
  else
    let y := (x.own i).1
    if (x.own i).2.2 = false ∧ 1 < x.c.P then match y.d.draw 2 x.c.P with
      | (d', .dry l) => ({ y with d := d' }, .dry l)
      | (d', .num v) =>
        let y := { y with d := d' }
        if v = i then ((y.findEnd m i 5 (-1) false).1, .ev (y.findEnd m i 5 (-1) false).2)
        else
          let s := (prAt y i).q.steal (prAt y v).q
          let z := (y.setP i { prAt y i with q := s.1 }).setP v { prAt y v with q := s.2.1 }
          ((z.findEnd m i 5 s.2.2 (stealHas (prAt y v).q s.2.2)).1, .ev (z.findEnd m i 5 s.2.2 (stealHas (prAt y v).q s.2.2)).2)
    else ((y.findEnd m i 4 (x.own i).2.1 (x.own i).2.2).1, .ev (y.findEnd m i 4 (x.own i).2.1 (x.own i).2.2).2)
section
variable {R : Mem} {L L' L2 : List HP} {M : Mem} {K : Value → Mem → Prop} {Kp : List PanicEntry → Mem → Prop} {pa : PA} {p : Prg} {b wb db : Nat} {x : Sc} {m i : Int}
theorem local_Steal_self {lb : Nat} (k : K (.tuple #[.int .i64 (-1), .bool false]) M) : ACalls Tryz.prog 133 #[.pointer (some ⟨lb, 0, none⟩), .pointer (some ⟨lb, 0, none⟩)] M K Kp := by
  refine vc_local_Local_Steal ?_
  exact ⟨fun _ => u_bspT k, fun hne => absurd rfl hne⟩
theorem setP_len {y : Prc} : (x.setP i y).ps.length = x.ps.length := by simp [Sc.setP]
theorem find_tail {a : SA} {q q2 k1 : Nat} {kind g : Int} {t : Bool}
    (h : Hp R (glP (scG b wb db a x) x.gl :: objP (idleR pa p) wb x.w :: objP (souR .nilFunc) db x.d :: rowPr (some ⟨q, 0, none⟩) a.cp (prow a.lb x.ps) :: objsP locR a.lb (x.ps.map Prc.q) :: rowMc (some ⟨q2, 0, none⟩) a.cm x.ms :: pt k1 [.int .i64 0, .int .i64 0, .int .i64 0, .slice none 0 0] 47 :: L') M)
    (hap : a.ap = some ⟨q, 0, none⟩) (ham : a.am = some ⟨q2, 0, none⟩) (hl : a.lb.length = x.ps.length) (m0 : 0 ≤ m) (m1 : m < x.ms.length) (i0 : 0 ≤ i) (i1 : i < x.ps.length) (ht : 0 ≤ (prAt x i).turns ∧ (prAt x i).turns < 1000000000)
    (k : ∀ M', Hp R (objP (schR pa p wb db) b (x.findEnd m i kind g t).1 :: L') M' → K (evV (x.findEnd m i kind g t).2 none 0) M') :
    bsp (!t)
     (exSl (Mem.ld M ⟨b, (0 + 6), none⟩) fun A81 k82 k83 =>
      stc M ⟨q, ((i.toNat * 3) + 2), none⟩ (.int .i64 (-1)) fun M84 =>
      ((0 : Int) ≤ m) ∧
      ((m : Int) < ((k82 : Nat) : Int)) ∧
      nilc A81 fun k85 k86 =>
      stc M84 ⟨k85, (k86 + ((Int.toNat m) * 3)), none⟩ (.int .i64 (-1)) fun M87 =>
      stc M87 ⟨k85, ((k86 + ((Int.toNat m) * 3)) + 1), none⟩ (.int .i64 (-1)) fun M88 =>
      stc M88 ⟨k85, ((k86 + ((Int.toNat m) * 3)) + 2), none⟩ (.int .i64 0) fun M89 =>
      stc M89 ⟨k1, 0, none⟩ (.int .i64 6) fun M90 =>
      stc M90 ⟨k1, (0 + 1), none⟩ (.int .i64 m) fun M91 =>
      stc M91 ⟨k1, (0 + 2), none⟩ (.int .i64 (-1)) fun M92 =>
      stc M92 ⟨k1, (0 + 3), none⟩ (.slice none 0 0) fun M93 =>
      exI (Mem.ld M93 ⟨k1, 0, none⟩) .i64 fun n94 =>
      exI (Mem.ld M93 ⟨k1, (0 + 1), none⟩) .i64 fun n95 =>
      exI (Mem.ld M93 ⟨k1, (0 + 2), none⟩) .i64 fun n96 =>
      exSl (Mem.ld M93 ⟨k1, (0 + 3), none⟩) fun A97 k98 k99 =>
      K (.agg #[(.int .i64 n94), (.int .i64 n95), (.int .i64 n96), (.slice A97 k98 k99)]) M93)
     (exI (Mem.ld M ⟨q, ((i.toNat * 3) + 1), none⟩) .i64 fun n100 =>
      stc M ⟨q, ((i.toNat * 3) + 1), none⟩ (.int .i64 (IntKind.wrap .i64 (n100 + 1))) fun M101 =>
      exSl (Mem.ld M101 ⟨b, (0 + 6), none⟩) fun A102 k103 k104 =>
      exSl (Mem.ld M101 ⟨b, (0 + 6), none⟩) fun A105 k106 k107 =>
      exI (Mem.ld M101 ⟨b, ((0 + 1) + 3), none⟩) .i64 fun n108 =>
      ((0 : Int) ≤ m) ∧
      ((m : Int) < ((k103 : Nat) : Int)) ∧
      nilc A102 fun k109 k110 =>
      stc M101 ⟨k109, ((k110 + ((Int.toNat m) * 3)) + 1), none⟩ (.int .i64 g) fun M111 =>
      ((0 : Int) ≤ m) ∧
      ((m : Int) < ((k106 : Nat) : Int)) ∧
      nilc A105 fun k112 k113 =>
      stc M111 ⟨k112, ((k113 + ((Int.toNat m) * 3)) + 2), none⟩ (.int .i64 n108) fun M114 =>
      stc M114 ⟨k1, 0, none⟩ (.int .i64 kind) fun M115 =>
      stc M115 ⟨k1, (0 + 1), none⟩ (.int .i64 m) fun M116 =>
      stc M116 ⟨k1, (0 + 2), none⟩ (.int .i64 g) fun M117 =>
      stc M117 ⟨k1, (0 + 3), none⟩ (.slice none 0 0) fun M118 =>
      exI (Mem.ld M118 ⟨k1, 0, none⟩) .i64 fun n119 =>
      exI (Mem.ld M118 ⟨k1, (0 + 1), none⟩) .i64 fun n120 =>
      exI (Mem.ld M118 ⟨k1, (0 + 2), none⟩) .i64 fun n121 =>
      exSl (Mem.ld M118 ⟨k1, (0 + 3), none⟩) fun A122 k123 k124 =>
      K (.agg #[(.int .i64 n119), (.int .i64 n120), (.int .i64 n121), (.slice A122 k123 k124)]) M118) := by
  obtain ⟨lb, hlb, hpr, hrow⟩ := pr_idx (i := i) hl i0 i1
  have hmc := mc_idx m0 m1
  have m2 : m.toNat < x.ms.length := by omega
  obtain ⟨ap, cp, lbs, am, cm⟩ := a
  dsimp only at hap ham hl hlb hrow h
  subst hap; subst ham
  obtain ⟨A, c, h2⟩ := sch_op2 h
  clear h
  have h := h2
  clear h2
  unfold Sc.findEnd at k
  cases t with
  | false =>
    simp only [Bool.false_eq_true, if_false] at k
    refine u_bspT ?_
    refine t_exSl h ?_
    refine s_row (E := procE) (a' := (lb, (prAt x i).turns, -1)) i.toNat 2 h hrow (by decide) rfl rfl ?_
    clear h; intro M h
    refine ⟨m0, m1, u_nilc ?_⟩
    refine s_row (E := machE) (a' := ⟨-1, (mcAt x m).g, (mcAt x m).left⟩) m.toNat 0 h hmc (by decide) rfl (by show _ = m.toNat * 3 + 0; omega) ?_
    clear h; intro M h
    refine s_row (E := machE) (a := ⟨-1, (mcAt x m).g, (mcAt x m).left⟩) (a' := ⟨-1, -1, (mcAt x m).left⟩) m.toNat 1 h (by simp [m2]) (by decide) rfl (by show _ = m.toNat * 3 + 1; omega) ?_
    clear h; intro M h
    refine s_row (E := machE) (a := ⟨-1, -1, (mcAt x m).left⟩) (a' := ⟨-1, -1, 0⟩) m.toNat 2 h (by simp [m2]) (by decide) rfl (by show _ = m.toNat * 3 + 2; omega) ?_
    clear h; intro M h
    rw [set_set', set_set', prow_set (pr := { prAt x i with by_ := -1 }) hlb] at h
    refine ev_st h ?_
    clear h; intro M h
    refine ev_ld h ?_
    have e3 := mapq_same (y := { prAt x i with by_ := -1 }) hpr rfl
    exact k _ (Hp.fin1 (sch_close (A := A) (c := c) (a := ⟨some ⟨q, 0, none⟩, cp, lbs, some ⟨q2, 0, none⟩, cm⟩) (x := (x.setP i { prAt x i with by_ := -1 }).setM m ⟨-1, -1, 0⟩) h b (by simp [Sc.setP, Sc.setM, scCells]) (by rfl) (by simpa [Sc.setP, Sc.setM] using hl) (by rfl) (by exact e3) (by rfl)))
  | true =>
    simp only [if_true] at k
    refine u_bspF ?_
    refine v_exI (Src.at (h.src (A := some ⟨q, 0, none⟩)) h (i := i.toNat) (j := 1) hrow rfl (by show _ = 0 + (i.toNat * 3 + 1); omega)) ?_
    rw [wrap_succ' ht.1 (by omega)]
    refine s_row (E := procE) (a' := (lb, (prAt x i).turns + 1, (prAt x i).by_)) i.toNat 1 h hrow (by decide) rfl rfl ?_
    clear h; intro M h
    refine t_exSl h (t_exSl h (t_exI h ⟨m0, m1, u_nilc ?_⟩))
    refine s_row (E := machE) (a' := ⟨(mcAt x m).p, g, (mcAt x m).left⟩) m.toNat 1 h hmc (by decide) rfl (by show _ = m.toNat * 3 + 1; omega) ?_
    clear h; intro M h
    refine ⟨m0, m1, u_nilc ?_⟩
    refine s_row (E := machE) (a := ⟨(mcAt x m).p, g, (mcAt x m).left⟩) (a' := ⟨(mcAt x m).p, g, x.c.S⟩) m.toNat 2 h (by simp [m2]) (by decide) rfl (by show _ = m.toNat * 3 + 2; omega) ?_
    clear h; intro M h
    rw [set_set', prow_set (pr := { prAt x i with turns := (prAt x i).turns + 1 }) hlb] at h
    refine ev_st h ?_
    clear h; intro M h
    refine ev_ld h ?_
    have e3 := mapq_same (y := { prAt x i with turns := (prAt x i).turns + 1 }) hpr rfl
    exact k _ (Hp.fin1 (sch_close (A := A) (c := c) (a := ⟨some ⟨q, 0, none⟩, cp, lbs, some ⟨q2, 0, none⟩, cm⟩) (x := (x.setP i { prAt x i with turns := (prAt x i).turns + 1 }).setM m ⟨(mcAt x m).p, g, x.c.S⟩) h b (by simp [Sc.setP, Sc.setM, scCells]) (by rfl) (by simpa [Sc.setP, Sc.setM] using hl) (by rfl) (by exact e3) (by rfl)))
def findOk (x : Sc) (m : Int) : Prop := 0 ≤ m ∧ m < x.ms.length ∧ 0 ≤ (mcAt x m).p ∧ (mcAt x m).p < x.ps.length ∧ x.gl.length ≤ 1000000 ∧ 0 ≤ (prAt x (mcAt x m).p).turns ∧ (prAt x (mcAt x m).p).turns < 1000000000 ∧ x.d.taken.length < 100000000 ∧ x.c.P ≤ x.ps.length ∧ x.c.P < 1000000
instance (x : Sc) (m : Int) : Decidable (findOk x m) := by unfold findOk; infer_instance
theorem own_turns {j : Int} (h0 : 0 ≤ i) (hi : i < x.ps.length) (hj : 0 ≤ j) : (prAt (x.own i).1 j).turns = (prAt x j).turns := by
  unfold Sc.own Sc.setP prAt
  dsimp only
  by_cases e : i.toNat = j.toNat
  · rw [e]
    rw [List.getD_eq_getElem?_getD, List.getElem?_set_self (by omega)]; rfl
  · rw [List.getD_eq_getElem?_getD, List.getElem?_set_ne e, ← List.getD_eq_getElem?_getD]
end
end Go.Proofs

namespace Go.Proofs
open Go.AF
set_option linter.unusedVariables false
set_option maxRecDepth 100000
set_option maxHeartbeats 1000000
attribute [local irreducible] exI exB exS exP exSl exV nilc stc nwc semK semU bsp
section
variable {R : Mem} {L L' L2 : List HP} {M : Mem} {K : Value → Mem → Prop} {Kp : List PanicEntry → Mem → Prop} {pa : PA} {p : Prg} {b wb db : Nat} {x : Sc} {m i : Int} {a : SA} {g : List Int}
theorem sc_ps (h : Hp R (glP (scG b wb db a x) g :: L) M) : M.ld ⟨b, 0 + 5, none⟩ = some (.slice a.ap x.ps.length a.cp) := by
  obtain ⟨A, c, h9⟩ := gl_open (P := scG b wb db a x) h; exact t_ld h9
theorem sc_ms (h : Hp R (glP (scG b wb db a x) g :: L) M) : M.ld ⟨b, 0 + 6, none⟩ = some (.slice a.am x.ms.length a.cm) := by
  obtain ⟨A, c, h9⟩ := gl_open (P := scG b wb db a x) h; exact t_ld h9
theorem sc_P (h : Hp R (glP (scG b wb db a x) g :: L) M) : M.ld ⟨b, 0 + 1, none⟩ = some (.int .i64 x.c.P) := by
  obtain ⟨A, c, h9⟩ := gl_open (P := scG b wb db a x) h; exact t_ld h9
theorem sc_M (h : Hp R (glP (scG b wb db a x) g :: L) M) : M.ld ⟨b, (0 + 1) + 1, none⟩ = some (.int .i64 x.c.M) := by
  obtain ⟨A, c, h9⟩ := gl_open (P := scG b wb db a x) h; exact t_ld h9
theorem sc_d (h : Hp R (glP (scG b wb db a x) g :: L) M) : M.ld ⟨b, 0 + 8, none⟩ = some (.pointer (some ⟨db, 0, none⟩)) := by
  obtain ⟨A, c, h9⟩ := gl_open (P := scG b wb db a x) h; exact t_ld h9
theorem sc_w (h : Hp R (glP (scG b wb db a x) g :: L) M) : M.ld ⟨b, 0, none⟩ = some (.pointer (some ⟨wb, 0, none⟩)) := by
  obtain ⟨A, c, h9⟩ := gl_open (P := scG b wb db a x) h; exact t_ld h9
theorem scG_own : scG b wb db a (x.own i).1 = scG b wb db a x := by
  unfold Sc.own scG scCells Sc.setP; simp
/-- What the end needs, of a scheduler that lies open. -/
def Rdy (R : Mem) (pa : PA) (p : Prg) (b wb db : Nat) (a : SA) (L' : List HP) (K : Value → Mem → Prop) (m i : Int) (q q2 k1 : Nat) (z : Sc) (kind g : Int) (t : Bool) (M : Mem) : Prop :=
  Hp R (glP (scG b wb db a z) z.gl :: objP (idleR pa p) wb z.w :: objP (souR .nilFunc) db z.d :: rowPr (some ⟨q, 0, none⟩) a.cp (prow a.lb z.ps) :: objsP locR a.lb (z.ps.map Prc.q) :: rowMc (some ⟨q2, 0, none⟩) a.cm z.ms :: pt k1 [.int .i64 0, .int .i64 0, .int .i64 0, .slice none 0 0] 47 :: L') M ∧
  a.lb.length = z.ps.length ∧ m < z.ms.length ∧ i < z.ps.length ∧ (0 ≤ (prAt z i).turns ∧ (prAt z i).turns < 1000000000) ∧
  (∀ M', Hp R (objP (schR pa p wb db) b (z.findEnd m i kind g t).1 :: L') M' → K (evV (z.findEnd m i kind g t).2 none 0) M')
theorem prAt_set {y : Prc} {j : Int} (hi : 0 ≤ i) (h1 : i < x.ps.length) (hj : 0 ≤ j) : prAt (x.setP i y) j = if i = j then y else prAt x j := by
  unfold prAt Sc.setP
  dsimp only
  by_cases e : i = j
  · subst e
    rw [if_pos rfl, List.getD_eq_getElem?_getD, List.getElem?_set_self (by omega)]; rfl
  · rw [if_neg e, List.getD_eq_getElem?_getD, List.getElem?_set_ne (by omega), ← List.getD_eq_getElem?_getD]
theorem find_rest {q q2 k1 : Nat}
    (h : Hp R (glP (scG b wb db a x) x.gl :: objP (idleR pa p) wb x.w :: objP (souR .nilFunc) db x.d :: rowPr (some ⟨q, 0, none⟩) a.cp (prow a.lb x.ps) :: objsP locR a.lb (x.ps.map Prc.q) :: rowMc (some ⟨q2, 0, none⟩) a.cm x.ms :: pt k1 [.int .i64 0, .int .i64 0, .int .i64 0, .slice none 0 0] 47 :: L') M)
    (hap : a.ap = some ⟨q, 0, none⟩) (ham : a.am = some ⟨q2, 0, none⟩) (hl : a.lb.length = x.ps.length) (hk : findOk x m) (hi : i = (mcAt x m).p) (hd : x.d.Ok)
    (k : let y := (x.own i).1
      if (x.own i).2.2 = false ∧ 1 < x.c.P then match y.d.draw 2 x.c.P with
        | (d', .dry l) => ∀ M', Hp R (objP (schR pa p wb db) b { y with d := d' } :: L') M' → Kp l M'
        | (d', .num v) =>
          let y := { y with d := d' }
          let s := (prAt y i).q.steal (prAt y v).q
          let z := if v = i then y else (y.setP i { prAt y i with q := s.1 }).setP v { prAt y v with q := s.2.1 }
          let r := if v = i then (-1, false) else (s.2.2, stealHas (prAt y v).q s.2.2)
          ∀ M', Hp R (objP (schR pa p wb db) b (z.findEnd m i 5 r.1 r.2).1 :: L') M' → K (evV (z.findEnd m i 5 r.1 r.2).2 none 0) M'
      else ∀ M', Hp R (objP (schR pa p wb db) b (y.findEnd m i 4 (x.own i).2.1 (x.own i).2.2).1 :: L') M' → K (evV (y.findEnd m i 4 (x.own i).2.1 (x.own i).2.2).2 none 0) M') :
    ACalls Tryz.prog 132 #[(.pointer (some ⟨b, 0, none⟩)), (.pointer (some ⟨q, (i.toNat * 3), none⟩))] M (fun v54 M55 =>
  ∃ n56 : Int, ∃ t57 : Bool, (v54 = (.tuple #[(.int .i64 n56), (.bool t57)])) ∧
  bsp (!t57)
   (exI (Mem.ld M55 ⟨b, (0 + 1), none⟩) .i64 fun n58 =>
    ∃ J59 : List Value → Mem → Prop, (bsp (decide ((n58 : Int) > 1))
      (exP (Mem.ld M55 ⟨b, (0 + 8), none⟩) fun A60 =>
       exI (Mem.ld M55 ⟨b, (0 + 1), none⟩) .i64 fun n61 =>
       ACalls Tryz.prog 98 #[(.pointer A60), (.int .i64 2), (.int .i64 n61)] M55 (fun v62 M63 =>
       exI (some v62) .i64 fun n64 =>
       exP (Mem.ld M63 ⟨q, (i.toNat * 3), none⟩) fun A65 =>
       exSl (Mem.ld M63 ⟨b, (0 + 5), none⟩) fun A66 k67 k68 =>
       ((0 : Int) ≤ n64) ∧
       ((n64 : Int) < ((k67 : Nat) : Int)) ∧
       nilc A66 fun k69 k70 =>
       exP (Mem.ld M63 ⟨k69, (k70 + ((Int.toNat n64) * 3)), none⟩) fun A71 =>
       ACalls Tryz.prog 133 #[(.pointer A65), (.pointer A71)] M63 (fun v72 M73 =>
       ∃ n74 : Int, ∃ t75 : Bool, (v72 = (.tuple #[(.int .i64 n74), (.bool t75)])) ∧
       J59 [(.int .i64 5), (.int .i64 n74), (.bool t75)] M73) Kp) Kp)
      (J59 [(.int .i64 4), (.int .i64 n56), (.bool t57)] M55)) ∧
    ∀ junk76 : Nat → Value, ∀ n77 : Int, ∀ n78 : Int, ∀ t79 : Bool, ∀ M80 : Mem, (J59 [(.int .i64 n77), (.int .i64 n78), (.bool t79)] M80) → bsp (!t79)
     (exSl (Mem.ld M80 ⟨b, (0 + 6), none⟩) fun A81 k82 k83 =>
      stc M80 ⟨q, ((i.toNat * 3) + 2), none⟩ (.int .i64 (-1)) fun M84 =>
      ((0 : Int) ≤ m) ∧
      ((m : Int) < ((k82 : Nat) : Int)) ∧
      nilc A81 fun k85 k86 =>
      stc M84 ⟨k85, (k86 + ((Int.toNat m) * 3)), none⟩ (.int .i64 (-1)) fun M87 =>
      stc M87 ⟨k85, ((k86 + ((Int.toNat m) * 3)) + 1), none⟩ (.int .i64 (-1)) fun M88 =>
      stc M88 ⟨k85, ((k86 + ((Int.toNat m) * 3)) + 2), none⟩ (.int .i64 0) fun M89 =>
      stc M89 ⟨k1, 0, none⟩ (.int .i64 6) fun M90 =>
      stc M90 ⟨k1, (0 + 1), none⟩ (.int .i64 m) fun M91 =>
      stc M91 ⟨k1, (0 + 2), none⟩ (.int .i64 (-1)) fun M92 =>
      stc M92 ⟨k1, (0 + 3), none⟩ (.slice none 0 0) fun M93 =>
      exI (Mem.ld M93 ⟨k1, 0, none⟩) .i64 fun n94 =>
      exI (Mem.ld M93 ⟨k1, (0 + 1), none⟩) .i64 fun n95 =>
      exI (Mem.ld M93 ⟨k1, (0 + 2), none⟩) .i64 fun n96 =>
      exSl (Mem.ld M93 ⟨k1, (0 + 3), none⟩) fun A97 k98 k99 =>
      K (.agg #[(.int .i64 n94), (.int .i64 n95), (.int .i64 n96), (.slice A97 k98 k99)]) M93)
     (exI (Mem.ld M80 ⟨q, ((i.toNat * 3) + 1), none⟩) .i64 fun n100 =>
      stc M80 ⟨q, ((i.toNat * 3) + 1), none⟩ (.int .i64 (IntKind.wrap .i64 (n100 + 1))) fun M101 =>
      exSl (Mem.ld M101 ⟨b, (0 + 6), none⟩) fun A102 k103 k104 =>
      exSl (Mem.ld M101 ⟨b, (0 + 6), none⟩) fun A105 k106 k107 =>
      exI (Mem.ld M101 ⟨b, ((0 + 1) + 3), none⟩) .i64 fun n108 =>
      ((0 : Int) ≤ m) ∧
      ((m : Int) < ((k103 : Nat) : Int)) ∧
      nilc A102 fun k109 k110 =>
      stc M101 ⟨k109, ((k110 + ((Int.toNat m) * 3)) + 1), none⟩ (.int .i64 n78) fun M111 =>
      ((0 : Int) ≤ m) ∧
      ((m : Int) < ((k106 : Nat) : Int)) ∧
      nilc A105 fun k112 k113 =>
      stc M111 ⟨k112, ((k113 + ((Int.toNat m) * 3)) + 2), none⟩ (.int .i64 n108) fun M114 =>
      stc M114 ⟨k1, 0, none⟩ (.int .i64 n77) fun M115 =>
      stc M115 ⟨k1, (0 + 1), none⟩ (.int .i64 m) fun M116 =>
      stc M116 ⟨k1, (0 + 2), none⟩ (.int .i64 n78) fun M117 =>
      stc M117 ⟨k1, (0 + 3), none⟩ (.slice none 0 0) fun M118 =>
      exI (Mem.ld M118 ⟨k1, 0, none⟩) .i64 fun n119 =>
      exI (Mem.ld M118 ⟨k1, (0 + 1), none⟩) .i64 fun n120 =>
      exI (Mem.ld M118 ⟨k1, (0 + 2), none⟩) .i64 fun n121 =>
      exSl (Mem.ld M118 ⟨k1, (0 + 3), none⟩) fun A122 k123 k124 =>
      K (.agg #[(.int .i64 n119), (.int .i64 n120), (.int .i64 n121), (.slice A122 k123 k124)]) M118))
   (∃ J125 : List Value → Mem → Prop, (J125 [(.int .i64 4), (.int .i64 n56), (.bool t57)] M55) ∧
    ∀ junk126 : Nat → Value, ∀ n127 : Int, ∀ n128 : Int, ∀ t129 : Bool, ∀ M130 : Mem, (J125 [(.int .i64 n127), (.int .i64 n128), (.bool t129)] M130) → bsp (!t129)
     (exSl (Mem.ld M130 ⟨b, (0 + 6), none⟩) fun A131 k132 k133 =>
      stc M130 ⟨q, ((i.toNat * 3) + 2), none⟩ (.int .i64 (-1)) fun M134 =>
      ((0 : Int) ≤ m) ∧
      ((m : Int) < ((k132 : Nat) : Int)) ∧
      nilc A131 fun k135 k136 =>
      stc M134 ⟨k135, (k136 + ((Int.toNat m) * 3)), none⟩ (.int .i64 (-1)) fun M137 =>
      stc M137 ⟨k135, ((k136 + ((Int.toNat m) * 3)) + 1), none⟩ (.int .i64 (-1)) fun M138 =>
      stc M138 ⟨k135, ((k136 + ((Int.toNat m) * 3)) + 2), none⟩ (.int .i64 0) fun M139 =>
      stc M139 ⟨k1, 0, none⟩ (.int .i64 6) fun M140 =>
      stc M140 ⟨k1, (0 + 1), none⟩ (.int .i64 m) fun M141 =>
      stc M141 ⟨k1, (0 + 2), none⟩ (.int .i64 (-1)) fun M142 =>
      stc M142 ⟨k1, (0 + 3), none⟩ (.slice none 0 0) fun M143 =>
      exI (Mem.ld M143 ⟨k1, 0, none⟩) .i64 fun n144 =>
      exI (Mem.ld M143 ⟨k1, (0 + 1), none⟩) .i64 fun n145 =>
      exI (Mem.ld M143 ⟨k1, (0 + 2), none⟩) .i64 fun n146 =>
      exSl (Mem.ld M143 ⟨k1, (0 + 3), none⟩) fun A147 k148 k149 =>
      K (.agg #[(.int .i64 n144), (.int .i64 n145), (.int .i64 n146), (.slice A147 k148 k149)]) M143)
     (exI (Mem.ld M130 ⟨q, ((i.toNat * 3) + 1), none⟩) .i64 fun n150 =>
      stc M130 ⟨q, ((i.toNat * 3) + 1), none⟩ (.int .i64 (IntKind.wrap .i64 (n150 + 1))) fun M151 =>
      exSl (Mem.ld M151 ⟨b, (0 + 6), none⟩) fun A152 k153 k154 =>
      exSl (Mem.ld M151 ⟨b, (0 + 6), none⟩) fun A155 k156 k157 =>
      exI (Mem.ld M151 ⟨b, ((0 + 1) + 3), none⟩) .i64 fun n158 =>
      ((0 : Int) ≤ m) ∧
      ((m : Int) < ((k153 : Nat) : Int)) ∧
      nilc A152 fun k159 k160 =>
      stc M151 ⟨k159, ((k160 + ((Int.toNat m) * 3)) + 1), none⟩ (.int .i64 n128) fun M161 =>
      ((0 : Int) ≤ m) ∧
      ((m : Int) < ((k156 : Nat) : Int)) ∧
      nilc A155 fun k162 k163 =>
      stc M161 ⟨k162, ((k163 + ((Int.toNat m) * 3)) + 2), none⟩ (.int .i64 n158) fun M164 =>
      stc M164 ⟨k1, 0, none⟩ (.int .i64 n127) fun M165 =>
      stc M165 ⟨k1, (0 + 1), none⟩ (.int .i64 m) fun M166 =>
      stc M166 ⟨k1, (0 + 2), none⟩ (.int .i64 n128) fun M167 =>
      stc M167 ⟨k1, (0 + 3), none⟩ (.slice none 0 0) fun M168 =>
      exI (Mem.ld M168 ⟨k1, 0, none⟩) .i64 fun n169 =>
      exI (Mem.ld M168 ⟨k1, (0 + 1), none⟩) .i64 fun n170 =>
      exI (Mem.ld M168 ⟨k1, (0 + 2), none⟩) .i64 fun n171 =>
      exSl (Mem.ld M168 ⟨k1, (0 + 3), none⟩) fun A172 k173 k174 =>
      K (.agg #[(.int .i64 n169), (.int .i64 n170), (.int .i64 n171), (.slice A172 k173 k174)]) M168))) Kp := by
  obtain ⟨m0, m1, i0, i1, hgl, ht0, ht1, htk, hP, hP2⟩ := hk
  rw [← hi] at i0 i1 ht0 ht1
  have go : ∀ (z : Sc) (kind g : Int) (t : Bool) (M : Mem), Rdy R pa p b wb db a L' K m i q q2 k1 z kind g t M → _ := fun z kind g t M ⟨h, a1, a2, a3, a4, a5⟩ => find_tail h hap ham a1 m0 a2 i0 a3 a4 a5
  refine sched_own (i := i) (q := q) (a := a) (x := x) (b := b) (wb := wb) (db := db) h hap hl i0 i1 hgl ht0 ?_
  clear h; intro M h
  refine ⟨_, _, rfl, ?_⟩
  dsimp only at k
  have ey : scG b wb db a (x.own i).1 = scG b wb db a x := scG_own
  have ep : prow a.lb (x.own i).1.ps = prow a.lb x.ps := by
    obtain ⟨lb, hlb, hpr, hrow⟩ := pr_idx (i := i) hl i0 i1
    exact prow_q hpr rfl rfl
  have el : (x.own i).1.ps.length = x.ps.length := by simp [Sc.own, Sc.setP]
  have et : ∀ j, 0 ≤ j → (prAt (x.own i).1 j).turns = (prAt x j).turns := fun j hj => own_turns i0 i1 hj
  have em : (x.own i).1.ms = x.ms := rfl
  have ew : (x.own i).1.w = x.w := rfl
  have ed : (x.own i).1.d = x.d := rfl
  rw [← ey, ← ep] at h
  have hR : Hp R (glP (scG b wb db a (x.own i).1) (x.own i).1.gl :: objP (idleR pa p) wb (x.own i).1.w :: objP (souR .nilFunc) db (x.own i).1.d :: rowPr (some ⟨q, 0, none⟩) a.cp (prow a.lb (x.own i).1.ps) :: objsP locR a.lb ((x.own i).1.ps.map Prc.q) :: rowMc (some ⟨q2, 0, none⟩) a.cm (x.own i).1.ms :: pt k1 [.int .i64 0, .int .i64 0, .int .i64 0, .slice none 0 0] 47 :: L') M := h.sub (by repeat (first | exact .refl | refine .cons (by repeat (first | exact .here | apply Pick.there)) ?_ | apply Sub.drop))
  clear h
  have h := hR
  clear hR
  have ec : (x.own i).1.c = x.c := rfl
  generalize hy : x.own i = r at h k ey ep el et em ew ed ec
  obtain ⟨y, v1, t1⟩ := r
  dsimp only at h k ey ep el et em ew ed ec ⊢
  have hti := et i i0
  have simp4 : ∀ M, Hp R (glP (scG b wb db a y) y.gl :: objP (idleR pa p) wb y.w :: objP (souR .nilFunc) db y.d :: rowPr (some ⟨q, 0, none⟩) a.cp (prow a.lb y.ps) :: objsP locR a.lb (y.ps.map Prc.q) :: rowMc (some ⟨q2, 0, none⟩) a.cm y.ms :: pt k1 [.int .i64 0, .int .i64 0, .int .i64 0, .slice none 0 0] 47 :: L') M → ¬ (t1 = false ∧ 1 < x.c.P) → Rdy R pa p b wb db a L' K m i q q2 k1 y 4 v1 t1 M := by
    intro M h hno
    rw [if_neg hno] at k
    exact ⟨h, by omega, by rw [em]; exact m1, by omega, by omega, k⟩
  cases t1 with
  | true =>
    refine u_bspF ?_
    refine ⟨fun vs M => ∃ (z : Sc) (kind g : Int) (t : Bool), vs = [.int .i64 kind, .int .i64 g, .bool t] ∧ Rdy R pa p b wb db a L' K m i q q2 k1 z kind g t M, ⟨y, 4, v1, true, rfl, simp4 M h (fun hc => by cases hc.1)⟩, ?_⟩
    clear h
    rintro _ n1 n2 t3 M ⟨z, kind, g, t, he, hz⟩
    simp only [List.cons.injEq, Value.int.injEq, Value.bool.injEq, and_true, true_and] at he
    obtain ⟨rfl, rfl, rfl⟩ := he
    exact go z n1 n2 t3 M hz
  | false =>
    refine u_bspT ?_
    rw [sc_P h]
    refine u_exI ?_
    refine ⟨fun vs M => ∃ (z : Sc) (kind g : Int) (t : Bool), vs = [.int .i64 kind, .int .i64 g, .bool t] ∧ Rdy R pa p b wb db a L' K m i q q2 k1 z kind g t M, ?_, ?_⟩
    · rw [ec]
      refine bsp_dec.2 ⟨fun hgt => ?_, fun hle => ?_⟩
      · rw [if_pos ⟨rfl, hgt⟩] at k
        rw [sc_d h]
        refine u_exP ?_
        refine u_exI ?_
        rw [ed] at k h
        replace h : Hp R (objP (souR .nilFunc) db x.d :: glP (scG b wb db a y) y.gl :: objP (idleR pa p) wb y.w :: rowPr (some ⟨q, 0, none⟩) a.cp (prow a.lb y.ps) :: objsP locR a.lb (y.ps.map Prc.q) :: rowMc (some ⟨q2, 0, none⟩) a.cm y.ms :: pt k1 [.int .i64 0, .int .i64 0, .int .i64 0, .slice none 0 0] 47 :: L') M := h.sub (by repeat (first | exact .refl | refine .cons (by repeat (first | exact .here | apply Pick.there)) ?_ | apply Sub.drop))
        refine source_Draw h hd (by omega) htk ?_
        clear h
        have hnum := fun k' v => next_num (k := x.d.k) (kind := 2) hd.1 (max1_pos x.c.P) (k' := k') (v := v)
        have hdr : ∀ v, (x.d.draw 2 x.c.P).2 = .num v → 0 ≤ v ∧ v < x.c.P := by
          intro v hv
          unfold Sou.draw at hv
          split at hv
          · rename_i k' v' hn
            cases hv
            have := hnum k' _ hn
            have e : max1 x.c.P = x.c.P := by unfold max1; rw [if_neg (by omega)]
            rw [e] at this
            exact this
          · cases hv
        generalize hdd : x.d.draw 2 x.c.P = dd at k hdr
        obtain ⟨d', o⟩ := dd
        cases o with
        | dry l =>
          dsimp only at k hdr ⊢
          intro M h
          have hsc : scG b wb db a y = scG b wb db a { y with d := d' } := rfl
          rw [hsc] at h
          have h9 : Hp R (glP (scG b wb db a { y with d := d' }) y.gl :: objP (idleR pa p) wb y.w :: objP (souR .nilFunc) db d' :: rowPr a.ap a.cp (prow a.lb y.ps) :: objsP locR a.lb (y.ps.map Prc.q) :: rowMc a.am a.cm y.ms :: pt k1 [.int .i64 0, .int .i64 0, .int .i64 0, .slice none 0 0] 47 :: L') M := by
            rw [show rowPr a.ap a.cp (prow a.lb y.ps) = rowPr (some ⟨q, 0, none⟩) a.cp (prow a.lb y.ps) from by rw [hap], show rowMc a.am a.cm y.ms = rowMc (some ⟨q2, 0, none⟩) a.cm y.ms from by rw [ham]]
            exact h.sub (by repeat (first | exact .refl | refine .cons (by repeat (first | exact .here | apply Pick.there)) ?_ | apply Sub.drop))
          exact k M (Hp.fin1 (sch_mk (a := a) (x := { y with d := d' }) (by rw [el]; exact hl) h9))
        | num v =>
          dsimp only at k hdr ⊢
          obtain ⟨v0, v1'⟩ := hdr v rfl
          intro M h
          refine u_exI ?_
          have hsc : scG b wb db a y = scG b wb db a { y with d := d' } := rfl
          rw [hsc] at h
          generalize hyz : ({ y with d := d' } : Sc) = y2 at h k
          have p1 : y2.ps = y.ps := by rw [← hyz]
          have p2 : y2.ms = y.ms := by rw [← hyz]
          have p3 : y2.gl = y.gl := by rw [← hyz]
          have p4 : y2.w = y.w := by rw [← hyz]
          have p5 : y2.d = d' := by rw [← hyz]
          rw [← p1, ← p2, ← p3, ← p4, ← p5] at h
          replace h : Hp R (glP (scG b wb db a y2) y2.gl :: objP (idleR pa p) wb y2.w :: objP (souR .nilFunc) db y2.d :: rowPr (some ⟨q, 0, none⟩) a.cp (prow a.lb y2.ps) :: objsP locR a.lb (y2.ps.map Prc.q) :: rowMc (some ⟨q2, 0, none⟩) a.cm y2.ms :: pt k1 [.int .i64 0, .int .i64 0, .int .i64 0, .slice none 0 0] 47 :: L') M := h.sub (by repeat (first | exact .refl | refine .cons (by repeat (first | exact .here | apply Pick.there)) ?_ | apply Sub.drop))
          have hl2 : a.lb.length = y2.ps.length := by rw [p1, el]; exact hl
          have hi2 : i < y2.ps.length := by rw [p1, el]; exact i1
          have hv2 : v < y2.ps.length := by rw [p1, el]; omega
          have hm2 : m < y2.ms.length := by rw [p2, em]; exact m1
          have ht2 : ∀ j, prAt y2 j = prAt y j := fun j => by unfold prAt; rw [p1]
          obtain ⟨lbi, hlbi, hpri, hrowi⟩ := pr_idx (i := i) hl2 i0 hi2
          obtain ⟨lbv, hlbv, hprv, hrowv⟩ := pr_idx (i := v) hl2 v0 hv2
          refine v_exP (Src.at (Src.row (A := some ⟨q, 0, none⟩) : Src R _ _ (procE.cells (prow a.lb y2.ps))) h (i := i.toNat) (j := 0) hrowi rfl (by show _ = 0 + (i.toNat * 3 + 0); simp)) ?_
          rw [sc_ps h]
          refine u_exSl ⟨v0, hv2, ?_⟩
          rw [hap]
          refine u_nilc ?_
          rw [Nat.zero_add]
          refine v_exP (Src.at (Src.row (A := some ⟨q, 0, none⟩) : Src R _ _ (procE.cells (prow a.lb y2.ps))) h (i := v.toNat) (j := 0) hrowv rfl (by show _ = 0 + (v.toNat * 3 + 0); simp)) ?_
          by_cases hvi : v = i
          · subst hvi
            rw [hlbi] at hlbv
            cases hlbv
            refine local_Steal_self ?_
            refine ⟨_, _, rfl, ?_⟩
            simp only [if_true] at k
            exact ⟨y2, 5, -1, false, rfl, h, hl2, hm2, hi2, by rw [ht2]; omega, k⟩
          · simp only [if_neg hvi] at k
            have hqi : (y2.ps.map Prc.q)[i.toNat]? = some (prAt y2 i).q := by rw [List.getElem?_map, hpri]; rfl
            have hqv : (y2.ps.map Prc.q)[v.toNat]? = some (prAt y2 v).q := by rw [List.getElem?_map, hprv]; rfl
            obtain ⟨X, hX, hback⟩ := h.objs_two locR (i := i.toNat) (j := v.toNat) (by omega) hlbi hqi hlbv hqv
            clear h
            refine local_Steal hX ?_
            clear hX; intro t M g1 g2 h
            refine ⟨_, _, rfl, ?_⟩
            have hte : t = stealHas (prAt y2 v).q ((prAt y2 i).q.steal (prAt y2 v).q).2.2 := by
              unfold stealHas
              by_cases hc : ((prAt y2 i).q.steal (prAt y2 v).q).2.2 ≠ -1 ∨ (prAt y2 v).q.l ≠ []
              · rw [g2 hc]
                rcases hc with hc | hc
                · simp [hc]
                · cases hq : (prAt y2 v).q.l with
                  | nil => exact absurd hq hc
                  | cons _ _ => simp
              · have hc1 : ((prAt y2 i).q.steal (prAt y2 v).q).2.2 = -1 := Decidable.byContradiction fun e => hc (.inl e)
                have hc2 : (prAt y2 v).q.l = [] := by
                  cases hq : (prAt y2 v).q.l with
                  | nil => rfl
                  | cons _ _ => exact absurd (.inr (by rw [hq]; simp)) hc
                rw [g1 hc1 hc2, hc1, hc2]; rfl
            subst hte
            replace h := hback (L2 := _) h
            generalize hs : (prAt y2 i).q.steal (prAt y2 v).q = s at h k ⊢
            obtain ⟨s1, s2, s3⟩ := s
            dsimp only at h k ⊢
            have e1 : prow a.lb ((y2.setP i { prAt y2 i with q := s1 }).setP v { prAt y2 v with q := s2 }).ps = prow a.lb y2.ps := by
              show prow a.lb ((y2.ps.set i.toNat _).set v.toNat _) = _
              rw [prow_q (ps := y2.ps.set i.toNat { prAt y2 i with q := s1 }) (j := v.toNat) (pr := prAt y2 v) (y := { prAt y2 v with q := s2 }) (by rw [List.getElem?_set_ne (by omega)]; exact hprv) rfl rfl]
              exact prow_q hpri rfl rfl
            have e2 : ((y2.setP i { prAt y2 i with q := s1 }).setP v { prAt y2 v with q := s2 }).ps.map Prc.q = ((y2.ps.map Prc.q).set i.toNat s1).set v.toNat s2 := by
              simp [Sc.setP, List.map_set]
            have e3 : scG b wb db a ((y2.setP i { prAt y2 i with q := s1 }).setP v { prAt y2 v with q := s2 }) = scG b wb db a y2 := by rw [scG_setP, scG_setP]
            rw [← e1, ← e2, ← e3] at h
            have e4 : (prAt ((y2.setP i { prAt y2 i with q := s1 }).setP v { prAt y2 v with q := s2 }) i).turns = (prAt y2 i).turns := by
              rw [prAt_set v0 (by rw [setP_len]; exact hv2) i0, if_neg hvi, prAt_set i0 hi2 i0, if_pos rfl]
            refine ⟨(y2.setP i { prAt y2 i with q := s1 }).setP v { prAt y2 v with q := s2 }, 5, s3, _, rfl, h.sub (by repeat (first | exact .refl | refine .cons (by repeat (first | exact .here | apply Pick.there)) ?_ | apply Sub.drop)), ?_, hm2, ?_, ?_, k⟩
            · rw [setP_len, setP_len]; exact hl2
            · rw [setP_len, setP_len]; exact hi2
            · rw [e4, ht2]; omega
      · exact ⟨y, 4, v1, false, rfl, simp4 M h (fun hc => hle hc.2)⟩
    · clear h
      rintro _ n1 n2 t3 M ⟨z, kind, g, t, he, hz⟩
      simp only [List.cons.injEq, Value.int.injEq, Value.bool.injEq, and_true, true_and] at he
      obtain ⟨rfl, rfl, rfl⟩ := he
      exact go z n1 n2 t3 M hz
end
end Go.Proofs

namespace Go.Proofs
open Go.AF
set_option linter.unusedVariables false
set_option maxRecDepth 100000
set_option maxHeartbeats 1000000
attribute [local irreducible] exI exB exS exP exSl exV nilc stc nwc semK semU bsp
/-- A draw's panic, behind the world's deferred call. -/
def dry2 (l : List PanicEntry) : List PanicEntry := l ++ l.map fun e => { e with recovered := true }
theorem dryOk_dry : DryOk dryV (dry2 dryV) := fun b v M K Kp h => leave_Dry h
theorem dryOk_un {a k n q v : Int} : DryOk (unV a k n q v) (dry2 (unV a k n q v)) := fun b w M K Kp h => leave_Unlike h
theorem next_dry {k k' : SrcK} {kind m : Int} {l : List PanicEntry} (h : k.next kind m = (k', .dry l)) : k' = k ∧ DryOk l (dry2 l) := by
  cases k with
  | orc l i =>
    unfold SrcK.next at h
    dsimp only at h
    split at h
    · cases h; exact ⟨rfl, dryOk_dry⟩
    · cases h
  | tape l i =>
    unfold SrcK.next at h
    dsimp only at h
    split at h
    · cases h; exact ⟨rfl, dryOk_dry⟩
    · split at h
      · cases h; exact ⟨rfl, dryOk_un⟩
      · split at h
        · cases h; exact ⟨rfl, dryOk_un⟩
        · cases h
theorem draw_dry {x x' : Sou} {kind n : Int} {l : List PanicEntry} (h : x.draw kind n = (x', .dry l)) : x' = x ∧ DryOk l (dry2 l) := by
  unfold Sou.draw at h
  split at h
  · cases h
  · rename_i k' l' hn
    cases h
    obtain ⟨e, h2⟩ := next_dry hn
    subst e
    exact ⟨rfl, h2⟩
theorem draw_ok {x : Sou} {kind n : Int} (h : x.k.Ok) : (x.draw kind n).1.k.Ok := by
  unfold Sou.draw
  have := next_ok (kind := kind) (m := max1 n) h
  split
  · rename_i k' v hn; rw [hn] at this; exact this
  · rename_i k' v hn; rw [hn] at this; exact this
theorem draw_num {x x' : Sou} {kind n v : Int} (hok : x.k.Ok) (h : x.draw kind n = (x', .num v)) : 0 ≤ v ∧ v < max1 n ∧ x'.taken = x.taken ++ [(kind, v)] := by
  unfold Sou.draw at h
  split at h
  · rename_i k' v' hn
    cases h
    have := next_num hok (max1_pos n) hn
    exact ⟨this.1, this.2, rfl⟩
  · cases h
/-- Who can go on by an instruction, one behind the other. -/
def readyStep (m : Int) (x : Sc) (r : Int) : Sc :=
  let i := (mcAt x m).p
  { x.setP i { prAt x i with q := ((prAt x i).q.ready r x.gl).1 } with gl := ((prAt x i).q.ready r x.gl).2.1 }
def Sc.runEnd (x : Sc) (m g : Int) (keep : Bool) (ready : List Int) : Sc × Ev :=
  if keep = true ∧ (mcAt x m).left - 1 ≠ 0 then (x.setM m { mcAt x m with left := (mcAt x m).left - 1 }, ⟨7, m, g, ready⟩)
  else ({ x.setM m { mcAt x m with left := (mcAt x m).left - 1, g := -1 } with gl := if (gorAt x.w g).st = 1 then x.gl ++ [g] else x.gl }, ⟨7, m, g, ready⟩)
def runPre (p : Prg) (x : Sc) (m : Int) : Prop := 0 ≤ m ∧ m < x.ms.length ∧ 0 ≤ (mcAt x m).p ∧ (mcAt x m).p < x.ps.length ∧ x.gl.length ≤ 1000000 ∧ x.d.taken.length < 100000000 ∧ 1 ≤ (mcAt x m).left ∧ (mcAt x m).left < 1000000000 ∧ 0 ≤ (mcAt x m).g
instance (p : Prg) (x : Sc) (m : Int) : Decidable (runPre p x m) := by unfold runPre; infer_instance
def askOk : Option (Int × Int) → Bool
  | none => true
  | some (_, n) => decide (n < 9223372036854775808)
def runOn (x : Sc) (m g : Int) (d : Sou) (y : Wd) (rest : Bool) : Option (Sc × SOut) :=
  if y.ready.length ≤ 10000 ∧ g < y.gs.length then
    some (((y.ready.foldl (readyStep m) { x with w := y, d := d }).runEnd m g (keepOf y g rest) y.ready).1, .ev ((y.ready.foldl (readyStep m) { x with w := y, d := d }).runEnd m g (keepOf y g rest) y.ready).2)
  else none
def askDraw (d : Sou) : Option (Int × Int) → Sou × Drawn
  | none => (d, .num 0)
  | some (k, n) => d.draw k n
def Sc.run (p : Prg) (x : Sc) (m : Int) : Option (Sc × SOut) :=
  if runPre p x m then
    if askOk (asks p { x.w with ready := [] } (mcAt x m).g) then
      match execR p x.w (mcAt x m).g (askDraw x.d (asks p { x.w with ready := [] } (mcAt x m).g)).2 with
      | none => none
      | some (.dry l y, _) => some ({ x with w := y, d := (askDraw x.d (asks p { x.w with ready := [] } (mcAt x m).g)).1 }, .dry (dry2 l))
      | some (.on y, rest) => runOn x m (mcAt x m).g (askDraw x.d (asks p { x.w with ready := [] } (mcAt x m).g)).1 y rest
      | some (.trap n y, rest) => runOn x m (mcAt x m).g (askDraw x.d (asks p { x.w with ready := [] } (mcAt x m).g)).1 { y with end_ := 2, code := n } rest
    else none
  else none
def incS : Sc × SOut → Sc × SOut
  | (x, .ev e) => ({ x with steps := x.steps + 1 }, .ev e)
  | (x, .dry l) => (x, .dry l)
def stepPre (x : Sc) : Prop := x.w.gs.length ≤ 1000000 ∧ x.c.M = x.ms.length ∧ x.ps.length ≤ 1000000 ∧ x.ms.length ≤ 1000000 ∧ x.d.taken.length < 10000000 ∧ 0 ≤ x.steps ∧ x.steps < 1000000000
instance (x : Sc) : Decidable (stepPre x) := by unfold stepPre; infer_instance
/-- What a machine that was picked does. -/
def Sc.act (p : Prg) (x : Sc) (m : Int) : Option (Sc × SOut) :=
  if m = x.c.M then (if tickOk x then some (x.tick.1, .ev x.tick.2) else none)
  else if (mcAt x m).p = -1 then some ((x.hold m).1, .ev (x.hold m).2)
  else if (mcAt x m).g = -1 then (if findOk x m then some (x.find m) else none)
  else x.run p m
def Sc.step (p : Prg) (x : Sc) : Option (Sc × SOut) :=
  if stepPre x then
    if x.status ≠ 0 then some (x, .ev ⟨0, 0, 0, []⟩)
    else match x.d.draw 1 (x.c.M + 1) with
      | (d', .dry l) => some ({ x with d := d' }, .dry l)
      | (d', .num m) => (Sc.act p { x with d := d' } m).map incS
  else none
section
variable {R : Mem} {L L' L2 : List HP} {M : Mem} {K : Value → Mem → Prop} {Kp : List PanicEntry → Mem → Prop} {pa : PA} {p : Prg} {b wb db : Nat} {x : Sc} {m i : Int}
theorem sched_find (h : Hp R L M) [o : ScAt b L pa p wb db x L'] (hk : findOk x m) (hd : x.d.k.Ok)
    (k : match (x.find m).2 with
      | .ev e => ∀ M', Hp R (objP (schR pa p wb db) b (x.find m).1 :: L') M' → K (evV e none 0) M'
      | .dry l => ∀ M', Hp R (objP (schR pa p wb db) b (x.find m).1 :: L') M' → Kp l M') : ACalls Tryz.prog 101 #[.pointer (some ⟨b, 0, none⟩), .int .i64 m] M K Kp := by
  refine vc_sched_Sched_find ?_
  have hk' := hk
  obtain ⟨m0, m1, i0, i1, hgl, ht0, ht1, htk, hP, hP2⟩ := hk'
  have hdk : x.d.Ok := ⟨hd, by omega⟩
  refine s_nwc h ?_
  clear h
  intro k1 M h
  have h' := sch_open h (b := b)
  clear h
  obtain ⟨a, hl, h⟩ := h'
  obtain ⟨lb, hlb, hpr, hrow⟩ := pr_idx (i := (mcAt x m).p) hl i0 i1
  have hmc := mc_idx m0 m1
  have m2 : m.toNat < x.ms.length := by omega
  obtain ⟨q, hq⟩ := h.row_some (A := a.ap) (l := prow a.lb x.ps) (by rw [prow_len hl]; omega) (by decide)
  obtain ⟨q2, hq2⟩ := h.row_some (A := a.am) (l := x.ms) (by omega) (by decide)
  replace h : Hp R (glP (scG b wb db a x) x.gl :: objP (idleR pa p) wb x.w :: objP (souR .nilFunc) db x.d :: rowPr (some ⟨q, 0, none⟩) a.cp (prow a.lb x.ps) :: objsP locR a.lb (x.ps.map Prc.q) :: rowMc (some ⟨q2, 0, none⟩) a.cm x.ms :: pt k1 [.int .i64 0, .int .i64 0, .int .i64 0, .slice none 0 0] 47 :: L') M := by
    unfold scRest at h
    rw [show rowPr a.ap a.cp (prow a.lb x.ps) = rowPr (some ⟨q, 0, none⟩) a.cp (prow a.lb x.ps) from by rw [hq], show rowMc a.am a.cm x.ms = rowMc (some ⟨q2, 0, none⟩) a.cm x.ms from by rw [hq2]] at h
    exact h.sub (by repeat (first | exact .refl | refine .cons (by repeat (first | exact .here | apply Pick.there)) ?_ | apply Sub.drop))
  rw [sc_ps h]
  refine u_exSl ?_
  rw [sc_ms h]
  refine u_exSl ⟨m0, m1, ?_⟩
  rw [hq2]
  refine u_nilc ?_
  refine v_exI (Src.at (h.src (A := some ⟨q2, 0, none⟩)) h (i := m.toNat) (j := 0) hmc rfl (by show _ = 0 + (m.toNat * 3 + 0); simp)) ?_
  refine ⟨i0, i1, ?_⟩
  rw [hq]
  refine u_nilc ?_
  refine u_exSl ⟨m0, m1, u_nilc ?_⟩
  refine v_exI (Src.at (h.src (A := some ⟨q2, 0, none⟩)) h (i := m.toNat) (j := 2) hmc rfl (by show _ = 0 + (m.toNat * 3 + 2); omega)) ?_
  simp only [Nat.zero_add]
  have hno : ¬ (0 < (mcAt x m).left ∧ (prAt x (mcAt x m).p).q.next ≠ -1) → (let y := (x.own (mcAt x m).p).1
      if (x.own (mcAt x m).p).2.2 = false ∧ 1 < x.c.P then match y.d.draw 2 x.c.P with
        | (d', .dry l) => ∀ M', Hp R (objP (schR pa p wb db) b { y with d := d' } :: L') M' → Kp l M'
        | (d', .num v) =>
          let y := { y with d := d' }
          let s := (prAt y (mcAt x m).p).q.steal (prAt y v).q
          let z := if v = (mcAt x m).p then y else (y.setP (mcAt x m).p { prAt y (mcAt x m).p with q := s.1 }).setP v { prAt y v with q := s.2.1 }
          let r := if v = (mcAt x m).p then (-1, false) else (s.2.2, stealHas (prAt y v).q s.2.2)
          ∀ M', Hp R (objP (schR pa p wb db) b (z.findEnd m (mcAt x m).p 5 r.1 r.2).1 :: L') M' → K (evV (z.findEnd m (mcAt x m).p 5 r.1 r.2).2 none 0) M'
      else ∀ M', Hp R (objP (schR pa p wb db) b (y.findEnd m (mcAt x m).p 4 (x.own (mcAt x m).p).2.1 (x.own (mcAt x m).p).2.2).1 :: L') M' → K (evV (y.findEnd m (mcAt x m).p 4 (x.own (mcAt x m).p).2.1 (x.own (mcAt x m).p).2.2).2 none 0) M') := by
    intro hn
    unfold Sc.find at k
    dsimp only at k ⊢
    rw [if_neg hn] at k
    split
    · rename_i hc
      rw [if_pos hc] at k
      split
      · rename_i d' l hdd
        rw [hdd] at k
        exact k
      · rename_i d' v hdd
        rw [hdd] at k
        dsimp only at k ⊢
        by_cases hv : v = (mcAt x m).p
        · simp only [if_pos hv] at k ⊢
          exact k
        · simp only [if_neg hv] at k ⊢
          exact k
    · rename_i hc
      rw [if_neg hc] at k
      exact k
  refine bsp_dec.2 ⟨fun hgt => ?_, fun hle => ?_⟩
  · refine v_exP (Src.at (h.src (A := some ⟨q, 0, none⟩)) h (i := (mcAt x m).p.toNat) (j := 0) hrow rfl (by show _ = 0 + ((mcAt x m).p.toNat * 3 + 0); simp)) ?_
    have hqi : (x.ps.map Prc.q)[(mcAt x m).p.toNat]? = some (prAt x (mcAt x m).p).q := by rw [List.getElem?_map, hpr]; rfl
    have h3 := h.objs_out locR hlb hqi
    refine local_Next h3 ?_
    refine u_exI ?_
    refine ⟨fun vs M => vs = [] ∧ (prAt x (mcAt x m).p).q.next = -1 ∧ Hp R (glP (scG b wb db a x) x.gl :: objP (idleR pa p) wb x.w :: objP (souR .nilFunc) db x.d :: rowPr (some ⟨q, 0, none⟩) a.cp (prow a.lb x.ps) :: objsP locR a.lb (x.ps.map Prc.q) :: rowMc (some ⟨q2, 0, none⟩) a.cm x.ms :: pt k1 [.int .i64 0, .int .i64 0, .int .i64 0, .slice none 0 0] 47 :: L') M, ?_, ?_⟩
    · refine bsp_ne.2 ⟨fun hne => ?_, fun heq => ⟨rfl, by simpa using heq, h⟩⟩
      clear h3
      unfold Sc.find at k
      dsimp only at k
      rw [if_pos ⟨by omega, hne⟩] at k
      dsimp only at k
      refine v_exP (Src.at (h.src (A := some ⟨q, 0, none⟩)) h (i := (mcAt x m).p.toNat) (j := 0) hrow rfl (by show _ = 0 + ((mcAt x m).p.toNat * 3 + 0); simp)) ?_
      rw [show M.ld ⟨b, 6, none⟩ = some (.slice a.am x.ms.length a.cm) from sc_ms h]
      refine u_exSl ?_
      replace h := h.objs_out locR hlb hqi
      refine local_Get h (b := lb) ?_
      clear h; intro t M _ _ h
      refine ⟨_, _, rfl, ?_⟩
      replace h := h.objs_in locR lb hlb (by rw [List.length_map]; omega)
      replace h : Hp R (glP (scG b wb db a x) x.gl :: objP (idleR pa p) wb x.w :: objP (souR .nilFunc) db x.d :: rowPr (some ⟨q, 0, none⟩) a.cp (prow a.lb x.ps) :: objsP locR a.lb ((x.ps.map Prc.q).set (mcAt x m).p.toNat (prAt x (mcAt x m).p).q.get.1) :: rowMc (some ⟨q2, 0, none⟩) a.cm x.ms :: pt k1 [.int .i64 0, .int .i64 0, .int .i64 0, .slice none 0 0] 47 :: L') M := h.sub (by repeat (first | exact .refl | refine .cons (by repeat (first | exact .here | apply Pick.there)) ?_ | apply Sub.drop))
      refine ⟨sc_ms h, m0, m1, ?_⟩
      rw [hq2]
      refine u_nilc ?_
      refine s_row (E := machE) (a' := ⟨(mcAt x m).p, (prAt x (mcAt x m).p).q.get.2, (mcAt x m).left⟩) m.toNat 1 h hmc (by decide) rfl (by show _ = m.toNat * 3 + 1; omega) ?_
      clear h; intro M h
      replace h : Hp R (glP (scG b wb db a x) x.gl :: objP (idleR pa p) wb x.w :: objP (souR .nilFunc) db x.d :: rowPr (some ⟨q, 0, none⟩) a.cp (prow a.lb x.ps) :: objsP locR a.lb ((x.ps.map Prc.q).set (mcAt x m).p.toNat (prAt x (mcAt x m).p).q.get.1) :: rowMc (some ⟨q2, 0, none⟩) a.cm (x.ms.set m.toNat ⟨(mcAt x m).p, (prAt x (mcAt x m).p).q.get.2, (mcAt x m).left⟩) :: pt k1 [.int .i64 0, .int .i64 0, .int .i64 0, .slice none 0 0] 47 :: L') M := h.sub (by repeat (first | exact .refl | refine .cons (by repeat (first | exact .here | apply Pick.there)) ?_ | apply Sub.drop))
      refine ⟨by have := sc_ms h; rw [hq2] at this; exact this, ?_⟩
      rw [show M.ld ⟨b, 6, none⟩ = some (.slice a.am x.ms.length a.cm) from sc_ms h, hq2]
      refine u_exSl ⟨m0, m1, u_nilc ?_⟩
      refine v_exI (Src.at (h.src (A := some ⟨q2, 0, none⟩)) h (i := m.toNat) (j := 1) (a := ⟨(mcAt x m).p, (prAt x (mcAt x m).p).q.get.2, (mcAt x m).left⟩) (by simp [m2]) rfl (by show _ = 0 + (m.toNat * 3 + 1); omega)) ?_
      dsimp only
      refine ev_st h ?_
      clear h; intro M h
      refine ev_ld h ?_
      have e1 : prow a.lb (x.setP (mcAt x m).p { prAt x (mcAt x m).p with q := (prAt x (mcAt x m).p).q.get.1 }).ps = prow a.lb x.ps := prow_q hpr rfl rfl
      have e2 : ((x.setP (mcAt x m).p { prAt x (mcAt x m).p with q := (prAt x (mcAt x m).p).q.get.1 }).ps).map Prc.q = (x.ps.map Prc.q).set (mcAt x m).p.toNat (prAt x (mcAt x m).p).q.get.1 := by simp [Sc.setP, List.map_set]
      have h9 : Hp R (glP (scG b wb db a ((x.setP (mcAt x m).p { prAt x (mcAt x m).p with q := (prAt x (mcAt x m).p).q.get.1 }).setM m { mcAt x m with g := (prAt x (mcAt x m).p).q.get.2 })) x.gl :: objP (idleR pa p) wb x.w :: objP (souR .nilFunc) db x.d :: rowPr a.ap a.cp (prow a.lb ((x.setP (mcAt x m).p { prAt x (mcAt x m).p with q := (prAt x (mcAt x m).p).q.get.1 }).setM m { mcAt x m with g := (prAt x (mcAt x m).p).q.get.2 }).ps) :: objsP locR a.lb (((x.setP (mcAt x m).p { prAt x (mcAt x m).p with q := (prAt x (mcAt x m).p).q.get.1 }).setM m { mcAt x m with g := (prAt x (mcAt x m).p).q.get.2 }).ps.map Prc.q) :: rowMc a.am a.cm (x.ms.set m.toNat ⟨(mcAt x m).p, (prAt x (mcAt x m).p).q.get.2, (mcAt x m).left⟩) :: L') M := by
        rw [scG_setM, scG_setP]
        show Hp R (_ :: _ :: _ :: rowPr a.ap a.cp (prow a.lb (x.setP (mcAt x m).p { prAt x (mcAt x m).p with q := (prAt x (mcAt x m).p).q.get.1 }).ps) :: objsP locR a.lb ((x.setP (mcAt x m).p { prAt x (mcAt x m).p with q := (prAt x (mcAt x m).p).q.get.1 }).ps.map Prc.q) :: _) M
        rw [e1, e2, hq, hq2]
        exact h.sub (by repeat (first | exact .refl | refine .cons (by repeat (first | exact .here | apply Pick.there)) ?_ | apply Sub.drop))
      exact k _ (sch_mk (a := a) (x := (x.setP (mcAt x m).p { prAt x (mcAt x m).p with q := (prAt x (mcAt x m).p).q.get.1 }).setM m { mcAt x m with g := (prAt x (mcAt x m).p).q.get.2 }) (by simpa [Sc.setP, Sc.setM] using hl) h9)
    · clear h h3
      rintro _ M ⟨_, hnx, h⟩
      exact find_rest h hq hq2 hl hk rfl hdk (hno (fun hc => hc.2 hnx))
  · refine ⟨fun vs M => vs = [] ∧ Hp R (glP (scG b wb db a x) x.gl :: objP (idleR pa p) wb x.w :: objP (souR .nilFunc) db x.d :: rowPr (some ⟨q, 0, none⟩) a.cp (prow a.lb x.ps) :: objsP locR a.lb (x.ps.map Prc.q) :: rowMc (some ⟨q2, 0, none⟩) a.cm x.ms :: pt k1 [.int .i64 0, .int .i64 0, .int .i64 0, .slice none 0 0] 47 :: L') M, ⟨rfl, h⟩, ?_⟩
    clear h
    rintro _ M ⟨_, h⟩
    exact find_rest h hq hq2 hl hk rfl hdk (hno (fun hc => hle (by omega)))
end
end Go.Proofs
