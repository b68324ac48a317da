/- A part of proofs about functions of one program: a condition over a partial memory that is enough for a call, and what calls answer by it. No condition of its own. -/
import Derived.ChangeArms
import Derived.Deep.Slices
import Derived.OpenShut
import Derived.Recover
import Derived.Scope
import Derived.Test.YtfjgcljdnhkmaaaProg
import Derived.WalkKit
import Derived.Test.YtfjgcljdnhkmaaaBase
import Derived.Test.YtfjgcljdnhkmaaaOps
import Derived.Test.YtfjgcljdnhkmaaaOpsB
import Derived.Test.YtfjgcljdnhkmaaaOpC
import Derived.Test.YtfjgcljdnhkmaaaFrame
import Derived.Test.YtfjgcljdnhkmaaaReg
import Derived.Test.YtfjgcljdnhkmaaaRegB
import Derived.Test.YtfjgcljdnhkmaaaRegL
import Derived.Test.YtfjgcljdnhkmaaaRegC
import Derived.Test.YtfjgcljdnhkmaaaExec
import Derived.Test.YtfjgcljdnhkmaaaSound
import Derived.Test.YtfjgcljdnhkmaaaSoundB
import Derived.Test.YtfjgcljdnhkmaaaLib
import Derived.Test.YtfjgcljdnhkmaaaHp
import Derived.Test.YtfjgcljdnhkmaaaRow
import Derived.Test.YtfjgcljdnhkmaaaMod
import Derived.Test.YtfjgcljdnhkmaaaOpen
import Derived.Test.YtfjgcljdnhkmaaaArgs
import Derived.Test.YtfjgcljdnhkmaaaDefer
import Derived.Test.YtfjgcljdnhkmaaaZWorldSelects0
import Derived.Test.YtfjgcljdnhkmaaaZWorldSelects1
import Derived.Test.YtfjgcljdnhkmaaaZWorldSelects2
import Derived.Test.YtfjgcljdnhkmaaaZWorldSelects3

namespace Go.Proofs
open Go.AF
set_option linter.unusedVariables false
set_option maxRecDepth 100000
set_option maxHeartbeats 1000000
attribute [local irreducible] exI exB exS exP exSl exV nilc stc nwc semK semU bsp
def slE : Enc (Option Addr × Nat × Nat) := ⟨1, fun t => [.slice t.1 t.2.1 t.2.2], fun _ => rfl, fun w v hv => by simp only [List.mem_singleton] at hv; subst hv; rfl⟩
/-- The program stands there, to be read. -/
structure PrgR (R : Mem) (pa : PA) (p : Prg) : Prop where
  funcs : ∃ ts : List (Option Addr × Nat × Nat), RS slE R pa.f pa.fc ts ∧ ts.length = p.funcs.length ∧ ∀ (i : Nat) t f, ts[i]? = some t → p.funcs[i]? = some f → RS insE R t.1 t.2.2 f ∧ t.2.1 = f.length
  cases : RS casE R pa.k pa.kc p.cases
theorem PrgR.le {R R' : Mem} {pa : PA} {p : Prg} (h : PrgR R pa p) (hle : R.le R') : PrgR R' pa p := by
  obtain ⟨⟨ts, h1, h2, h3⟩, h4⟩ := h
  exact ⟨⟨ts, h1.le hle, h2, fun i t f a b => ⟨(h3 i t f a b).1.le hle, (h3 i t f a b).2⟩⟩, h4.le hle⟩
def Wd.next (x : Wd) (g : Int) : Wd := x.putG g ((gorAt x g).putTop (gorAt x g).top.next)
def trapV (n : Int) : List PanicEntry := [{ v := .iface 92 (.int .i64 n), recovered := false }]
/-- What an instruction's function does. -/
def OpSpec (R : Mem) (pa : PA) (p : Prg) (dr : Value) (fnum : Nat) (x : Wd) (g : Int) (i : Ins) (r : Out Wd) (L L2 : List HP) : Prop :=
  ∀ (gg : List GA) (b bs c : Nat) (M : Mem) (K : Value → Mem → Prop) (Kp : List PanicEntry → Mem → Prop) (Q : HP), Hp R (objP (worldR pa p gg dr) b x :: Q :: L) M → gg[g.toNat]? = some (some ⟨bs, 0, none⟩, c) →
    Out.Ok r (fun y => ∀ gg' M', Hp R (objP (worldR pa p gg' dr) b y :: Q :: L2) M' → K (.tuple #[]) M') (fun n y => ∀ gg' M', Hp R (objP (worldR pa p gg' dr) b y :: Q :: L2) M' → Kp (trapV n) M') (fun l y => ∀ gg' M', Hp R (objP (worldR pa p gg' dr) b y :: Q :: L2) M' → Kp l M') →
    ACalls Try.prog fnum #[.pointer (some ⟨b, 0, none⟩), .int .i64 g, .pointer (some ⟨bs, ((gorAt x g).fs.length - 1) * 11, none⟩), .agg #[.int .i64 i.op, .int .i64 i.a, .int .i64 i.b, .int .i64 i.c]] M K Kp
theorem Out.Ok.mono {α : Type} {r : Out α} {k1 k1' : α → Prop} {k2 k2' : Int → Wd → Prop} {k3 : List PanicEntry → Wd → Prop} (h : r.Ok k1 k2 k3) (h1 : ∀ y, k1 y → k1' y) (h2 : ∀ n y, k2 n y → k2' n y) : r.Ok k1' k2' := by
  cases r with
  | on y => exact h1 y h
  | trap n y => exact h2 n y h
  | dry l y => trivial
section
variable {R : Mem} {L L' L2 : List HP} {M : Mem} {K : Value → Mem → Prop} {Kp : List PanicEntry → Mem → Prop} {pa : PA} {p : Prg} {gg : List GA} {dr : Value} {b : Nat} {x : Wd} {g : Int} {i : Ins}
theorem op_send (hp : PrgR R pa p) (hk : sendOk p x g i) (hs : x.Sm) : OpSpec R pa p dr 49 x g i (x.send p g i) L L := fun gg b bs c M K Kp Q h hgg k =>
  world_send h hp.cases hgg hk hs (k.mono (fun y hy M' h' => hy gg M' h') (fun n y hy M' h' => hy gg M' h'))
theorem op_recv (hk : recvOk x g i) (hs : x.Sm) : OpSpec R pa p dr 50 x g i (.on (x.recv g i)) L L := fun gg b bs c M K Kp Q h hgg k =>
  world_recv h hgg hk hs fun M' h' => k gg M' h'
theorem op_emit (hg : gorOk x g) (ha : isReg i.a) (hs : x.Sm) : OpSpec R pa p dr 55 x g i (x.emit g i) L L := fun gg b bs c M K Kp Q h hgg k =>
  world_emit h hgg hg ha hs (k.mono (fun y hy M' h' => hy gg M' h') (fun n y hy M' h' => hy gg M' h'))
theorem op_spawn (hg : gorOk x g) (hb : isReg i.b) (hc : isReg i.c) (hs : x.Sm) : OpSpec R pa p dr 47 x g i (x.spawn g i) L L := fun gg b bs c M K Kp Q h hgg k =>
  world_spawn h hgg hg hb hc hs (k.mono (fun y hy => hy) (fun n y hy M' h' => hy gg M' h'))
theorem op_shut (hp : PrgR R pa p) (hk : closeOk p x i) (hs : x.Sm) : OpSpec R pa p dr 51 x g i (x.shut p i) L L := fun gg b bs c M K Kp Q h hgg k =>
  world_shut (f := .nilFunc) h hp.cases hk hs (k.mono (fun y hy M' h' => hy gg M' h') (fun n y hy M' h' => hy gg M' h'))
/-- Which function an op has. -/
def wTab : AL := [(9, .func (.func 45) #[] #[]), (10, .func (.func 46) #[] #[]), (11, .func (.func 47) #[] #[]), (12, .func (.func 48) #[] #[]), (13, .func (.func 49) #[] #[]), (14, .func (.func 50) #[] #[]), (15, .func (.func 51) #[] #[]), (17, .func (.func 52) #[] #[]), (18, .func (.func 53) #[] #[]), (19, .func (.func 54) #[] #[]), (20, .func (.func 55) #[] #[]), (22, .func (.func 56) #[] #[])]
theorem world_table (h : Hp R L M) (k : ∀ m M', Hp R (ob m (mapO wTab) :: L) M' → K (.map (some m)) M') : ACalls Try.prog 35 #[] M K Kp := by
  refine vc_world_table ?_
  refine s_nwo h ?_
  clear h
  intro m M h
  replace h : Hp R (ob m (mapO []) :: L) M := h
  have hu : Try.prog.underlying 97 = some (.map 29 96) := by kernel_rfl
  have hk : Try.prog.underlying 29 = some (.int .i64) := by kernel_rfl
  iterate 12
    refine s_mapUpdate h hu hk ?_
    clear h
    intro M h
  exact k _ _ h
end
end Go.Proofs

namespace Go.Proofs
open Go.AF
set_option linter.unusedVariables false
set_option maxRecDepth 100000
set_option maxHeartbeats 1000000
attribute [local irreducible] exI exB exS exP exSl exV nilc stc nwc semK semU bsp
theorem zip_set2 {α β : Type} : ∀ {l : List α} {m : List β} {i : Nat} {u : α} {v : β}, (l.zip m).set i (u, v) = (l.set i u).zip (m.set i v)
  | [], _, _, _, _ => by simp
  | a :: l, [], i, u, v => by simp
  | a :: l, w :: m, 0, u, v => rfl
  | a :: l, w :: m, i + 1, u, v => by
    have := zip_set2 (l := l) (m := m) (i := i) (u := u) (v := v)
    simp [this]
theorem sx {x : Wd} {g : Int} (h0 : 0 ≤ g) (h1 : g < x.gs.length) : x.putG g (gorAt x g) = x := by
  obtain ⟨y, hy⟩ := idx_ex (l := x.gs) (i := g.toNat) (by omega)
  have e : gorAt x g = y := by simp [gorAt, hy]
  rw [e]
  obtain ⟨hi, rfl⟩ := List.getElem?_eq_some_iff.1 hy
  simp [Wd.putG]
section
variable {R : Mem} {L L' L2 : List HP} {M : Mem} {K : Value → Mem → Prop} {Kp : List PanicEntry → Mem → Prop} {pa : PA} {p : Prg} {gg : List GA} {dr : Value} {b : Nat} {x : Wd} {g : Int} {i : Ins}
theorem op_back (hg : gorOk x g) (ha : isReg i.a) (hin : isReg (gorAt x g).top.into) : OpSpec R pa p dr 46 x g i (.on (x.back g i)) L L := by
  intro gg b bs c M K Kp Q h hgg k
  refine vc_world_World_back ?_
  replace k : ∀ gg' M', Hp R (objP (worldR pa p gg' dr) b (x.back g i) :: Q :: L) M' → K (.tuple #[]) M' := k
  have hg' := hg
  obtain ⟨h0, h1, h2, h3⟩ := hg'
  unfold Wd.back at k
  refine s_nwc h ?_
  clear h
  intro kb M h
  have h' := world_at2 h (b := b) h0 h1 hgg
  clear h
  obtain ⟨a, gb, hl, hgb, h⟩ := h'
  have hl' := hl
  obtain ⟨l1, l2, l3, l4⟩ := hl'
  repeat (first | (refine s_nwc h ?_; clear h; intro kb M h) | (refine s_stc h ?_; clear h; intro M h) | refine t_exI h ?_ | refine t_exB h ?_ | refine t_exS h ?_ | refine t_exP h ?_ | refine t_exSl h ?_ | refine t_exV h ?_ | refine u_exI ?_ | refine u_exB ?_ | refine u_exS ?_ | refine u_exP ?_ | refine u_exSl ?_ | refine u_exV ?_ | refine u_nilc ?_ | (apply Exists.intro; (repeat apply Exists.intro); refine And.intro rfl ?_) | (refine And.intro ?_ ?_; first | exact trivial | exact rfl | exact t_ld h | (refine lds_s (t_ld h) ?_; (repeat (refine lds_s (t_ld h) ?_)); exact lds_nil) | omega) | refine u_bspT ?_ | refine u_bspF ?_)
  refine w_g h hgb fun q hq => ?_
  repeat (first | (refine s_nwc h ?_; clear h; intro kb M h) | (refine s_stc h ?_; clear h; intro M h) | refine t_exI h ?_ | refine t_exB h ?_ | refine t_exS h ?_ | refine t_exP h ?_ | refine t_exSl h ?_ | refine t_exV h ?_ | refine u_exI ?_ | refine u_exB ?_ | refine u_exS ?_ | refine u_exP ?_ | refine u_exSl ?_ | refine u_exV ?_ | refine u_nilc ?_ | (apply Exists.intro; (repeat apply Exists.intro); refine And.intro rfl ?_) | (refine And.intro ?_ ?_; first | exact trivial | exact rfl | exact t_ld h | (refine lds_s (t_ld h) ?_; (repeat (refine lds_s (t_ld h) ?_)); exact lds_nil) | omega) | refine u_bspT ?_ | refine u_bspF ?_)
  refine ⟨ha.1, ha.2, f_ld h (gor_top h2) ha rfl ?_⟩
  refine frame_Return h h2 (by omega) (gor_top h2) hin ?_ ?_
  · intro hlt
    rw [if_neg (by omega)] at k
    refine ⟨_, _, _, _, rfl, u_bspF ?_⟩
    repeat (first | (refine s_nwc h ?_; clear h; intro kb M h) | (refine s_stc h ?_; clear h; intro M h) | refine t_exI h ?_ | refine t_exB h ?_ | refine t_exS h ?_ | refine t_exP h ?_ | refine t_exSl h ?_ | refine t_exV h ?_ | refine u_exI ?_ | refine u_exB ?_ | refine u_exS ?_ | refine u_exP ?_ | refine u_exSl ?_ | refine u_exV ?_ | refine u_nilc ?_ | (apply Exists.intro; (repeat apply Exists.intro); refine And.intro rfl ?_) | (refine And.intro ?_ ?_; first | exact trivial | exact rfl | exact t_ld h | (refine lds_s (t_ld h) ?_; (repeat (refine lds_s (t_ld h) ?_)); exact lds_nil) | omega) | refine u_bspT ?_ | refine u_bspF ?_)
    refine w_g h hgb fun q2 hq2 => ?_
    repeat (first | (refine s_nwc h ?_; clear h; intro kb M h) | (refine s_stc h ?_; clear h; intro M h) | refine t_exI h ?_ | refine t_exB h ?_ | refine t_exS h ?_ | refine t_exP h ?_ | refine t_exSl h ?_ | refine t_exV h ?_ | refine u_exI ?_ | refine u_exB ?_ | refine u_exS ?_ | refine u_exP ?_ | refine u_exSl ?_ | refine u_exV ?_ | refine u_nilc ?_ | (apply Exists.intro; (repeat apply Exists.intro); refine And.intro rfl ?_) | (refine And.intro ?_ ?_; first | exact trivial | exact rfl | exact t_ld h | (refine lds_s (t_ld h) ?_; (repeat (refine lds_s (t_ld h) ?_)); exact lds_nil) | omega) | refine u_bspT ?_ | refine u_bspF ?_)
    refine bsp_eq.2 ⟨fun e0 => ?_, fun e0 => ?_⟩
    · rw [if_pos e0] at k
      repeat (first | (refine s_nwc h ?_; clear h; intro kb M h) | (refine s_stc h ?_; clear h; intro M h) | refine t_exI h ?_ | refine t_exB h ?_ | refine t_exS h ?_ | refine t_exP h ?_ | refine t_exSl h ?_ | refine t_exV h ?_ | refine u_exI ?_ | refine u_exB ?_ | refine u_exS ?_ | refine u_exP ?_ | refine u_exSl ?_ | refine u_exV ?_ | refine u_nilc ?_ | (apply Exists.intro; (repeat apply Exists.intro); refine And.intro rfl ?_) | (refine And.intro ?_ ?_; first | exact trivial | exact rfl | exact t_ld h | (refine lds_s (t_ld h) ?_; (repeat (refine lds_s (t_ld h) ?_)); exact lds_nil) | omega) | refine u_bspT ?_ | refine u_bspF ?_)
      replace h := world_in h gb hl hgb hgg
      have hl2 := lens_put (y := { gorAt x g with st := 4 }) (g := g) hl
      replace h := world_close (a := a) (p := p) (pa := pa) (dr := dr) (gg := gg) (x := { x.putG g { gorAt x g with st := 4 } with end_ := 1 }) hl2 h b
      exact k _ _ h.fin1
    · rw [if_neg e0] at k
      replace h := world_in h gb hl hgb hgg
      have hl2 := lens_put (y := { gorAt x g with st := 4 }) (g := g) hl
      replace h := world_close (a := a) (p := p) (pa := pa) (dr := dr) (gg := gg) (x := x.putG g { gorAt x g with st := 4 }) hl2 h b
      exact k _ _ h.fin1
  · intro hge b' c' M' fr hfr h'
    clear h
    have h := h'
    clear h'
    rw [if_pos hge] at k
    refine ⟨_, _, _, _, rfl, u_bspT ?_⟩
    repeat (first | (refine s_nwc h ?_; clear h; intro kb M h) | (refine s_stc h ?_; clear h; intro M h) | refine t_exI h ?_ | refine t_exB h ?_ | refine t_exS h ?_ | refine t_exP h ?_ | refine t_exSl h ?_ | refine t_exV h ?_ | refine u_exI ?_ | refine u_exB ?_ | refine u_exS ?_ | refine u_exP ?_ | refine u_exSl ?_ | refine u_exV ?_ | refine u_nilc ?_ | (apply Exists.intro; (repeat apply Exists.intro); refine And.intro rfl ?_) | (refine And.intro ?_ ?_; first | exact trivial | exact rfl | exact t_ld h | (refine lds_s (t_ld h) ?_; (repeat (refine lds_s (t_ld h) ?_)); exact lds_nil) | omega) | refine u_bspT ?_ | refine u_bspF ?_)
    refine w_g h hgb fun q2 hq2 => ?_
    repeat (first | (refine s_nwc h ?_; clear h; intro kb M h) | (refine s_stc h ?_; clear h; intro M h) | refine t_exI h ?_ | refine t_exB h ?_ | refine t_exS h ?_ | refine t_exP h ?_ | refine t_exSl h ?_ | refine t_exV h ?_ | refine u_exI ?_ | refine u_exB ?_ | refine u_exS ?_ | refine u_exP ?_ | refine u_exSl ?_ | refine u_exV ?_ | refine u_nilc ?_ | (apply Exists.intro; (repeat apply Exists.intro); refine And.intro rfl ?_) | (refine And.intro ?_ ?_; first | exact trivial | exact rfl | exact t_ld h | (refine lds_s (t_ld h) ?_; (repeat (refine lds_s (t_ld h) ?_)); exact lds_nil) | omega) | refine u_bspT ?_ | refine u_bspF ?_)
    have hlen : (gorAt x g).fs.length - 1 = (((gorAt x g).fs.take ((gorAt x g).fs.length - 1)).set ((gorAt x g).fs.length - 2) (fr.set (gorAt x g).top.into (topReg x g i.a))).length := by simp
    have hfr2 : (gorAt x g).fs.getD ((gorAt x g).fs.length - 2) ⟨0, 0, [], 0⟩ = fr := by rw [List.getD_eq_getElem?_getD, hfr]; rfl
    have h5 := gor_close (A := some ⟨b', 0, none⟩) (fs := ((gorAt x g).fs.take ((gorAt x g).fs.length - 1)).set ((gorAt x g).fs.length - 2) (fr.set (gorAt x g).top.into (topReg x g i.a))) h gb hlen
    have hi := (List.getElem?_eq_some_iff.1 hgb).1
    have h6 := h5.objs_in gorR gb hgb (by rw [List.length_zip]; omega)
    rw [zip_set2] at h6
    have hl2 : wLens (gg.set g.toNat (some ⟨b', 0, none⟩, c')) a (x.putG g ((gorAt x g).back (topReg x g i.a))) := ⟨by simpa [Wd.putG] using l1, by simpa [Wd.putG] using l2, l3, l4⟩
    have e : (gorAt x g).back (topReg x g i.a) = ⟨(gorAt x g).st, ((gorAt x g).fs.take ((gorAt x g).fs.length - 1)).set ((gorAt x g).fs.length - 2) (fr.set (gorAt x g).top.into (topReg x g i.a)), (gorAt x g).wt⟩ := by
      unfold Gor.back; rw [hfr2]
    rw [e] at hl2 k
    have h7 := world_close (a := a) (p := p) (pa := pa) (dr := dr) (gg := gg.set g.toNat (some ⟨b', 0, none⟩, c')) (x := x.putG g ⟨(gorAt x g).st, ((gorAt x g).fs.take ((gorAt x g).fs.length - 1)).set ((gorAt x g).fs.length - 2) (fr.set (gorAt x g).top.into (topReg x g i.a)), (gorAt x g).wt⟩) hl2 h6 b
    exact k _ _ (h7.sub (by repeat (first | exact Sub.refl | refine Sub.cons (by first | exact Pick.here | exact (.there .here) | exact (.there (.there .here)) | exact (.there (.there (.there .here))) | exact (.there (.there (.there (.there .here)))) | exact (.there (.there (.there (.there (.there .here))))) | exact (.there (.there (.there (.there (.there (.there .here)))))) | exact (.there (.there (.there (.there (.there (.there (.there .here))))))) | exact (.there (.there (.there (.there (.there (.there (.there (.there .here)))))))) | exact (.there (.there (.there (.there (.there (.there (.there (.there (.there .here))))))))) | exact (.there (.there (.there (.there (.there (.there (.there (.there (.there (.there .here)))))))))) | exact (.there (.there (.there (.there (.there (.there (.there (.there (.there (.there (.there .here))))))))))) | exact (.there (.there (.there (.there (.there (.there (.there (.there (.there (.there (.there (.there .here)))))))))))) | exact (.there (.there (.there (.there (.there (.there (.there (.there (.there (.there (.there (.there (.there .here))))))))))))) | exact (.there (.there (.there (.there (.there (.there (.there (.there (.there (.there (.there (.there (.there (.there .here)))))))))))))) | exact (.there (.there (.there (.there (.there (.there (.there (.there (.there (.there (.there (.there (.there (.there (.there .here)))))))))))))))) ?_ | refine Sub.drop ?_)))
end
end Go.Proofs

namespace Go.Proofs
open Go.AF
set_option linter.unusedVariables false
set_option maxRecDepth 100000
set_option maxHeartbeats 1000000
attribute [local irreducible] exI exB exS exP exSl exV nilc stc nwc semK semU bsp
def Out.fin : Out Wd → Wd
  | .on y => y
  | .trap n y => { y with end_ := 2, code := n }
  | .dry _ y => y
def restOf (op : Int) : Out Wd → Bool
  | .on _ => op == 12 || op == 17
  | .trap _ _ => false
  | .dry _ _ => false
/-- The next instruction of a goroutine, and what it comes to. -/
inductive Step (R : Mem) (pa : PA) (p : Prg) (dr : Value) (x : Wd) (g : Int) (code : List Ins) : Out Wd → Bool → List HP → List HP → Prop where
  | out {L : List HP} (h : (code.length : Int) ≤ (gorAt x g).top.pc) : Step R pa p dr x g code (.trap (-7) x) false L L
  | pure {L : List HP} (i : Ins) (h : code[(gorAt x g).top.pc.toNat]? = some i) (h0 : 0 ≤ i.op) (h8 : i.op ≤ 8) (hk : i.okPure) : Step R pa p dr x g code (.on (x.putG g ((gorAt x g).putTop ((gorAt x g).top.next.pure i)))) false L L
  | sel {L L2 : List HP} {r : Out Wd} (i : Ins) (h : code[(gorAt x g).top.pc.toNat]? = some i) (h16 : i.op = 16) (hs : OpSpec R pa p dr 33 x g i r L L2) : Step R pa p dr x g code r false L L2
  | rnd {L L2 : List HP} {r : Out Wd} (i : Ins) (h : code[(gorAt x g).top.pc.toNat]? = some i) (h21 : i.op = 21) (hs : OpSpec R pa p dr 34 x g i r L L2) : Step R pa p dr x g code r false L L2
  | dflt {L L2 : List HP} {r : Out Wd} (i : Ins) (fn : Nat) (h : code[(gorAt x g).top.pc.toNat]? = some i) (h8 : 8 < i.op) (h16 : i.op ≠ 16) (h21 : i.op ≠ 21) (hf : aget wTab i.op = some (.func (.func fn) #[] #[])) (hn : 1 < fn ∧ fn < 91)
      (hs : OpSpec R pa p dr fn (x.next g) g i r L L2) : Step R pa p dr x g code r (restOf i.op r) L L2
section
variable {R : Mem} {L L' L2 : List HP} {M : Mem} {K : Value → Mem → Prop} {Kp : List PanicEntry → Mem → Prop} {pa : PA} {p : Prg} {gg : List GA} {dr : Value} {b : Nat} {x : Wd} {g : Int} {i : Ins}
theorem f_ldFn {c bs j : Nat} {l : List Frm} {f : Frm} {G : Int → Prop} (h : Hp R L M) [q : RowAt (some ⟨bs, 0, none⟩) L Frm frmE 53 c l L'] (hi : l[j]? = some f) (g : G f.fn) : exI (M.ld ⟨bs, j * 11, none⟩) .i64 G := by
  refine v_exI (Src.at (h.src (A := some ⟨bs, 0, none⟩)) h (i := j) (j := 0) hi rfl ?_) g
  show _ = 0 + (j * 11 + 0); omega
theorem w_trap {n : Int} {v : Value} {Q : HP} (h : Hp R (objP (worldR pa p gg dr) b x :: Q :: L) M) (k : ∀ M', Hp R (objP (worldR pa p gg dr) b { x with end_ := 2, code := n } :: L) M' → K v M') :
    leaveK Try.prog 31 (.pointer (some ⟨b, 0, none⟩)) K Kp v (.panicking (trapV n)) M := by
  refine leave_trap ?_
  have h' := world_open h (b := b)
  clear h
  obtain ⟨a, hl, h⟩ := h'
  repeat (first | (refine s_nwc h ?_; clear h; intro kb M h) | (refine s_stc h ?_; clear h; intro M h) | refine t_exI h ?_ | refine t_exB h ?_ | refine t_exS h ?_ | refine t_exP h ?_ | refine t_exSl h ?_ | refine t_exV h ?_ | refine u_exI ?_ | refine u_exB ?_ | refine u_exS ?_ | refine u_exP ?_ | refine u_exSl ?_ | refine u_exV ?_ | refine u_nilc ?_ | (apply Exists.intro; (repeat apply Exists.intro); refine And.intro rfl ?_) | (refine And.intro ?_ ?_; first | exact trivial | exact rfl | exact t_ld h | (refine lds_s (t_ld h) ?_; (repeat (refine lds_s (t_ld h) ?_)); exact lds_nil) | omega) | refine u_bspT ?_ | refine u_bspF ?_)
  exact k _ (world_mk (a := a) (x := { x with end_ := 2, code := n }) hl (h.sub (by repeat (first | exact Sub.refl | refine Sub.cons (by first | exact Pick.here | exact (.there .here) | exact (.there (.there .here)) | exact (.there (.there (.there .here))) | exact (.there (.there (.there (.there .here)))) | exact (.there (.there (.there (.there (.there .here))))) | exact (.there (.there (.there (.there (.there (.there .here)))))) | exact (.there (.there (.there (.there (.there (.there (.there .here))))))) | exact (.there (.there (.there (.there (.there (.there (.there (.there .here)))))))) | exact (.there (.there (.there (.there (.there (.there (.there (.there (.there .here))))))))) | exact (.there (.there (.there (.there (.there (.there (.there (.there (.there (.there .here)))))))))) | exact (.there (.there (.there (.there (.there (.there (.there (.there (.there (.there (.there .here))))))))))) | exact (.there (.there (.there (.there (.there (.there (.there (.there (.there (.there (.there (.there .here)))))))))))) | exact (.there (.there (.there (.there (.there (.there (.there (.there (.there (.there (.there (.there (.there .here))))))))))))) | exact (.there (.there (.there (.there (.there (.there (.there (.there (.there (.there (.there (.there (.there (.there .here)))))))))))))) | exact (.there (.there (.there (.there (.there (.there (.there (.there (.there (.there (.there (.there (.there (.there (.there .here)))))))))))))))) ?_ | refine Sub.drop ?_))))
theorem do_rest {k : Nat} {bw : Nat} (h : Hp R L M) [o : PtAt k L [.int .i64 i.op, .int .i64 i.a, .int .i64 i.b, .int .i64 i.c] 31 L'] (g : K (.bool (i.op == 12 || i.op == 17)) M) :
    exI (M.ld ⟨k, 0, none⟩) .i64 fun n => bsp (n == 12) (leaveK Try.prog 31 (.pointer (some ⟨bw, 0, none⟩)) K Kp (.bool true) .returning M)
      (exI (M.ld ⟨k, 0, none⟩) .i64 fun n => leaveK Try.prog 31 (.pointer (some ⟨bw, 0, none⟩)) K Kp (.bool (n == 17)) .returning M) := by
  have hp := h.pick o.pick
  refine t_exI hp ?_
  refine bsp_eq.2 ⟨fun e => ?_, fun e => ?_⟩
  · rw [e] at g; exact leave_ok g
  · refine t_exI hp ?_
    have : (i.op == 12) = false := by simpa using e
    rw [this, Bool.false_or] at g
    exact leave_ok g
/-- How the next instruction ends. -/
def DoEnd (R : Mem) (pa : PA) (p : Prg) (dr : Value) (b : Nat) (L2 : List HP) (K : Value → Mem → Prop) (Kp : List PanicEntry → Mem → Prop) (r : Out Wd) (rest : Bool) : Prop := match r with
  | .dry l y => ∀ gg' M', Hp R (objP (worldR pa p gg' dr) b y :: L2) M' → leaveK Try.prog 31 (.pointer (some ⟨b, 0, none⟩)) K Kp (.bool false) (.panicking l) M'
  | .on y => ∀ gg' M', Hp R (objP (worldR pa p gg' dr) b y :: L2) M' → K (.bool rest) M'
  | .trap n y => ∀ gg' M', Hp R (objP (worldR pa p gg' dr) b { y with end_ := 2, code := n } :: L2) M' → K (.bool rest) M'
theorem world_do {code : List Ins} {r : Out Wd} {rest : Bool} (h : Hp R L M) [o : WAt b L pa p gg dr x L'] (hp : PrgR R pa p) (hg : gorOk x g) (hfn : 0 ≤ (gorAt x g).top.fn) (hcode : p.funcs[(gorAt x g).top.fn.toNat]? = some code)
    (hpc : 0 ≤ (gorAt x g).top.pc ∧ (gorAt x g).top.pc < 1000000000) (hs : Step R pa p dr x g code r rest L' L2)
    (k : DoEnd R pa p dr b L2 K Kp r rest) : ACalls Try.prog 25 #[.pointer (some ⟨b, 0, none⟩), .int .i64 g] M K Kp := by
  refine vc_world_World_do ?_
  have hg' := hg
  obtain ⟨h0, h1, h2, h3⟩ := hg'
  have h' := world_at h (b := b) h0 h1
  clear h
  obtain ⟨a, gb, A, c, hl, hgb, hgg, h⟩ := h'
  have hl' := hl
  obtain ⟨l1, l2, l3, l4⟩ := hl'
  obtain ⟨bs, rfl⟩ := h.row_some (A := A) h2 (by decide)
  have hcl : ∀ {M : Mem}, Hp R (pt gb (gorCells (gorAt x g) (some ⟨bs, 0, none⟩) c) 68 :: rowF (some ⟨bs, 0, none⟩) c (gorAt x g).fs :: pt b (wCells pa p dr a x) 76 :: objsX gorR a.gb (x.gs.zip gg) g.toNat :: wRest a x L') M → Hp R (objP (worldR pa p gg dr) b x :: L') M := by
    intro M h
    replace h := world_in h gb hl hgb hgg
    have hl2 := lens_put (y := gorAt x g) (g := g) hl
    replace h := world_close (a := a) (p := p) (pa := pa) (dr := dr) (gg := gg) (x := x.putG g (gorAt x g)) hl2 h b
    rwa [sx h0 h1] at h
  repeat (first | (refine s_nwc h ?_; clear h; intro kb M h) | (refine s_stc h ?_; clear h; intro M h) | refine t_exI h ?_ | refine t_exB h ?_ | refine t_exS h ?_ | refine t_exP h ?_ | refine t_exSl h ?_ | refine t_exV h ?_ | refine u_exI ?_ | refine u_exB ?_ | refine u_exS ?_ | refine u_exP ?_ | refine u_exSl ?_ | refine u_exV ?_ | refine u_nilc ?_ | (apply Exists.intro; (repeat apply Exists.intro); refine And.intro rfl ?_) | (refine And.intro ?_ ?_; first | exact trivial | exact rfl | exact t_ld h | (refine lds_s (t_ld h) ?_; (repeat (refine lds_s (t_ld h) ?_)); exact lds_nil) | omega) | refine u_bspT ?_ | refine u_bspF ?_)
  refine w_g h hgb fun q hq => ?_
  repeat (first | (refine s_nwc h ?_; clear h; intro kb M h) | (refine s_stc h ?_; clear h; intro M h) | refine t_exI h ?_ | refine t_exB h ?_ | refine t_exS h ?_ | refine t_exP h ?_ | refine t_exSl h ?_ | refine t_exV h ?_ | refine u_exI ?_ | refine u_exB ?_ | refine u_exS ?_ | refine u_exP ?_ | refine u_exSl ?_ | refine u_exV ?_ | refine u_nilc ?_ | (apply Exists.intro; (repeat apply Exists.intro); refine And.intro rfl ?_) | (refine And.intro ?_ ?_; first | exact trivial | exact rfl | exact t_ld h | (refine lds_s (t_ld h) ?_; (repeat (refine lds_s (t_ld h) ?_)); exact lds_nil) | omega) | refine u_bspT ?_ | refine u_bspF ?_)
  refine frame_Top h2 (by omega) ?_
  repeat (first | (refine s_nwc h ?_; clear h; intro kb M h) | (refine s_stc h ?_; clear h; intro M h) | refine t_exI h ?_ | refine t_exB h ?_ | refine t_exS h ?_ | refine t_exP h ?_ | refine t_exSl h ?_ | refine t_exV h ?_ | refine u_exI ?_ | refine u_exB ?_ | refine u_exS ?_ | refine u_exP ?_ | refine u_exSl ?_ | refine u_exV ?_ | refine u_nilc ?_ | (apply Exists.intro; (repeat apply Exists.intro); refine And.intro rfl ?_) | (refine And.intro ?_ ?_; first | exact trivial | exact rfl | exact t_ld h | (refine lds_s (t_ld h) ?_; (repeat (refine lds_s (t_ld h) ?_)); exact lds_nil) | omega) | refine u_bspT ?_ | refine u_bspF ?_)
  refine f_ldFn h (gor_top h2) ?_
  obtain ⟨ts, hts, htl, hrow⟩ := hp.funcs
  have hfl := (List.getElem?_eq_some_iff.1 hcode).1
  obtain ⟨t, ht⟩ := idx_ex (l := ts) (i := (gorAt x g).top.fn.toNat) (by omega)
  obtain ⟨hr1, hr2⟩ := hrow _ t code ht hcode
  obtain ⟨tA, tn, tc⟩ := t
  dsimp only at hr1 hr2
  subst hr2
  refine ⟨hfn, by omega, ?_⟩
  obtain ⟨fb, fo, hfb⟩ := hts.some (by omega) (by decide)
  rw [hfb] at hts ⊢
  refine u_nilc ?_
  refine v_exSl (Src.at (hts.src (L := _)) h (i := (gorAt x g).top.fn.toNat) (j := 0) ht rfl (by simp [slE])) ?_
  dsimp only
  refine u_nilc ?_
  refine f_ldPc h (gor_top h2) rfl ?_
  refine bsp_dec.2 ⟨fun hge => ?_, fun hlt => ?_⟩
  · cases hs with
    | out _ =>
      have h5 : Hp R (objP (worldR pa p gg dr) b x :: fact True :: L') M := (Hp.fact_iff.2 ⟨trivial, hcl h⟩).swap
      exact w_trap h5 fun M' h' => k gg M' h'
    | pure i hi => have := (List.getElem?_eq_some_iff.1 hi).1; omega
    | sel i hi => have := (List.getElem?_eq_some_iff.1 hi).1; omega
    | rnd i hi => have := (List.getElem?_eq_some_iff.1 hi).1; omega
    | dflt i fn hi => have := (List.getElem?_eq_some_iff.1 hi).1; omega
  refine u_nilc ?_
  refine f_ldPc h (gor_top h2) rfl ?_
  refine ⟨hpc.1, by omega, ?_⟩
  obtain ⟨i, hi⟩ := idx_ex (l := code) (i := (gorAt x g).top.pc.toNat) (by omega)
  obtain ⟨ib, io, rfl⟩ := hr1.some (by omega) (by decide)
  refine u_nilc ?_
  refine v_exI (Src.at (hr1.src (L := _)) h (i := (gorAt x g).top.pc.toNat) (j := 0) hi rfl (by simp [insE])) ?_
  refine v_exI (Src.at (hr1.src (L := _)) h (i := (gorAt x g).top.pc.toNat) (j := 1) hi rfl (by show _ = io + (_ * 4 + 1); omega)) ?_
  refine v_exI (Src.at (hr1.src (L := _)) h (i := (gorAt x g).top.pc.toNat) (j := 2) hi rfl (by show _ = io + (_ * 4 + 2); omega)) ?_
  refine v_exI (Src.at (hr1.src (L := _)) h (i := (gorAt x g).top.pc.toNat) (j := 3) hi rfl (by show _ = io + (_ * 4 + 3); omega)) ?_
  have hpure : i.okPure ∧ 0 ≤ i.op ∨ 8 < i.op := by
    cases hs with
    | out h => omega
    | pure j hj a1 a2 a3 => rw [hi] at hj; cases hj; exact .inl ⟨a3, a1⟩
    | sel j hj a1 => rw [hi] at hj; cases hj; exact .inr (by omega)
    | rnd j hj a1 => rw [hi] at hj; cases hj; exact .inr (by omega)
    | dflt j fn hj a1 => rw [hi] at hj; cases hj; exact .inr a1
  have hok : i.okPure ∧ 0 ≤ i.op := by
    rcases hpure with h | h
    · exact h
    · exact ⟨⟨fun h => by simp at h; omega, fun h => by omega, fun h => by simp at h; omega⟩, by omega⟩
  refine s_nwc h ?_
  clear h; intro ki M h
  refine s_stc h ?_
  clear h; intro M h
  refine s_stc h ?_
  clear h; intro M h
  refine s_stc h ?_
  clear h; intro M h
  refine s_stc h ?_
  clear h; intro M h
  refine t_exI h (t_exI h (t_exI h (t_exI h ?_)))
  refine frame_Pure h (gor_top h2) hok.1 hok.2 hpc ?_ ?_
  · intro h8 M' h'
    clear h
    have h := h'
    clear h'
    refine u_exB (u_bspT ?_)
    cases hs with
    | out h => omega
    | sel j hj a1 => rw [hi] at hj; cases hj; omega
    | rnd j hj a1 => rw [hi] at hj; cases hj; omega
    | dflt j fn hj a1 => rw [hi] at hj; cases hj; omega
    | pure j hj a1 a2 a3 =>
      rw [hi] at hj; cases hj
      replace h := world_in h gb hl hgb hgg (by simp)
      have hl2 := lens_put (y := (gorAt x g).putTop ((gorAt x g).top.next.pure i)) (g := g) hl
      have h5 := world_close (a := a) (p := p) (pa := pa) (dr := dr) (gg := gg) (x := x.putG g ((gorAt x g).putTop ((gorAt x g).top.next.pure i))) hl2 h b
      refine do_rest h5 ?_
      have e1 : (i.op == 12) = false := by simp; omega
      have e2 : (i.op == 17) = false := by simp; omega
      rw [e1, e2]
      exact k gg _ h5.fin1
  · intro h8 M' h'
    clear h
    have h := h'
    clear h'
    refine u_exB (u_bspF ?_)
    refine t_exI h ?_
    refine bsp_eq.2 ⟨fun e16 => ?_, fun e16 => ?_⟩
    · refine t_exI h (t_exI h (t_exI h (t_exI h ?_)))
      cases hs with
      | out h => omega
      | pure j hj a1 a2 a3 => rw [hi] at hj; cases hj; omega
      | dflt j fn hj a1 a2 => rw [hi] at hj; cases hj; omega
      | rnd j hj a1 => rw [hi] at hj; cases hj; omega
      | sel j hj a1 hop =>
        rw [hi] at hj; cases hj
        replace h := world_in h gb hl hgb hgg
        have hl2 := lens_put (y := gorAt x g) (g := g) hl
        replace h := world_close (a := a) (p := p) (pa := pa) (dr := dr) (gg := gg) (x := x.putG g (gorAt x g)) hl2 h b
        rw [sx h0 h1] at h
        refine hop gg b bs c M' _ _ _ h hgg ?_
        cases r with
        | on y =>
          intro gg' M2 h
          refine ⟨rfl, do_rest h ?_⟩
          have e1 : (i.op == 12) = false := by simp; omega
          have e2 : (i.op == 17) = false := by simp; omega
          rw [e1, e2]
          exact k gg' _ h.fin1
        | trap n y =>
          intro gg' M2 h
          exact w_trap h fun M3 h3 => k gg' M3 h3
        | dry l y =>
          intro gg' M2 h
          exact k gg' M2 h.fin1
    · refine t_exI h ?_
      refine bsp_eq.2 ⟨fun e21 => ?_, fun e21 => ?_⟩
      · refine t_exI h (t_exI h (t_exI h (t_exI h ?_)))
        cases hs with
        | out h => omega
        | pure j hj a1 a2 a3 => rw [hi] at hj; cases hj; omega
        | sel j hj a1 => rw [hi] at hj; cases hj; omega
        | dflt j fn hj a1 a2 a3 => rw [hi] at hj; cases hj; omega
        | rnd j hj a1 hop =>
          rw [hi] at hj; cases hj
          replace h := world_in h gb hl hgb hgg
          have hl2 := lens_put (y := gorAt x g) (g := g) hl
          replace h := world_close (a := a) (p := p) (pa := pa) (dr := dr) (gg := gg) (x := x.putG g (gorAt x g)) hl2 h b
          rw [sx h0 h1] at h
          refine hop gg b bs c M' _ _ _ h hgg ?_
          cases r with
          | on y =>
            intro gg' M2 h
            refine ⟨rfl, do_rest h ?_⟩
            have e1 : (i.op == 12) = false := by simp; omega
            have e2 : (i.op == 17) = false := by simp; omega
            rw [e1, e2]
            exact k gg' _ h.fin1
          | trap n y =>
            intro gg' M2 h
            exact w_trap h fun M3 h3 => k gg' M3 h3
          | dry l y =>
            intro gg' M2 h
            exact k gg' M2 h.fin1
      cases hs with
      | out h => omega
      | pure j hj a1 a2 a3 => rw [hi] at hj; cases hj; omega
      | sel j hj a1 => rw [hi] at hj; cases hj; omega
      | rnd j hj a1 => rw [hi] at hj; cases hj; omega
      | dflt j fn hj a1 a2 a3 hf hn hop =>
        rw [hi] at hj; cases hj
        refine u_nilc ?_
        refine f_ldPc h (gor_top h2) rfl ?_
        refine u_nilc ?_
        rw [wrap_succ' hpc.1 (by omega)]
        refine f_stPc h (gor_top h2) rfl ?_
        clear h; intro M h
        refine t_exI h (t_exI h (t_exI h (t_exI h (t_exI h ?_))))
        refine world_table h ?_
        clear h; intro mp M h
        refine ⟨lds_s (t_ld h) (lds_s (t_ld h) (lds_s (t_ld h) (lds_s (t_ld h) lds_nil))), t_ld h, ?_⟩
        have hu : Try.prog.underlying 97 = some (.map 29 96) := by kernel_rfl
        have hkk : Try.prog.underlying 29 = some (.int .i64) := by kernel_rfl
        obtain ⟨ti, hti, htz⟩ : ∃ ti, Try.prog.info? 96 = some ti ∧ ti.zero = some .nilFunc := ⟨_, rfl, rfl⟩
        refine s_lookup h hu hkk hti htz ?_
        rw [hf]
        refine ⟨lds_s (t_ld h) (lds_s (t_ld h) (lds_s (t_ld h) (lds_s (t_ld h) lds_nil))), t_ld h, ?_⟩
        refine callK_fn hn ?_
        replace h := world_in h gb hl hgb hgg (by simp)
        have hl2 := lens_put (y := (gorAt x g).putTop (gorAt x g).top.next) (g := g) hl
        have h5 := world_close (a := a) (p := p) (pa := pa) (dr := dr) (gg := gg) (x := x.next g) hl2 h b
        have h6 : Hp R (objP (worldR pa p gg dr) b (x.next g) :: pt ki [.int .i64 i.op, .int .i64 i.a, .int .i64 i.b, .int .i64 i.c] 31 :: L') M := h5.sub (by repeat (first | exact Sub.refl | refine Sub.cons (by first | exact Pick.here | exact (.there .here) | exact (.there (.there .here)) | exact (.there (.there (.there .here))) | exact (.there (.there (.there (.there .here)))) | exact (.there (.there (.there (.there (.there .here))))) | exact (.there (.there (.there (.there (.there (.there .here)))))) | exact (.there (.there (.there (.there (.there (.there (.there .here))))))) | exact (.there (.there (.there (.there (.there (.there (.there (.there .here)))))))) | exact (.there (.there (.there (.there (.there (.there (.there (.there (.there .here))))))))) | exact (.there (.there (.there (.there (.there (.there (.there (.there (.there (.there .here)))))))))) | exact (.there (.there (.there (.there (.there (.there (.there (.there (.there (.there (.there .here))))))))))) | exact (.there (.there (.there (.there (.there (.there (.there (.there (.there (.there (.there (.there .here)))))))))))) | exact (.there (.there (.there (.there (.there (.there (.there (.there (.there (.there (.there (.there (.there .here))))))))))))) | exact (.there (.there (.there (.there (.there (.there (.there (.there (.there (.there (.there (.there (.there (.there .here)))))))))))))) | exact (.there (.there (.there (.there (.there (.there (.there (.there (.there (.there (.there (.there (.there (.there (.there .here)))))))))))))))) ?_ | refine Sub.drop ?_))
        clear h h5
        have hfl : (gorAt (x.next g) g).fs.length = (gorAt x g).fs.length := by
          unfold Wd.next; rw [gorAt_put h0 h1]; simp [Gor.putTop]
        have hc := hop gg b bs c M (fun v90 M91 => (v90 = (.tuple #[])) ∧ ((Mem.lds M91 ⟨ki, 0, none⟩ 0 4) = some [(.int .i64 i.op), (.int .i64 i.a), (.int .i64 i.b), (.int .i64 i.c)]) ∧ ((Mem.ld M91 ⟨ki, 0, none⟩) = (some (.int .i64 i.op))) ∧
          exI (M91.ld ⟨ki, 0, none⟩) .i64 fun n => bsp (n == 12) (leaveK Try.prog 31 (.pointer (some ⟨b, 0, none⟩)) K Kp (.bool true) .returning M91)
            (exI (M91.ld ⟨ki, 0, none⟩) .i64 fun n => leaveK Try.prog 31 (.pointer (some ⟨b, 0, none⟩)) K Kp (.bool (n == 17)) .returning M91))
          (fun l M => leaveK Try.prog 31 (.pointer (some ⟨b, 0, none⟩)) K Kp (.bool false) (.panicking l) M) _ h6 hgg ?_
        · rw [hfl] at hc
          exact hc
        cases r with
        | on y =>
          intro gg' M2 h
          exact ⟨rfl, lds_s (t_ld h) (lds_s (t_ld h) (lds_s (t_ld h) (lds_s (t_ld h) lds_nil))), t_ld h, do_rest h (k gg' _ h.fin1)⟩
        | trap n y =>
          intro gg' M2 h
          exact w_trap h fun M3 h3 => k gg' M3 h3
        | dry l y =>
          intro gg' M2 h
          exact k gg' M2 h.fin1
end
end Go.Proofs

namespace Go.Proofs
open Go.AF
set_option linter.unusedVariables false
set_option maxRecDepth 100000
set_option maxHeartbeats 1000000
attribute [local irreducible] exI exB exS exP exSl exV nilc stc nwc semK semU bsp
abbrev wCellsI (pa : PA) (p : Prg) (dr : Value) (a : WA) (x : Wd) (n : Nat) : List Value :=
  [.slice pa.f p.funcs.length pa.fc, .slice pa.c p.chs.length pa.cc, .int .i64 p.locks, .slice pa.k p.cases.length pa.kc, .slice a.ag a.gb.length a.cg, .int .u64 x.clock,
   .slice a.ac a.cb.length a.cc, .slice a.al a.lb.length a.cl, .slice a.ah x.hl.length a.ch, .int .u64 x.hseq, .slice a.ao x.out.length a.co, .int .i64 x.end_, .int .i64 x.code, .slice a.ar n a.cr, dr]
abbrev wRestI (a : WA) (x : Wd) (L : List HP) : List HP :=
  rowPG a.ag a.cg a.gb :: rowPC a.ac a.cc a.cb :: objsP chanR a.cb x.chans :: rowPL a.al a.cl a.lb :: objsP lockR a.lb x.locks :: rowH a.ah a.ch x.hl :: rowB a.ao a.co x.out :: L
/-- A world stands at b, while nothing goes on in it. -/
def idleR (pa : PA) (p : Prg) : Rep Wd := ⟨fun b x => exs fun q : WA × List GA × Value × Nat =>
  sep (pt b (wCellsI pa p q.2.2.1 q.1 x q.2.2.2) 76 :: objsP gorR q.1.gb (x.gs.zip q.2.1) :: fact (wLens q.2.1 q.1 x) :: wRestI q.1 x [])⟩
section
variable {R : Mem} {L L' L2 : List HP} {M : Mem} {K : Value → Mem → Prop} {Kp : List PanicEntry → Mem → Prop} {pa : PA} {p : Prg} {gg : List GA} {dr : Value} {b : Nat} {x : Wd} {g : Int}
class IAt (b : Nat) (L : List HP) (pa : outParam PA) (p : outParam Prg) (x : outParam Wd) (L' : outParam (List HP)) : Prop where
  pick : Pick L (objP (idleR pa p) b x) L'
instance IAt.here : IAt b (objP (idleR pa p) b x :: L) pa p x L := ⟨.here⟩
instance (priority := low) IAt.there {Q : HP} [h : IAt b L pa p x L'] : IAt b (Q :: L) pa p x (Q :: L') := ⟨.there h.pick⟩
theorem idle_open (h : Hp R L M) [o : IAt b L pa p x L'] : ∃ (a : WA) (gg : List GA) (dr : Value) (n : Nat), wLens gg a x ∧ Hp R (pt b (wCellsI pa p dr a x n) 76 :: objsP gorR a.gb (x.gs.zip gg) :: wRestI a x L') M := by
  have := h.pick o.pick
  unfold objP at this
  simp only [idleR, wRestI, Hp.ex_iff, Hp.sep_iff, List.cons_append, List.nil_append] at this
  obtain ⟨⟨a, gg, dr, n⟩, h⟩ := this
  have h2 := h.pick (P := fact (wLens gg a x)) (.there (.there .here))
  exact ⟨a, gg, dr, n, (Hp.fact_iff.1 h2).1, (Hp.fact_iff.1 h2).2⟩
theorem idle_mk {a : WA} {n : Nat} (hl : wLens gg a x) (h : Hp R (pt b (wCellsI pa p dr a x n) 76 :: objsP gorR a.gb (x.gs.zip gg) :: wRestI a x L) M) : Hp R (objP (idleR pa p) b x :: L) M := by
  refine Hp.objI ?_
  simp only [idleR, wRestI, Hp.ex_iff, Hp.sep_iff, List.cons_append, List.nil_append]
  refine ⟨(a, gg, dr, n), ?_⟩
  have h2 : Hp R (fact (wLens gg a x) :: pt b (wCellsI pa p dr a x n) 76 :: objsP gorR a.gb (x.gs.zip gg) :: wRestI a x L) M := Hp.fact_iff.2 ⟨hl, h⟩
  exact h2.unpick (.there (.there .here))
/-- Who could go on: is kept. -/
def keepOf (x : Wd) (g : Int) (rest : Bool) : Bool := !rest && x.end_ == 0 && (gorAt x g).st == 1
/-- What the panic of a draw becomes behind the deferred call. -/
def DryOk (l l' : List PanicEntry) : Prop := ∀ (b : Nat) (v : Value) (M : Mem) (K : Value → Mem → Prop) (Kp : List PanicEntry → Mem → Prop), Kp l' M → leaveK Try.prog 31 (.pointer (some ⟨b, 0, none⟩)) K Kp v (.panicking l) M
/-- How an instruction's call ends. -/
def ExecEnd (R : Mem) (pa : PA) (p : Prg) (b : Nat) (g : Int) (L2 : List HP) (K : Value → Mem → Prop) (Kp : List PanicEntry → Mem → Prop) (r : Out Wd) (rest : Bool) : Prop := match r with
  | .dry l y => ∃ l', DryOk l l' ∧ ∀ M', Hp R (objP (idleR pa p) b y :: L2) M' → Kp l' M'
  | .on y => ∀ R' A c M', R.le R' → RS intE R' A c y.ready → Hp R' (objP (idleR pa p) b y :: L2) M' → K (.agg #[.bool (keepOf y g rest), .slice A y.ready.length c]) M'
  | .trap n y => ∀ R' A c M', R.le R' → RS intE R' A c y.ready → Hp R' (objP (idleR pa p) b { y with end_ := 2, code := n } :: L2) M' → K (.agg #[.bool (keepOf { y with end_ := 2, code := n } g rest), .slice A y.ready.length c]) M'
theorem DoEnd.of {r : Out Wd} {rest : Bool} (hd : ¬ ∃ l y, r = .dry l y) (k : ∀ gg' M', Hp R (objP (worldR pa p gg' dr) b r.fin :: L2) M' → K (.bool rest) M') : DoEnd R pa p dr b L2 K Kp r rest := by
  cases r with
  | on y => exact k
  | trap n y => exact k
  | dry l y => exact absurd ⟨l, y, rfl⟩ hd
theorem ExecEnd.get {r : Out Wd} {rest : Bool} (hd : ¬ ∃ l y, r = .dry l y) (k : ExecEnd R pa p b g L2 K Kp r rest) :
    ∀ R' A c M', R.le R' → RS intE R' A c r.fin.ready → Hp R' (objP (idleR pa p) b r.fin :: L2) M' → K (.agg #[.bool (keepOf r.fin g rest), .slice A r.fin.ready.length c]) M' := by
  cases r with
  | on y => exact k
  | trap n y => exact k
  | dry l y => exact absurd ⟨l, y, rfl⟩ hd
theorem world_Exec {code : List Ins} {r : Out Wd} {rest : Bool} (h : Hp R L M) [o : IAt b L pa p x L'] (hp : PrgR R pa p) (hg : gorOk x g) (he : x.end_ = 0) (hst : (gorAt x g).st = 1)
    (hfn : 0 ≤ (gorAt x g).top.fn) (hcode : p.funcs[(gorAt x g).top.fn.toNat]? = some code)
    (hpc : 0 ≤ (gorAt x g).top.pc ∧ (gorAt x g).top.pc < 1000000000) (hdr : ∃ f c d, dr = .func f c d) (hs : ∀ Q, Step R pa p dr { x with ready := [] } g code r rest (Q :: L') (Q :: L2)) (hlen : g < r.fin.gs.length)
    (k : ExecEnd R pa p b g L2 K Kp r rest) :
    ACalls Try.prog 9 #[.pointer (some ⟨b, 0, none⟩), .int .i64 g, dr] M K Kp := by
  refine vc_world_World_Exec ?_
  have hg' := hg
  obtain ⟨h0, h1, h2, h3⟩ := hg'
  refine s_nwc h ?_
  clear h
  intro kb M h
  have h' := idle_open h (b := b)
  clear h
  obtain ⟨a, gg, dr0, n0, hl, h⟩ := h'
  have hl' := hl
  obtain ⟨l1, l2, l3, l4⟩ := hl'
  refine bsp_dec.2 ⟨fun hn => by omega, fun _ => ?_⟩
  refine t_exSl h ?_
  refine bsp_dec.2 ⟨fun hn => by omega, fun _ => ?_⟩
  refine t_exI h ?_
  refine bsp_ne.2 ⟨fun hn => absurd he hn, fun _ => ?_⟩
  refine t_exSl h ?_
  refine ⟨h0, by omega, ?_⟩
  obtain ⟨gb, hgb⟩ := idx_ex (l := a.gb) (i := g.toNat) (by omega)
  refine w_g h hgb fun q hq => ?_
  obtain ⟨ga, hga⟩ := idx_ex (l := gg) (i := g.toNat) (by omega)
  obtain ⟨y, hy⟩ := idx_ex (l := x.gs) (i := g.toNat) (by omega)
  have ey : gorAt x g = y := by simp [gorAt, hy]
  rw [ey] at hst
  refine u_nilc ?_
  have hld : M.ld ⟨gb, 0, none⟩ = some (.int .i64 y.st) := by
    have h9 := gor_open (b := gb) (h.objs_out gorR hgb (zip_atL hy hga))
    exact t_ld h9
  rw [hld]
  refine u_exI ?_
  refine bsp_ne.2 ⟨fun hn => absurd hst hn, fun _ => ?_⟩
  refine s_stc h ?_
  clear h hld; intro M h
  have hpc2 : ∀ X : Prop, X → pcell dr X := by
    obtain ⟨f, c, d, rfl⟩ := hdr
    intro X hX; exact hX
  refine hpc2 _ ?_
  refine s_stc h ?_
  clear h; intro M h
  have h4 := h.row_nil intE 3
  have h5 : Hp R (objP (worldR pa p gg dr) b { x with ready := [] } :: pt kb [.bool false, .slice none 0 0] 39 :: L') M := world_mk (a := { a with ar := none, cr := 0 }) (x := { x with ready := [] }) hl (h4.sub (by repeat (first | exact Sub.refl | refine Sub.cons (by first | exact Pick.here | exact (.there .here) | exact (.there (.there .here)) | exact (.there (.there (.there .here))) | exact (.there (.there (.there (.there .here)))) | exact (.there (.there (.there (.there (.there .here))))) | exact (.there (.there (.there (.there (.there (.there .here)))))) | exact (.there (.there (.there (.there (.there (.there (.there .here))))))) | exact (.there (.there (.there (.there (.there (.there (.there (.there .here)))))))) | exact (.there (.there (.there (.there (.there (.there (.there (.there (.there .here))))))))) | exact (.there (.there (.there (.there (.there (.there (.there (.there (.there (.there .here)))))))))) | exact (.there (.there (.there (.there (.there (.there (.there (.there (.there (.there (.there .here))))))))))) | exact (.there (.there (.there (.there (.there (.there (.there (.there (.there (.there (.there (.there .here)))))))))))) | exact (.there (.there (.there (.there (.there (.there (.there (.there (.there (.there (.there (.there (.there .here))))))))))))) | exact (.there (.there (.there (.there (.there (.there (.there (.there (.there (.there (.there (.there (.there (.there .here)))))))))))))) | exact (.there (.there (.there (.there (.there (.there (.there (.there (.there (.there (.there (.there (.there (.there (.there .here)))))))))))))))) ?_ | refine Sub.drop ?_)))
  clear h h4
  by_cases hdry : ∃ l y, r = .dry l y
  · obtain ⟨l, y, rfl⟩ := hdry
    refine world_do (b := b) (x := { x with ready := [] }) h5 hp hg hfn hcode hpc (hs _) ?_
    clear h5
    intro gg' M h
    obtain ⟨l', hdr2, k⟩ := k
    refine hdr2 _ _ _ _ _ (k _ ?_)
    have h' := world_open h (b := b)
    clear h
    obtain ⟨a2, hl2, h⟩ := h'
    exact idle_mk (a := a2) (n := y.ready.length) (gg := gg') (dr := dr) hl2 (h.sub (by repeat (first | exact Sub.refl | refine Sub.cons (by first | exact Pick.here | exact (.there .here) | exact (.there (.there .here)) | exact (.there (.there (.there .here))) | exact (.there (.there (.there (.there .here)))) | exact (.there (.there (.there (.there (.there .here))))) | exact (.there (.there (.there (.there (.there (.there .here)))))) | exact (.there (.there (.there (.there (.there (.there (.there .here))))))) | exact (.there (.there (.there (.there (.there (.there (.there (.there .here)))))))) | exact (.there (.there (.there (.there (.there (.there (.there (.there (.there .here))))))))) | exact (.there (.there (.there (.there (.there (.there (.there (.there (.there (.there .here)))))))))) | exact (.there (.there (.there (.there (.there (.there (.there (.there (.there (.there (.there .here))))))))))) | exact (.there (.there (.there (.there (.there (.there (.there (.there (.there (.there (.there (.there .here)))))))))))) | exact (.there (.there (.there (.there (.there (.there (.there (.there (.there (.there (.there (.there (.there .here))))))))))))) | exact (.there (.there (.there (.there (.there (.there (.there (.there (.there (.there (.there (.there (.there (.there .here)))))))))))))) | exact (.there (.there (.there (.there (.there (.there (.there (.there (.there (.there (.there (.there (.there (.there (.there .here)))))))))))))))) ?_ | refine Sub.drop ?_)))
  refine world_do (b := b) (x := { x with ready := [] }) h5 hp hg hfn hcode hpc (hs _) (.of hdry ?_)
  clear h5
  intro gg' M h
  replace k := ExecEnd.get hdry k
  generalize r.fin = z at h k hlen
  have h' := world_open h (b := b)
  clear h
  obtain ⟨a2, hl2, h⟩ := h'
  have hl2' := hl2
  obtain ⟨m1, m2, m3, m4⟩ := hl2'
  have fin : ∀ t : Bool, t = keepOf z g rest → stc M ⟨kb, 0, none⟩ (.bool t) fun M58 =>
        stc M58 ⟨kb, (0 + 1), none⟩ (.slice a2.ar z.ready.length a2.cr) fun M59 =>
        exB (Mem.ld M59 ⟨kb, 0, none⟩) fun t60 =>
        exSl (Mem.ld M59 ⟨kb, (0 + 1), none⟩) fun A61 k62 k63 =>
        K (.agg #[(.bool t60), (.slice A61 k62 k63)]) M59 := by
    intro t ht
    refine s_stc h ?_
    clear h; intro M h
    refine s_stc h ?_
    clear h; intro M h
    refine t_exB h (t_exSl h ?_)
    obtain ⟨R', hle, hrs, h6⟩ := h.sealRow a2.ar
    subst ht
    exact k R' _ _ _ hle hrs (idle_mk (a := a2) (n := z.ready.length) (gg := gg') (dr := dr) hl2 (h6.sub (by repeat (first | exact Sub.refl | refine Sub.cons (by first | exact Pick.here | exact (.there .here) | exact (.there (.there .here)) | exact (.there (.there (.there .here))) | exact (.there (.there (.there (.there .here)))) | exact (.there (.there (.there (.there (.there .here))))) | exact (.there (.there (.there (.there (.there (.there .here)))))) | exact (.there (.there (.there (.there (.there (.there (.there .here))))))) | exact (.there (.there (.there (.there (.there (.there (.there (.there .here)))))))) | exact (.there (.there (.there (.there (.there (.there (.there (.there (.there .here))))))))) | exact (.there (.there (.there (.there (.there (.there (.there (.there (.there (.there .here)))))))))) | exact (.there (.there (.there (.there (.there (.there (.there (.there (.there (.there (.there .here))))))))))) | exact (.there (.there (.there (.there (.there (.there (.there (.there (.there (.there (.there (.there .here)))))))))))) | exact (.there (.there (.there (.there (.there (.there (.there (.there (.there (.there (.there (.there (.there .here))))))))))))) | exact (.there (.there (.there (.there (.there (.there (.there (.there (.there (.there (.there (.there (.there (.there .here)))))))))))))) | exact (.there (.there (.there (.there (.there (.there (.there (.there (.there (.there (.there (.there (.there (.there (.there .here)))))))))))))))) ?_ | refine Sub.drop ?_))))
  refine u_exB ?_
  cases rest with
  | true =>
    refine u_bspF ?_
    refine t_exSl h ?_
    exact fin false (by simp [keepOf])
  | false =>
    refine u_bspT ?_
    refine t_exI h ?_
    refine bsp_eq.2 ⟨fun e0 => ?_, fun e0 => ?_⟩
    · refine t_exSl h ?_
      refine ⟨h0, by omega, ?_⟩
      obtain ⟨gb2, hgb2⟩ := idx_ex (l := a2.gb) (i := g.toNat) (by omega)
      refine w_g h hgb2 fun q2 hq2 => ?_
      obtain ⟨ga2, hga2⟩ := idx_ex (l := gg') (i := g.toNat) (by omega)
      obtain ⟨y2, hy2⟩ := idx_ex (l := z.gs) (i := g.toNat) (by omega)
      have ey2 : gorAt z g = y2 := by simp [gorAt, hy2]
      refine u_nilc ?_
      have hld : M.ld ⟨gb2, 0, none⟩ = some (.int .i64 y2.st) := by
        have h9 := gor_open (b := gb2) (h.objs_out gorR hgb2 (zip_atL hy2 hga2))
        exact t_ld h9
      rw [hld]
      refine u_exI ?_
      refine t_exSl h ?_
      exact fin (y2.st == 1) (by simp [keepOf, e0, ey2])
    · refine t_exSl h ?_
      have : (z.end_ == 0) = false := by simpa using e0
      exact fin false (by simp [keepOf, this])
end
end Go.Proofs

namespace Go.Proofs
open Go.AF
set_option linter.unusedVariables false
set_option maxRecDepth 100000
set_option maxHeartbeats 1000000
attribute [local irreducible] exI exB exS exP exSl exV nilc stc nwc semK semU bsp
section
variable {R : Mem} {L L' L2 : List HP} {M : Mem} {K : Value → Mem → Prop} {Kp : List PanicEntry → Mem → Prop} {pa : PA} {p : Prg} {gg : List GA} {dr : Value} {b : Nat} {x : Wd} {g : Int}
theorem world_End (h : Hp R L M) [o : IAt b L pa p x L'] (k : K (.tuple #[.int .i64 x.end_, .int .i64 x.code]) M) : ACalls Try.prog 16 #[.pointer (some ⟨b, 0, none⟩)] M K Kp := by
  refine vc_world_World_End ?_
  have h' := idle_open h (b := b)
  clear h
  obtain ⟨a, gg, dr, n, hl, h⟩ := h'
  refine t_exI h (t_exI h ?_)
  exact k
theorem world_Status (h : Hp R L M) [o : IAt b L pa p x L'] (h0 : 0 ≤ g) (h1 : g < x.gs.length) (k : K (.int .i64 (gorAt x g).st) M) : ACalls Try.prog 13 #[.pointer (some ⟨b, 0, none⟩), .int .i64 g] M K Kp := by
  refine vc_world_World_Status ?_
  have h' := idle_open h (b := b)
  clear h
  obtain ⟨a, gg, dr, n, hl, h⟩ := h'
  have hl' := hl
  obtain ⟨l1, l2, l3, l4⟩ := hl'
  refine bsp_dec.2 ⟨fun hn => by omega, fun _ => ?_⟩
  refine t_exSl h ?_
  refine bsp_dec.2 ⟨fun hn => by omega, fun _ => ?_⟩
  refine t_exSl h ?_
  refine ⟨h0, by omega, ?_⟩
  obtain ⟨gb, hgb⟩ := idx_ex (l := a.gb) (i := g.toNat) (by omega)
  refine w_g h hgb fun q hq => ?_
  obtain ⟨ga, hga⟩ := idx_ex (l := gg) (i := g.toNat) (by omega)
  obtain ⟨y, hy⟩ := idx_ex (l := x.gs) (i := g.toNat) (by omega)
  have ey : gorAt x g = y := by simp [gorAt, hy]
  rw [ey] at k
  refine u_nilc ?_
  have hld : M.ld ⟨gb, 0, none⟩ = some (.int .i64 y.st) := by
    have h9 := gor_open (b := gb) (h.objs_out gorR hgb (zip_atL hy hga))
    exact t_ld h9
  rw [hld]
  exact u_exI k
theorem world_Stack (h : Hp R L M) [o : IAt b L pa p x L'] (hg : gorOk x g)
    (k : ∀ bs c M', Hp R (rowF (some ⟨bs, 0, none⟩) c (gorAt x g).fs :: L) M' → K (.slice (some ⟨bs, 0, none⟩) (gorAt x g).fs.length c) M') : ACalls Try.prog 10 #[.pointer (some ⟨b, 0, none⟩), .int .i64 g] M K Kp := by
  refine vc_world_World_Stack ?_
  obtain ⟨h0, h1, h2, h3⟩ := hg
  have hC := h
  have h' := idle_open h (b := b)
  clear h
  obtain ⟨a, gg, dr, n, hl, h⟩ := h'
  have hl' := hl
  obtain ⟨l1, l2, l3, l4⟩ := hl'
  refine bsp_dec.2 ⟨fun hn => by omega, fun _ => ?_⟩
  refine t_exSl h ?_
  refine bsp_dec.2 ⟨fun hn => by omega, fun _ => ?_⟩
  refine t_exSl h ?_
  refine ⟨h0, by omega, ?_⟩
  obtain ⟨gb, hgb⟩ := idx_ex (l := a.gb) (i := g.toNat) (by omega)
  refine w_g h hgb fun q hq => ?_
  obtain ⟨⟨A, c⟩, hga⟩ := idx_ex (l := gg) (i := g.toNat) (by omega)
  obtain ⟨y, hy⟩ := idx_ex (l := x.gs) (i := g.toNat) (by omega)
  have ey : gorAt x g = y := by simp [gorAt, hy]
  rw [ey] at k h2 h3
  refine u_nilc ?_
  have h9 := gor_open (b := gb) (h.objs_out gorR hgb (zip_atL hy hga))
  refine t_exSl h9 ?_
  have hsrc : Sl M A (frmE.cells y.fs) := (h9.src (A := A)) M h9
  clear h9 h
  -- the clone is read where it stands
  have hs2 : Src R (fact (Sl M A (frmE.cells y.fs)) :: L) A (frmE.cells y.fs) → True := fun _ => trivial
  refine vc_frame_Stack_Clone ?_
  have h10 := hC.row_nil frmE 53
  refine Hp.rowAppendM h10 (l := []) el_frm hsrc rfl (by simp; omega) ?_
  clear hC h10 hsrc
  intro A' c' M h
  refine u_exSl (u_exSl ?_)
  obtain ⟨bs, rfl⟩ := h.row_some (A := A') (by simpa using h2) (by decide)
  exact k _ _ _ h
theorem world_Out (h : Hp R L M) [o : IAt b L pa p x L'] (hs : x.out.length ≤ 1000000) (k : ∀ A c M', Hp R (rowB A c x.out :: L) M' → K (.slice A x.out.length c) M') : ACalls Try.prog 19 #[.pointer (some ⟨b, 0, none⟩)] M K Kp := by
  refine vc_world_World_Out ?_
  refine s_nwc h ?_
  clear h; intro kb M h
  have hC := h
  have h' := idle_open h (b := b)
  clear h
  obtain ⟨a, gg, dr, n, hl, h⟩ := h'
  refine t_exSl h ?_
  have hsrc : Sl M a.ao (intE.cells x.out) := (h.src (A := a.ao)) M h
  clear h
  have h10 : Hp R (rowP intE 2 (some ⟨kb, 0, none⟩) ([] : List Int).length [] :: L) M := hC.row_pt rfl
  refine Hp.rowAppendM h10 (l := []) el_i64 hsrc rfl (by simp; omega) ?_
  clear hC h10 hsrc
  intro A' c' M h
  exact u_exSl (k _ _ _ h)
end
end Go.Proofs

namespace Go.Proofs
open Go.AF
set_option linter.unusedVariables false
set_option maxRecDepth 100000
set_option maxHeartbeats 1000000
attribute [local irreducible] exI exB exS exP exSl exV nilc stc nwc semK semU bsp
def Wd.new (p : Prg) : Wd := ⟨[⟨1, [Frm.begin 0 0], .zero⟩], 0, p.chs.map Chan.new, List.replicate p.locks.toNat ⟨-1, []⟩, [], 0, [], 0, 0, []⟩
theorem el_pc : ElemOk Try.prog 71 77 1 8 [.pointer none] := ElemOk.mk' (zv := .pointer none) (by kernel_rfl) (by kernel_rfl) rfl (by omega)
theorem el_pl : ElemOk Try.prog 72 79 1 8 [.pointer none] := ElemOk.mk' (zv := .pointer none) (by kernel_rfl) (by kernel_rfl) rfl (by omega)
section
variable {R : Mem} {L L' L2 : List HP} {M : Mem} {K : Value → Mem → Prop} {Kp : List PanicEntry → Mem → Prop} {pa : PA} {p : Prg} {gg : List GA} {dr : Value} {b : Nat} {x : Wd} {g : Int}
theorem world_Chan {i : Int} (h : Hp R L M) [o : IAt b L pa p x L'] (hk : chOk x i) (hs : (chAt x.chans i).Small 1000000)
    (k : ∀ A ca B cb D cd M', Hp R (objP (idleR pa p) b x :: rowW D cd (chAt x.chans i).rcv :: rowW B cb (chAt x.chans i).snd :: rowB A ca (chAt x.chans i).buf :: L') M' →
      K (.agg #[.slice A (chAt x.chans i).buf.length ca, .slice B (chAt x.chans i).snd.length cb, .slice D (chAt x.chans i).rcv.length cd, .bool (chAt x.chans i).closed]) M') :
    ACalls Try.prog 12 #[.pointer (some ⟨b, 0, none⟩), .int .i64 i] M K Kp := by
  refine vc_world_World_Chan ?_
  obtain ⟨k0, k1⟩ := hk
  refine s_nwc h ?_
  clear h
  intro kb M h
  have h' := idle_open h (b := b)
  clear h
  obtain ⟨a, gg, dr, n, hl, h⟩ := h'
  have hl' := hl
  obtain ⟨l1, l2, l3, l4⟩ := hl'
  refine bsp_dec.2 ⟨fun hn => by omega, fun _ => ?_⟩
  refine t_exSl h ?_
  refine bsp_dec.2 ⟨fun hn => by omega, fun _ => ?_⟩
  refine t_exSl h ?_
  refine ⟨k0, by omega, ?_⟩
  obtain ⟨cb, hcb⟩ := idx_ex (l := a.cb) (i := i.toNat) (by omega)
  refine w_g h hcb fun q hq => ?_
  obtain ⟨y, hy⟩ := idx_ex (l := x.chans) (i := i.toNat) (by omega)
  have e : chAt x.chans i = y := by simp [chAt, hy]
  rw [e] at k hs
  replace h := h.objs_out chanR hcb hy
  refine chans_State h (hs.mono (by omega)) ?_
  clear h
  intro A ca B cb' D cd M h
  repeat (first | (refine s_nwc h ?_; clear h; intro kb M h) | (refine s_stc h ?_; clear h; intro M h) | refine t_exI h ?_ | refine t_exB h ?_ | refine t_exS h ?_ | refine t_exP h ?_ | refine t_exSl h ?_ | refine t_exV h ?_ | refine u_exI ?_ | refine u_exB ?_ | refine u_exS ?_ | refine u_exP ?_ | refine u_exSl ?_ | refine u_exV ?_ | refine u_nilc ?_ | (apply Exists.intro; (repeat apply Exists.intro); refine And.intro rfl ?_) | (refine And.intro ?_ ?_; first | exact trivial | exact rfl | exact t_ld h | (refine lds_s (t_ld h) ?_; (repeat (refine lds_s (t_ld h) ?_)); exact lds_nil) | omega) | refine u_bspT ?_ | refine u_bspF ?_)
  replace h := h.objs_same chanR cb hcb hy
  exact k _ _ _ _ _ _ _ (idle_mk (a := a) (gg := gg) (dr := dr) (n := n) hl (h.sub (by repeat (first | exact Sub.refl | refine Sub.cons (by first | exact Pick.here | exact (.there .here) | exact (.there (.there .here)) | exact (.there (.there (.there .here))) | exact (.there (.there (.there (.there .here)))) | exact (.there (.there (.there (.there (.there .here))))) | exact (.there (.there (.there (.there (.there (.there .here)))))) | exact (.there (.there (.there (.there (.there (.there (.there .here))))))) | exact (.there (.there (.there (.there (.there (.there (.there (.there .here)))))))) | exact (.there (.there (.there (.there (.there (.there (.there (.there (.there .here))))))))) | exact (.there (.there (.there (.there (.there (.there (.there (.there (.there (.there .here)))))))))) | exact (.there (.there (.there (.there (.there (.there (.there (.there (.there (.there (.there .here))))))))))) | exact (.there (.there (.there (.there (.there (.there (.there (.there (.there (.there (.there (.there .here)))))))))))) | exact (.there (.there (.there (.there (.there (.there (.there (.there (.there (.there (.there (.there (.there .here))))))))))))) | exact (.there (.there (.there (.there (.there (.there (.there (.there (.there (.there (.there (.there (.there (.there .here)))))))))))))) | exact (.there (.there (.there (.there (.there (.there (.there (.there (.there (.there (.there (.there (.there (.there (.there .here)))))))))))))))) ?_ | refine Sub.drop ?_))))
theorem new_ch {j : Nat} {q A' : Nat} {c' : Nat} {v : Int} {a : WA} {n k : Nat} {Ac : Option Addr} {Q : List HP} (hl : wLens gg a x)
    (h : Hp R (pt b (wCellsI pa p dr { a with ac := Ac, cc := c', cb := a.cb ++ [k] } x n) 76 :: rowPC Ac c' (a.cb ++ [k]) :: objP chanR k (Chan.new v) :: objsP chanR a.cb x.chans :: objsP gorR a.gb (x.gs.zip gg) :: rowPG a.ag a.cg a.gb :: rowPL a.al a.cl a.lb :: objsP lockR a.lb x.locks :: rowH a.ah a.ch x.hl :: rowB a.ao a.co x.out :: Q) M) :
    Hp R (objP (idleR pa p) b { x with chans := x.chans ++ [Chan.new v] } :: Q) M := by
  obtain ⟨l1, l2, l3, l4⟩ := hl
  have h2 := h.objs_snoc chanR k l3
  exact idle_mk (a := { a with ac := Ac, cc := c', cb := a.cb ++ [k] }) (gg := gg) (dr := dr) (n := n) (x := { x with chans := x.chans ++ [Chan.new v] }) ⟨l1, l2, by simp [l3], l4⟩ (h2.sub (by repeat (first | exact Sub.refl | refine Sub.cons (by first | exact Pick.here | exact (.there .here) | exact (.there (.there .here)) | exact (.there (.there (.there .here))) | exact (.there (.there (.there (.there .here)))) | exact (.there (.there (.there (.there (.there .here))))) | exact (.there (.there (.there (.there (.there (.there .here)))))) | exact (.there (.there (.there (.there (.there (.there (.there .here))))))) | exact (.there (.there (.there (.there (.there (.there (.there (.there .here)))))))) | exact (.there (.there (.there (.there (.there (.there (.there (.there (.there .here))))))))) | exact (.there (.there (.there (.there (.there (.there (.there (.there (.there (.there .here)))))))))) | exact (.there (.there (.there (.there (.there (.there (.there (.there (.there (.there (.there .here))))))))))) | exact (.there (.there (.there (.there (.there (.there (.there (.there (.there (.there (.there (.there .here)))))))))))) | exact (.there (.there (.there (.there (.there (.there (.there (.there (.there (.there (.there (.there (.there .here))))))))))))) | exact (.there (.there (.there (.there (.there (.there (.there (.there (.there (.there (.there (.there (.there (.there .here)))))))))))))) | exact (.there (.there (.there (.there (.there (.there (.there (.there (.there (.there (.there (.there (.there (.there (.there .here)))))))))))))))) ?_ | refine Sub.drop ?_)))
theorem new_lk {c' : Nat} {a : WA} {n k : Nat} {Ac : Option Addr} {Q : List HP} (hl : wLens gg a x)
    (h : Hp R (pt b (wCellsI pa p dr { a with al := Ac, cl := c', lb := a.lb ++ [k] } x n) 76 :: rowPL Ac c' (a.lb ++ [k]) :: objP lockR k ⟨-1, []⟩ :: objsP lockR a.lb x.locks :: objsP gorR a.gb (x.gs.zip gg) :: rowPG a.ag a.cg a.gb :: rowPC a.ac a.cc a.cb :: objsP chanR a.cb x.chans :: rowH a.ah a.ch x.hl :: rowB a.ao a.co x.out :: Q) M) :
    Hp R (objP (idleR pa p) b { x with locks := x.locks ++ [⟨-1, []⟩] } :: Q) M := by
  obtain ⟨l1, l2, l3, l4⟩ := hl
  have h2 := h.objs_snoc lockR k l4
  exact idle_mk (a := { a with al := Ac, cl := c', lb := a.lb ++ [k] }) (gg := gg) (dr := dr) (n := n) (x := { x with locks := x.locks ++ [⟨-1, []⟩] }) ⟨l1, l2, l3, by simp [l4]⟩ (h2.sub (by repeat (first | exact Sub.refl | refine Sub.cons (by first | exact Pick.here | exact (.there .here) | exact (.there (.there .here)) | exact (.there (.there (.there .here))) | exact (.there (.there (.there (.there .here)))) | exact (.there (.there (.there (.there (.there .here))))) | exact (.there (.there (.there (.there (.there (.there .here)))))) | exact (.there (.there (.there (.there (.there (.there (.there .here))))))) | exact (.there (.there (.there (.there (.there (.there (.there (.there .here)))))))) | exact (.there (.there (.there (.there (.there (.there (.there (.there (.there .here))))))))) | exact (.there (.there (.there (.there (.there (.there (.there (.there (.there (.there .here)))))))))) | exact (.there (.there (.there (.there (.there (.there (.there (.there (.there (.there (.there .here))))))))))) | exact (.there (.there (.there (.there (.there (.there (.there (.there (.there (.there (.there (.there .here)))))))))))) | exact (.there (.there (.there (.there (.there (.there (.there (.there (.there (.there (.there (.there (.there .here))))))))))))) | exact (.there (.there (.there (.there (.there (.there (.there (.there (.there (.there (.there (.there (.there (.there .here)))))))))))))) | exact (.there (.there (.there (.there (.there (.there (.there (.there (.there (.there (.there (.there (.there (.there (.there .here)))))))))))))))) ?_ | refine Sub.drop ?_)))
theorem world_New (h : Hp R L M) (hch : RS intE R pa.c pa.cc p.chs) (hc : p.chs.length ≤ 1000000) (hk : 0 ≤ p.locks ∧ p.locks ≤ 1000000)
    (k : ∀ b M', Hp R (objP (idleR pa p) b (Wd.new p) :: L) M' → K (.pointer (some ⟨b, 0, none⟩)) M') :
    ACalls Try.prog 7 #[.agg #[.slice pa.f p.funcs.length pa.fc, .slice pa.c p.chs.length pa.cc, .int .i64 p.locks, .slice pa.k p.cases.length pa.kc]] M K Kp := by
  refine vc_world_New ?_
  repeat (first | (refine s_nwc h ?_; clear h; intro kb M h) | (refine s_stc h ?_; clear h; intro M h) | refine t_exI h ?_ | refine t_exB h ?_ | refine t_exS h ?_ | refine t_exP h ?_ | refine t_exSl h ?_ | refine t_exV h ?_ | refine u_exI ?_ | refine u_exB ?_ | refine u_exS ?_ | refine u_exP ?_ | refine u_exSl ?_ | refine u_exV ?_ | refine u_nilc ?_ | (apply Exists.intro; (repeat apply Exists.intro); refine And.intro rfl ?_) | (refine And.intro ?_ ?_; first | exact trivial | exact rfl | exact t_ld h | (refine lds_s (t_ld h) ?_; (repeat (refine lds_s (t_ld h) ?_)); exact lds_nil) | omega) | refine u_bspT ?_ | refine u_bspF ?_)
  refine frame_Begin h ?_
  clear h
  intro bs M h
  repeat (first | (refine s_nwc h ?_; clear h; intro kb M h) | (refine s_stc h ?_; clear h; intro M h) | refine t_exI h ?_ | refine t_exB h ?_ | refine t_exS h ?_ | refine t_exP h ?_ | refine t_exSl h ?_ | refine t_exV h ?_ | refine u_exI ?_ | refine u_exB ?_ | refine u_exS ?_ | refine u_exP ?_ | refine u_exSl ?_ | refine u_exV ?_ | refine u_nilc ?_ | (apply Exists.intro; (repeat apply Exists.intro); refine And.intro rfl ?_) | (refine And.intro ?_ ?_; first | exact trivial | exact rfl | exact t_ld h | (refine lds_s (t_ld h) ?_; (repeat (refine lds_s (t_ld h) ?_)); exact lds_nil) | omega) | refine u_bspT ?_ | refine u_bspF ?_)
  rename_i kp _ _ kr _ kw _
  replace h := gor_close h kr
  replace h := (h.objs_nil gorR).objs_snoc gorR kr rfl
  replace h := (h.pt kw).row_pt (E := ptrE) (l := [kr]) rfl
  replace h := (h.row_nil ptrE 77).objs_nil chanR
  replace h := (h.row_nil ptrE 79).objs_nil lockR
  replace h := (h.row_nil itemE 86).row_nil intE 2
  have base : Hp R (objP (idleR pa p) kb { Wd.new p with chans := (p.chs.take 0).map Chan.new, locks := [] } :: pt kp [.slice pa.f p.funcs.length pa.fc, .slice pa.c p.chs.length pa.cc, .int .i64 p.locks, .slice pa.k p.cases.length pa.kc] 28 :: L) _ :=
    idle_mk (a := ⟨some ⟨kw, 0, none⟩, 1, [kr], none, 0, [], none, 0, [], none, 0, none, 0, none, 0⟩) (gg := [(some ⟨bs, 0, none⟩, 1)]) (dr := .nilFunc) (n := 0) (x := { Wd.new p with chans := [], locks := [] }) ⟨rfl, rfl, rfl, rfl⟩ (h.sub (by repeat (first | exact Sub.refl | refine Sub.cons (by first | exact Pick.here | exact (.there .here) | exact (.there (.there .here)) | exact (.there (.there (.there .here))) | exact (.there (.there (.there (.there .here)))) | exact (.there (.there (.there (.there (.there .here))))) | exact (.there (.there (.there (.there (.there (.there .here)))))) | exact (.there (.there (.there (.there (.there (.there (.there .here))))))) | exact (.there (.there (.there (.there (.there (.there (.there (.there .here)))))))) | exact (.there (.there (.there (.there (.there (.there (.there (.there (.there .here))))))))) | exact (.there (.there (.there (.there (.there (.there (.there (.there (.there (.there .here)))))))))) | exact (.there (.there (.there (.there (.there (.there (.there (.there (.there (.there (.there .here))))))))))) | exact (.there (.there (.there (.there (.there (.there (.there (.there (.there (.there (.there (.there .here)))))))))))) | exact (.there (.there (.there (.there (.there (.there (.there (.there (.there (.there (.there (.there (.there .here))))))))))))) | exact (.there (.there (.there (.there (.there (.there (.there (.there (.there (.there (.there (.there (.there (.there .here)))))))))))))) | exact (.there (.there (.there (.there (.there (.there (.there (.there (.there (.there (.there (.there (.there (.there (.there .here)))))))))))))))) ?_ | refine Sub.drop ?_)))
  clear h
  refine ⟨fun d vs M => ∃ j : Nat, vs = [.int .i64 (j : Int)] ∧ d = p.chs.length - j ∧ j ≤ p.chs.length ∧ Hp R (objP (idleR pa p) kb { Wd.new p with chans := (p.chs.take j).map Chan.new, locks := [] } :: pt kp [.slice pa.f p.funcs.length pa.fc, .slice pa.c p.chs.length pa.cc, .int .i64 p.locks, .slice pa.k p.cases.length pa.kc] 28 :: L) M,
    ⟨_, 0, rfl, rfl, by omega, base⟩, ?_⟩
  clear base
  rintro d _ nn M ⟨j, he, hd, hj, h⟩
  simp only [List.cons.injEq, Value.int.injEq, and_true, true_and] at he
  subst he
  refine bsp_dec.2 ⟨fun hlt => ?_, fun hge => ?_⟩
  · obtain ⟨v, hv⟩ := idx_ex (l := p.chs) (i := j) (by omega)
    have hsn : (p.chs.take (j + 1)).map Chan.new = (p.chs.take j).map Chan.new ++ [Chan.new v] := by rw [take_snoc hv, List.map_append]; rfl
    have hjl : ((p.chs.take j).map Chan.new).length ≤ 1000000 := by simp; omega
    rw [wrap_succ (by omega)]
    refine ⟨by omega, hlt, ?_⟩
    obtain ⟨cb, co, hcb⟩ := hch.some (by omega) (by decide)
    have hch2 := hch
    rw [hcb] at hch2 ⊢
    refine u_nilc ?_
    simp only [Int.toNat_natCast]
    refine v_exI (Src.at (hch2.src (L := _)) h (i := j) (j := 0) hv rfl (by simp [intE])) ?_
    refine ⟨fun _ M => Hp R (objP (idleR pa p) kb { Wd.new p with chans := (p.chs.take j).map Chan.new ++ [Chan.new v], locks := [] } :: pt kp [.slice pa.f p.funcs.length pa.fc, .slice pa.c p.chs.length pa.cc, .int .i64 p.locks, .slice pa.k p.cases.length pa.kc] 28 :: L) M, ⟨?_, ?_, trivial⟩, ?_⟩
    · have h' := idle_open h (b := kb)
      clear h
      obtain ⟨a, gg, dr, n, hl, h⟩ := h'
      have hl3 : a.cb.length = ((p.chs.take j).map Chan.new).length := hl.2.2.1
      refine t_exSl h ?_
      refine chans_New h ?_
      clear h
      intro kc M h
      repeat (first | (refine s_nwc h ?_; clear h; intro kb M h) | (refine s_stc h ?_; clear h; intro M h) | refine t_exI h ?_ | refine t_exB h ?_ | refine t_exS h ?_ | refine t_exP h ?_ | refine t_exSl h ?_ | refine t_exV h ?_ | refine u_exI ?_ | refine u_exB ?_ | refine u_exS ?_ | refine u_exP ?_ | refine u_exSl ?_ | refine u_exV ?_ | refine u_nilc ?_ | (apply Exists.intro; (repeat apply Exists.intro); refine And.intro rfl ?_) | (refine And.intro ?_ ?_; first | exact trivial | exact rfl | exact t_ld h | (refine lds_s (t_ld h) ?_; (repeat (refine lds_s (t_ld h) ?_)); exact lds_nil) | omega) | refine u_bspT ?_ | refine u_bspF ?_)
      refine h.rowAppend1 el_pc [kc] rfl rfl (by simp only [List.length_singleton]; omega) ?_
      clear h
      intro A' c' M h
      repeat (first | (refine s_nwc h ?_; clear h; intro kb M h) | (refine s_stc h ?_; clear h; intro M h) | refine t_exI h ?_ | refine t_exB h ?_ | refine t_exS h ?_ | refine t_exP h ?_ | refine t_exSl h ?_ | refine t_exV h ?_ | refine u_exI ?_ | refine u_exB ?_ | refine u_exS ?_ | refine u_exP ?_ | refine u_exSl ?_ | refine u_exV ?_ | refine u_nilc ?_ | (apply Exists.intro; (repeat apply Exists.intro); refine And.intro rfl ?_) | (refine And.intro ?_ ?_; first | exact trivial | exact rfl | exact t_ld h | (refine lds_s (t_ld h) ?_; (repeat (refine lds_s (t_ld h) ?_)); exact lds_nil) | omega) | refine u_bspT ?_ | refine u_bspF ?_)
      exact new_ch (j := j) (q := j) (A' := j) (a := a) (x := { Wd.new p with chans := (p.chs.take j).map Chan.new, locks := [] }) hl (h.sub (by repeat (first | exact Sub.refl | refine Sub.cons (by first | exact Pick.here | exact (.there .here) | exact (.there (.there .here)) | exact (.there (.there (.there .here))) | exact (.there (.there (.there (.there .here)))) | exact (.there (.there (.there (.there (.there .here))))) | exact (.there (.there (.there (.there (.there (.there .here)))))) | exact (.there (.there (.there (.there (.there (.there (.there .here))))))) | exact (.there (.there (.there (.there (.there (.there (.there (.there .here)))))))) | exact (.there (.there (.there (.there (.there (.there (.there (.there (.there .here))))))))) | exact (.there (.there (.there (.there (.there (.there (.there (.there (.there (.there .here)))))))))) | exact (.there (.there (.there (.there (.there (.there (.there (.there (.there (.there (.there .here))))))))))) | exact (.there (.there (.there (.there (.there (.there (.there (.there (.there (.there (.there (.there .here)))))))))))) | exact (.there (.there (.there (.there (.there (.there (.there (.there (.there (.there (.there (.there (.there .here))))))))))))) | exact (.there (.there (.there (.there (.there (.there (.there (.there (.there (.there (.there (.there (.there (.there .here)))))))))))))) | exact (.there (.there (.there (.there (.there (.there (.there (.there (.there (.there (.there (.there (.there (.there (.there .here)))))))))))))))) ?_ | refine Sub.drop ?_)))
    · have h' := idle_open h (b := kb)
      clear h
      obtain ⟨a, gg, dr, n, hl, h⟩ := h'
      have hl3 : a.cb.length = ((p.chs.take j).map Chan.new).length := hl.2.2.1
      refine chans_New h ?_
      clear h
      intro kc M h
      repeat (first | (refine s_nwc h ?_; clear h; intro kb M h) | (refine s_stc h ?_; clear h; intro M h) | refine t_exI h ?_ | refine t_exB h ?_ | refine t_exS h ?_ | refine t_exP h ?_ | refine t_exSl h ?_ | refine t_exV h ?_ | refine u_exI ?_ | refine u_exB ?_ | refine u_exS ?_ | refine u_exP ?_ | refine u_exSl ?_ | refine u_exV ?_ | refine u_nilc ?_ | (apply Exists.intro; (repeat apply Exists.intro); refine And.intro rfl ?_) | (refine And.intro ?_ ?_; first | exact trivial | exact rfl | exact t_ld h | (refine lds_s (t_ld h) ?_; (repeat (refine lds_s (t_ld h) ?_)); exact lds_nil) | omega) | refine u_bspT ?_ | refine u_bspF ?_)
      refine h.rowAppend1 el_pc [kc] rfl rfl (by simp only [List.length_singleton]; omega) ?_
      clear h
      intro A' c' M h
      repeat (first | (refine s_nwc h ?_; clear h; intro kb M h) | (refine s_stc h ?_; clear h; intro M h) | refine t_exI h ?_ | refine t_exB h ?_ | refine t_exS h ?_ | refine t_exP h ?_ | refine t_exSl h ?_ | refine t_exV h ?_ | refine u_exI ?_ | refine u_exB ?_ | refine u_exS ?_ | refine u_exP ?_ | refine u_exSl ?_ | refine u_exV ?_ | refine u_nilc ?_ | (apply Exists.intro; (repeat apply Exists.intro); refine And.intro rfl ?_) | (refine And.intro ?_ ?_; first | exact trivial | exact rfl | exact t_ld h | (refine lds_s (t_ld h) ?_; (repeat (refine lds_s (t_ld h) ?_)); exact lds_nil) | omega) | refine u_bspT ?_ | refine u_bspF ?_)
      exact new_ch (j := j) (q := j) (A' := j) (a := a) (x := { Wd.new p with chans := (p.chs.take j).map Chan.new, locks := [] }) hl (h.sub (by repeat (first | exact Sub.refl | refine Sub.cons (by first | exact Pick.here | exact (.there .here) | exact (.there (.there .here)) | exact (.there (.there (.there .here))) | exact (.there (.there (.there (.there .here)))) | exact (.there (.there (.there (.there (.there .here))))) | exact (.there (.there (.there (.there (.there (.there .here)))))) | exact (.there (.there (.there (.there (.there (.there (.there .here))))))) | exact (.there (.there (.there (.there (.there (.there (.there (.there .here)))))))) | exact (.there (.there (.there (.there (.there (.there (.there (.there (.there .here))))))))) | exact (.there (.there (.there (.there (.there (.there (.there (.there (.there (.there .here)))))))))) | exact (.there (.there (.there (.there (.there (.there (.there (.there (.there (.there (.there .here))))))))))) | exact (.there (.there (.there (.there (.there (.there (.there (.there (.there (.there (.there (.there .here)))))))))))) | exact (.there (.there (.there (.there (.there (.there (.there (.there (.there (.there (.there (.there (.there .here))))))))))))) | exact (.there (.there (.there (.there (.there (.there (.there (.there (.there (.there (.there (.there (.there (.there .here)))))))))))))) | exact (.there (.there (.there (.there (.there (.there (.there (.there (.there (.there (.there (.there (.there (.there (.there .here)))))))))))))))) ?_ | refine Sub.drop ?_)))
    · clear h
      intro _ M h
      refine ⟨p.chs.length - (j + 1), by omega, j + 1, rfl, rfl, by omega, ?_⟩
      rw [hsn, ← hcb]; exact h
  · obtain rfl : j = p.chs.length := by omega
    rw [List.take_length] at h
    refine t_exI h ?_
    obtain ⟨nl, hnl⟩ := Int.eq_ofNat_of_zero_le hk.1
    refine ⟨fun d vs M => ∃ j : Nat, vs = [.int .i64 (j : Int)] ∧ d = nl - j ∧ j ≤ nl ∧ Hp R (objP (idleR pa p) kb { Wd.new p with locks := List.replicate j ⟨-1, []⟩ } :: pt kp [.slice pa.f p.funcs.length pa.fc, .slice pa.c p.chs.length pa.cc, .int .i64 p.locks, .slice pa.k p.cases.length pa.kc] 28 :: L) M,
      ⟨_, 0, rfl, rfl, by omega, h⟩, ?_⟩
    clear h
    rintro d _ nn M ⟨j, he, hd, hj, h⟩
    simp only [List.cons.injEq, Value.int.injEq, and_true, true_and] at he
    subst he
    refine bsp_dec.2 ⟨fun hlt => ?_, fun hge => ?_⟩
    · have hsn : List.replicate (j + 1) (⟨-1, []⟩ : Lk) = List.replicate j ⟨-1, []⟩ ++ [⟨-1, []⟩] := List.replicate_succ'
      rw [wrap_succ (by omega)]
      refine ⟨fun _ M => Hp R (objP (idleR pa p) kb { Wd.new p with locks := List.replicate j ⟨-1, []⟩ ++ [⟨-1, []⟩] } :: pt kp [.slice pa.f p.funcs.length pa.fc, .slice pa.c p.chs.length pa.cc, .int .i64 p.locks, .slice pa.k p.cases.length pa.kc] 28 :: L) M, ⟨?_, ?_, trivial⟩, ?_⟩
      · have h' := idle_open h (b := kb)
        clear h
        obtain ⟨a, gg, dr, n, hl, h⟩ := h'
        have hl3 : a.lb.length = (List.replicate j (⟨-1, []⟩ : Lk)).length := hl.2.2.2
        rw [List.length_replicate] at hl3
        refine t_exSl h ?_
        refine locks_New h ?_
        clear h
        intro kc M h
        repeat (first | (refine s_nwc h ?_; clear h; intro kb M h) | (refine s_stc h ?_; clear h; intro M h) | refine t_exI h ?_ | refine t_exB h ?_ | refine t_exS h ?_ | refine t_exP h ?_ | refine t_exSl h ?_ | refine t_exV h ?_ | refine u_exI ?_ | refine u_exB ?_ | refine u_exS ?_ | refine u_exP ?_ | refine u_exSl ?_ | refine u_exV ?_ | refine u_nilc ?_ | (apply Exists.intro; (repeat apply Exists.intro); refine And.intro rfl ?_) | (refine And.intro ?_ ?_; first | exact trivial | exact rfl | exact t_ld h | (refine lds_s (t_ld h) ?_; (repeat (refine lds_s (t_ld h) ?_)); exact lds_nil) | omega) | refine u_bspT ?_ | refine u_bspF ?_)
        refine h.rowAppend1 el_pl [kc] rfl rfl (by simp only [List.length_singleton]; omega) ?_
        clear h
        intro A' c' M h
        repeat (first | (refine s_nwc h ?_; clear h; intro kb M h) | (refine s_stc h ?_; clear h; intro M h) | refine t_exI h ?_ | refine t_exB h ?_ | refine t_exS h ?_ | refine t_exP h ?_ | refine t_exSl h ?_ | refine t_exV h ?_ | refine u_exI ?_ | refine u_exB ?_ | refine u_exS ?_ | refine u_exP ?_ | refine u_exSl ?_ | refine u_exV ?_ | refine u_nilc ?_ | (apply Exists.intro; (repeat apply Exists.intro); refine And.intro rfl ?_) | (refine And.intro ?_ ?_; first | exact trivial | exact rfl | exact t_ld h | (refine lds_s (t_ld h) ?_; (repeat (refine lds_s (t_ld h) ?_)); exact lds_nil) | omega) | refine u_bspT ?_ | refine u_bspF ?_)
        exact new_lk (a := a) (x := { Wd.new p with locks := List.replicate j ⟨-1, []⟩ }) hl (h.sub (by repeat (first | exact Sub.refl | refine Sub.cons (by first | exact Pick.here | exact (.there .here) | exact (.there (.there .here)) | exact (.there (.there (.there .here))) | exact (.there (.there (.there (.there .here)))) | exact (.there (.there (.there (.there (.there .here))))) | exact (.there (.there (.there (.there (.there (.there .here)))))) | exact (.there (.there (.there (.there (.there (.there (.there .here))))))) | exact (.there (.there (.there (.there (.there (.there (.there (.there .here)))))))) | exact (.there (.there (.there (.there (.there (.there (.there (.there (.there .here))))))))) | exact (.there (.there (.there (.there (.there (.there (.there (.there (.there (.there .here)))))))))) | exact (.there (.there (.there (.there (.there (.there (.there (.there (.there (.there (.there .here))))))))))) | exact (.there (.there (.there (.there (.there (.there (.there (.there (.there (.there (.there (.there .here)))))))))))) | exact (.there (.there (.there (.there (.there (.there (.there (.there (.there (.there (.there (.there (.there .here))))))))))))) | exact (.there (.there (.there (.there (.there (.there (.there (.there (.there (.there (.there (.there (.there (.there .here)))))))))))))) | exact (.there (.there (.there (.there (.there (.there (.there (.there (.there (.there (.there (.there (.there (.there (.there .here)))))))))))))))) ?_ | refine Sub.drop ?_)))
      · have h' := idle_open h (b := kb)
        clear h
        obtain ⟨a, gg, dr, n, hl, h⟩ := h'
        have hl3 : a.lb.length = (List.replicate j (⟨-1, []⟩ : Lk)).length := hl.2.2.2
        rw [List.length_replicate] at hl3
        refine locks_New h ?_
        clear h
        intro kc M h
        repeat (first | (refine s_nwc h ?_; clear h; intro kb M h) | (refine s_stc h ?_; clear h; intro M h) | refine t_exI h ?_ | refine t_exB h ?_ | refine t_exS h ?_ | refine t_exP h ?_ | refine t_exSl h ?_ | refine t_exV h ?_ | refine u_exI ?_ | refine u_exB ?_ | refine u_exS ?_ | refine u_exP ?_ | refine u_exSl ?_ | refine u_exV ?_ | refine u_nilc ?_ | (apply Exists.intro; (repeat apply Exists.intro); refine And.intro rfl ?_) | (refine And.intro ?_ ?_; first | exact trivial | exact rfl | exact t_ld h | (refine lds_s (t_ld h) ?_; (repeat (refine lds_s (t_ld h) ?_)); exact lds_nil) | omega) | refine u_bspT ?_ | refine u_bspF ?_)
        refine h.rowAppend1 el_pl [kc] rfl rfl (by simp only [List.length_singleton]; omega) ?_
        clear h
        intro A' c' M h
        repeat (first | (refine s_nwc h ?_; clear h; intro kb M h) | (refine s_stc h ?_; clear h; intro M h) | refine t_exI h ?_ | refine t_exB h ?_ | refine t_exS h ?_ | refine t_exP h ?_ | refine t_exSl h ?_ | refine t_exV h ?_ | refine u_exI ?_ | refine u_exB ?_ | refine u_exS ?_ | refine u_exP ?_ | refine u_exSl ?_ | refine u_exV ?_ | refine u_nilc ?_ | (apply Exists.intro; (repeat apply Exists.intro); refine And.intro rfl ?_) | (refine And.intro ?_ ?_; first | exact trivial | exact rfl | exact t_ld h | (refine lds_s (t_ld h) ?_; (repeat (refine lds_s (t_ld h) ?_)); exact lds_nil) | omega) | refine u_bspT ?_ | refine u_bspF ?_)
        exact new_lk (a := a) (x := { Wd.new p with locks := List.replicate j ⟨-1, []⟩ }) hl (h.sub (by repeat (first | exact Sub.refl | refine Sub.cons (by first | exact Pick.here | exact (.there .here) | exact (.there (.there .here)) | exact (.there (.there (.there .here))) | exact (.there (.there (.there (.there .here)))) | exact (.there (.there (.there (.there (.there .here))))) | exact (.there (.there (.there (.there (.there (.there .here)))))) | exact (.there (.there (.there (.there (.there (.there (.there .here))))))) | exact (.there (.there (.there (.there (.there (.there (.there (.there .here)))))))) | exact (.there (.there (.there (.there (.there (.there (.there (.there (.there .here))))))))) | exact (.there (.there (.there (.there (.there (.there (.there (.there (.there (.there .here)))))))))) | exact (.there (.there (.there (.there (.there (.there (.there (.there (.there (.there (.there .here))))))))))) | exact (.there (.there (.there (.there (.there (.there (.there (.there (.there (.there (.there (.there .here)))))))))))) | exact (.there (.there (.there (.there (.there (.there (.there (.there (.there (.there (.there (.there (.there .here))))))))))))) | exact (.there (.there (.there (.there (.there (.there (.there (.there (.there (.there (.there (.there (.there (.there .here)))))))))))))) | exact (.there (.there (.there (.there (.there (.there (.there (.there (.there (.there (.there (.there (.there (.there (.there .here)))))))))))))))) ?_ | refine Sub.drop ?_)))
      · clear h
        intro _ M h
        refine ⟨nl - (j + 1), by omega, j + 1, rfl, rfl, by omega, ?_⟩
        rw [hsn]; exact h
    · obtain rfl : j = nl := by omega
      have e : Wd.new p = { Wd.new p with locks := List.replicate j ⟨-1, []⟩ } := by unfold Wd.new; rw [hnl]; rfl
      rw [← e] at h
      exact k _ _ h.fin1
end
end Go.Proofs

namespace Go.Proofs
open Go.AF
set_option linter.unusedVariables false
set_option maxRecDepth 100000
set_option maxHeartbeats 1000000
attribute [local irreducible] exI exB exS exP exSl exV nilc stc nwc semK semU bsp
def caseList (p : Prg) (i : Ins) : List Cas := (p.cases.drop i.a.toNat).take i.b.toNat
def regs8 (f : Frm) : List Int := [f.r.getD 0 0, f.r.getD 1 0, f.r.getD 2 0, f.r.getD 3 0, f.r.getD 4 0, f.r.getD 5 0, f.r.getD 6 0, f.r.getD 7 0]
/-- What a draw came to. -/
inductive Drawn where
  | num (d : Int)
  | dry (l : List PanicEntry)
/-- What a drawer does, asked for a number below n. -/
def DrawSpec (R : Mem) (dr : Value) (kind n : Int) (d : Drawn) (L L2 : List HP) : Prop := ∀ (Q : HP) (M : Mem) (K : Value → Mem → Prop) (Kp : List PanicEntry → Mem → Prop), Hp R (Q :: L) M →
  (match d with
    | .num v => ∀ M', Hp R (Q :: L2) M' → K (.int .i64 v) M'
    | .dry l => ∀ M', Hp R (Q :: L2) M' → Kp l M') → callK Cx dr [.int .i64 kind, .int .i64 n] M K Kp
/-- A select's case is done. -/
def Wd.chooseAt (p : Prg) (x : Wd) (g : Int) (i : Ins) (k : Int) : Out Wd :=
  let c := (caseList p i).getD k.toNat ⟨0, 0, 0⟩
  let x1 := x.next g
  if c.way = 1 then match x1.put p c.ch (topReg x1 g c.reg) with
    | .trap n y => .trap n y
    | .dry l y => .dry l y
    | .on (y, _) => .on (y.putReg g i.c k)
  else .on (((x1.get c.ch).1.putReg g c.reg (x1.get c.ch).2.1).putReg g i.c k)
/-- A select of which no case can go. -/
def Wd.chooseNone (p : Prg) (x : Wd) (g : Int) (i : Ins) : Wd :=
  let x1 := x.next g
  match els (caseList p i) with
    | some k => x1.putReg g i.c (k : Int)
    | none => Wd.block { x1 with chans := waitTo g (regs8 (gorAt x1 g).top) (caseList p i) x1.chans (caseList p i).length } g i
/-- A select, by a draw among so many. -/
def Wd.choose (p : Prg) (x : Wd) (g : Int) (i : Ins) (d : Drawn) : Out Wd :=
  if enabled (caseList p i) x.chans = [] then .on (x.chooseNone p g i)
  else match d with
    | .num v => x.chooseAt p g i ((enabled (caseList p i) x.chans).getD v.toNat 0)
    | .dry l => .dry l x
section
variable {R : Mem} {L L' L2 : List HP} {M : Mem} {K : Value → Mem → Prop} {Kp : List PanicEntry → Mem → Prop} {pa : PA} {p : Prg} {gg : List GA} {dr : Value} {b : Nat} {x : Wd} {g : Int} {i : Ins}
def casesOk (p : Prg) (i : Ins) : Prop := 0 ≤ i.a ∧ 0 ≤ i.b ∧ i.a + i.b ≤ p.cases.length ∧ p.cases.length ≤ 1000
instance (p : Prg) (i : Ins) : Decidable (casesOk p i) := by unfold casesOk; infer_instance
theorem world_cases (h : Hp R L M) [o : WAt b L pa p gg dr x L'] (hp : PrgR R pa p) (hk : casesOk p i)
    (k : ∀ A c M', RS casE R A c (caseList p i) → Hp R (objP (worldR pa p gg dr) b x :: L') M' → K (.slice A (caseList p i).length c) M') :
    ACalls Try.prog 38 #[.pointer (some ⟨b, 0, none⟩), .agg #[.int .i64 i.op, .int .i64 i.a, .int .i64 i.b, .int .i64 i.c]] M K Kp := by
  refine vc_world_World_cases ?_
  obtain ⟨a0, b0, hab, hl⟩ := hk
  have hcap := hp.cases.2
  refine s_nwc h ?_
  clear h; intro kb M h
  have hC := h.drop.pick o.pick
  have h' := world_open h (b := b)
  clear h
  obtain ⟨a, hl2, h⟩ := h'
  refine t_exSl h (t_exI h (t_exI h (t_exI h ?_)))
  rw [wrap_id (by omega) (by omega)]
  refine ⟨by omega, by omega, by omega, by omega, by omega, by omega, ?_⟩
  have e : (caseList p i).length = (i.a + i.b).toNat - i.a.toNat := by
    unfold caseList
    rw [List.length_take, List.length_drop]; omega
  rw [← e]
  simp only [Int.toNat_natCast]
  exact k _ _ _ ((hp.cases.drop i.a.toNat (by omega)).take i.b.toNat) hC
theorem regs_src {bs j : Nat} {l : List Frm} {f : Frm} (hs : Src R L (some ⟨bs, 0, none⟩) (frmE.cells l)) (hi : l[j]? = some f) : Src R L (slA (some ⟨bs, j * 11 + 2, none⟩) 0 8 1) (intE.cells (regs8 f)) := by
  intro M h
  have e : slA (some ⟨bs, j * 11 + 2, none⟩) 0 8 1 = some ⟨bs, j * 11 + 2, none⟩ := by
    unfold slA; rw [if_neg (by omega)]; rfl
  rw [e]
  intro q hq
  have hq8 : q < 8 := by simpa [intE, Enc.cells, regs8] using hq
  have e2 : j * 11 + 2 + q = 0 + (j * frmE.z + (2 + q)) := by show _ = 0 + (j * 11 + (2 + q)); omega
  obtain rfl | rfl | rfl | rfl | rfl | rfl | rfl | rfl : q = 0 ∨ q = 1 ∨ q = 2 ∨ q = 3 ∨ q = 4 ∨ q = 5 ∨ q = 6 ∨ q = 7 := by omega
  all_goals exact Src.at hs h (i := j) hi rfl e2
theorem w_stPc {bs c oo : Nat} {v : Int} {G : Mem → Prop} (h : Hp R L M) [o : WAt b L pa p gg dr x L'] (hg : gorOk x g) (hgg : gg[g.toNat]? = some (some ⟨bs, 0, none⟩, c)) (e : oo = ((gorAt x g).fs.length - 1) * 11 + 1) (hv : v = (gorAt x g).top.pc + 1)
    (k : ∀ M', Hp R (objP (worldR pa p gg dr) b (x.next g) :: L') M' → G M') : stc M ⟨bs, oo, none⟩ (.int .i64 v) G := by
  subst hv
  obtain ⟨h0, h1, h2, h3⟩ := hg
  obtain ⟨a, gb, hl, hgb, h4⟩ := world_at2 h (b := b) h0 h1 hgg
  refine f_stPc h4 (gor_top h2) e fun M' h5 => ?_
  replace h5 := world_in h5 gb hl hgb hgg (by simp)
  exact k M' (world_close (a := a) (p := p) (pa := pa) (dr := dr) (gg := gg) (x := x.next g) (lens_put hl) h5 b)
theorem w_ldPc {bs c oo : Nat} {G : Int → Prop} (h : Hp R L M) [o : WAt b L pa p gg dr x L'] (hg : gorOk x g) (hgg : gg[g.toNat]? = some (some ⟨bs, 0, none⟩, c)) (e : oo = ((gorAt x g).fs.length - 1) * 11 + 1)
    (k : G (gorAt x g).top.pc) : exI (M.ld ⟨bs, oo, none⟩) .i64 G := by
  obtain ⟨h0, h1, h2, h3⟩ := hg
  obtain ⟨a, gb, hl, hgb, h4⟩ := world_at2 h (b := b) h0 h1 hgg
  exact f_ldPc h4 (gor_top h2) e k
theorem gorAt_next (hg : gorOk x g) : gorAt (x.next g) g = (gorAt x g).putTop (gorAt x g).top.next := gorAt_put hg.1 hg.2.1
theorem gorOk_next (hg : gorOk x g) : gorOk (x.next g) g := by
  have e := gorAt_next hg
  obtain ⟨h0, h1, h2, h3⟩ := hg
  refine ⟨h0, by simpa [Wd.next, Wd.putG] using h1, ?_, ?_⟩ <;> rw [e] <;> simpa [Gor.putTop]
theorem fl_next (hg : gorOk x g) : (gorAt (x.next g) g).fs.length = (gorAt x g).fs.length := by rw [gorAt_next hg]; simp [Gor.putTop]
theorem fl_putReg {q v : Int} (hg : gorOk x g) : (gorAt (x.putReg g q v) g).fs.length = (gorAt x g).fs.length := by rw [gorAt_putReg hg]; simp [Gor.putTop]
theorem Sm_next (hs : x.Sm) : (x.next g).Sm := Sm_putG hs
/-- What a select needs. -/
def chooseOk (p : Prg) (x : Wd) (g : Int) (i : Ins) (d : Drawn) : Prop := gorOk x g ∧ casesOk p i ∧ isReg i.c ∧ x.Sm ∧ (gorAt x g).top.pc < 1000000000 ∧ 0 ≤ (gorAt x g).top.pc ∧ (∀ c ∈ caseList p i, c.Ok x.chans.length) ∧
  match enabled (caseList p i) x.chans, d with
  | [], _ => True
  | _, .dry _ => True
  | can, .num v => 0 ≤ v ∧ v < can.length ∧
    let k := can.getD v.toNat 0
    let c := (caseList p i).getD k.toNat ⟨0, 0, 0⟩
    let x1 := x.next g
    0 ≤ k ∧ k < (caseList p i).length ∧ isReg c.reg ∧
    if c.way = 1 then putOk p x1 c.ch (topReg x1 g c.reg) ∧ (match x1.put p c.ch (topReg x1 g c.reg) with
      | .on (y, _) => gorOk y g ∧ (gorAt y g).fs.length = (gorAt x g).fs.length
      | _ => True)
    else getOk x1 c.ch ∧ gorOk (x1.get c.ch).1 g ∧ (gorAt (x1.get c.ch).1 g).fs.length = (gorAt x g).fs.length
theorem op_choose {d : Drawn} (hp : PrgR R pa p) (hk : chooseOk p x g i d) (hd : if enabled (caseList p i) x.chans = [] then L2 = L else DrawSpec R dr 3 ((enabled (caseList p i) x.chans).length : Int) d L L2) :
    OpSpec R pa p dr 33 x g i (x.choose p g i d) L L2 := by
  intro gg b bs c M K Kp Q h hgg k
  obtain ⟨hg, hcs, hic, hs, hpc, hpc0, hok, hk⟩ := hk
  have hg' := hg
  obtain ⟨h0, h1, h2, h3⟩ := hg'
  have hs' := hs
  obtain ⟨s1, s2, s3, s4, s5, s6, s7, s8⟩ := hs'
  have hcl : (caseList p i).length ≤ 1000 := by
    obtain ⟨_, _, _, hl⟩ := hcs
    unfold caseList
    rw [List.length_take, List.length_drop]; omega
  refine vc_world_World_choose ?_
  refine s_nwc h ?_
  clear h; intro k1 M h
  refine t_exI h (t_exI h (t_exI h (t_exI h ?_)))
  refine world_cases (b := b) h hp hcs ?_
  clear h; intro A ca M hA h
  refine u_exSl ?_
  unfold Wd.choose at k
  have hen : ∀ {X : HP} {M : Mem} {L3 : List HP}, Hp R (objP (worldR pa p gg dr) b x :: L3) M → ∀ (K1 : Value → Mem → Prop), (∀ A' c' M', Hp R (rowI A' c' (enabled (caseList p i) x.chans) :: objP (worldR pa p gg dr) b x :: L3) M' → K1 (.slice A' (enabled (caseList p i) x.chans).length c') M') →
      exSl (M.ld ⟨b, 0 + 6, none⟩) fun A12 k13 k14 => ACalls Try.prog 39 #[.slice A (caseList p i).length ca, .slice A12 k13 k14] M K1 Kp := by
    intro X M L3 h K1 k1
    have h' := world_open h (b := b)
    clear h
    obtain ⟨a, hl, h⟩ := h'
    have hl' := hl
    obtain ⟨l1, l2, l3, l4⟩ := hl'
    refine t_exSl h ?_
    refine picks_Enabled h (hA.src) (Src.row (A := a.ac)) rfl rfl (by omega) l3 hok ?_
    clear h; intro A' c' M h
    exact k1 _ _ _ ((world_close (a := a) (p := p) (pa := pa) (dr := dr) (gg := gg) (x := x) hl h b).swap)
  refine hen (X := Q) h _ ?_
  clear h hen; intro A2 c2 M h
  refine u_exSl ?_
  by_cases hcan : enabled (caseList p i) x.chans = []
  · rw [if_pos hcan] at k hd
    subst hd
    rw [hcan] at h ⊢
    refine u_bspT ?_
    unfold Wd.chooseNone at k
    dsimp only at k
    refine w_ldPc (b := b) h hg hgg rfl ?_
    rw [wrap_succ' hpc0 (by omega)]
    refine w_stPc (b := b) h hg hgg rfl rfl ?_
    clear h; intro M h
    have hg1 := gorOk_next hg
    have hf1 := fl_next hg
    refine picks_Else h hA.src rfl (by omega) ?_
    clear h; intro M h
    refine ⟨_, _, rfl, ?_⟩
    cases he : els (caseList p i) with
    | some q =>
      rw [he] at k
      dsimp only at k ⊢
      refine u_bspT ?_
      refine t_exI h ?_
      refine ⟨hic.1, hic.2, ?_⟩
      refine w_stReg (b := b) h hg1 hgg hic (by rw [hf1]) ?_
      clear h; intro M h
      exact k _ _ (h.sub (by repeat (first | exact Sub.refl | refine Sub.cons (by first | exact Pick.here | exact (.there .here) | exact (.there (.there .here)) | exact (.there (.there (.there .here))) | exact (.there (.there (.there (.there .here)))) | exact (.there (.there (.there (.there (.there .here))))) | exact (.there (.there (.there (.there (.there (.there .here)))))) | exact (.there (.there (.there (.there (.there (.there (.there .here))))))) | exact (.there (.there (.there (.there (.there (.there (.there (.there .here)))))))) | exact (.there (.there (.there (.there (.there (.there (.there (.there (.there .here))))))))) | exact (.there (.there (.there (.there (.there (.there (.there (.there (.there (.there .here)))))))))) | exact (.there (.there (.there (.there (.there (.there (.there (.there (.there (.there (.there .here))))))))))) | exact (.there (.there (.there (.there (.there (.there (.there (.there (.there (.there (.there (.there .here)))))))))))) | exact (.there (.there (.there (.there (.there (.there (.there (.there (.there (.there (.there (.there (.there .here))))))))))))) | exact (.there (.there (.there (.there (.there (.there (.there (.there (.there (.there (.there (.there (.there (.there .here)))))))))))))) | exact (.there (.there (.there (.there (.there (.there (.there (.there (.there (.there (.there (.there (.there (.there (.there .here)))))))))))))))) ?_ | refine Sub.drop ?_)))
    | none =>
      rw [he] at k
      dsimp only at k ⊢
      refine u_bspF ⟨by decide, by decide, by decide, by decide, by decide, by decide, ?_⟩
      have hb1 := hg1
      obtain ⟨g0, g1, g2, g3⟩ := hb1
      have h' := world_at2 h (b := b) g0 g1 hgg
      clear h
      obtain ⟨a, gb, hl, hgb, h⟩ := h'
      have hl' := hl
      obtain ⟨l1, l2, l3, l4⟩ := hl'
      refine t_exSl h ?_
      refine picks_Wait (regs := regs8 (gorAt (x.next g) g).top) h hA.src (Src.row (A := a.ac)) ?_ rfl rfl rfl rfl (by omega) l3 hok (fun c hc => s1 c hc) ?_
      · have e9 : ∀ {L9 : List HP}, Src R L9 (some ⟨bs, 0, none⟩) (frmE.cells (gorAt (x.next g) g).fs) → Src R L9 (slA (some ⟨bs, ((gorAt x g).fs.length - 1) * 11 + 2, none⟩) 0 8 1) (intE.cells (regs8 (gorAt (x.next g) g).top)) := fun hs => by
          have := regs_src hs (gor_top g2)
          rwa [hf1] at this
        exact e9 Src.row
      clear h; intro M h
      refine ⟨rfl, ?_⟩
      refine t_exI h (t_exI h (t_exI h (t_exI h ?_)))
      replace h := world_in h gb hl hgb hgg
      have hl2 := lens_put (y := gorAt (x.next g) g) (g := g) hl
      have hcl2 : ∀ x' : Wd, x' = { (x.next g).putG g (gorAt (x.next g) g) with chans := waitTo g (regs8 (gorAt (x.next g) g).top) (caseList p i) x.chans (caseList p i).length } → wLens gg a x' := by
        rintro _ rfl
        obtain ⟨m1, m2, m3, m4⟩ := hl2
        exact ⟨m1, m2, by show _ = List.length _; rw [waitTo_len]; exact l3, m4⟩
      replace h := world_close (a := a) (p := p) (pa := pa) (dr := dr) (gg := gg) (x := { (x.next g).putG g (gorAt (x.next g) g) with chans := waitTo g (regs8 (gorAt (x.next g) g).top) (caseList p i) x.chans (caseList p i).length }) (hcl2 _ rfl) h b
      rw [sx g0 g1] at h
      refine world_block (b := b) (i := i) (x := { x.next g with chans := waitTo g (regs8 (gorAt (x.next g) g).top) (caseList p i) x.chans (caseList p i).length }) h g0 g1 ?_
      clear h; intro M h
      exact ⟨rfl, k _ _ (h.sub (by repeat (first | exact Sub.refl | refine Sub.cons (by first | exact Pick.here | exact (.there .here) | exact (.there (.there .here)) | exact (.there (.there (.there .here))) | exact (.there (.there (.there (.there .here)))) | exact (.there (.there (.there (.there (.there .here))))) | exact (.there (.there (.there (.there (.there (.there .here)))))) | exact (.there (.there (.there (.there (.there (.there (.there .here))))))) | exact (.there (.there (.there (.there (.there (.there (.there (.there .here)))))))) | exact (.there (.there (.there (.there (.there (.there (.there (.there (.there .here))))))))) | exact (.there (.there (.there (.there (.there (.there (.there (.there (.there (.there .here)))))))))) | exact (.there (.there (.there (.there (.there (.there (.there (.there (.there (.there (.there .here))))))))))) | exact (.there (.there (.there (.there (.there (.there (.there (.there (.there (.there (.there (.there .here)))))))))))) | exact (.there (.there (.there (.there (.there (.there (.there (.there (.there (.there (.there (.there (.there .here))))))))))))) | exact (.there (.there (.there (.there (.there (.there (.there (.there (.there (.there (.there (.there (.there (.there .here)))))))))))))) | exact (.there (.there (.there (.there (.there (.there (.there (.there (.there (.there (.there (.there (.there (.there (.there .here)))))))))))))))) ?_ | refine Sub.drop ?_)))⟩
  rw [if_neg hcan] at k hd
  have hcl0 : 0 < (enabled (caseList p i) x.chans).length := by
    cases hh : enabled (caseList p i) x.chans with
    | nil => exact absurd hh hcan
    | cons _ _ => simp
  refine u_bspD (by simp; omega) ?_
  have hdr : M.ld ⟨b, 0 + 14, none⟩ = some dr := by
    obtain ⟨a, hl, h9⟩ := world_open h (b := b)
    exact t_ld h9
  rw [hdr]
  refine u_exV ?_
  have h5 : Hp R (sep [rowI A2 c2 (enabled (caseList p i) x.chans), objP (worldR pa p gg dr) b x, pt k1 [.int .i64 i.op, .int .i64 i.a, .int .i64 i.b, .int .i64 i.c] 31, Q] :: L) M := Hp.sep_iff.2 (h.sub (by repeat (first | exact Sub.refl | refine Sub.cons (by first | exact Pick.here | exact (.there .here) | exact (.there (.there .here)) | exact (.there (.there (.there .here))) | exact (.there (.there (.there (.there .here)))) | exact (.there (.there (.there (.there (.there .here))))) | exact (.there (.there (.there (.there (.there (.there .here)))))) | exact (.there (.there (.there (.there (.there (.there (.there .here))))))) | exact (.there (.there (.there (.there (.there (.there (.there (.there .here)))))))) | exact (.there (.there (.there (.there (.there (.there (.there (.there (.there .here))))))))) | exact (.there (.there (.there (.there (.there (.there (.there (.there (.there (.there .here)))))))))) | exact (.there (.there (.there (.there (.there (.there (.there (.there (.there (.there (.there .here))))))))))) | exact (.there (.there (.there (.there (.there (.there (.there (.there (.there (.there (.there (.there .here)))))))))))) | exact (.there (.there (.there (.there (.there (.there (.there (.there (.there (.there (.there (.there (.there .here))))))))))))) | exact (.there (.there (.there (.there (.there (.there (.there (.there (.there (.there (.there (.there (.there (.there .here)))))))))))))) | exact (.there (.there (.there (.there (.there (.there (.there (.there (.there (.there (.there (.there (.there (.there (.there .here)))))))))))))))) ?_ | refine Sub.drop ?_)))
  refine hd _ _ _ _ h5 ?_
  clear h h5 hdr
  cases d with
  | dry l =>
    dsimp only at k ⊢
    intro M h5
    have h : Hp R (rowI A2 c2 (enabled (caseList p i) x.chans) :: objP (worldR pa p gg dr) b x :: pt k1 [.int .i64 i.op, .int .i64 i.a, .int .i64 i.b, .int .i64 i.c] 31 :: Q :: L2) M := Hp.sep_iff.1 h5
    exact k _ _ (h.sub (by repeat (first | exact Sub.refl | refine Sub.cons (by first | exact Pick.here | exact (.there .here) | exact (.there (.there .here)) | exact (.there (.there (.there .here))) | exact (.there (.there (.there (.there .here)))) | exact (.there (.there (.there (.there (.there .here))))) | exact (.there (.there (.there (.there (.there (.there .here)))))) | exact (.there (.there (.there (.there (.there (.there (.there .here))))))) | exact (.there (.there (.there (.there (.there (.there (.there (.there .here)))))))) | exact (.there (.there (.there (.there (.there (.there (.there (.there (.there .here))))))))) | exact (.there (.there (.there (.there (.there (.there (.there (.there (.there (.there .here)))))))))) | exact (.there (.there (.there (.there (.there (.there (.there (.there (.there (.there (.there .here))))))))))) | exact (.there (.there (.there (.there (.there (.there (.there (.there (.there (.there (.there (.there .here)))))))))))) | exact (.there (.there (.there (.there (.there (.there (.there (.there (.there (.there (.there (.there (.there .here))))))))))))) | exact (.there (.there (.there (.there (.there (.there (.there (.there (.there (.there (.there (.there (.there (.there .here)))))))))))))) | exact (.there (.there (.there (.there (.there (.there (.there (.there (.there (.there (.there (.there (.there (.there (.there .here)))))))))))))))) ?_ | refine Sub.drop ?_)))
  | num v =>
    dsimp only at k ⊢
    intro M h5
    have h : Hp R (rowI A2 c2 (enabled (caseList p i) x.chans) :: objP (worldR pa p gg dr) b x :: pt k1 [.int .i64 i.op, .int .i64 i.a, .int .i64 i.b, .int .i64 i.c] 31 :: Q :: L2) M := Hp.sep_iff.1 h5
    clear h5
    have hk2 : 0 ≤ v ∧ v < (enabled (caseList p i) x.chans).length ∧
        0 ≤ (enabled (caseList p i) x.chans).getD v.toNat 0 ∧ (enabled (caseList p i) x.chans).getD v.toNat 0 < (caseList p i).length ∧ isReg ((caseList p i).getD ((enabled (caseList p i) x.chans).getD v.toNat 0).toNat ⟨0, 0, 0⟩).reg ∧
        if ((caseList p i).getD ((enabled (caseList p i) x.chans).getD v.toNat 0).toNat ⟨0, 0, 0⟩).way = 1 then putOk p (x.next g) ((caseList p i).getD ((enabled (caseList p i) x.chans).getD v.toNat 0).toNat ⟨0, 0, 0⟩).ch (topReg (x.next g) g ((caseList p i).getD ((enabled (caseList p i) x.chans).getD v.toNat 0).toNat ⟨0, 0, 0⟩).reg) ∧
          (match (x.next g).put p ((caseList p i).getD ((enabled (caseList p i) x.chans).getD v.toNat 0).toNat ⟨0, 0, 0⟩).ch (topReg (x.next g) g ((caseList p i).getD ((enabled (caseList p i) x.chans).getD v.toNat 0).toNat ⟨0, 0, 0⟩).reg) with
            | .on (y, _) => gorOk y g ∧ (gorAt y g).fs.length = (gorAt x g).fs.length
            | _ => True)
        else getOk (x.next g) ((caseList p i).getD ((enabled (caseList p i) x.chans).getD v.toNat 0).toNat ⟨0, 0, 0⟩).ch ∧ gorOk ((x.next g).get ((caseList p i).getD ((enabled (caseList p i) x.chans).getD v.toNat 0).toNat ⟨0, 0, 0⟩).ch).1 g ∧ (gorAt ((x.next g).get ((caseList p i).getD ((enabled (caseList p i) x.chans).getD v.toNat 0).toNat ⟨0, 0, 0⟩).ch).1 g).fs.length = (gorAt x g).fs.length := by
      revert hk
      cases hh : enabled (caseList p i) x.chans with
      | nil => exact absurd hh hcan
      | cons a l => exact fun hk => hk
    clear hk hcan hd
    generalize hcane : enabled (caseList p i) x.chans = can at h k hk2 hcl0 ⊢
    obtain ⟨v0, v1, q0, q1, hcr, hk3⟩ := hk2
    refine u_exI ⟨v0, v1, ?_⟩
    obtain ⟨ab, rfl⟩ := h.row_some (A := A2) hcl0 (by decide)
    refine u_nilc ?_
    obtain ⟨q, hq⟩ := idx_ex (l := can) (i := v.toNat) (by omega)
    have hqe : can.getD v.toNat 0 = q := by simp [hq]
    rw [hqe] at k q0 q1 hcr hk3
    refine v_exI (Src.at (h.src (A := some ⟨ab, 0, none⟩)) h (i := v.toNat) (j := 0) hq rfl (by simp [intE])) ?_
    unfold Wd.chooseAt at k
    dsimp only at k
    obtain ⟨cc, hcc⟩ := idx_ex (l := caseList p i) (i := q.toNat) (by omega)
    have hce : (caseList p i).getD q.toNat ⟨0, 0, 0⟩ = cc := by simp [hcc]
    rw [hce] at k hcr hk3
    refine w_ldPc (b := b) h hg hgg rfl ?_
    rw [wrap_succ' hpc0 (by omega)]
    refine w_stPc (b := b) h hg hgg rfl rfl ?_
    clear h; intro M h
    have hg1 := gorOk_next hg
    have hf1 := fl_next hg
    have hs1 : (x.next g).Sm := Sm_next hs
    generalize hx1 : x.next g = x1 at h k hk3 hg1 hf1 hs1
    refine ⟨q0, q1, ?_⟩
    obtain ⟨cb, co, rfl⟩ := hA.some (by omega) (by decide)
    refine u_nilc ?_
    refine v_exI (Src.at (hA.src (L := _)) h (i := q.toNat) (j := 0) hcc rfl (by simp [casE])) ?_
    refine v_exI (Src.at (hA.src (L := _)) h (i := q.toNat) (j := 1) hcc rfl (by show _ = co + (_ * 3 + 1); omega)) ?_
    refine v_exI (Src.at (hA.src (L := _)) h (i := q.toNat) (j := 2) hcc rfl (by show _ = co + (_ * 3 + 2); omega)) ?_
    refine s_nwc h ?_
    clear h; intro kc M h
    refine s_stc h ?_
    clear h; intro M h
    refine s_stc h ?_
    clear h; intro M h
    refine s_stc h ?_
    clear h; intro M h
    refine t_exI h ?_
    refine bsp_eq.2 ⟨fun e1 => ?_, fun e1 => ?_⟩
    · rw [if_pos e1] at k hk3
      obtain ⟨hput, hy⟩ := hk3
      refine t_exI h (t_exI h ⟨hcr.1, hcr.2, ?_⟩)
      refine w_reg (b := b) h hg1 hgg hcr (by rw [hf1]) ?_
      refine world_put (b := b) h hp.cases hput hs1 ?_ ?_
      · clear h
        intro y ok M e h
        rw [e] at k hy
        dsimp only at k hy
        refine u_exB ?_
        refine t_exI h ⟨hic.1, hic.2, ?_⟩
        refine w_stReg (b := b) h hy.1 hgg hic (by rw [hy.2]) ?_
        clear h; intro M h
        exact k _ _ (h.sub (by repeat (first | exact Sub.refl | refine Sub.cons (by first | exact Pick.here | exact (.there .here) | exact (.there (.there .here)) | exact (.there (.there (.there .here))) | exact (.there (.there (.there (.there .here)))) | exact (.there (.there (.there (.there (.there .here))))) | exact (.there (.there (.there (.there (.there (.there .here)))))) | exact (.there (.there (.there (.there (.there (.there (.there .here))))))) | exact (.there (.there (.there (.there (.there (.there (.there (.there .here)))))))) | exact (.there (.there (.there (.there (.there (.there (.there (.there (.there .here))))))))) | exact (.there (.there (.there (.there (.there (.there (.there (.there (.there (.there .here)))))))))) | exact (.there (.there (.there (.there (.there (.there (.there (.there (.there (.there (.there .here))))))))))) | exact (.there (.there (.there (.there (.there (.there (.there (.there (.there (.there (.there (.there .here)))))))))))) | exact (.there (.there (.there (.there (.there (.there (.there (.there (.there (.there (.there (.there (.there .here))))))))))))) | exact (.there (.there (.there (.there (.there (.there (.there (.there (.there (.there (.there (.there (.there (.there .here)))))))))))))) | exact (.there (.there (.there (.there (.there (.there (.there (.there (.there (.there (.there (.there (.there (.there (.there .here)))))))))))))))) ?_ | refine Sub.drop ?_)))
      · clear h
        intro y n M e h
        rw [e] at k
        exact k _ _ (h.sub (by repeat (first | exact Sub.refl | refine Sub.cons (by first | exact Pick.here | exact (.there .here) | exact (.there (.there .here)) | exact (.there (.there (.there .here))) | exact (.there (.there (.there (.there .here)))) | exact (.there (.there (.there (.there (.there .here))))) | exact (.there (.there (.there (.there (.there (.there .here)))))) | exact (.there (.there (.there (.there (.there (.there (.there .here))))))) | exact (.there (.there (.there (.there (.there (.there (.there (.there .here)))))))) | exact (.there (.there (.there (.there (.there (.there (.there (.there (.there .here))))))))) | exact (.there (.there (.there (.there (.there (.there (.there (.there (.there (.there .here)))))))))) | exact (.there (.there (.there (.there (.there (.there (.there (.there (.there (.there (.there .here))))))))))) | exact (.there (.there (.there (.there (.there (.there (.there (.there (.there (.there (.there (.there .here)))))))))))) | exact (.there (.there (.there (.there (.there (.there (.there (.there (.there (.there (.there (.there (.there .here))))))))))))) | exact (.there (.there (.there (.there (.there (.there (.there (.there (.there (.there (.there (.there (.there (.there .here)))))))))))))) | exact (.there (.there (.there (.there (.there (.there (.there (.there (.there (.there (.there (.there (.there (.there (.there .here)))))))))))))))) ?_ | refine Sub.drop ?_)))
    · rw [if_neg e1] at k hk3
      obtain ⟨hget, hgy, hfl⟩ := hk3
      refine t_exI h (t_exI h ?_)
      refine world_get (b := b) h hget hs1 ?_
      clear h; intro M h
      generalize x1.get cc.ch = r at h k hgy hfl
      obtain ⟨y, w, sm, ok⟩ := r
      dsimp only at h k hgy hfl ⊢
      refine ⟨_, _, _, rfl, t_ld h, hcr.1, hcr.2, ?_⟩
      refine w_stReg (b := b) h hgy hgg hcr (by rw [hfl]) ?_
      clear h; intro M h
      refine ⟨t_ld h, t_exI h ⟨hic.1, hic.2, ?_⟩⟩
      refine w_stReg (b := b) h (gorOk_putReg hgy) hgg hic (by rw [fl_putReg hgy, hfl]) ?_
      clear h; intro M h
      exact k _ _ (h.sub (by repeat (first | exact Sub.refl | refine Sub.cons (by first | exact Pick.here | exact (.there .here) | exact (.there (.there .here)) | exact (.there (.there (.there .here))) | exact (.there (.there (.there (.there .here)))) | exact (.there (.there (.there (.there (.there .here))))) | exact (.there (.there (.there (.there (.there (.there .here)))))) | exact (.there (.there (.there (.there (.there (.there (.there .here))))))) | exact (.there (.there (.there (.there (.there (.there (.there (.there .here)))))))) | exact (.there (.there (.there (.there (.there (.there (.there (.there (.there .here))))))))) | exact (.there (.there (.there (.there (.there (.there (.there (.there (.there (.there .here)))))))))) | exact (.there (.there (.there (.there (.there (.there (.there (.there (.there (.there (.there .here))))))))))) | exact (.there (.there (.there (.there (.there (.there (.there (.there (.there (.there (.there (.there .here)))))))))))) | exact (.there (.there (.there (.there (.there (.there (.there (.there (.there (.there (.there (.there (.there .here))))))))))))) | exact (.there (.there (.there (.there (.there (.there (.there (.there (.there (.there (.there (.there (.there (.there .here)))))))))))))) | exact (.there (.there (.there (.there (.there (.there (.there (.there (.there (.there (.there (.there (.there (.there (.there .here)))))))))))))))) ?_ | refine Sub.drop ?_)))
end
end Go.Proofs

namespace Go.Proofs
open Go.AF
set_option linter.unusedVariables false
set_option maxRecDepth 100000
set_option maxHeartbeats 1000000
attribute [local irreducible] exI exB exS exP exSl exV nilc stc nwc semK semU bsp
def HItem.before (a b : HItem) : Bool := decide (a.t < b.t) || (a.t == b.t && decide (a.seq < b.seq))
def hAt (l : List HItem) (i : Nat) : HItem := l.getD i ⟨0, 0, 0⟩
def hSwap (l : List HItem) (i j : Nat) : List HItem := (l.set i (hAt l j)).set j (hAt l i)
def hUp : Nat → Nat → List HItem → List HItem
  | 0, _, l => l
  | f + 1, i, l => if 0 < i ∧ (hAt l i).before (hAt l ((i - 1) / 4)) = true then hUp f ((i - 1) / 4) (hSwap l i ((i - 1) / 4)) else l
def hLeastFrom (l : List HItem) : Nat → Nat → Nat → Nat
  | 0, _, out => out
  | n + 1, k, out => if k < l.length then hLeastFrom l n (k + 1) (if (hAt l k).before (hAt l out) then k else out) else out
def hLeast (l : List HItem) (i : Nat) : Nat := hLeastFrom l 4 (4 * i + 1) i
def hDown : Nat → Nat → List HItem → List HItem
  | 0, _, l => l
  | f + 1, i, l => if hLeast l i = i then l else hDown f (hLeast l i) (hSwap l i (hLeast l i))
def hPush (l : List HItem) (x : HItem) : List HItem := hUp l.length l.length (l ++ [x])
def hRemove (l : List HItem) (i : Nat) : List HItem :=
  if i < l.length - 1 then hUp i i (hDown l.length i ((hSwap l i (l.length - 1)).take (l.length - 1))) else (hSwap l i (l.length - 1)).take (l.length - 1)
/-- Those left, those that wake. -/
def hWake : Nat → List HItem → Int → List HItem × List HItem
  | 0, l, _ => (l, [])
  | f + 1, l, now => if 0 < l.length ∧ (hAt l 0).t ≤ now then ((hWake f (hRemove l 0) now).1, hAt l 0 :: (hWake f (hRemove l 0) now).2) else (l, [])
def hSorted : Nat → List HItem → List HItem
  | 0, _ => []
  | f + 1, l => if 0 < l.length then hAt l 0 :: hSorted f (hRemove l 0) else []
theorem hUp_succ {f i : Nat} {l : List HItem} : hUp (f + 1) i l = if 0 < i ∧ (hAt l i).before (hAt l ((i - 1) / 4)) = true then hUp f ((i - 1) / 4) (hSwap l i ((i - 1) / 4)) else l := rfl
theorem hSwap_len {l : List HItem} {i j : Nat} : (hSwap l i j).length = l.length := by simp [hSwap]
theorem hUp_len : ∀ {f i : Nat} {l : List HItem}, (hUp f i l).length = l.length
  | 0, _, _ => rfl
  | f + 1, i, l => by unfold hUp; split; rw [hUp_len, hSwap_len]; rfl
theorem hPush_len {l : List HItem} {x : HItem} : (hPush l x).length = l.length + 1 := by unfold hPush; rw [hUp_len]; simp
theorem hAt_of {l : List HItem} {i : Nat} (h : i < l.length) : l[i]? = some (hAt l i) := by
  unfold hAt; rw [List.getD_eq_getElem?_getD, List.getElem?_eq_getElem h]; rfl
/-- A heap's head stands at b, o. -/
structure Hdr (b o : Nat) (P : Option Addr → Nat → Nat → Int → HP) : Prop where
  ldS : ∀ (R : Mem) (L : List HP) (M : Mem) (A : Option Addr) (n c : Nat) (s : Int), Hp R (P A n c s :: L) M → M.ld ⟨b, o, none⟩ = some (.slice A n c)
  ldI : ∀ (R : Mem) (L : List HP) (M : Mem) (A : Option Addr) (n c : Nat) (s : Int), Hp R (P A n c s :: L) M → M.ld ⟨b, o + 1, none⟩ = some (.int .u64 s)
  stS : ∀ (R : Mem) (L : List HP) (M : Mem) (A A' : Option Addr) (n c n' c' : Nat) (s : Int) (G : Mem → Prop), Hp R (P A n c s :: L) M → (∀ M', Hp R (P A' n' c' s :: L) M' → G M') → stc M ⟨b, o, none⟩ (.slice A' n' c') G
  stI : ∀ (R : Mem) (L : List HP) (M : Mem) (A : Option Addr) (n c : Nat) (s s' : Int) (G : Mem → Prop), Hp R (P A n c s :: L) M → (∀ M', Hp R (P A n c s' :: L) M' → G M') → stc M ⟨b, o + 1, none⟩ (.int .u64 s') G
theorem el_item : ElemOk Try.prog 62 86 3 24 [.int .u64 0, .int .u64 0, .int .i64 0] := ElemOk.mk' (zv := .agg #[.int .u64 0, .int .u64 0, .int .i64 0]) (by kernel_rfl) (by kernel_rfl) rfl (by omega)
section
variable {R : Mem} {L L' : List HP} {M : Mem} {K : Value → Mem → Prop} {Kp : List PanicEntry → Mem → Prop} {b o : Nat} {P : Option Addr → Nat → Nat → Int → HP} {A : Option Addr} {c : Nat} {s : Int} {l : List HItem} {i j : Nat}
theorem ld_item {q o0 o1 o2 o3 : Nat} {x : HItem} {G : Int → Int → Int → Prop} (h : Hp R L M) (hs : Src R L (some ⟨q, o0, none⟩) (itemE.cells l)) (hi : l[i]? = some x) (e1 : o1 = o0 + i * 3) (e2 : o2 = o0 + i * 3 + 1) (e3 : o3 = o0 + i * 3 + 2) (g : G x.t x.seq x.id) :
    exI (M.ld ⟨q, o1, none⟩) .u64 fun a => exI (M.ld ⟨q, o2, none⟩) .u64 fun b => exI (M.ld ⟨q, o3, none⟩) .i64 fun d => G a b d := by
  refine v_exI (Src.at hs h (i := i) (j := 0) hi rfl (by rw [e1]; rfl)) ?_
  refine v_exI (Src.at hs h (i := i) (j := 1) hi rfl (by rw [e2]; show _ = o0 + (i * 3 + 1); omega)) ?_
  exact v_exI (Src.at hs h (i := i) (j := 2) hi rfl (by rw [e3]; show _ = o0 + (i * 3 + 2); omega)) g
theorem st_item {q o1 o2 o3 : Nat} {x y : HItem} {G : Mem → Prop} (h : Hp R L M) [r : RowAt (some ⟨q, 0, none⟩) L HItem itemE 86 c l L'] (hi : l[i]? = some x) (e1 : o1 = i * 3) (e2 : o2 = i * 3 + 1) (e3 : o3 = i * 3 + 2)
    (k : ∀ M', Hp R (rowH (some ⟨q, 0, none⟩) c (l.set i y) :: L') M' → G M') :
    stc M ⟨q, o1, none⟩ (.int .u64 y.t) fun M1 => stc M1 ⟨q, o2, none⟩ (.int .u64 y.seq) fun M2 => stc M2 ⟨q, o3, none⟩ (.int .i64 y.id) G := by
  have hl := (List.getElem?_eq_some_iff.1 hi).1
  refine s_row (E := itemE) (a := x) (a' := ⟨y.t, x.seq, x.id⟩) i 0 h hi (by decide) rfl e1 ?_
  clear h; intro M h
  refine s_row (E := itemE) (a := ⟨y.t, x.seq, x.id⟩) (a' := ⟨y.t, y.seq, x.id⟩) i 1 h (by simp [hl]) (by decide) rfl e2 ?_
  clear h; intro M h
  refine s_row (E := itemE) (a := ⟨y.t, y.seq, x.id⟩) (a' := y) i 2 h (by simp [hl]) (by decide) rfl e3 ?_
  clear h; intro M h
  rw [set_set', set_set'] at h
  exact k _ h
theorem heap_before {x y : HItem} (h : Hp R L M) (k : ∀ M', Hp R L M' → K (.bool (x.before y)) M') : ACalls Try.prog 83 #[.agg #[.int .u64 x.t, .int .u64 x.seq, .int .i64 x.id], .agg #[.int .u64 y.t, .int .u64 y.seq, .int .i64 y.id]] M K Kp := by
  refine vc_heap_before ?_
  repeat (first | (refine s_nwc h ?_; clear h; intro kb M h) | (refine s_stc h ?_; clear h; intro M h) | refine t_exI h ?_ | refine t_exB h ?_ | refine t_exS h ?_ | refine t_exP h ?_ | refine t_exSl h ?_ | refine t_exV h ?_ | refine u_exI ?_ | refine u_exB ?_ | refine u_exS ?_ | refine u_exP ?_ | refine u_exSl ?_ | refine u_exV ?_ | refine u_nilc ?_ | (apply Exists.intro; (repeat apply Exists.intro); refine And.intro rfl ?_) | (refine And.intro ?_ ?_; first | exact trivial | exact rfl | exact t_ld h | (refine lds_s (t_ld h) ?_; (repeat (refine lds_s (t_ld h) ?_)); exact lds_nil) | omega) | refine u_bspT ?_ | refine u_bspF ?_)
  unfold HItem.before at k
  refine bsp_dec.2 ⟨fun h1 => ?_, fun h1 => ?_⟩
  · have := k _ h.fin0
    rwa [decide_eq_true h1, Bool.true_or] at this
  · repeat (first | (refine s_nwc h ?_; clear h; intro kb M h) | (refine s_stc h ?_; clear h; intro M h) | refine t_exI h ?_ | refine t_exB h ?_ | refine t_exS h ?_ | refine t_exP h ?_ | refine t_exSl h ?_ | refine t_exV h ?_ | refine u_exI ?_ | refine u_exB ?_ | refine u_exS ?_ | refine u_exP ?_ | refine u_exSl ?_ | refine u_exV ?_ | refine u_nilc ?_ | (apply Exists.intro; (repeat apply Exists.intro); refine And.intro rfl ?_) | (refine And.intro ?_ ?_; first | exact trivial | exact rfl | exact t_ld h | (refine lds_s (t_ld h) ?_; (repeat (refine lds_s (t_ld h) ?_)); exact lds_nil) | omega) | refine u_bspT ?_ | refine u_bspF ?_)
    refine bsp_eq.2 ⟨fun h2 => ?_, fun h2 => ?_⟩
    · repeat (first | (refine s_nwc h ?_; clear h; intro kb M h) | (refine s_stc h ?_; clear h; intro M h) | refine t_exI h ?_ | refine t_exB h ?_ | refine t_exS h ?_ | refine t_exP h ?_ | refine t_exSl h ?_ | refine t_exV h ?_ | refine u_exI ?_ | refine u_exB ?_ | refine u_exS ?_ | refine u_exP ?_ | refine u_exSl ?_ | refine u_exV ?_ | refine u_nilc ?_ | (apply Exists.intro; (repeat apply Exists.intro); refine And.intro rfl ?_) | (refine And.intro ?_ ?_; first | exact trivial | exact rfl | exact t_ld h | (refine lds_s (t_ld h) ?_; (repeat (refine lds_s (t_ld h) ?_)); exact lds_nil) | omega) | refine u_bspT ?_ | refine u_bspF ?_)
      have := k _ h.fin0
      rwa [decide_eq_false h1, Bool.false_or, beq_iff_eq.2 h2, Bool.true_and] at this
    · have := k _ h.fin0
      rwa [decide_eq_false h1, Bool.false_or, show (x.t == y.t) = false from by simpa using h2, Bool.false_and] at this
theorem heap_swap (D : Hdr b o P) (h : Hp R (P A l.length c s :: rowH A c l :: L) M) (hi : i < l.length) (hj : j < l.length)
    (k : ∀ M', Hp R (P A l.length c s :: rowH A c (hSwap l i j) :: L) M' → K (.tuple #[]) M') : ACalls Try.prog 57 #[.pointer (some ⟨b, o, none⟩), .int .i64 (i : Int), .int .i64 (j : Int)] M K Kp := by
  refine vc_heap_Heap_swap ?_
  obtain ⟨q, rfl⟩ := h.row_some (A := A) (by omega) (by decide)
  have hs := h.src (A := some ⟨q, 0, none⟩)
  rw [D.ldS _ _ _ _ _ _ _ h]
  refine u_exSl (u_exSl (u_exSl ⟨by omega, by omega, u_nilc ?_⟩))
  refine ld_item h hs (hAt_of hj) (by simp) (by simp) (by simp) ?_
  refine u_exSl ⟨by omega, by omega, u_nilc ?_⟩
  refine ld_item h hs (hAt_of hi) (by simp) (by simp) (by simp) ?_
  clear hs
  refine ⟨by omega, by omega, u_nilc ?_⟩
  refine st_item (y := hAt l j) h (hAt_of hi) (by simp) (by simp) (by simp) ?_
  clear h; intro M h
  refine ⟨by omega, by omega, u_nilc ?_⟩
  have hj2 : (l.set i (hAt l j))[j]? = some (hAt l j) := by
    rw [List.getElem?_set]
    split
    · rfl
    · exact hAt_of hj
  refine st_item (y := hAt l i) h hj2 (by simp) (by simp) (by simp) ?_
  clear h; intro M h
  exact k _ (h.sub (by repeat (first | exact Sub.refl | refine Sub.cons (by first | exact Pick.here | exact (.there .here) | exact (.there (.there .here)) | exact (.there (.there (.there .here))) | exact (.there (.there (.there (.there .here)))) | exact (.there (.there (.there (.there (.there .here))))) | exact (.there (.there (.there (.there (.there (.there .here)))))) | exact (.there (.there (.there (.there (.there (.there (.there .here))))))) | exact (.there (.there (.there (.there (.there (.there (.there (.there .here)))))))) | exact (.there (.there (.there (.there (.there (.there (.there (.there (.there .here))))))))) | exact (.there (.there (.there (.there (.there (.there (.there (.there (.there (.there .here)))))))))) | exact (.there (.there (.there (.there (.there (.there (.there (.there (.there (.there (.there .here))))))))))) | exact (.there (.there (.there (.there (.there (.there (.there (.there (.there (.there (.there (.there .here)))))))))))) | exact (.there (.there (.there (.there (.there (.there (.there (.there (.there (.there (.there (.there (.there .here))))))))))))) | exact (.there (.there (.there (.there (.there (.there (.there (.there (.there (.there (.there (.there (.there (.there .here)))))))))))))) | exact (.there (.there (.there (.there (.there (.there (.there (.there (.there (.there (.there (.there (.there (.there (.there .here)))))))))))))))) ?_ | refine Sub.drop ?_)))
theorem heap_up (D : Hdr b o P) {f : Nat} (h : Hp R (P A l.length c s :: rowH A c l :: L) M) (hi : i < l.length) (hl : l.length ≤ 1000000) (hf : i ≤ f)
    (k : ∀ M', Hp R (P A l.length c s :: rowH A c (hUp f i l) :: L) M' → K (.tuple #[]) M') : ACalls Try.prog 59 #[.pointer (some ⟨b, o, none⟩), .int .i64 (i : Int)] M K Kp := by
  refine vc_heap_Heap_up ?_
  refine ⟨fun d vs M => ∃ (f' i' : Nat) (l' : List HItem), vs = [.int .i64 (i' : Int)] ∧ d = i' ∧ i' < l.length ∧ l'.length = l.length ∧ i' ≤ f' ∧ hUp f' i' l' = hUp f i l ∧ Hp R (P A l.length c s :: rowH A c l' :: L) M,
    ⟨_, f, i, l, rfl, rfl, hi, rfl, hf, rfl, h⟩, ?_⟩
  clear h
  rintro d _ n5 M ⟨f', i', l', he, hd, hi', hl', hf', hfe, h⟩
  simp only [List.cons.injEq, Value.int.injEq, and_true, true_and] at he
  subst he
  refine bsp_dec.2 ⟨fun hgt => ?_, fun hle => ?_⟩
  · obtain ⟨g, rfl⟩ : ∃ g, f' = g + 1 := ⟨f' - 1, by omega⟩
    rw [hUp_succ] at hfe
    have ep : IntKind.wrap .i64 (Int.tdiv (IntKind.wrap .i64 ((i' : Int) - 1)) 4) = (((i' - 1) / 4 : Nat) : Int) := by
      rw [wrap_id (z := (i' : Int) - 1) (by omega) (by omega), show ((i' : Int) - 1) = ((i' - 1 : Nat) : Int) from by omega, show (4 : Int) = ((4 : Nat) : Int) from rfl, ← Int.ofNat_tdiv, wrap_id (by omega) (by omega)]
    have hp : (i' - 1) / 4 < i' := by omega
    generalize hpe : (i' - 1) / 4 = p at ep hfe hp
    rw [ep, D.ldS _ _ _ _ _ _ _ h]
    obtain ⟨q, rfl⟩ := h.row_some (A := A) (by omega) (by decide)
    have hs := h.src (A := some ⟨q, 0, none⟩)
    refine ⟨by omega, u_exSl ⟨by omega, by omega, u_nilc ?_⟩⟩
    refine ld_item h hs (hAt_of (i := i') (by omega)) (by simp) (by simp) (by simp) ?_
    refine u_exSl ⟨by omega, by omega, u_nilc ?_⟩
    refine ld_item h hs (hAt_of (i := p) (by omega)) (by simp) (by simp) (by simp) ?_
    refine heap_before h ?_
    clear h hs; intro M h
    refine u_exB ?_
    cases hb : (hAt l' i').before (hAt l' p) with
    | true =>
      rw [if_pos ⟨by omega, hb⟩] at hfe
      refine u_bspT ⟨by omega, ?_⟩
      rw [← hl'] at h
      refine heap_swap D h (i := i') (j := p) (by omega) (by omega) ?_
      clear h; intro M h
      rw [hl'] at h
      exact ⟨rfl, by omega, p, by omega, g, p, _, rfl, rfl, by omega, by rw [hSwap_len]; exact hl', by omega, hfe, h⟩
    | false =>
      rw [if_neg (by rintro ⟨_, h2⟩; rw [hb] at h2; cases h2)] at hfe
      refine u_bspF ?_
      subst hfe
      exact k _ h
  · have : hUp f' i' l' = l' := by
      have h0 : i' = 0 := by omega
      subst h0
      cases f' with
      | zero => rfl
      | succ g => rw [hUp_succ]; rw [if_neg (by omega)]
    rw [this] at hfe
    subst hfe
    exact k _ h
theorem heap_Push (D : Hdr b o P) {t id : Int} (h : Hp R (P A l.length c s :: rowH A c l :: L) M) (hl : l.length < 1000000)
    (k : ∀ v A' c' M', Hp R (P A' (l.length + 1) c' (IntKind.wrap .u64 (s + 1)) :: rowH A' c' (hPush l ⟨t, s, id⟩) :: L) M' → K (.int .u64 v) M') : ACalls Try.prog 79 #[.pointer (some ⟨b, o, none⟩), .int .u64 t, .int .i64 id] M K Kp := by
  refine vc_heap_Heap_Push ?_
  rw [D.ldS _ _ _ _ _ _ _ h, D.ldI _ _ _ _ _ _ _ h]
  refine u_exSl (u_exI ?_)
  refine s_nwc h ?_
  clear h; intro kb M h
  replace h : Hp R (P A l.length c s :: rowH A c l :: pt kb [.int .u64 t, .int .u64 s, .int .i64 id] 86 :: L) M := h.sub (by repeat (first | exact Sub.refl | refine Sub.cons (by first | exact Pick.here | exact (.there .here) | exact (.there (.there .here)) | exact (.there (.there (.there .here))) | exact (.there (.there (.there (.there .here)))) | exact (.there (.there (.there (.there (.there .here))))) | exact (.there (.there (.there (.there (.there (.there .here)))))) | exact (.there (.there (.there (.there (.there (.there (.there .here))))))) | exact (.there (.there (.there (.there (.there (.there (.there (.there .here)))))))) | exact (.there (.there (.there (.there (.there (.there (.there (.there (.there .here))))))))) | exact (.there (.there (.there (.there (.there (.there (.there (.there (.there (.there .here)))))))))) | exact (.there (.there (.there (.there (.there (.there (.there (.there (.there (.there (.there .here))))))))))) | exact (.there (.there (.there (.there (.there (.there (.there (.there (.there (.there (.there (.there .here)))))))))))) | exact (.there (.there (.there (.there (.there (.there (.there (.there (.there (.there (.there (.there (.there .here))))))))))))) | exact (.there (.there (.there (.there (.there (.there (.there (.there (.there (.there (.there (.there (.there (.there .here)))))))))))))) | exact (.there (.there (.there (.there (.there (.there (.there (.there (.there (.there (.there (.there (.there (.there (.there .here)))))))))))))))) ?_ | refine Sub.drop ?_))
  refine h.rowAppend1 (A := A) el_item [(⟨t, s, id⟩ : HItem)] rfl rfl (by simp only [List.length_singleton]; omega) ?_
  clear h; intro A' c' M h
  refine u_exSl ?_
  have hlen : (l ++ [(⟨t, s, id⟩ : HItem)]).length = l.length + 1 := by simp
  refine D.stS _ _ _ _ _ _ _ _ _ _ _ h.swap ?_
  clear h; intro M h
  rw [D.ldI _ _ _ _ _ _ _ h]
  refine u_exI ?_
  refine D.stI _ _ _ _ _ _ _ _ _ h ?_
  clear h; intro M h
  rw [D.ldS _ _ _ _ _ _ _ h]
  refine u_exSl ?_
  have e : IntKind.wrap .i64 (((l ++ [(⟨t, s, id⟩ : HItem)]).length : Int) - 1) = ((l.length : Nat) : Int) := by
    rw [wrap_id (by omega) (by omega)]; omega
  rw [e]
  refine heap_up D (f := l.length) h (by omega) (by omega) (Nat.le_refl _) ?_
  clear h; intro M h
  refine ⟨rfl, ?_⟩
  rw [D.ldI _ _ _ _ _ _ _ h]
  refine u_exI ?_
  rw [hlen] at h
  exact k _ _ _ _ h
end
end Go.Proofs

namespace Go.Proofs
open Go.AF
set_option linter.unusedVariables false
set_option maxRecDepth 100000
set_option maxHeartbeats 1000000
attribute [local irreducible] exI exB exS exP exSl exV nilc stc nwc semK semU bsp
def lkAt (x : Wd) (k : Int) : Lk := x.locks.getD k.toNat ⟨-1, []⟩
def Wd.putLk (x : Wd) (k : Int) (c : Lk) : Wd := { x with locks := x.locks.set k.toNat c }
def Wd.lock (x : Wd) (g : Int) (i : Ins) : Wd := if ((lkAt x i.a).take g).2 then x.putLk i.a ((lkAt x i.a).take g).1 else (x.putLk i.a ((lkAt x i.a).take g).1).block g i
def Wd.unlock (x : Wd) (g : Int) (i : Ins) : Out Wd :=
  if ((lkAt x i.a).give g).2.2 ≠ 0 then .trap (-3) (x.putLk i.a ((lkAt x i.a).give g).1)
  else if ((lkAt x i.a).give g).2.1 ≠ -1 then .on ((x.putLk i.a ((lkAt x i.a).give g).1).wake ((lkAt x i.a).give g).2.1) else .on (x.putLk i.a ((lkAt x i.a).give g).1)
def lkOk (x : Wd) (k : Int) : Prop := 0 ≤ k ∧ k < x.locks.length
instance (x : Wd) (k : Int) : Decidable (lkOk x k) := by unfold lkOk; infer_instance
def unlockOk (x : Wd) (g : Int) (i : Ins) : Prop := lkOk x i.a ∧ (((lkAt x i.a).give g).2.1 ≠ -1 → 0 ≤ ((lkAt x i.a).give g).2.1 ∧ ((lkAt x i.a).give g).2.1 < x.gs.length)
instance (x : Wd) (g : Int) (i : Ins) : Decidable (unlockOk x g i) := by unfold unlockOk; infer_instance
def Wd.rand (x : Wd) (g : Int) (i : Ins) : Drawn → Out Wd
  | .num d => .on ((x.next g).putReg g i.a d)
  | .dry l => .dry l x
def sleepN (x : Wd) (g : Int) (i : Ins) : Int := if 1048576 < topReg x g i.a then 1048576 else topReg x g i.a
def Wd.sleep (x : Wd) (g : Int) (i : Ins) : Wd :=
  if 0 < sleepN x g i then { x.putG g { gorAt x g with st := 3 } with hl := hPush x.hl ⟨IntKind.wrap .u64 (x.clock + IntKind.wrap .u64 (sleepN x g i)), x.hseq, g⟩, hseq := IntKind.wrap .u64 (x.hseq + 1) } else x
def Wd.tick (x : Wd) : Wd := if x.end_ ≠ 0 then { x with ready := [] } else
  let r := hWake x.hl.length x.hl (IntKind.wrap .u64 (x.clock + 1))
  (r.2.map (·.id)).foldl Wd.wake { x with clock := IntKind.wrap .u64 (x.clock + 1), hl := r.1, ready := [] }
section
variable {R : Mem} {L L' L2 : List HP} {M : Mem} {K : Value → Mem → Prop} {Kp : List PanicEntry → Mem → Prop} {pa : PA} {p : Prg} {gg : List GA} {dr : Value} {b : Nat} {x : Wd} {g : Int} {i : Ins}
theorem op_call (hg : gorOk x g) (hb : isReg i.b) : OpSpec R pa p dr 45 x g i (x.call g i) L L := by
  intro gg b bs c M K Kp Q h hgg k
  refine vc_world_World_call ?_
  have hg' := hg
  obtain ⟨h0, h1, h2, h3⟩ := hg'
  unfold Wd.call at k
  refine s_nwc h ?_
  clear h
  intro kb M h
  have hC := h
  have h' := world_at2 h (b := b) h0 h1 hgg
  clear h
  obtain ⟨a, gb, hl, hgb, h⟩ := h'
  have hl' := hl
  obtain ⟨l1, l2, l3, l4⟩ := hl'
  repeat (first | (refine s_nwc h ?_; clear h; intro kb M h) | (refine s_stc h ?_; clear h; intro M h) | refine t_exI h ?_ | refine t_exB h ?_ | refine t_exS h ?_ | refine t_exP h ?_ | refine t_exSl h ?_ | refine t_exV h ?_ | refine u_exI ?_ | refine u_exB ?_ | refine u_exS ?_ | refine u_exP ?_ | refine u_exSl ?_ | refine u_exV ?_ | refine u_nilc ?_ | (apply Exists.intro; (repeat apply Exists.intro); refine And.intro rfl ?_) | (refine And.intro ?_ ?_; first | exact trivial | exact rfl | exact t_ld h | (refine lds_s (t_ld h) ?_; (repeat (refine lds_s (t_ld h) ?_)); exact lds_nil) | omega) | refine u_bspT ?_ | refine u_bspF ?_)
  refine w_g h hgb fun q hq => ?_
  repeat (first | (refine s_nwc h ?_; clear h; intro kb M h) | (refine s_stc h ?_; clear h; intro M h) | refine t_exI h ?_ | refine t_exB h ?_ | refine t_exS h ?_ | refine t_exP h ?_ | refine t_exSl h ?_ | refine t_exV h ?_ | refine u_exI ?_ | refine u_exB ?_ | refine u_exS ?_ | refine u_exP ?_ | refine u_exSl ?_ | refine u_exV ?_ | refine u_nilc ?_ | (apply Exists.intro; (repeat apply Exists.intro); refine And.intro rfl ?_) | (refine And.intro ?_ ?_; first | exact trivial | exact rfl | exact t_ld h | (refine lds_s (t_ld h) ?_; (repeat (refine lds_s (t_ld h) ?_)); exact lds_nil) | omega) | refine u_bspT ?_ | refine u_bspF ?_)
  refine ⟨hb.1, hb.2, f_ld h (gor_top h2) hb rfl ?_⟩
  repeat (first | (refine s_nwc h ?_; clear h; intro kb M h) | (refine s_stc h ?_; clear h; intro M h) | refine t_exI h ?_ | refine t_exB h ?_ | refine t_exS h ?_ | refine t_exP h ?_ | refine t_exSl h ?_ | refine t_exV h ?_ | refine u_exI ?_ | refine u_exB ?_ | refine u_exS ?_ | refine u_exP ?_ | refine u_exSl ?_ | refine u_exV ?_ | refine u_nilc ?_ | (apply Exists.intro; (repeat apply Exists.intro); refine And.intro rfl ?_) | (refine And.intro ?_ ?_; first | exact trivial | exact rfl | exact t_ld h | (refine lds_s (t_ld h) ?_; (repeat (refine lds_s (t_ld h) ?_)); exact lds_nil) | omega) | refine u_bspT ?_ | refine u_bspF ?_)
  refine frame_Call h h2 ?_ ?_
  · intro h16
    rw [if_pos (by omega)] at k
    refine ⟨_, _, _, _, rfl, u_bspT ?_⟩
    exact k _ _ (hC.sub (by repeat (first | exact Sub.refl | refine Sub.cons (by first | exact Pick.here | exact (.there .here) | exact (.there (.there .here)) | exact (.there (.there (.there .here))) | exact (.there (.there (.there (.there .here)))) | exact (.there (.there (.there (.there (.there .here))))) | exact (.there (.there (.there (.there (.there (.there .here)))))) | exact (.there (.there (.there (.there (.there (.there (.there .here))))))) | exact (.there (.there (.there (.there (.there (.there (.there (.there .here)))))))) | exact (.there (.there (.there (.there (.there (.there (.there (.there (.there .here))))))))) | exact (.there (.there (.there (.there (.there (.there (.there (.there (.there (.there .here)))))))))) | exact (.there (.there (.there (.there (.there (.there (.there (.there (.there (.there (.there .here))))))))))) | exact (.there (.there (.there (.there (.there (.there (.there (.there (.there (.there (.there (.there .here)))))))))))) | exact (.there (.there (.there (.there (.there (.there (.there (.there (.there (.there (.there (.there (.there .here))))))))))))) | exact (.there (.there (.there (.there (.there (.there (.there (.there (.there (.there (.there (.there (.there (.there .here)))))))))))))) | exact (.there (.there (.there (.there (.there (.there (.there (.there (.there (.there (.there (.there (.there (.there (.there .here)))))))))))))))) ?_ | refine Sub.drop ?_)))
  · intro hlt b' c' M' h'
    clear h hC
    have h := h'
    clear h'
    rw [if_neg (by omega)] at k
    refine ⟨_, _, _, _, rfl, u_bspF ?_⟩
    repeat (first | (refine s_nwc h ?_; clear h; intro kb M h) | (refine s_stc h ?_; clear h; intro M h) | refine t_exI h ?_ | refine t_exB h ?_ | refine t_exS h ?_ | refine t_exP h ?_ | refine t_exSl h ?_ | refine t_exV h ?_ | refine u_exI ?_ | refine u_exB ?_ | refine u_exS ?_ | refine u_exP ?_ | refine u_exSl ?_ | refine u_exV ?_ | refine u_nilc ?_ | (apply Exists.intro; (repeat apply Exists.intro); refine And.intro rfl ?_) | (refine And.intro ?_ ?_; first | exact trivial | exact rfl | exact t_ld h | (refine lds_s (t_ld h) ?_; (repeat (refine lds_s (t_ld h) ?_)); exact lds_nil) | omega) | refine u_bspT ?_ | refine u_bspF ?_)
    refine w_g h hgb fun q2 hq2 => ?_
    repeat (first | (refine s_nwc h ?_; clear h; intro kb M h) | (refine s_stc h ?_; clear h; intro M h) | refine t_exI h ?_ | refine t_exB h ?_ | refine t_exS h ?_ | refine t_exP h ?_ | refine t_exSl h ?_ | refine t_exV h ?_ | refine u_exI ?_ | refine u_exB ?_ | refine u_exS ?_ | refine u_exP ?_ | refine u_exSl ?_ | refine u_exV ?_ | refine u_nilc ?_ | (apply Exists.intro; (repeat apply Exists.intro); refine And.intro rfl ?_) | (refine And.intro ?_ ?_; first | exact trivial | exact rfl | exact t_ld h | (refine lds_s (t_ld h) ?_; (repeat (refine lds_s (t_ld h) ?_)); exact lds_nil) | omega) | refine u_bspT ?_ | refine u_bspF ?_)
    have hlen : (gorAt x g).fs.length + 1 = ((gorAt x g).fs ++ [(⟨i.a, 0, [topReg x g i.b, 0, 0, 0, 0, 0, 0, 0], i.c⟩ : Frm)]).length := by simp
    have h5 := gor_close (A := some ⟨b', 0, none⟩) (fs := (gorAt x g).fs ++ [⟨i.a, 0, [topReg x g i.b, 0, 0, 0, 0, 0, 0, 0], i.c⟩]) h gb hlen
    have hi := (List.getElem?_eq_some_iff.1 hgb).1
    have h6 := h5.objs_in gorR gb hgb (by rw [List.length_zip]; omega)
    rw [zip_set2] at h6
    have hl2 : wLens (gg.set g.toNat (some ⟨b', 0, none⟩, c')) a (x.putG g ⟨(gorAt x g).st, (gorAt x g).fs ++ [⟨i.a, 0, [topReg x g i.b, 0, 0, 0, 0, 0, 0, 0], i.c⟩], (gorAt x g).wt⟩) := ⟨by simpa [Wd.putG] using l1, by simpa [Wd.putG] using l2, l3, l4⟩
    have h7 := world_close (a := a) (p := p) (pa := pa) (dr := dr) (gg := gg.set g.toNat (some ⟨b', 0, none⟩, c')) (x := x.putG g ⟨(gorAt x g).st, (gorAt x g).fs ++ [⟨i.a, 0, [topReg x g i.b, 0, 0, 0, 0, 0, 0, 0], i.c⟩], (gorAt x g).wt⟩) hl2 h6 b
    exact k _ _ (h7.sub (by repeat (first | exact Sub.refl | refine Sub.cons (by first | exact Pick.here | exact (.there .here) | exact (.there (.there .here)) | exact (.there (.there (.there .here))) | exact (.there (.there (.there (.there .here)))) | exact (.there (.there (.there (.there (.there .here))))) | exact (.there (.there (.there (.there (.there (.there .here)))))) | exact (.there (.there (.there (.there (.there (.there (.there .here))))))) | exact (.there (.there (.there (.there (.there (.there (.there (.there .here)))))))) | exact (.there (.there (.there (.there (.there (.there (.there (.there (.there .here))))))))) | exact (.there (.there (.there (.there (.there (.there (.there (.there (.there (.there .here)))))))))) | exact (.there (.there (.there (.there (.there (.there (.there (.there (.there (.there (.there .here))))))))))) | exact (.there (.there (.there (.there (.there (.there (.there (.there (.there (.there (.there (.there .here)))))))))))) | exact (.there (.there (.there (.there (.there (.there (.there (.there (.there (.there (.there (.there (.there .here))))))))))))) | exact (.there (.there (.there (.there (.there (.there (.there (.there (.there (.there (.there (.there (.there (.there .here)))))))))))))) | exact (.there (.there (.there (.there (.there (.there (.there (.there (.there (.there (.there (.there (.there (.there (.there .here)))))))))))))))) ?_ | refine Sub.drop ?_)))
theorem lens_lk {a : WA} {k : Int} {c : Lk} (hl : wLens gg a x) : wLens gg a (x.putLk k c) := by
  obtain ⟨l1, l2, l3, l4⟩ := hl
  exact ⟨l1, l2, l3, by simpa [Wd.putLk] using l4⟩
theorem op_lock (hg : gorOk x g) (hk : lkOk x i.a) (hs : x.Sm) : OpSpec R pa p dr 53 x g i (.on (x.lock g i)) L L := by
  intro gg b bs c M K Kp Q h hgg k
  refine vc_world_World_lock ?_
  replace k : ∀ gg' M', Hp R (objP (worldR pa p gg' dr) b (x.lock g i) :: Q :: L) M' → K (.tuple #[]) M' := k
  unfold Wd.lock at k
  obtain ⟨s1, s2, s3, s4, s5, s6, s7, s8⟩ := hs
  obtain ⟨k0, k1⟩ := hk
  refine s_nwc h ?_
  clear h
  intro kb M h
  have h' := world_open h (b := b)
  clear h
  obtain ⟨a, hl, h⟩ := h'
  have hl' := hl
  obtain ⟨l1, l2, l3, l4⟩ := hl'
  refine t_exSl h (t_exI h ⟨k0, by omega, ?_⟩)
  obtain ⟨lb, hlb⟩ := idx_ex (l := a.lb) (i := i.a.toNat) (by omega)
  refine w_g h hlb fun q hq => ?_
  obtain ⟨y, hy⟩ := idx_ex (l := x.locks) (i := i.a.toNat) (by omega)
  have e : lkAt x i.a = y := by simp [lkAt, hy]
  rw [e] at k
  replace h := h.objs_out lockR hlb hy
  refine locks_Take h (Nat.le_trans (s6 y (List.mem_of_getElem? hy)) (by decide)) ?_
  clear h; intro M h
  replace h := h.objs_in lockR lb hlb (by omega)
  replace h := world_close (a := a) (p := p) (pa := pa) (dr := dr) (gg := gg) (x := x.putLk i.a (y.take g).1) (lens_lk hl) h b
  refine u_exB ?_
  cases ht : (y.take g).2 with
  | true =>
    rw [ht] at k
    simp only [if_true] at k
    refine u_bspF ?_
    exact k _ _ (h.sub (by repeat (first | exact Sub.refl | refine Sub.cons (by first | exact Pick.here | exact (.there .here) | exact (.there (.there .here)) | exact (.there (.there (.there .here))) | exact (.there (.there (.there (.there .here)))) | exact (.there (.there (.there (.there (.there .here))))) | exact (.there (.there (.there (.there (.there (.there .here)))))) | exact (.there (.there (.there (.there (.there (.there (.there .here))))))) | exact (.there (.there (.there (.there (.there (.there (.there (.there .here)))))))) | exact (.there (.there (.there (.there (.there (.there (.there (.there (.there .here))))))))) | exact (.there (.there (.there (.there (.there (.there (.there (.there (.there (.there .here)))))))))) | exact (.there (.there (.there (.there (.there (.there (.there (.there (.there (.there (.there .here))))))))))) | exact (.there (.there (.there (.there (.there (.there (.there (.there (.there (.there (.there (.there .here)))))))))))) | exact (.there (.there (.there (.there (.there (.there (.there (.there (.there (.there (.there (.there (.there .here))))))))))))) | exact (.there (.there (.there (.there (.there (.there (.there (.there (.there (.there (.there (.there (.there (.there .here)))))))))))))) | exact (.there (.there (.there (.there (.there (.there (.there (.there (.there (.there (.there (.there (.there (.there (.there .here)))))))))))))))) ?_ | refine Sub.drop ?_)))
  | false =>
    rw [ht] at k
    simp only [Bool.false_eq_true, if_false] at k
    refine u_bspT ?_
    refine t_exI h (t_exI h (t_exI h (t_exI h ?_)))
    refine world_block (b := b) (i := i) h hg.1 (show g < (x.putLk i.a (y.take g).1).gs.length from hg.2.1) ?_
    clear h; intro M h
    exact ⟨rfl, k _ _ (h.sub (by repeat (first | exact Sub.refl | refine Sub.cons (by first | exact Pick.here | exact (.there .here) | exact (.there (.there .here)) | exact (.there (.there (.there .here))) | exact (.there (.there (.there (.there .here)))) | exact (.there (.there (.there (.there (.there .here))))) | exact (.there (.there (.there (.there (.there (.there .here)))))) | exact (.there (.there (.there (.there (.there (.there (.there .here))))))) | exact (.there (.there (.there (.there (.there (.there (.there (.there .here)))))))) | exact (.there (.there (.there (.there (.there (.there (.there (.there (.there .here))))))))) | exact (.there (.there (.there (.there (.there (.there (.there (.there (.there (.there .here)))))))))) | exact (.there (.there (.there (.there (.there (.there (.there (.there (.there (.there (.there .here))))))))))) | exact (.there (.there (.there (.there (.there (.there (.there (.there (.there (.there (.there (.there .here)))))))))))) | exact (.there (.there (.there (.there (.there (.there (.there (.there (.there (.there (.there (.there (.there .here))))))))))))) | exact (.there (.there (.there (.there (.there (.there (.there (.there (.there (.there (.there (.there (.there (.there .here)))))))))))))) | exact (.there (.there (.there (.there (.there (.there (.there (.there (.there (.there (.there (.there (.there (.there (.there .here)))))))))))))))) ?_ | refine Sub.drop ?_)))⟩
theorem op_unlock (hk : unlockOk x g i) (hs : x.Sm) : OpSpec R pa p dr 54 x g i (x.unlock g i) L L := by
  intro gg b bs c M K Kp Q h hgg k
  refine vc_world_World_unlock ?_
  unfold Wd.unlock at k
  obtain ⟨s1, s2, s3, s4, s5, s6, s7, s8⟩ := hs
  obtain ⟨⟨k0, k1⟩, hw⟩ := hk
  refine s_nwc h ?_
  clear h
  intro kb M h
  have h' := world_open h (b := b)
  clear h
  obtain ⟨a, hl, h⟩ := h'
  have hl' := hl
  obtain ⟨l1, l2, l3, l4⟩ := hl'
  refine t_exSl h (t_exI h ⟨k0, by omega, ?_⟩)
  obtain ⟨lb, hlb⟩ := idx_ex (l := a.lb) (i := i.a.toNat) (by omega)
  refine w_g h hlb fun q hq => ?_
  obtain ⟨y, hy⟩ := idx_ex (l := x.locks) (i := i.a.toNat) (by omega)
  have e : lkAt x i.a = y := by simp [lkAt, hy]
  rw [e] at k hw
  replace h := h.objs_out lockR hlb hy
  refine locks_Give h (Nat.le_trans (s6 y (List.mem_of_getElem? hy)) (by decide)) ?_
  clear h; intro M h
  replace h := h.objs_in lockR lb hlb (by omega)
  replace h := world_close (a := a) (p := p) (pa := pa) (dr := dr) (gg := gg) (x := x.putLk i.a (y.give g).1) (lens_lk hl) h b
  refine ⟨_, _, rfl, ?_⟩
  refine bsp_ne.2 ⟨fun hn => ?_, fun hn => ?_⟩
  · rw [if_pos hn] at k
    exact k _ _ (h.sub (by repeat (first | exact Sub.refl | refine Sub.cons (by first | exact Pick.here | exact (.there .here) | exact (.there (.there .here)) | exact (.there (.there (.there .here))) | exact (.there (.there (.there (.there .here)))) | exact (.there (.there (.there (.there (.there .here))))) | exact (.there (.there (.there (.there (.there (.there .here)))))) | exact (.there (.there (.there (.there (.there (.there (.there .here))))))) | exact (.there (.there (.there (.there (.there (.there (.there (.there .here)))))))) | exact (.there (.there (.there (.there (.there (.there (.there (.there (.there .here))))))))) | exact (.there (.there (.there (.there (.there (.there (.there (.there (.there (.there .here)))))))))) | exact (.there (.there (.there (.there (.there (.there (.there (.there (.there (.there (.there .here))))))))))) | exact (.there (.there (.there (.there (.there (.there (.there (.there (.there (.there (.there (.there .here)))))))))))) | exact (.there (.there (.there (.there (.there (.there (.there (.there (.there (.there (.there (.there (.there .here))))))))))))) | exact (.there (.there (.there (.there (.there (.there (.there (.there (.there (.there (.there (.there (.there (.there .here)))))))))))))) | exact (.there (.there (.there (.there (.there (.there (.there (.there (.there (.there (.there (.there (.there (.there (.there .here)))))))))))))))) ?_ | refine Sub.drop ?_)))
  rw [if_neg (by simpa using hn)] at k
  refine bsp_ne.2 ⟨fun hn2 => ?_, fun hn2 => ?_⟩
  · rw [if_pos hn2] at k
    obtain ⟨w0, w1⟩ := hw hn2
    refine world_wake (b := b) h w0 (show _ < ((x.putLk i.a (y.give g).1).gs.length : Int) from w1) (by show x.ready.length ≤ _; omega) ?_
    clear h; intro M h
    exact ⟨rfl, k _ _ (h.sub (by repeat (first | exact Sub.refl | refine Sub.cons (by first | exact Pick.here | exact (.there .here) | exact (.there (.there .here)) | exact (.there (.there (.there .here))) | exact (.there (.there (.there (.there .here)))) | exact (.there (.there (.there (.there (.there .here))))) | exact (.there (.there (.there (.there (.there (.there .here)))))) | exact (.there (.there (.there (.there (.there (.there (.there .here))))))) | exact (.there (.there (.there (.there (.there (.there (.there (.there .here)))))))) | exact (.there (.there (.there (.there (.there (.there (.there (.there (.there .here))))))))) | exact (.there (.there (.there (.there (.there (.there (.there (.there (.there (.there .here)))))))))) | exact (.there (.there (.there (.there (.there (.there (.there (.there (.there (.there (.there .here))))))))))) | exact (.there (.there (.there (.there (.there (.there (.there (.there (.there (.there (.there (.there .here)))))))))))) | exact (.there (.there (.there (.there (.there (.there (.there (.there (.there (.there (.there (.there (.there .here))))))))))))) | exact (.there (.there (.there (.there (.there (.there (.there (.there (.there (.there (.there (.there (.there (.there .here)))))))))))))) | exact (.there (.there (.there (.there (.there (.there (.there (.there (.there (.there (.there (.there (.there (.there (.there .here)))))))))))))))) ?_ | refine Sub.drop ?_)))⟩
  · rw [if_neg (by simpa using hn2)] at k
    exact k _ _ (h.sub (by repeat (first | exact Sub.refl | refine Sub.cons (by first | exact Pick.here | exact (.there .here) | exact (.there (.there .here)) | exact (.there (.there (.there .here))) | exact (.there (.there (.there (.there .here)))) | exact (.there (.there (.there (.there (.there .here))))) | exact (.there (.there (.there (.there (.there (.there .here)))))) | exact (.there (.there (.there (.there (.there (.there (.there .here))))))) | exact (.there (.there (.there (.there (.there (.there (.there (.there .here)))))))) | exact (.there (.there (.there (.there (.there (.there (.there (.there (.there .here))))))))) | exact (.there (.there (.there (.there (.there (.there (.there (.there (.there (.there .here)))))))))) | exact (.there (.there (.there (.there (.there (.there (.there (.there (.there (.there (.there .here))))))))))) | exact (.there (.there (.there (.there (.there (.there (.there (.there (.there (.there (.there (.there .here)))))))))))) | exact (.there (.there (.there (.there (.there (.there (.there (.there (.there (.there (.there (.there (.there .here))))))))))))) | exact (.there (.there (.there (.there (.there (.there (.there (.there (.there (.there (.there (.there (.there (.there .here)))))))))))))) | exact (.there (.there (.there (.there (.there (.there (.there (.there (.there (.there (.there (.there (.there (.there (.there .here)))))))))))))))) ?_ | refine Sub.drop ?_)))
theorem op_stop : OpSpec R pa p dr 56 x g i (.trap i.a x) L L := by
  intro gg b bs c M K Kp Q h hgg k
  refine vc_world_World_stop ?_
  refine s_nwc h ?_
  clear h
  intro kb M h
  refine t_exI h ?_
  exact k _ _ (h.sub (by repeat (first | exact Sub.refl | refine Sub.cons (by first | exact Pick.here | exact (.there .here) | exact (.there (.there .here)) | exact (.there (.there (.there .here))) | exact (.there (.there (.there (.there .here)))) | exact (.there (.there (.there (.there (.there .here))))) | exact (.there (.there (.there (.there (.there (.there .here)))))) | exact (.there (.there (.there (.there (.there (.there (.there .here))))))) | exact (.there (.there (.there (.there (.there (.there (.there (.there .here)))))))) | exact (.there (.there (.there (.there (.there (.there (.there (.there (.there .here))))))))) | exact (.there (.there (.there (.there (.there (.there (.there (.there (.there (.there .here)))))))))) | exact (.there (.there (.there (.there (.there (.there (.there (.there (.there (.there (.there .here))))))))))) | exact (.there (.there (.there (.there (.there (.there (.there (.there (.there (.there (.there (.there .here)))))))))))) | exact (.there (.there (.there (.there (.there (.there (.there (.there (.there (.there (.there (.there (.there .here))))))))))))) | exact (.there (.there (.there (.there (.there (.there (.there (.there (.there (.there (.there (.there (.there (.there .here)))))))))))))) | exact (.there (.there (.there (.there (.there (.there (.there (.there (.there (.there (.there (.there (.there (.there (.there .here)))))))))))))))) ?_ | refine Sub.drop ?_)))
theorem op_yield : OpSpec R pa p dr 48 x g i (.on x) L L := by
  intro gg b bs c M K Kp Q h hgg k
  refine vc_world_World_yield ?_
  refine s_nwc h ?_
  clear h
  intro kb M h
  exact k _ _ (h.sub (by repeat (first | exact Sub.refl | refine Sub.cons (by first | exact Pick.here | exact (.there .here) | exact (.there (.there .here)) | exact (.there (.there (.there .here))) | exact (.there (.there (.there (.there .here)))) | exact (.there (.there (.there (.there (.there .here))))) | exact (.there (.there (.there (.there (.there (.there .here)))))) | exact (.there (.there (.there (.there (.there (.there (.there .here))))))) | exact (.there (.there (.there (.there (.there (.there (.there (.there .here)))))))) | exact (.there (.there (.there (.there (.there (.there (.there (.there (.there .here))))))))) | exact (.there (.there (.there (.there (.there (.there (.there (.there (.there (.there .here)))))))))) | exact (.there (.there (.there (.there (.there (.there (.there (.there (.there (.there (.there .here))))))))))) | exact (.there (.there (.there (.there (.there (.there (.there (.there (.there (.there (.there (.there .here)))))))))))) | exact (.there (.there (.there (.there (.there (.there (.there (.there (.there (.there (.there (.there (.there .here))))))))))))) | exact (.there (.there (.there (.there (.there (.there (.there (.there (.there (.there (.there (.there (.there (.there .here)))))))))))))) | exact (.there (.there (.there (.there (.there (.there (.there (.there (.there (.there (.there (.there (.there (.there (.there .here)))))))))))))))) ?_ | refine Sub.drop ?_)))
theorem op_rand {d : Drawn} (hg : gorOk x g) (ha : isReg i.a) (hpc : 0 ≤ (gorAt x g).top.pc ∧ (gorAt x g).top.pc < 1000000000) (hd : DrawSpec R dr 4 i.b d L L2) : OpSpec R pa p dr 34 x g i (x.rand g i d) L L2 := by
  intro gg b bs c M K Kp Q h hgg k
  refine vc_world_World_rand ?_
  refine s_nwc h ?_
  clear h
  intro kb M h
  have hdr : M.ld ⟨b, 0 + 14, none⟩ = some dr := by
    obtain ⟨a, hl, h9⟩ := world_open h (b := b)
    exact t_ld h9
  rw [hdr]
  refine u_exV (t_exI h ?_)
  have h5 : Hp R (sep [objP (worldR pa p gg dr) b x, pt kb [.int .i64 i.op, .int .i64 i.a, .int .i64 i.b, .int .i64 i.c] 31, Q] :: L) M := Hp.sep_iff.2 (h.sub (by repeat (first | exact Sub.refl | refine Sub.cons (by first | exact Pick.here | exact (.there .here) | exact (.there (.there .here)) | exact (.there (.there (.there .here))) | exact (.there (.there (.there (.there .here)))) | exact (.there (.there (.there (.there (.there .here))))) | exact (.there (.there (.there (.there (.there (.there .here)))))) | exact (.there (.there (.there (.there (.there (.there (.there .here))))))) | exact (.there (.there (.there (.there (.there (.there (.there (.there .here)))))))) | exact (.there (.there (.there (.there (.there (.there (.there (.there (.there .here))))))))) | exact (.there (.there (.there (.there (.there (.there (.there (.there (.there (.there .here)))))))))) | exact (.there (.there (.there (.there (.there (.there (.there (.there (.there (.there (.there .here))))))))))) | exact (.there (.there (.there (.there (.there (.there (.there (.there (.there (.there (.there (.there .here)))))))))))) | exact (.there (.there (.there (.there (.there (.there (.there (.there (.there (.there (.there (.there (.there .here))))))))))))) | exact (.there (.there (.there (.there (.there (.there (.there (.there (.there (.there (.there (.there (.there (.there .here)))))))))))))) | exact (.there (.there (.there (.there (.there (.there (.there (.there (.there (.there (.there (.there (.there (.there (.there .here)))))))))))))))) ?_ | refine Sub.drop ?_)))
  refine hd _ _ _ _ h5 ?_
  clear h h5 hdr
  cases d with
  | dry l =>
    dsimp only at k ⊢
    intro M h5
    have h : Hp R (objP (worldR pa p gg dr) b x :: pt kb [.int .i64 i.op, .int .i64 i.a, .int .i64 i.b, .int .i64 i.c] 31 :: Q :: L2) M := Hp.sep_iff.1 h5
    exact k _ _ (h.sub (by repeat (first | exact Sub.refl | refine Sub.cons (by first | exact Pick.here | exact (.there .here) | exact (.there (.there .here)) | exact (.there (.there (.there .here))) | exact (.there (.there (.there (.there .here)))) | exact (.there (.there (.there (.there (.there .here))))) | exact (.there (.there (.there (.there (.there (.there .here)))))) | exact (.there (.there (.there (.there (.there (.there (.there .here))))))) | exact (.there (.there (.there (.there (.there (.there (.there (.there .here)))))))) | exact (.there (.there (.there (.there (.there (.there (.there (.there (.there .here))))))))) | exact (.there (.there (.there (.there (.there (.there (.there (.there (.there (.there .here)))))))))) | exact (.there (.there (.there (.there (.there (.there (.there (.there (.there (.there (.there .here))))))))))) | exact (.there (.there (.there (.there (.there (.there (.there (.there (.there (.there (.there (.there .here)))))))))))) | exact (.there (.there (.there (.there (.there (.there (.there (.there (.there (.there (.there (.there (.there .here))))))))))))) | exact (.there (.there (.there (.there (.there (.there (.there (.there (.there (.there (.there (.there (.there (.there .here)))))))))))))) | exact (.there (.there (.there (.there (.there (.there (.there (.there (.there (.there (.there (.there (.there (.there (.there .here)))))))))))))))) ?_ | refine Sub.drop ?_)))
  | num v =>
    dsimp only at k ⊢
    intro M h5
    have h : Hp R (objP (worldR pa p gg dr) b x :: pt kb [.int .i64 i.op, .int .i64 i.a, .int .i64 i.b, .int .i64 i.c] 31 :: Q :: L2) M := Hp.sep_iff.1 h5
    clear h5
    refine u_exI ?_
    refine w_ldPc (b := b) h hg hgg rfl ?_
    rw [wrap_succ' hpc.1 (by omega)]
    refine w_stPc (b := b) h hg hgg rfl rfl ?_
    clear h; intro M h
    refine t_exI h ⟨ha.1, ha.2, ?_⟩
    refine w_stReg (b := b) h (gorOk_next hg) hgg ha (by rw [fl_next hg]) ?_
    clear h; intro M h
    exact k _ _ (h.sub (by repeat (first | exact Sub.refl | refine Sub.cons (by first | exact Pick.here | exact (.there .here) | exact (.there (.there .here)) | exact (.there (.there (.there .here))) | exact (.there (.there (.there (.there .here)))) | exact (.there (.there (.there (.there (.there .here))))) | exact (.there (.there (.there (.there (.there (.there .here)))))) | exact (.there (.there (.there (.there (.there (.there (.there .here))))))) | exact (.there (.there (.there (.there (.there (.there (.there (.there .here)))))))) | exact (.there (.there (.there (.there (.there (.there (.there (.there (.there .here))))))))) | exact (.there (.there (.there (.there (.there (.there (.there (.there (.there (.there .here)))))))))) | exact (.there (.there (.there (.there (.there (.there (.there (.there (.there (.there (.there .here))))))))))) | exact (.there (.there (.there (.there (.there (.there (.there (.there (.there (.there (.there (.there .here)))))))))))) | exact (.there (.there (.there (.there (.there (.there (.there (.there (.there (.there (.there (.there (.there .here))))))))))))) | exact (.there (.there (.there (.there (.there (.there (.there (.there (.there (.there (.there (.there (.there (.there .here)))))))))))))) | exact (.there (.there (.there (.there (.there (.there (.there (.there (.there (.there (.there (.there (.there (.there (.there .here)))))))))))))))) ?_ | refine Sub.drop ?_)))
abbrev wPre (pa : PA) (p : Prg) (a : WA) (x : Wd) : List Value :=
  [.slice pa.f p.funcs.length pa.fc, .slice pa.c p.chs.length pa.cc, .int .i64 p.locks, .slice pa.k p.cases.length pa.kc, .slice a.ag a.gb.length a.cg, .int .u64 x.clock, .slice a.ac a.cb.length a.cc, .slice a.al a.lb.length a.cl]
abbrev wCellsH (pa : PA) (p : Prg) (dr : Value) (a : WA) (x : Wd) (nr : Nat) (A : Option Addr) (n c : Nat) (s : Int) : List Value :=
  [.slice pa.f p.funcs.length pa.fc, .slice pa.c p.chs.length pa.cc, .int .i64 p.locks, .slice pa.k p.cases.length pa.kc, .slice a.ag a.gb.length a.cg, .int .u64 x.clock,
   .slice a.ac a.cb.length a.cc, .slice a.al a.lb.length a.cl, .slice A n c, .int .u64 s, .slice a.ao x.out.length a.co, .int .i64 x.end_, .int .i64 x.code, .slice a.ar nr a.cr, dr]
theorem w_hdr {a : WA} {nr T : Nat} : Hdr b (0 + 8) (fun A n c s => pt b (wCellsH pa p dr a x nr A n c s) T) :=
  ⟨fun R L M A n c s h => t_ld h, fun R L M A n c s h => t_ld h, fun R L M A A' n c n' c' s G h k => s_stc h k, fun R L M A n c s s' G h k => s_stc h k⟩
theorem op_sleep (hg : gorOk x g) (ha : isReg i.a) (hs : x.hl.length < 1000000) : OpSpec R pa p dr 52 x g i (.on (x.sleep g i)) L L := by
  intro gg b bs c M K Kp Q h hgg k
  refine vc_world_World_sleep ?_
  replace k : ∀ gg' M', Hp R (objP (worldR pa p gg' dr) b (x.sleep g i) :: Q :: L) M' → K (.tuple #[]) M' := k
  have hg' := hg
  obtain ⟨h0, h1, h2, h3⟩ := hg'
  unfold Wd.sleep at k
  refine s_nwc h ?_
  clear h
  intro kb M h
  refine t_exI h ⟨ha.1, ha.2, ?_⟩
  refine w_reg (b := b) h hg hgg ha rfl ?_
  have hC := h
  have h' := world_open h (b := b)
  clear h
  obtain ⟨a, hl, h⟩ := h'
  have hl' := hl
  obtain ⟨l1, l2, l3, l4⟩ := hl'
  have e : (if (1048576 : Int) < topReg x g i.a then 1048576 else topReg x g i.a) = sleepN x g i := rfl
  rw [e]
  refine bsp_dec.2 ⟨fun hn => ?_, fun hn => ?_⟩
  · rw [if_pos (by omega)] at k
    refine t_exI h ?_
    clear hC
    replace h : Hp R (pt b (wCellsH pa p dr a x x.ready.length a.ah x.hl.length a.ch x.hseq) 76 :: rowH a.ah a.ch x.hl :: objsP gorR a.gb (x.gs.zip gg) :: rowPG a.ag a.cg a.gb :: rowPC a.ac a.cc a.cb :: objsP chanR a.cb x.chans :: rowPL a.al a.cl a.lb :: objsP lockR a.lb x.locks :: rowB a.ao a.co x.out :: rowI a.ar a.cr x.ready :: Q :: L) M := h.sub (by repeat (first | exact Sub.refl | refine Sub.cons (by first | exact Pick.here | exact (.there .here) | exact (.there (.there .here)) | exact (.there (.there (.there .here))) | exact (.there (.there (.there (.there .here)))) | exact (.there (.there (.there (.there (.there .here))))) | exact (.there (.there (.there (.there (.there (.there .here)))))) | exact (.there (.there (.there (.there (.there (.there (.there .here))))))) | exact (.there (.there (.there (.there (.there (.there (.there (.there .here)))))))) | exact (.there (.there (.there (.there (.there (.there (.there (.there (.there .here))))))))) | exact (.there (.there (.there (.there (.there (.there (.there (.there (.there (.there .here)))))))))) | exact (.there (.there (.there (.there (.there (.there (.there (.there (.there (.there (.there .here))))))))))) | exact (.there (.there (.there (.there (.there (.there (.there (.there (.there (.there (.there (.there .here)))))))))))) | exact (.there (.there (.there (.there (.there (.there (.there (.there (.there (.there (.there (.there (.there .here))))))))))))) | exact (.there (.there (.there (.there (.there (.there (.there (.there (.there (.there (.there (.there (.there (.there .here)))))))))))))) | exact (.there (.there (.there (.there (.there (.there (.there (.there (.there (.there (.there (.there (.there (.there (.there .here)))))))))))))))) ?_ | refine Sub.drop ?_))
    refine heap_Push (w_hdr (a := a) (x := x)) h hs ?_
    clear h; intro v A' c' M h
    refine u_exI ?_
    have h9 : Hp R (objP (worldR pa p gg dr) b { x with hl := hPush x.hl ⟨IntKind.wrap .u64 (x.clock + IntKind.wrap .u64 (sleepN x g i)), x.hseq, g⟩, hseq := IntKind.wrap .u64 (x.hseq + 1) } :: Q :: L) M := by
      have := hPush_len (l := x.hl) (x := ⟨IntKind.wrap .u64 (x.clock + IntKind.wrap .u64 (sleepN x g i)), x.hseq, g⟩)
      rw [← this] at h
      exact world_mk (a := { a with ah := A', ch := c' }) (x := { x with hl := hPush x.hl ⟨IntKind.wrap .u64 (x.clock + IntKind.wrap .u64 (sleepN x g i)), x.hseq, g⟩, hseq := IntKind.wrap .u64 (x.hseq + 1) }) ⟨l1, l2, l3, l4⟩ (h.sub (by repeat (first | exact Sub.refl | refine Sub.cons (by first | exact Pick.here | exact (.there .here) | exact (.there (.there .here)) | exact (.there (.there (.there .here))) | exact (.there (.there (.there (.there .here)))) | exact (.there (.there (.there (.there (.there .here))))) | exact (.there (.there (.there (.there (.there (.there .here)))))) | exact (.there (.there (.there (.there (.there (.there (.there .here))))))) | exact (.there (.there (.there (.there (.there (.there (.there (.there .here)))))))) | exact (.there (.there (.there (.there (.there (.there (.there (.there (.there .here))))))))) | exact (.there (.there (.there (.there (.there (.there (.there (.there (.there (.there .here)))))))))) | exact (.there (.there (.there (.there (.there (.there (.there (.there (.there (.there (.there .here))))))))))) | exact (.there (.there (.there (.there (.there (.there (.there (.there (.there (.there (.there (.there .here)))))))))))) | exact (.there (.there (.there (.there (.there (.there (.there (.there (.there (.there (.there (.there (.there .here))))))))))))) | exact (.there (.there (.there (.there (.there (.there (.there (.there (.there (.there (.there (.there (.there (.there .here)))))))))))))) | exact (.there (.there (.there (.there (.there (.there (.there (.there (.there (.there (.there (.there (.there (.there (.there .here)))))))))))))))) ?_ | refine Sub.drop ?_)))
    clear h hl l1 l2 l3 l4
    have h := h9
    clear h9
    have h' := world_at2 (x := { x with hl := hPush x.hl ⟨IntKind.wrap .u64 (x.clock + IntKind.wrap .u64 (sleepN x g i)), x.hseq, g⟩, hseq := IntKind.wrap .u64 (x.hseq + 1) }) h (b := b) h0 h1 hgg
    clear h
    obtain ⟨a2, gb, hl, hgb, h⟩ := h'
    have hl' := hl
    obtain ⟨l1, l2, l3, l4⟩ := hl'
    refine t_exSl h ⟨h0, by dsimp only at l1; omega, ?_⟩
    refine w_g h hgb fun q hq => ?_
    refine u_nilc ?_
    refine s_stc h ?_
    clear h; intro M h
    replace h := world_in h gb hl hgb hgg
    have hl2 := lens_put (y := { gorAt x g with st := 3 }) (g := g) hl
    replace h := world_close (a := a2) (p := p) (pa := pa) (dr := dr) (gg := gg) (x := { x.putG g { gorAt x g with st := 3 } with hl := hPush x.hl ⟨IntKind.wrap .u64 (x.clock + IntKind.wrap .u64 (sleepN x g i)), x.hseq, g⟩, hseq := IntKind.wrap .u64 (x.hseq + 1) }) hl2 h b
    exact k _ _ (h.sub (by repeat (first | exact Sub.refl | refine Sub.cons (by first | exact Pick.here | exact (.there .here) | exact (.there (.there .here)) | exact (.there (.there (.there .here))) | exact (.there (.there (.there (.there .here)))) | exact (.there (.there (.there (.there (.there .here))))) | exact (.there (.there (.there (.there (.there (.there .here)))))) | exact (.there (.there (.there (.there (.there (.there (.there .here))))))) | exact (.there (.there (.there (.there (.there (.there (.there (.there .here)))))))) | exact (.there (.there (.there (.there (.there (.there (.there (.there (.there .here))))))))) | exact (.there (.there (.there (.there (.there (.there (.there (.there (.there (.there .here)))))))))) | exact (.there (.there (.there (.there (.there (.there (.there (.there (.there (.there (.there .here))))))))))) | exact (.there (.there (.there (.there (.there (.there (.there (.there (.there (.there (.there (.there .here)))))))))))) | exact (.there (.there (.there (.there (.there (.there (.there (.there (.there (.there (.there (.there (.there .here))))))))))))) | exact (.there (.there (.there (.there (.there (.there (.there (.there (.there (.there (.there (.there (.there (.there .here)))))))))))))) | exact (.there (.there (.there (.there (.there (.there (.there (.there (.there (.there (.there (.there (.there (.there (.there .here)))))))))))))))) ?_ | refine Sub.drop ?_)))
  · rw [if_neg (by omega)] at k
    exact k _ _ (hC.sub (by repeat (first | exact Sub.refl | refine Sub.cons (by first | exact Pick.here | exact (.there .here) | exact (.there (.there .here)) | exact (.there (.there (.there .here))) | exact (.there (.there (.there (.there .here)))) | exact (.there (.there (.there (.there (.there .here))))) | exact (.there (.there (.there (.there (.there (.there .here)))))) | exact (.there (.there (.there (.there (.there (.there (.there .here))))))) | exact (.there (.there (.there (.there (.there (.there (.there (.there .here)))))))) | exact (.there (.there (.there (.there (.there (.there (.there (.there (.there .here))))))))) | exact (.there (.there (.there (.there (.there (.there (.there (.there (.there (.there .here)))))))))) | exact (.there (.there (.there (.there (.there (.there (.there (.there (.there (.there (.there .here))))))))))) | exact (.there (.there (.there (.there (.there (.there (.there (.there (.there (.there (.there (.there .here)))))))))))) | exact (.there (.there (.there (.there (.there (.there (.there (.there (.there (.there (.there (.there (.there .here))))))))))))) | exact (.there (.there (.there (.there (.there (.there (.there (.there (.there (.there (.there (.there (.there (.there .here)))))))))))))) | exact (.there (.there (.there (.there (.there (.there (.there (.there (.there (.there (.there (.there (.there (.there (.there .here)))))))))))))))) ?_ | refine Sub.drop ?_)))
end
end Go.Proofs

namespace Go.Proofs
open Go.AF
set_option linter.unusedVariables false
set_option maxRecDepth 100000
set_option maxHeartbeats 1000000
attribute [local irreducible] exI exB exS exP exSl exV nilc stc nwc semK semU bsp
def sendOk2 (x : Wd) (g : Int) (i : Ins) : Out (Wd × Bool) → Prop
  | .on (y, false) => gorOk y g ∧ (gorAt y g).fs.length = (gorAt x g).fs.length ∧ waitOk y i.a
  | .on (_, true) => True
  | .trap _ _ => True
  | .dry _ _ => True
instance (x : Wd) (g : Int) (i : Ins) (r : Out (Wd × Bool)) : Decidable (sendOk2 x g i r) := match r with
  | .on (y, false) => by unfold sendOk2; infer_instance
  | .on (_, true) => isTrue trivial
  | .trap _ _ => isTrue trivial
  | .dry _ _ => isTrue trivial
theorem sendOk_of {p : Prg} {x : Wd} {g : Int} {i : Ins} (h : gorOk x g ∧ isReg i.b ∧ putOk p x i.a (topReg x g i.b) ∧ sendOk2 x g i (x.put p i.a (topReg x g i.b))) : sendOk p x g i := by
  obtain ⟨h1, h2, h3, h4⟩ := h
  refine ⟨h1, h2, h3, ?_⟩
  generalize x.put p i.a (topReg x g i.b) = r at h4
  match r, h4 with
  | .on (y, false), h4 => exact h4
  | .on (y, true), _ => trivial
  | .trap _ _, _ => trivial
  | .dry _ _, _ => trivial
instance (x : Wd) (g : Int) (i : Ins) : Decidable (recvOk x g i) := by unfold recvOk; infer_instance
instance (p : Prg) (x : Wd) (i : Ins) : Decidable (closeOk p x i) := by unfold closeOk; infer_instance
/-- What a select's drawn case needs. -/
def caseOk (p : Prg) (x : Wd) (g : Int) (i : Ins) (k : Int) : Prop :=
  let c := (caseList p i).getD k.toNat ⟨0, 0, 0⟩
  let x1 := x.next g
  0 ≤ k ∧ k < (caseList p i).length ∧ isReg c.reg ∧
    if c.way = 1 then putOk p x1 c.ch (topReg x1 g c.reg) ∧ (match x1.put p c.ch (topReg x1 g c.reg) with
      | .on (y, _) => gorOk y g ∧ (gorAt y g).fs.length = (gorAt x g).fs.length
      | _ => True)
    else getOk x1 c.ch ∧ gorOk (x1.get c.ch).1 g ∧ (gorAt (x1.get c.ch).1 g).fs.length = (gorAt x g).fs.length
instance (g : Int) (n : Nat) (r : Out (Wd × Bool)) : Decidable (match r with
      | .on (y, _) => gorOk y g ∧ (gorAt y g).fs.length = n
      | _ => True) := match r with
  | .on (y, _) => by dsimp only; infer_instance
  | .trap _ _ => isTrue trivial
  | .dry _ _ => isTrue trivial
instance (p : Prg) (x : Wd) (g : Int) (i : Ins) (k : Int) : Decidable (caseOk p x g i k) := by unfold caseOk; infer_instance
def chooseOkB (p : Prg) (x : Wd) (g : Int) (i : Ins) (d : Drawn) : Bool :=
  decide (gorOk x g ∧ casesOk p i ∧ isReg i.c ∧ x.Sm ∧ (gorAt x g).top.pc < 1000000000 ∧ 0 ≤ (gorAt x g).top.pc ∧ (∀ c ∈ caseList p i, c.Ok x.chans.length)) &&
  (match d with
    | .dry _ => true
    | .num v => (enabled (caseList p i) x.chans).isEmpty || decide (0 ≤ v ∧ v < (enabled (caseList p i) x.chans).length ∧ caseOk p x g i ((enabled (caseList p i) x.chans).getD v.toNat 0)))
theorem chooseOk_of {p : Prg} {x : Wd} {g : Int} {i : Ins} {d : Drawn} (h : chooseOkB p x g i d = true) : chooseOk p x g i d := by
  unfold chooseOkB at h
  rw [Bool.and_eq_true] at h
  obtain ⟨h1, h2⟩ := h
  obtain ⟨a1, a2, a3, a4, a5, a6, a7⟩ := of_decide_eq_true h1
  refine ⟨a1, a2, a3, a4, a5, a6, a7, ?_⟩
  cases d with
  | dry l => split <;> trivial
  | num v =>
    dsimp only at h2
    cases he : enabled (caseList p i) x.chans with
    | nil => trivial
    | cons q l =>
      rw [he] at h2
      rw [List.isEmpty_cons, Bool.false_or] at h2
      have h3 := of_decide_eq_true h2
      exact h3
/-- What an op behind the pure ones comes to, if all it needs is there. -/
def deed (p : Prg) (x : Wd) (g : Int) (i : Ins) : Option (Out Wd) :=
  if i.op = 10 then (if gorOk x g ∧ isReg i.a ∧ isReg (gorAt x g).top.into then some (.on (x.back g i)) else none)
  else if i.op = 11 then (if gorOk x g ∧ isReg i.b ∧ isReg i.c ∧ x.Sm then some (x.spawn g i) else none)
  else if i.op = 13 then (if (gorOk x g ∧ isReg i.b ∧ putOk p x i.a (topReg x g i.b) ∧ sendOk2 x g i (x.put p i.a (topReg x g i.b))) ∧ x.Sm then some (x.send p g i) else none)
  else if i.op = 14 then (if recvOk x g i ∧ x.Sm then some (.on (x.recv g i)) else none)
  else if i.op = 15 then (if closeOk p x i ∧ x.Sm then some (x.shut p i) else none)
  else if i.op = 20 then (if gorOk x g ∧ isReg i.a ∧ x.Sm then some (x.emit g i) else none)
  else if i.op = 9 then (if gorOk x g ∧ isReg i.b then some (x.call g i) else none)
  else if i.op = 12 then some (.on x)
  else if i.op = 17 then (if gorOk x g ∧ isReg i.a ∧ x.hl.length < 1000000 then some (.on (x.sleep g i)) else none)
  else if i.op = 18 then (if gorOk x g ∧ lkOk x i.a ∧ x.Sm then some (.on (x.lock g i)) else none)
  else if i.op = 19 then (if unlockOk x g i ∧ x.Sm then some (x.unlock g i) else none)
  else if i.op = 22 then some (.trap i.a x)
  else none
def insAt (p : Prg) (x : Wd) (g : Int) : Option Ins := match p.funcs[(gorAt x g).top.fn.toNat]? with
  | none => none
  | some code => code[(gorAt x g).top.pc.toNat]?
/-- Can it go on? -/
def canGo (x : Wd) (g : Int) : Prop := 0 ≤ g ∧ g < x.gs.length ∧ x.end_ = 0 ∧ (gorAt x g).st = 1
instance (x : Wd) (g : Int) : Decidable (canGo x g) := by unfold canGo; infer_instance
/-- What the next instruction draws: the kind, below how many. -/
def asks (p : Prg) (x : Wd) (g : Int) : Option (Int × Int) :=
  if canGo x g then match insAt p x g with
    | none => none
    | some i => if i.op = 21 then some (4, i.b) else if i.op = 16 then (if enabled (caseList p i) x.chans = [] then none else some (3, (enabled (caseList p i) x.chans).length)) else none
  else none
/-- A goroutine's step, by a draw: what it comes to, may it not go on at once. -/
def execR (p : Prg) (x0 : Wd) (g : Int) (d : Drawn) : Option (Out Wd × Bool) :=
  let x := { x0 with ready := [] }
  if canGo x g then
    if gorOk x g ∧ 0 ≤ (gorAt x g).top.fn ∧ 0 ≤ (gorAt x g).top.pc ∧ (gorAt x g).top.pc < 1000000000 then
      match p.funcs[(gorAt x g).top.fn.toNat]? with
      | none => none
      | some code => match code[(gorAt x g).top.pc.toNat]? with
        | none => some (.trap (-7) x, false)
        | some i =>
          if 0 ≤ i.op ∧ i.op ≤ 8 then (if i.okPure then some (.on (x.putG g ((gorAt x g).putTop ((gorAt x g).top.next.pure i))), false) else none)
          else if i.op = 16 then (if chooseOkB p x g i d = true then (if g < (x.choose p g i d).fin.gs.length then some (x.choose p g i d, false) else none) else none)
          else if i.op = 21 then (if isReg i.a then (if g < (x.rand g i d).fin.gs.length then some (x.rand g i d, false) else none) else none)
          else match deed p (x.next g) g i with
            | none => none
            | some r => if g < r.fin.gs.length then some (r, restOf i.op r) else none
    else none
  else some (.on x, true)
/-- A goroutine's step: the world, can it go on. -/
def exec (p : Prg) (x : Wd) (g : Int) (d : Drawn) : Option (Wd × Bool) := match execR p x g d with
  | some (.on y, rest) => some (y, keepOf y g rest)
  | some (.trap n y, rest) => some ({ y with end_ := 2, code := n }, keepOf { y with end_ := 2, code := n } g rest)
  | _ => none
section
variable {R : Mem} {L L' L2 : List HP} {M : Mem} {K : Value → Mem → Prop} {Kp : List PanicEntry → Mem → Prop} {pa : PA} {p : Prg} {gg : List GA} {dr : Value} {b : Nat} {x : Wd} {g : Int}
theorem ite_some {α : Type} {c : Prop} [Decidable c] {a b : α} (h : (if c then some a else none) = some b) : c ∧ b = a := by
  split at h
  · rename_i hc; cases h; exact ⟨hc, rfl⟩
  · cases h
theorem deed_step {i : Ins} {r : Out Wd} (hp : PrgR R pa p) (h : deed p x g i = some r) : ∃ fn, aget wTab i.op = some (.func (.func fn) #[] #[]) ∧ (1 < fn ∧ fn < 91) ∧ i.op ≠ 16 ∧ i.op ≠ 21 ∧ 8 < i.op ∧ ∀ L, OpSpec R pa p dr fn x g i r L L := by
  unfold deed at h
  by_cases e : i.op = 10
  · rw [if_pos e] at h
    obtain ⟨hc, rfl⟩ := ite_some h
    exact ⟨46, by rw [e]; rfl, by decide, by omega, by omega, by omega, fun L => op_back hc.1 hc.2.1 hc.2.2⟩
  rw [if_neg e] at h
  clear e
  by_cases e : i.op = 11
  · rw [if_pos e] at h
    obtain ⟨hc, rfl⟩ := ite_some h
    exact ⟨47, by rw [e]; rfl, by decide, by omega, by omega, by omega, fun L => op_spawn hc.1 hc.2.1 hc.2.2.1 hc.2.2.2⟩
  rw [if_neg e] at h
  clear e
  by_cases e : i.op = 13
  · rw [if_pos e] at h
    obtain ⟨hc, rfl⟩ := ite_some h
    exact ⟨49, by rw [e]; rfl, by decide, by omega, by omega, by omega, fun L => op_send hp (sendOk_of hc.1) hc.2⟩
  rw [if_neg e] at h
  clear e
  by_cases e : i.op = 14
  · rw [if_pos e] at h
    obtain ⟨hc, rfl⟩ := ite_some h
    exact ⟨50, by rw [e]; rfl, by decide, by omega, by omega, by omega, fun L => op_recv hc.1 hc.2⟩
  rw [if_neg e] at h
  clear e
  by_cases e : i.op = 15
  · rw [if_pos e] at h
    obtain ⟨hc, rfl⟩ := ite_some h
    exact ⟨51, by rw [e]; rfl, by decide, by omega, by omega, by omega, fun L => op_shut hp hc.1 hc.2⟩
  rw [if_neg e] at h
  clear e
  by_cases e : i.op = 20
  · rw [if_pos e] at h
    obtain ⟨hc, rfl⟩ := ite_some h
    exact ⟨55, by rw [e]; rfl, by decide, by omega, by omega, by omega, fun L => op_emit hc.1 hc.2.1 hc.2.2⟩
  rw [if_neg e] at h
  clear e
  by_cases e : i.op = 9
  · rw [if_pos e] at h
    obtain ⟨hc, rfl⟩ := ite_some h
    exact ⟨45, by rw [e]; rfl, by decide, by omega, by omega, by omega, fun L => op_call hc.1 hc.2⟩
  rw [if_neg e] at h
  clear e
  by_cases e : i.op = 12
  · rw [if_pos e] at h
    cases h
    exact ⟨48, by rw [e]; rfl, by decide, by omega, by omega, by omega, fun L => op_yield⟩
  rw [if_neg e] at h
  clear e
  by_cases e : i.op = 17
  · rw [if_pos e] at h
    obtain ⟨hc, rfl⟩ := ite_some h
    exact ⟨52, by rw [e]; rfl, by decide, by omega, by omega, by omega, fun L => op_sleep hc.1 hc.2.1 hc.2.2⟩
  rw [if_neg e] at h
  clear e
  by_cases e : i.op = 18
  · rw [if_pos e] at h
    obtain ⟨hc, rfl⟩ := ite_some h
    exact ⟨53, by rw [e]; rfl, by decide, by omega, by omega, by omega, fun L => op_lock hc.1 hc.2.1 hc.2.2⟩
  rw [if_neg e] at h
  clear e
  by_cases e : i.op = 19
  · rw [if_pos e] at h
    obtain ⟨hc, rfl⟩ := ite_some h
    exact ⟨54, by rw [e]; rfl, by decide, by omega, by omega, by omega, fun L => op_unlock hc.1 hc.2⟩
  rw [if_neg e] at h
  clear e
  by_cases e : i.op = 22
  · rw [if_pos e] at h
    cases h
    exact ⟨56, by rw [e]; rfl, by decide, by omega, by omega, by omega, fun L => op_stop⟩
  rw [if_neg e] at h
  clear e
  cases h
theorem idle_ready {l : List Int} (h : Hp R (objP (idleR pa p) b x :: L) M) : Hp R (objP (idleR pa p) b { x with ready := l } :: L) M := by
  obtain ⟨a, gg, dr, n, hl, h⟩ := idle_open h (b := b)
  exact idle_mk (a := a) (gg := gg) (dr := dr) (n := n) (x := { x with ready := l }) hl h
theorem DrawSpec.cons {kind n : Int} {d : Drawn} {Q : HP} (h : DrawSpec R dr kind n d L L2) : DrawSpec R dr kind n d (Q :: L) (Q :: L2) := by
  intro Q' M K Kp hM k
  refine h (sep [Q', Q]) M K Kp (Hp.sep_iff.2 hM) ?_
  cases d with
  | num v => exact fun M' h' => k M' (Hp.sep_iff.1 h')
  | dry l => exact fun M' h' => k M' (Hp.sep_iff.1 h')
theorem law_ExecR {d : Drawn} {r : Out Wd} {rest : Bool} (h : Hp R L M) [o : IAt b L pa p x L'] (hp : PrgR R pa p) (hdr : ∃ f c d, dr = .func f c d) (he : execR p x g d = some (r, rest))
    (hd : match asks p { x with ready := [] } g with | none => L2 = L' | some (kd, n) => DrawSpec R dr kd n d L' L2) (k : ExecEnd R pa p b g L2 K Kp r rest) :
    ACalls Try.prog 9 #[.pointer (some ⟨b, 0, none⟩), .int .i64 g, dr] M K Kp := by
  unfold execR at he
  dsimp only at he
  split at he
  · rename_i hg
    have hg' := hg
    obtain ⟨h0, h1, hr0, hr1⟩ := hg'
    split at he
    · rename_i hpc
      obtain ⟨hgo, hf0, hp0, hp1⟩ := hpc
      split at he
      · cases he
      · rename_i code hcode
        have done : ∀ (r : Out Wd) (rest : Bool), ExecEnd R pa p b g L2 K Kp r rest → (∀ Q, Step R pa p dr { x with ready := [] } g code r rest (Q :: L') (Q :: L2)) → g < r.fin.gs.length → ACalls Try.prog 9 #[.pointer (some ⟨b, 0, none⟩), .int .i64 g, dr] M K Kp := by
          intro r rest k hs hl
          exact world_Exec (x := x) h hp (show gorOk x g from hgo) hr0 hr1 hf0 hcode ⟨hp0, hp1⟩ hdr hs hl k
        have hask : ∀ i, code[(gorAt x g).top.pc.toNat]? = some i → asks p { x with ready := [] } g = if i.op = 21 then some (4, i.b) else if i.op = 16 then (if enabled (caseList p i) x.chans = [] then none else some (3, ((enabled (caseList p i) x.chans).length : Int))) else none := by
          intro i hi
          unfold asks
          rw [if_pos hg]
          unfold insAt
          rw [show p.funcs[(gorAt { x with ready := [] } g).top.fn.toNat]? = some code from hcode]
          dsimp only
          rw [show code[(gorAt { x with ready := [] } g).top.pc.toNat]? = some i from hi]
        split at he
        · rename_i hnone
          cases he
          have e : asks p { x with ready := [] } g = none := by
            unfold asks
            rw [if_pos hg]
            unfold insAt
            rw [show p.funcs[(gorAt { x with ready := [] } g).top.fn.toNat]? = some code from hcode]
            dsimp only
            rw [hnone]
          rw [e] at hd
          dsimp only at hd
          subst hd
          refine done (.trap (-7) { x with ready := [] }) false k (fun Q => .out ?_) h1
          have := List.getElem?_eq_none_iff.1 hnone
          omega
        · rename_i i hi
          have e := hask i hi
          rw [e] at hd
          clear e hask
          split at he
          · rename_i h8
            split at he
            · rename_i hok
              cases he
              rw [if_neg (by omega), if_neg (by omega)] at hd
              dsimp only at hd
              subst hd
              exact done (.on _) false k (fun Q => .pure i hi h8.1 h8.2 hok) (by simpa [Out.fin, Wd.putG] using h1)
            · cases he
          split at he
          · rename_i e16
            split at he
            · rename_i hok
              split at he
              · rename_i hl
                cases he
                rw [if_neg (by omega), if_pos e16] at hd
                refine done _ false k (fun Q => .sel i hi e16 (op_choose hp (chooseOk_of hok) ?_)) hl
                split at hd
                · rename_i hq
                  split at hq
                  · rename_i hq2
                    rw [if_pos (by exact hq2), hd]
                  · cases hq
                · rename_i kd n hq
                  split at hq
                  · cases hq
                  · rename_i hq2
                    cases hq
                    rw [if_neg (by exact hq2)]
                    exact hd.cons
              · cases he
            · cases he
          split at he
          · rename_i e21
            split at he
            · rename_i hok
              split at he
              · rename_i hl
                cases he
                rw [if_pos e21] at hd
                exact done _ false k (fun Q => .rnd i hi e21 (op_rand hgo hok ⟨hp0, hp1⟩ (DrawSpec.cons hd))) hl
              · cases he
            · cases he
          split at he
          · cases he
          · rename_i e16 e21 _ r' hdd
            split at he
            · rename_i hl
              cases he
              rw [if_neg e21, if_neg e16] at hd
              dsimp only at hd
              subst hd
              obtain ⟨fn, f1, f2, f3, f4, f5, f6⟩ := deed_step (R := R) (pa := pa) (dr := dr) hp hdd
              exact done _ _ k (fun Q => .dflt i fn hi f5 f3 f4 f1 f2 (f6 _)) hl
            · cases he
    · cases he
  · rename_i hr
    cases he
    have e : asks p { x with ready := [] } g = none := by
      unfold asks
      rw [if_neg hr]
    rw [e] at hd
    dsimp only at hd
    subst hd
    refine vc_world_World_Exec ?_
    refine s_nwc h ?_
    clear h
    intro kb M h
    have hC := h
    have h' := idle_open h (b := b)
    clear h
    obtain ⟨a, gg, dr0, n0, hl, h⟩ := h'
    have hl' := hl
    obtain ⟨l1, l2, l3, l4⟩ := hl'
    have fin : stc M ⟨kb, 0, none⟩ (.bool false) fun M34 => stc M34 ⟨kb, (0 + 1), none⟩ (.slice none 0 0) fun M35 =>
        exB (Mem.ld M35 ⟨kb, 0, none⟩) fun t36 => exSl (Mem.ld M35 ⟨kb, (0 + 1), none⟩) fun A37 k38 k39 => K (.agg #[(.bool t36), (.slice A37 k38 k39)]) M35 := by
      have h := hC
      clear hC
      refine s_stc h ?_
      clear h; intro M h
      refine s_stc h ?_
      clear h; intro M h
      refine t_exB h (t_exSl h ?_)
      have k2 := k R none 0 M (Mem.le_refl _) (RS.nil _ _) (idle_ready (h.drop.pick o.pick))
      exact k2
    refine bsp_dec.2 ⟨fun hn => fin, fun h0 => ?_⟩
    refine t_exSl h ?_
    refine bsp_dec.2 ⟨fun hn => fin, fun h1 => ?_⟩
    refine t_exI h ?_
    refine bsp_ne.2 ⟨fun hn => fin, fun he0 => ?_⟩
    refine t_exSl h ?_
    refine ⟨by omega, by omega, ?_⟩
    obtain ⟨gb, hgb⟩ := idx_ex (l := a.gb) (i := g.toNat) (by omega)
    refine w_g h hgb fun q hq => ?_
    obtain ⟨ga, hga⟩ := idx_ex (l := gg) (i := g.toNat) (by omega)
    obtain ⟨z, hy⟩ := idx_ex (l := x.gs) (i := g.toNat) (by omega)
    have ey : gorAt x g = z := by simp [gorAt, hy]
    refine u_nilc ?_
    have hld : M.ld ⟨gb, 0, none⟩ = some (.int .i64 z.st) := by
      have h9 := gor_open (b := gb) (h.objs_out gorR hgb (zip_atL hy hga))
      exact t_ld h9
    rw [hld]
    refine u_exI ?_
    refine bsp_ne.2 ⟨fun hn => fin, fun hn => ?_⟩
    exact absurd ⟨by omega, by show g < (x.gs.length : Int); omega, he0, by show (gorAt x g).st = 1; rw [ey]; exact hn⟩ hr
theorem law_Exec {d : Drawn} {y : Wd} {kp : Bool} (h : Hp R L M) [o : IAt b L pa p x L'] (hp : PrgR R pa p) (hdr : ∃ f c d, dr = .func f c d) (he : exec p x g d = some (y, kp))
    (hd : match asks p { x with ready := [] } g with | none => L2 = L' | some (kd, n) => DrawSpec R dr kd n d L' L2)
    (k : ∀ R' A c M', R.le R' → RS intE R' A c y.ready → Hp R' (objP (idleR pa p) b y :: L2) M' → K (.agg #[.bool kp, .slice A y.ready.length c]) M') :
    ACalls Try.prog 9 #[.pointer (some ⟨b, 0, none⟩), .int .i64 g, dr] M K Kp := by
  unfold exec at he
  cases hr : execR p x g d with
  | none => rw [hr] at he; cases he
  | some q =>
    obtain ⟨r, rest⟩ := q
    rw [hr] at he
    cases r with
    | on z => cases he; exact law_ExecR h hp hdr hr hd k
    | trap n z => cases he; exact law_ExecR h hp hdr hr hd k
    | dry l z => cases he
end
end Go.Proofs

namespace Go.Proofs
open Go.AF
set_option linter.unusedVariables false
set_option maxRecDepth 100000
set_option maxHeartbeats 1000000
attribute [local irreducible] exI exB exS exP exSl exV nilc stc nwc semK semU bsp
/-- A step of a run: who, by which draw, what is asked. -/
structure Stp where
  g : Int
  d : Int
  ask : Option (Int × Int)
def runs (p : Prg) : List Stp → Wd → Option Wd
  | [], w => some w
  | s :: l, w => if asks p { w with ready := [] } s.g = s.ask then (match exec p w s.g (.num s.d) with
    | some (y, _) => runs p l y
    | none => none) else none
theorem runs_at {p : Prg} {tr : List Stp} {j : Nat} {s : Stp} {w z : Wd} (h : runs p (tr.drop j) w = some z) (hs : tr[j]? = some s) :
    asks p { w with ready := [] } s.g = s.ask ∧ ∃ y kp, exec p w s.g (.num s.d) = some (y, kp) ∧ runs p (tr.drop (j + 1)) y = some z := by
  obtain ⟨hj, e⟩ := List.getElem?_eq_some_iff.1 hs
  rw [List.drop_eq_getElem_cons hj, e] at h
  unfold runs at h
  split at h
  · rename_i ha
    refine ⟨ha, ?_⟩
    cases he : exec p w s.g (.num s.d) with
    | none => rw [he] at h; cases h
    | some q => rw [he] at h; exact ⟨q.1, q.2, rfl, h⟩
  · cases h
theorem _root_.Go.AF.Hp.append1n {α : Type} {E : Enc α} {R : Mem} {L L' L'' : List HP} {M : Mem} {T c n : Nat} {A : Option Addr} {l : List α} {P : Program} {t bytes ty k d m : Nat} {zero rc : List Value} {K : Value → Mem → Prop} {Kp : List PanicEntry → Mem → Prop}
    (h : Hp R L M) [ha : RowAt A L α E T c l L'] [hk : PtAt k L' rc T L''] (El : ElemOk P t T E.z bytes zero) (r : List α) (he : rc = E.cells r) (hn : n = l.length) (hm : m = r.length) (hb : (l.length + r.length) * bytes ≤ 140737488355328)
    (g : ∀ A' c' M', Hp R (rowP E T A' c' (l ++ r) :: L'') M' → K (.slice A' (n + m) c') M') :
    semK P (Builtin.append_ #[t, t] ty #[.slice A n c, .slice (some ⟨k, 0, none⟩) m d]) M K Kp := by
  subst hn
  refine h.rowAppend1 (A := A) El r he hm hb fun A' c' M' h => ?_
  have := g A' c' M' h
  rwa [hm, ← List.length_append] at this
theorem callK_cap {C : Ctx} {g : Nat} {caps : Array Value} {args : List Value} {M : Mem} {K : Value → Mem → Prop} {Kp : List PanicEntry → Mem → Prop} (hg : 1 < g ∧ g < C.ok) (h : ACalls C.P g (args ++ caps.toList).toArray M K Kp) : callK C (.func (.func g) #[] caps) args M K Kp := by
  unfold callK
  simp only
  rw [if_pos hg]
  simpa using h
section
variable {R : Mem} {L L' L2 : List HP} {M : Mem} {K : Value → Mem → Prop} {Kp : List PanicEntry → Mem → Prop} {pa : PA} {p : Prg} {dr : Value} {b : Nat} {x : Wd} {g : Int}
/-- A step that draws nothing. -/
theorem law_Exec0 {d : Drawn} {y : Wd} {kp : Bool} (h : Hp R L M) [o : IAt b L pa p x L'] (hp : PrgR R pa p) (hdr : ∃ f c d, dr = .func f c d) (he : exec p x g d = some (y, kp)) (ha : asks p { x with ready := [] } g = none)
    (k : ∀ R' A c M', R.le R' → RS intE R' A c y.ready → Hp R' (objP (idleR pa p) b y :: L') M' → K (.agg #[.bool kp, .slice A y.ready.length c]) M') :
    ACalls Try.prog 9 #[.pointer (some ⟨b, 0, none⟩), .int .i64 g, dr] M K Kp :=
  law_Exec h hp hdr he (by rw [ha]) k
end
end Go.Proofs

namespace Go.Proofs
open Go.AF
set_option linter.unusedVariables false
set_option maxRecDepth 100000
set_option maxHeartbeats 1000000
attribute [local irreducible] exI exB exS exP exSl exV nilc stc nwc semK semU bsp
def p0 : Prg := ⟨[[⟨20, 0, 0, 0⟩, ⟨10, 0, 0, 0⟩]], [], 0, []⟩
def aw1 : Wd × Bool := (exec p0 (Wd.new p0) 0 (.num 0)).getD (Wd.new p0, false)
def aw2 : Wd × Bool := (exec p0 aw1.1 0 (.num 0)).getD (Wd.new p0, false)
theorem aw1_eq : exec p0 (Wd.new p0) 0 (.num 0) = some (aw1.1, true) := by kernel_rfl
theorem aw2_eq : exec p0 aw1.1 0 (.num 0) = some (aw2.1, false) := by kernel_rfl
section
variable {R : Mem} {L L' : List HP} {M : Mem} {K : Value → Mem → Prop} {Kp : List PanicEntry → Mem → Prop}
theorem law16_awake (h : Hp R L M) (k : ∀ R' M', R.le R' → Hp R' L M' → K (.bool true) M') : ACalls Try.prog 6 #[] M K Kp := by
  refine vc_shunterlaw16_awake ?_
  refine s_nwc h ?_
  clear h; intro k1 M h
  refine s_nwc h ?_
  clear h; intro k3 M h
  have h1 := (h.pt k1).row_pt (E := insE) (l := [⟨20, 0, 0, 0⟩, ⟨10, 0, 0, 0⟩]) rfl
  obtain ⟨R1, hle1, hr1, h2⟩ := h1.sealRow (some ⟨k1, 0, none⟩)
  have h3 := h2.row_pt (E := slE) (l := [(some ⟨k1, 0, none⟩, 2, 2)]) rfl
  obtain ⟨R2, hle2, hr2, h4⟩ := h3.sealRow (some ⟨k3, 0, none⟩)
  clear h h1 h2 h3
  have hp : PrgR R2 ⟨some ⟨k3, 0, none⟩, 1, none, 0, none, 0⟩ p0 := ⟨⟨_, hr2, rfl, fun i t f a b => by
    match i, a, b with
    | 0, a, b => simp at a; cases b; subst a; exact ⟨hr1.le hle2, rfl⟩
    | i + 1, a, b => simp at a⟩, RS.nil _ _⟩
  have hle : R.le R2 := Mem.le_trans hle1 hle2
  refine world_New (p := p0) (pa := ⟨some ⟨k3, 0, none⟩, 1, none, 0, none, 0⟩) h4 (RS.nil _ _) (by decide) (by decide) ?_
  clear h4
  intro b M h
  refine u_exP (u_bspF ?_)
  refine law_Exec0 h hp ⟨_, _, _, rfl⟩ aw1_eq (by kernel_rfl) ?_
  clear h
  intro R3 A1 c1 M hle3 hrs1 h
  refine ⟨_, _, _, _, rfl, ?_⟩
  refine law_Exec0 h (hp.le hle3) ⟨_, _, _, rfl⟩ aw2_eq (by kernel_rfl) ?_
  clear h
  intro R4 A2 c2 M hle4 hrs2 h
  refine ⟨_, _, _, _, rfl, ?_⟩
  repeat (first | (refine s_nwc h ?_; clear h; intro kb M h) | (refine s_stc h ?_; clear h; intro M h) | refine t_exI h ?_ | refine t_exB h ?_ | refine t_exS h ?_ | refine t_exP h ?_ | refine t_exSl h ?_ | refine t_exV h ?_ | refine u_exI ?_ | refine u_exB ?_ | refine u_exS ?_ | refine u_exP ?_ | refine u_exSl ?_ | refine u_exV ?_ | refine u_nilc ?_ | (apply Exists.intro; (repeat apply Exists.intro); refine And.intro rfl ?_) | (refine And.intro ?_ ?_; first | exact trivial | exact rfl | exact t_ld h | (refine lds_s (t_ld h) ?_; (repeat (refine lds_s (t_ld h) ?_)); exact lds_nil) | omega) | refine u_bspT ?_ | refine u_bspF ?_)
  refine world_End h ?_
  refine ⟨_, _, rfl, ?_⟩
  have e2 : aw2.1.out = [0] := by kernel_rfl
  refine world_Out h (by rw [e2]; decide) ?_
  clear h
  intro A c M h
  refine u_exSl ?_
  refine t_exB h (u_bspT ?_)
  refine t_exB h ?_
  refine u_bspT ?_
  have e1 : (aw2.1.end_ == 1) = true := by kernel_rfl
  rw [e2] at h
  rw [e1, e2]
  refine u_bspT (u_bspC (by rfl) ?_)
  refine ⟨by omega, by decide, ?_⟩
  obtain ⟨bo, rfl⟩ := h.row_some (A := A) (by decide) (by decide)
  refine u_nilc ?_
  refine v_exI (Src.at (h.src (A := some ⟨bo, 0, none⟩)) h (i := 0) (j := 0) rfl rfl (by simp [intE])) ?_
  refine u_bspC (by rfl) ?_
  have e4 : aw2.1.gs.length = 1 := by kernel_rfl
  refine world_Status h (by omega) (by omega) ?_
  have e3 : (gorAt aw2.1 0).st = 4 := by kernel_rfl
  rw [e3]
  exact u_exI (k _ _ (Mem.le_trans hle (Mem.le_trans hle3 hle4)) (h.sub (by repeat (first | exact Sub.refl | refine Sub.cons (by first | exact Pick.here | exact (.there .here) | exact (.there (.there .here)) | exact (.there (.there (.there .here))) | exact (.there (.there (.there (.there .here)))) | exact (.there (.there (.there (.there (.there .here))))) | exact (.there (.there (.there (.there (.there (.there .here)))))) | exact (.there (.there (.there (.there (.there (.there (.there .here))))))) | exact (.there (.there (.there (.there (.there (.there (.there (.there .here)))))))) | exact (.there (.there (.there (.there (.there (.there (.there (.there (.there .here))))))))) | exact (.there (.there (.there (.there (.there (.there (.there (.there (.there (.there .here)))))))))) | exact (.there (.there (.there (.there (.there (.there (.there (.there (.there (.there (.there .here))))))))))) | exact (.there (.there (.there (.there (.there (.there (.there (.there (.there (.there (.there (.there .here)))))))))))) | exact (.there (.there (.there (.there (.there (.there (.there (.there (.there (.there (.there (.there (.there .here))))))))))))) | exact (.there (.there (.there (.there (.there (.there (.there (.there (.there (.there (.there (.there (.there (.there .here)))))))))))))) | exact (.there (.there (.there (.there (.there (.there (.there (.there (.there (.there (.there (.there (.there (.there (.there .here)))))))))))))))) ?_ | refine Sub.drop ?_))))
end
end Go.Proofs

namespace Go.Proofs
open Go.AF
set_option linter.unusedVariables false
set_option maxRecDepth 100000
set_option maxHeartbeats 1000000
attribute [local irreducible] exI exB exS exP exSl exV nilc stc nwc semK semU bsp
def cansOf (fl : List Bool) (j : Nat) : List Int := ((List.range j).filter fun i => fl.getD i false).map Int.ofNat
theorem cansOf_succ {fl : List Bool} {j : Nat} {t : Bool} (h : fl[j]? = some t) : cansOf fl (j + 1) = cansOf fl j ++ (if t then [(j : Int)] else []) := by
  unfold cansOf
  rw [List.range_succ, List.filter_append, List.map_append]
  congr 1
  have e : fl.getD j false = t := by simp [h]
  simp only [List.filter_cons, List.filter_nil, e]
  cases t <;> rfl
theorem cansOf_len (fl : List Bool) (j : Nat) : (cansOf fl j).length ≤ j := by
  unfold cansOf; rw [List.length_map]; exact Nat.le_trans (List.length_filter_le ..) (by simp)
def mainOf (fl : List Bool) (j : Nat) : List Ins := ⟨1, 1, 5, 0⟩ :: (cansOf fl j).map fun i => ⟨13, i, 1, 0⟩
theorem mainOf_succ {fl : List Bool} {j : Nat} {t : Bool} (h : fl[j]? = some t) : mainOf fl (j + 1) = mainOf fl j ++ (if t then [⟨13, (j : Int), 1, 0⟩] else []) := by
  unfold mainOf
  rw [cansOf_succ h, List.map_append, List.cons_append]
  cases t <;> rfl
theorem mainOf_len (fl : List Bool) (j : Nat) : (mainOf fl j).length = (cansOf fl j).length + 1 := by simp [mainOf]
def casesOf (j : Nat) : List Cas := (List.range j).map fun i : Nat => ⟨0, (i : Int), 2⟩
theorem casesOf_succ (j : Nat) : casesOf (j + 1) = casesOf j ++ [⟨0, (j : Int), 2⟩] := by unfold casesOf; rw [List.range_succ, List.map_append]; rfl
def pS (fl : List Bool) (late : Int) : Prg :=
  ⟨[mainOf fl fl.length ++ [⟨11, 1, 1, 6⟩, ⟨16, 0, (fl.length : Int), 3⟩, ⟨12, 0, 0, 0⟩], [⟨13, late, 0, 0⟩, ⟨10, 0, 0, 0⟩]], List.replicate fl.length 1, 0, casesOf fl.length⟩
def trS (fl : List Bool) (d : Int) : List Stp :=
  List.replicate ((cansOf fl fl.length).length + 2) ⟨0, 0, none⟩ ++ [⟨0, d, if (cansOf fl fl.length).length = 0 then none else some (3, ((cansOf fl fl.length).length : Int))⟩]
def okA (fl : List Bool) (at_ : Int) (z : Wd) : Bool :=
  decide (gorOk z 0) && (gorAt z 0).top.reg 2 == 5 && (gorAt z 0).top.reg 3 == at_ && (gorAt z 0).st == 1 &&
    (List.range fl.length).all fun i => decide (chOk z (i : Int)) && decide ((chAt z.chans (i : Int)).Small 1000) && ((chAt z.chans (i : Int)).buf.length == 1) == (fl.getD i false && (i : Int) != at_)
def chkA (fl : List Bool) (late : Int) (d : Nat) : Bool := match runs (pS fl late) (trS fl (d : Int)) (Wd.new (pS fl late)) with
  | some z => okA fl ((cansOf fl fl.length).getD d 0) z
  | none => false
def okB (n : Nat) (late : Int) (z : Wd) : Bool :=
  decide (gorOk z 0) && (gorAt z 0).top.reg 2 == 5 && (gorAt z 0).top.reg 3 == late && (gorAt z 0).st == 1 && z.ready == [0] &&
    (List.range n).all fun i => decide (chOk z (i : Int)) && decide ((chAt z.chans (i : Int)).Small 1000) && (chAt z.chans (i : Int)).buf.length == 0 && (chAt z.chans (i : Int)).rcv.length == 0
def chkB (fl : List Bool) (late : Nat) : Bool := match runs (pS fl (late : Int)) (trS fl 0) (Wd.new (pS fl (late : Int))) with
  | some z => (gorAt z 0).st == 2 && decide (gorOk z 0) && (match runs (pS fl (late : Int)) [⟨1, 0, none⟩] z with
    | some y => okB fl.length (late : Int) y
    | none => false)
  | none => false
def bools : Nat → List (List Bool)
  | 0 => [[]]
  | n + 1 => (bools n).flatMap fun l => [true :: l, false :: l]
theorem bools_mem : ∀ (l : List Bool), l ∈ bools l.length
  | [] => by simp [bools]
  | t :: l => by
    show _ ∈ (bools l.length).flatMap _
    exact List.mem_flatMap.2 ⟨l, bools_mem l, by cases t <;> simp⟩
theorem chkA_all (late : Int) : ((List.range 7).all fun n => (bools n).all fun fl => (List.range (cansOf fl fl.length).length).all fun d => chkA fl late d) = true := by kernel_rfl
theorem chkB_all : ((List.range 7).all fun n => (bools n).all fun fl => !(cansOf fl fl.length).isEmpty || (List.range fl.length).all fun late => chkB fl late) = true := by kernel_rfl
theorem chkA_at {fl : List Bool} (hl : fl.length ≤ 6) (late : Int) {d : Nat} (hd : d < (cansOf fl fl.length).length) : chkA fl late d = true := by
  have h1 := List.all_eq_true.1 (chkA_all late) fl.length (List.mem_range.2 (by omega))
  have h2 := List.all_eq_true.1 h1 fl (bools_mem fl)
  exact List.all_eq_true.1 h2 d (List.mem_range.2 hd)
theorem chkB_at {fl : List Bool} (hl : fl.length ≤ 6) (he : cansOf fl fl.length = []) {late : Nat} (hd : late < fl.length) : chkB fl late = true := by
  have h1 := List.all_eq_true.1 chkB_all fl.length (List.mem_range.2 (by omega))
  have h2 := List.all_eq_true.1 h1 fl (bools_mem fl)
  rw [he] at h2
  exact List.all_eq_true.1 h2 late (List.mem_range.2 hd)
end Go.Proofs

namespace Go.Proofs
open Go.AF
set_option linter.unusedVariables false
set_option maxRecDepth 100000
set_option maxHeartbeats 1000000
attribute [local irreducible] exI exB exS exP exSl exV nilc stc nwc semK semU bsp
theorem el_ins : ElemOk Try.prog 32 31 4 32 [.int .i64 0, .int .i64 0, .int .i64 0, .int .i64 0] := ElemOk.mk' (zv := .agg #[.int .i64 0, .int .i64 0, .int .i64 0, .int .i64 0]) (by kernel_rfl) (by kernel_rfl) rfl (by omega)
theorem el_cas : ElemOk Try.prog 26 34 3 24 [.int .i64 0, .int .i64 0, .int .i64 0] := ElemOk.mk' (zv := .agg #[.int .i64 0, .int .i64 0, .int .i64 0]) (by kernel_rfl) (by kernel_rfl) rfl (by omega)
abbrev rowN (A : Option Addr) (c : Nat) (l : List Ins) : HP := rowP insE 31 A c l
abbrev rowK (A : Option Addr) (c : Nat) (l : List Cas) : HP := rowP casE 34 A c l
theorem drawer {R : Mem} {L : List HP} {ka kd : Nat} {a0 dr0 n : Int} (hn : n ≠ 0) :
    DrawSpec R (.func (.func 8) #[] #[.pointer (some ⟨ka, 0, none⟩), .pointer (some ⟨kd, 0, none⟩)]) 3 n (.num (Int.tmod dr0 n))
      (pt ka [.int .i64 a0] 3 :: pt kd [.int .i64 dr0] 3 :: L) (pt ka [.int .i64 n] 3 :: pt kd [.int .i64 dr0] 3 :: L) := by
  intro Q M K Kp h k
  refine callK_cap ⟨by decide, by show _ < 91; decide⟩ ?_
  refine vc_shunterlaw16_WorldSelects_1 ?_
  refine s_stc h ?_
  clear h; intro M h
  refine t_exI h ⟨hn, ?_⟩
  exact k _ h
section
variable {M : Mem} {K : Value → Mem → Prop} {Kp : List PanicEntry → Mem → Prop}
theorem sel_some {R : Mem} {B0 B : Option Addr} {m0 cb k104 k1 b qd j : Nat} {fl : List Bool} {gv : Nat → Bool} {w : Wd} {pa : PA} {p : Prg}
    (h : Hp R (objP (idleR pa p) b w :: pt k104 [.int .i64 ((cansOf fl j).length : Int)] 3 :: pt k1 [.int .i64 (qd : Int)] 3 :: []) M) (hm : 0 < (cansOf fl j).length) (hfll : fl.length = j) (hnm : j ≤ m0) (hn6 : j ≤ 6)
    (hfat : ∀ i, i < j → fl[i]? = some (gv i)) (hgv : ∀ i, i < m0 → ∃ b o, B0 = some ⟨b, o, none⟩ ∧ R.ld ⟨b, o + i, none⟩ = some (.bool (gv i))) (r6 : RS intE R B cb (cansOf fl j))
    (hck : okA fl ((cansOf fl j).getD (qd % (cansOf fl j).length) 0) w = true) (k' : ∀ bs c M', Hp R (rowF (some ⟨bs, 0, none⟩) c (gorAt w 0).fs :: objP (idleR pa p) b w :: pt k104 [.int .i64 ((cansOf fl j).length : Int)] 3 :: []) M' → K (.bool true) M') :
    ACalls Try.prog 10 #[(.pointer (some ⟨b, 0, none⟩)), (.int .i64 0)] M (fun v120 M121 =>
          exSl (some v120) fun A122 k123 k124 =>
          ACalls Try.prog 11 #[(.slice A122 k123 k124)] M121 (fun v125 M126 =>
          exP (some v125) fun A127 =>
          exI (Mem.ld M126 ⟨k1, 0, none⟩) .i64 fun n128 =>
          (((((cansOf fl j).length : Nat) : Int) : Int) ≠ 0) ∧
          ((0 : Int) ≤ (Int.tmod n128 (((cansOf fl j).length : Nat) : Int))) ∧
          (((Int.tmod n128 (((cansOf fl j).length : Nat) : Int)) : Int) < (((cansOf fl j).length : Nat) : Int)) ∧
          nilc B fun k129 k130 =>
          exI (Mem.ld M126 ⟨k129, (k130 + (Int.toNat (Int.tmod n128 (((cansOf fl j).length : Nat) : Int)))), none⟩) .i64 fun n131 =>
          ∃ I132 : Nat → List Value → Mem → Prop, (∃ k133 : Nat, I132 k133 [(.int .i64 0)] M126) ∧
          ∀ k134 : Nat, ∀ junk135 : Nat → Value, ∀ n136 : Int, ∀ M137 : Mem, (I132 k134 [(.int .i64 n136)] M137) → bsp (decide ((n136 : Int) < ((j : Nat) : Int)))
           (ACalls Try.prog 12 #[(.pointer (some ⟨b, 0, none⟩)), (.int .i64 n136)] M137 (fun v138 M139 =>
            ∃ A140 : Option Addr, ∃ k141 : Nat, ∃ k142 : Nat, ∃ A143 : Option Addr, ∃ k144 : Nat, ∃ k145 : Nat, ∃ A146 : Option Addr, ∃ k147 : Nat, ∃ k148 : Nat, ∃ t149 : Bool, (v138 = (.agg #[(.slice A140 k141 k142), (.slice A143 k144 k145), (.slice A146 k147 k148), (.bool t149)])) ∧
            ((0 : Int) ≤ n136) ∧
            ((n136 : Int) < ((m0 : Nat) : Int)) ∧
            nilc B0 fun k150 k151 =>
            exB (Mem.ld M139 ⟨k150, (k151 + (Int.toNat n136)), none⟩) fun t152 =>
            bsp t152
             (bsp (!((((k141 : Nat) : Int) == 1) == (n136 != n131)))
               (K (.bool false) M139)
               (∃ k153 : Nat, (k153 < k134) ∧
                I132 k153 [(.int .i64 (IntKind.wrap .i64 (n136 + 1)))] M139))
             (bsp (!((((k141 : Nat) : Int) == 1) == false))
               (K (.bool false) M139)
               (∃ k154 : Nat, (k154 < k134) ∧
                I132 k154 [(.int .i64 (IntKind.wrap .i64 (n136 + 1)))] M139))) Kp)
           (exI (Mem.ld M137 ⟨k104, 0, none⟩) .i64 fun n155 =>
            bsp (n155 == (((cansOf fl j).length : Nat) : Int))
             (nilc A127 fun k156 k157 =>
              ((0 : Int) ≤ 2) ∧
              ((2 : Int) < 8) ∧
              exI (Mem.ld M137 ⟨k156, ((k157 + 2) + 2), none⟩) .i64 fun n158 =>
              bsp (n158 == 5)
               (nilc A127 fun k159 k160 =>
                ((0 : Int) ≤ 3) ∧
                ((3 : Int) < 8) ∧
                exI (Mem.ld M137 ⟨k159, ((k160 + 2) + 3), none⟩) .i64 fun n161 =>
                bsp (n161 == n131)
                 (ACalls Try.prog 13 #[(.pointer (some ⟨b, 0, none⟩)), (.int .i64 0)] M137 (fun v162 M163 =>
                  exI (some v162) .i64 fun n164 =>
                  K (.bool (n164 == 1)) M163) Kp)
                 (K (.bool false) M137))
               (K (.bool false) M137))
             (K (.bool false) M137))) Kp) Kp := by
  unfold okA at hck
  simp only [Bool.and_eq_true, decide_eq_true_eq, beq_iff_eq, List.all_eq_true] at hck
  obtain ⟨⟨⟨⟨hg, hr2⟩, hr3⟩, hst⟩, hall⟩ := hck
  refine world_Stack h hg ?_
  clear h
  intro bs c M h
  obtain ⟨g0, g1, g2, g3⟩ := hg
  refine u_exSl ?_
  refine frame_Top g2 (by omega) ?_
  refine u_exP ?_
  refine t_exI h ?_
  rw [tmod_nat]
  have hda : qd % (cansOf fl j).length < (cansOf fl j).length := Nat.mod_lt _ hm
  generalize qd % (cansOf fl j).length = at_ at hda hr3 hall
  obtain ⟨v, hv⟩ := idx_ex hda
  have hve : (cansOf fl j).getD at_ 0 = v := by simp [hv]
  rw [hve] at hr3 hall
  obtain ⟨bb, bo, hB⟩ := r6.some (by omega) (by decide)
  have r7 := r6
  rw [hB] at r7
  rw [hB]
  refine ⟨by omega, by omega, by omega, u_nilc ?_⟩
  simp only [Int.toNat_natCast]
  refine v_exI (Src.at (r7.src (L := _)) h (i := at_) (j := 0) hv rfl (by simp [intE])) ?_
  refine ⟨fun d vs M => ∃ (i : Nat), vs = [.int .i64 (i : Int)] ∧ d = j - i ∧ i ≤ j ∧ Hp R (rowF (some ⟨bs, 0, none⟩) c (gorAt w 0).fs :: objP (idleR pa p) b w :: pt k104 [.int .i64 ((cansOf fl j).length : Int)] 3 :: []) M, ⟨_, 0, rfl, rfl, by omega, h.sub (by repeat (first | exact Sub.refl | refine Sub.cons (by first | exact Pick.here | exact (.there .here) | exact (.there (.there .here)) | exact (.there (.there (.there .here))) | exact (.there (.there (.there (.there .here)))) | exact (.there (.there (.there (.there (.there .here))))) | exact (.there (.there (.there (.there (.there (.there .here)))))) | exact (.there (.there (.there (.there (.there (.there (.there .here))))))) | exact (.there (.there (.there (.there (.there (.there (.there (.there .here)))))))) | exact (.there (.there (.there (.there (.there (.there (.there (.there (.there .here))))))))) | exact (.there (.there (.there (.there (.there (.there (.there (.there (.there (.there .here)))))))))) | exact (.there (.there (.there (.there (.there (.there (.there (.there (.there (.there (.there .here))))))))))) | exact (.there (.there (.there (.there (.there (.there (.there (.there (.there (.there (.there (.there .here)))))))))))) | exact (.there (.there (.there (.there (.there (.there (.there (.there (.there (.there (.there (.there (.there .here))))))))))))) | exact (.there (.there (.there (.there (.there (.there (.there (.there (.there (.there (.there (.there (.there (.there .here)))))))))))))) | exact (.there (.there (.there (.there (.there (.there (.there (.there (.there (.there (.there (.there (.there (.there (.there .here)))))))))))))))) ?_ | refine Sub.drop ?_))⟩, ?_⟩
  clear h
  rintro d _ nn M ⟨i, he, hd, hi, h⟩
  simp only [List.cons.injEq, Value.int.injEq, and_true, true_and] at he
  subst he
  refine bsp_dec.2 ⟨fun hlt => ?_, fun hge => ?_⟩
  · obtain ⟨⟨z1, z2⟩, z3⟩ := hall i (List.mem_range.2 (by omega))
    refine world_Chan h z1 (z2.mono (by omega)) ?_
    clear h
    intro A ca B cb D cd M h
    refine ⟨_, _, _, _, _, _, _, _, _, _, rfl, by omega, by omega, ?_⟩
    obtain ⟨bb2, bo2, hB0, hbv⟩ := hgv i (by omega)
    rw [hB0]
    refine u_nilc ?_
    refine v_exB (h.ldR hbv) ?_
    have hfi : fl.getD i false = gv i := by simp [hfat i (by omega)]
    rw [hfi] at z3
    have ei : (((chAt w.chans (i : Int)).buf.length : Int) == 1) = ((chAt w.chans (i : Int)).buf.length == 1) := by rw [Bool.eq_iff_iff]; simp; omega
    rw [ei, z3]
    have hk : ∃ k153 : Nat, k153 < d ∧ ∃ (i' : Nat), [Value.int .i64 (IntKind.wrap .i64 ((i : Int) + 1))] = [.int .i64 (i' : Int)] ∧ k153 = j - i' ∧ i' ≤ j ∧ Hp R (rowF (some ⟨bs, 0, none⟩) c (gorAt w 0).fs :: objP (idleR pa p) b w :: pt k104 [.int .i64 ((cansOf fl j).length : Int)] 3 :: []) M := by
      rw [wrap_succ (by omega)]
      exact ⟨j - (i + 1), by omega, i + 1, rfl, rfl, by omega, h.sub (by repeat (first | exact Sub.refl | refine Sub.cons (by first | exact Pick.here | exact (.there .here) | exact (.there (.there .here)) | exact (.there (.there (.there .here))) | exact (.there (.there (.there (.there .here)))) | exact (.there (.there (.there (.there (.there .here))))) | exact (.there (.there (.there (.there (.there (.there .here)))))) | exact (.there (.there (.there (.there (.there (.there (.there .here))))))) | exact (.there (.there (.there (.there (.there (.there (.there (.there .here)))))))) | exact (.there (.there (.there (.there (.there (.there (.there (.there (.there .here))))))))) | exact (.there (.there (.there (.there (.there (.there (.there (.there (.there (.there .here)))))))))) | exact (.there (.there (.there (.there (.there (.there (.there (.there (.there (.there (.there .here))))))))))) | exact (.there (.there (.there (.there (.there (.there (.there (.there (.there (.there (.there (.there .here)))))))))))) | exact (.there (.there (.there (.there (.there (.there (.there (.there (.there (.there (.there (.there (.there .here))))))))))))) | exact (.there (.there (.there (.there (.there (.there (.there (.there (.there (.there (.there (.there (.there (.there .here)))))))))))))) | exact (.there (.there (.there (.there (.there (.there (.there (.there (.there (.there (.there (.there (.there (.there (.there .here)))))))))))))))) ?_ | refine Sub.drop ?_))⟩
    cases gv i with
    | true => exact u_bspT (u_bspD (by simp) hk)
    | false => exact u_bspF (u_bspD (by simp) hk)
  · refine t_exI h ?_
    refine u_bspC (by simp) (u_nilc ⟨by omega, by omega, ?_⟩)
    refine f_ld h (gor_top g2) (q := 2) (by decide) rfl ?_
    rw [hr2]
    refine u_bspT (u_nilc ⟨by omega, by omega, ?_⟩)
    refine f_ld h (gor_top g2) (q := 3) (by decide) rfl ?_
    rw [hr3]
    refine u_bspC (by simp) ?_
    refine world_Status h g0 g1 ?_
    rw [hst]
    exact u_exI (k' bs c _ h)

theorem sel_none {R : Mem} {k104 k1 b late j : Nat} {qd n0 : Int} {fl : List Bool} {w : Wd} {pa : PA}
    (h : Hp R (objP (idleR pa (pS fl (late : Int))) b w :: pt k104 [.int .i64 n0] 3 :: pt k1 [.int .i64 qd] 3 :: []) M) (hm : n0 = 0) (hfll : fl.length = j) (e0 : ¬ (j : Int) = 0) (hn6 : j ≤ 6)
    (hrun0 : runs (pS fl (late : Int)) (trS fl 0) (Wd.new (pS fl (late : Int))) = some w) (hck : chkB fl late = true) (hp : PrgR R pa (pS fl (late : Int)))
    (k' : ∀ R' L' M', R.le R' → Hp R' L' M' → K (.bool true) M') :
    bsp (n0 != 0)
           (K (.bool false) M)
           (ACalls Try.prog 13 #[(.pointer (some ⟨b, 0, none⟩)), (.int .i64 0)] M (fun v166 M167 =>
            exI (some v166) .i64 fun n168 =>
            bsp (n168 != 2)
             (K (.bool false) M167)
             (ACalls Try.prog 9 #[(.pointer (some ⟨b, 0, none⟩)), (.int .i64 1), (.func (.func 8) #[] #[(.pointer (some ⟨k104, 0, none⟩)), (.pointer (some ⟨k1, 0, none⟩))])] M167 (fun v169 M170 =>
              ∃ t171 : Bool, ∃ A172 : Option Addr, ∃ k173 : Nat, ∃ k174 : Nat, (v169 = (.agg #[(.bool t171), (.slice A172 k173 k174)])) ∧
              nwc M170 (.cells #[(.bool false), (.slice none 0 0)] 39 (0, 0)) fun k175 M176 =>
              stc M176 ⟨k175, 0, none⟩ (.bool t171) fun M177 =>
              stc M177 ⟨k175, (0 + 1), none⟩ (.slice A172 k173 k174) fun M178 =>
              ACalls Try.prog 10 #[(.pointer (some ⟨b, 0, none⟩)), (.int .i64 0)] M178 (fun v179 M180 =>
              exSl (some v179) fun A181 k182 k183 =>
              ACalls Try.prog 11 #[(.slice A181 k182 k183)] M180 (fun v184 M185 =>
              exP (some v184) fun A186 =>
              ∃ I187 : Nat → List Value → Mem → Prop, (∃ k188 : Nat, I187 k188 [(.int .i64 0)] M185) ∧
              ∀ k189 : Nat, ∀ junk190 : Nat → Value, ∀ n191 : Int, ∀ M192 : Mem, (I187 k189 [(.int .i64 n191)] M192) → bsp (decide ((n191 : Int) < ((j : Nat) : Int)))
               (ACalls Try.prog 12 #[(.pointer (some ⟨b, 0, none⟩)), (.int .i64 n191)] M192 (fun v193 M194 =>
                ∃ A195 : Option Addr, ∃ k196 : Nat, ∃ k197 : Nat, ∃ A198 : Option Addr, ∃ k199 : Nat, ∃ k200 : Nat, ∃ A201 : Option Addr, ∃ k202 : Nat, ∃ k203 : Nat, ∃ t204 : Bool, (v193 = (.agg #[(.slice A195 k196 k197), (.slice A198 k199 k200), (.slice A201 k202 k203), (.bool t204)])) ∧
                nwc M194 (.cells #[(.slice none 0 0), (.slice none 0 0), (.slice none 0 0), (.bool false)] 49 (0, 0)) fun k205 M206 =>
                stc M206 ⟨k205, 0, none⟩ (.slice A195 k196 k197) fun M207 =>
                stc M207 ⟨k205, (0 + 1), none⟩ (.slice A198 k199 k200) fun M208 =>
                stc M208 ⟨k205, (0 + 2), none⟩ (.slice A201 k202 k203) fun M209 =>
                stc M209 ⟨k205, (0 + 3), none⟩ (.bool t204) fun M210 =>
                exSl (Mem.ld M210 ⟨k205, (0 + 2), none⟩) fun A211 k212 k213 =>
                bsp (((k212 : Nat) : Int) != 0)
                 (K (.bool false) M210)
                 (exSl (Mem.ld M210 ⟨k205, 0, none⟩) fun A214 k215 k216 =>
                  bsp (((k215 : Nat) : Int) != 0)
                   (K (.bool false) M210)
                   (∃ k217 : Nat, (k217 < k189) ∧
                    I187 k217 [(.int .i64 (IntKind.wrap .i64 (n191 + 1)))] M210))) Kp)
               (exSl (Mem.ld M192 ⟨k175, (0 + 1), none⟩) fun A218 k219 k220 =>
                bsp (((k219 : Nat) : Int) == 1)
                 (exSl (Mem.ld M192 ⟨k175, (0 + 1), none⟩) fun A221 k222 k223 =>
                  ((0 : Int) ≤ 0) ∧
                  ((0 : Int) < ((k222 : Nat) : Int)) ∧
                  nilc A221 fun k224 k225 =>
                  exI (Mem.ld M192 ⟨k224, (k225 + 0), none⟩) .i64 fun n226 =>
                  bsp (n226 == 0)
                   (nilc A186 fun k227 k228 =>
                    ((0 : Int) ≤ 2) ∧
                    ((2 : Int) < 8) ∧
                    exI (Mem.ld M192 ⟨k227, ((k228 + 2) + 2), none⟩) .i64 fun n229 =>
                    bsp (n229 == 5)
                     (nilc A186 fun k230 k231 =>
                      ((0 : Int) ≤ 3) ∧
                      ((3 : Int) < 8) ∧
                      exI (Mem.ld M192 ⟨k230, ((k231 + 2) + 3), none⟩) .i64 fun n232 =>
                      bsp (n232 == ((late : Nat) : Int))
                       (ACalls Try.prog 13 #[(.pointer (some ⟨b, 0, none⟩)), (.int .i64 0)] M192 (fun v233 M234 =>
                        exI (some v233) .i64 fun n235 =>
                        K (.bool (n235 == 1)) M234) Kp)
                       (K (.bool false) M192))
                     (K (.bool false) M192))
                   (K (.bool false) M192))
                 (K (.bool false) M192))) Kp) Kp) Kp)) Kp) := by
  unfold chkB at hck
  rw [hrun0] at hck
  dsimp only at hck
  simp only [Bool.and_eq_true, decide_eq_true_eq, beq_iff_eq] at hck
  obtain ⟨⟨hst, hg⟩, hck⟩ := hck
  split at hck
  · rename_i y hy
    have hy' : runs (pS fl (late : Int)) (([⟨1, 0, none⟩] : List Stp).drop 0) w = some y := hy
    obtain ⟨ha, y2, kp, hex, hy2⟩ := runs_at hy' (j := 0) (s := ⟨1, 0, none⟩) rfl
    have hyy : y2 = y := Option.some.inj hy2
    subst hyy
    unfold okB at hck
    simp only [Bool.and_eq_true, decide_eq_true_eq, beq_iff_eq, List.all_eq_true] at hck
    obtain ⟨⟨⟨⟨⟨hg2, hr2⟩, hr3⟩, hst2⟩, hrd⟩, hall⟩ := hck
    refine bsp_ne.2 ⟨fun hne => absurd hm hne, fun _ => ?_⟩
    refine world_Status h hg.1 hg.2.1 ?_
    rw [hst]
    refine u_exI ?_
    refine bsp_ne.2 ⟨fun hne => absurd rfl hne, fun _ => ?_⟩
    refine law_Exec0 h hp ⟨_, _, _, rfl⟩ hex ha ?_
    clear h
    intro R' A' c' M h1 hrs h
    refine ⟨_, _, _, _, rfl, ?_⟩
    refine s_nwc h ?_
    clear h; intro ke M h
    refine s_stc h ?_
    clear h; intro M h
    refine s_stc h ?_
    clear h; intro M h
    refine world_Stack h hg2 ?_
    clear h; intro bs c M h
    obtain ⟨g0, g1, g2, g3⟩ := hg2
    refine u_exSl ?_
    refine frame_Top g2 (by omega) ?_
    refine u_exP ?_
    refine ⟨fun d vs M => ∃ (i : Nat), vs = [.int .i64 (i : Int)] ∧ d = j - i ∧ i ≤ j ∧ Hp R' (rowF (some ⟨bs, 0, none⟩) c (gorAt y2 0).fs :: pt ke [.bool kp, .slice A' y2.ready.length c'] 39 :: objP (idleR pa (pS fl (late : Int))) b y2 :: []) M, ⟨_, 0, rfl, rfl, by omega, h.sub (by repeat (first | exact Sub.refl | refine Sub.cons (by first | exact Pick.here | exact (.there .here) | exact (.there (.there .here)) | exact (.there (.there (.there .here))) | exact (.there (.there (.there (.there .here)))) | exact (.there (.there (.there (.there (.there .here))))) | exact (.there (.there (.there (.there (.there (.there .here)))))) | exact (.there (.there (.there (.there (.there (.there (.there .here))))))) | exact (.there (.there (.there (.there (.there (.there (.there (.there .here)))))))) | exact (.there (.there (.there (.there (.there (.there (.there (.there (.there .here))))))))) | exact (.there (.there (.there (.there (.there (.there (.there (.there (.there (.there .here)))))))))) | exact (.there (.there (.there (.there (.there (.there (.there (.there (.there (.there (.there .here))))))))))) | exact (.there (.there (.there (.there (.there (.there (.there (.there (.there (.there (.there (.there .here)))))))))))) | exact (.there (.there (.there (.there (.there (.there (.there (.there (.there (.there (.there (.there (.there .here))))))))))))) | exact (.there (.there (.there (.there (.there (.there (.there (.there (.there (.there (.there (.there (.there (.there .here)))))))))))))) | exact (.there (.there (.there (.there (.there (.there (.there (.there (.there (.there (.there (.there (.there (.there (.there .here)))))))))))))))) ?_ | refine Sub.drop ?_))⟩, ?_⟩
    clear h
    rintro d _ nn M ⟨i, he, hd, hi, h⟩
    simp only [List.cons.injEq, Value.int.injEq, and_true, true_and] at he
    subst he
    refine bsp_dec.2 ⟨fun hlt => ?_, fun hge => ?_⟩
    · obtain ⟨⟨⟨z1, z2⟩, z3⟩, z4⟩ := hall i (List.mem_range.2 (by omega))
      refine world_Chan h z1 (z2.mono (by omega)) ?_
      clear h
      intro A ca B cb D cd M h
      refine ⟨_, _, _, _, _, _, _, _, _, _, rfl, ?_⟩
      refine s_nwc h ?_
      clear h; intro kf M h
      refine s_stc h ?_
      clear h; intro M h
      refine s_stc h ?_
      clear h; intro M h
      refine s_stc h ?_
      clear h; intro M h
      refine s_stc h ?_
      clear h; intro M h
      refine t_exSl h ?_
      refine bsp_ne.2 ⟨fun hne => absurd (by omega) hne, fun _ => ?_⟩
      refine t_exSl h ?_
      refine bsp_ne.2 ⟨fun hne => absurd (by omega) hne, fun _ => ?_⟩
      rw [wrap_succ (by omega)]
      exact ⟨j - (i + 1), by omega, i + 1, rfl, rfl, by omega, h.sub (by repeat (first | exact Sub.refl | refine Sub.cons (by first | exact Pick.here | exact (.there .here) | exact (.there (.there .here)) | exact (.there (.there (.there .here))) | exact (.there (.there (.there (.there .here)))) | exact (.there (.there (.there (.there (.there .here))))) | exact (.there (.there (.there (.there (.there (.there .here)))))) | exact (.there (.there (.there (.there (.there (.there (.there .here))))))) | exact (.there (.there (.there (.there (.there (.there (.there (.there .here)))))))) | exact (.there (.there (.there (.there (.there (.there (.there (.there (.there .here))))))))) | exact (.there (.there (.there (.there (.there (.there (.there (.there (.there (.there .here)))))))))) | exact (.there (.there (.there (.there (.there (.there (.there (.there (.there (.there (.there .here))))))))))) | exact (.there (.there (.there (.there (.there (.there (.there (.there (.there (.there (.there (.there .here)))))))))))) | exact (.there (.there (.there (.there (.there (.there (.there (.there (.there (.there (.there (.there (.there .here))))))))))))) | exact (.there (.there (.there (.there (.there (.there (.there (.there (.there (.there (.there (.there (.there (.there .here)))))))))))))) | exact (.there (.there (.there (.there (.there (.there (.there (.there (.there (.there (.there (.there (.there (.there (.there .here)))))))))))))))) ?_ | refine Sub.drop ?_))⟩
    · refine t_exSl h ?_
      have hrl : y2.ready.length = 1 := by rw [hrd]; rfl
      rw [hrl]
      refine u_bspT (t_exSl h ?_)
      obtain ⟨rb, ro, hrb⟩ := hrs.some (by omega) (by decide)
      rw [hrb] at hrs
      rw [hrb]
      refine ⟨by omega, by omega, u_nilc ?_⟩
      refine v_exI (Src.at (hrs.src (L := _)) h (i := 0) (j := 0) (a := 0) (by rw [hrd]; rfl) rfl rfl) ?_
      refine u_bspT (u_nilc ⟨by omega, by omega, ?_⟩)
      refine f_ld h (gor_top g2) (q := 2) (by decide) rfl ?_
      rw [hr2]
      refine u_bspT (u_nilc ⟨by omega, by omega, ?_⟩)
      refine f_ld h (gor_top g2) (q := 3) (by decide) rfl ?_
      rw [hr3]
      refine u_bspC (by simp) ?_
      refine world_Status h g0 g1 ?_
      rw [hst2]
      exact u_exI (k' R' _ _ h1 h)
  · cases hck

theorem worldSelects_ok {B0 : Option Addr} {m0 c0 : Nat} {x1 x2 : Int} (hb : BoolSl M B0 m0) (k : ∀ M', Chg [] M M' → K (.bool true) M') :
    ACalls Try.prog 3 #[.slice B0 m0 c0, .int .i64 x1, .int .i64 x2] M K Kp := by
  refine vc_shunterlaw16_WorldSelects ?_
  obtain ⟨hm0, gv, hgv⟩ := hb
  have k' : ∀ (R : Mem) (L : List HP) M', M.le R → Hp R L M' → K (.bool true) M' := fun R L M' hle h => k M' (Keep.chg (fun b o hb => h.le b o (hle b o hb)) [])
  clear k
  refine s_nwc (Hp.start M) ?_
  intro k1 M1 h
  have hgv' : ∀ (R : Mem), M.le R → ∀ i, i < m0 → ∃ b o, B0 = some ⟨b, o, none⟩ ∧ R.ld ⟨b, o + i, none⟩ = some (.bool (gv i)) := by
    intro R hle i hi
    obtain ⟨b, o, e, hv⟩ := hgv i hi
    exact ⟨b, o, e, Mem.le_ld hle hv⟩
  refine law16_awake h ?_
  clear h
  intro R0 M2 hle0 h
  refine u_exB (u_bspF ?_)
  obtain ⟨n, hn, hnm, hn6⟩ : ∃ n : Nat, (if (6 : Int) < ((m0 : Nat) : Int) then (6 : Int) else ((m0 : Nat) : Int)) = (n : Int) ∧ n ≤ m0 ∧ n ≤ 6 := by
    by_cases h6 : (6 : Int) < ((m0 : Nat) : Int)
    · exact ⟨6, by rw [if_pos h6]; rfl, by omega, by omega⟩
    · exact ⟨m0, by rw [if_neg h6], by omega, by omega⟩
  rw [hn]
  refine bsp_eq.2 ⟨fun e0 => k' R0 _ _ hle0 h, fun e0 => ?_⟩
  obtain ⟨qd, hqd, _⟩ := mask (x := x1) (y := 255) (m := 255) rfl (by omega)
  obtain ⟨ql, hql, _⟩ := mask (x := x2) (y := 255) (m := 255) rfl (by omega)
  rw [hql]
  have hlate : Int.tmod (ql : Int) (n : Int) = ((ql % n : Nat) : Int) := tmod_nat
  rw [hlate]
  have hl1 : ql % n < n := Nat.mod_lt _ (by omega)
  generalize ql % n = late at hl1
  clear hlate hql
  obtain ⟨fl, hfl⟩ : ∃ fl : List Bool, fl = (List.range n).map gv := ⟨_, rfl⟩
  have hfll : fl.length = n := by rw [hfl]; simp
  have hfat : ∀ i, i < n → fl[i]? = some (gv i) := fun i hi => by rw [hfl, List.getElem?_map, List.getElem?_range hi]; rfl
  clear hfl
  refine s_nwc h ?_
  clear h; intro k6 M h
  refine s_stc h ?_
  clear h; intro M h
  refine s_stc h ?_
  clear h; intro M h
  refine s_stc h ?_
  clear h; intro M h
  refine s_stc h ?_
  clear h; intro M h
  refine s_nwc h ?_
  clear h; intro k12 M h
  replace h := h.row_pt (E := insE) (l := [⟨1, 1, 5, 0⟩]) rfl
  refine s_nwc h ?_
  clear h; intro k14 M h
  replace h := h.row_pt (E := intE) (l := []) rfl
  replace h := (h.row_nil intE 3).row_nil casE 34
  refine ⟨fun d vs M => ∃ (j : Nat) (A : Option Addr) (c : Nat) (B : Option Addr) (cb : Nat) (X : Option Addr) (cx : Nat) (Y : Option Addr) (cy : Nat), vs = [.slice A (mainOf fl j).length c, .slice B (cansOf fl j).length cb, .int .i64 (j : Int)] ∧ d = n - j ∧ j ≤ n ∧
      Hp R0 [rowN A c (mainOf fl j), rowI B cb (cansOf fl j), rowI X cx (List.replicate j 1), rowK Y cy (casesOf j), pt k6 [.slice none 0 0, .slice X j cx, .int .i64 0, .slice Y j cy] 28, pt k1 [.int .i64 x1] 3] M,
    ⟨_, 0, _, _, _, _, none, 0, none, 0, rfl, rfl, by omega, h.sub (by repeat (first | exact Sub.refl | refine Sub.cons (by first | exact Pick.here | exact (.there .here) | exact (.there (.there .here)) | exact (.there (.there (.there .here))) | exact (.there (.there (.there (.there .here)))) | exact (.there (.there (.there (.there (.there .here))))) | exact (.there (.there (.there (.there (.there (.there .here)))))) | exact (.there (.there (.there (.there (.there (.there (.there .here))))))) | exact (.there (.there (.there (.there (.there (.there (.there (.there .here)))))))) | exact (.there (.there (.there (.there (.there (.there (.there (.there (.there .here))))))))) | exact (.there (.there (.there (.there (.there (.there (.there (.there (.there (.there .here)))))))))) | exact (.there (.there (.there (.there (.there (.there (.there (.there (.there (.there (.there .here))))))))))) | exact (.there (.there (.there (.there (.there (.there (.there (.there (.there (.there (.there (.there .here)))))))))))) | exact (.there (.there (.there (.there (.there (.there (.there (.there (.there (.there (.there (.there (.there .here))))))))))))) | exact (.there (.there (.there (.there (.there (.there (.there (.there (.there (.there (.there (.there (.there (.there .here)))))))))))))) | exact (.there (.there (.there (.there (.there (.there (.there (.there (.there (.there (.there (.there (.there (.there (.there .here)))))))))))))))) ?_ | refine Sub.drop ?_))⟩, ?_⟩
  clear h
  rintro d _ A m c B mb cb ii M ⟨j, A', c', B', cb', X, cx, Y, cy, he, hd, hj, h⟩
  simp only [List.cons.injEq, Value.slice.injEq, Value.int.injEq, and_true, true_and] at he
  obtain ⟨⟨rfl, rfl, rfl⟩, ⟨rfl, rfl, rfl⟩, rfl⟩ := he
  have hcl := cansOf_len fl j
  have hml := mainOf_len fl j
  refine bsp_dec.2 ⟨fun hlt => ?_, fun hge => ?_⟩
  · have hjn : j < n := by omega
    refine t_exSl h ?_
    refine s_nwc h ?_
    clear h; intro kb M h
    have e1 : List.replicate j (1 : Int) ++ [1] = List.replicate (j + 1) 1 := List.replicate_succ'.symm
    refine h.append1n (A := X) el_int [(1 : Int)] rfl (by simp) rfl (by simp; omega) ?_
    clear h; intro X' cx' M h
    rw [e1] at h
    refine u_exSl ?_
    refine s_stc h ?_
    clear h; intro M h
    refine t_exSl h ?_
    refine s_nwc h ?_
    clear h; intro kc M h
    refine h.append1n (A := Y) el_cas [(⟨0, (j : Int), 2⟩ : Cas)] rfl (by simp [casesOf]) rfl (by simp [casesOf]; omega) ?_
    clear h; intro Y' cy' M h
    rw [← casesOf_succ] at h
    refine u_exSl ?_
    refine s_stc h ?_
    clear h; intro M h
    refine ⟨by omega, by omega, ?_⟩
    obtain ⟨bb, bo, hB0, hbv⟩ := hgv' R0 hle0 j (by omega)
    rw [hB0]
    refine u_nilc ?_
    refine v_exB (h.ldR hbv) ?_
    refine ⟨fun vs M => ∃ (A : Option Addr) (c : Nat) (B : Option Addr) (cb : Nat), vs = [.slice A (mainOf fl (j + 1)).length c, .slice B (cansOf fl (j + 1)).length cb] ∧
      Hp R0 [rowN A c (mainOf fl (j + 1)), rowI B cb (cansOf fl (j + 1)), rowI X' cx' (List.replicate (j + 1) 1), rowK Y' cy' (casesOf (j + 1)), pt k6 [.slice none 0 0, .slice X' (j + 1) cx', .int .i64 0, .slice Y' (j + 1) cy'] 28, pt k1 [.int .i64 x1] 3] M, ?_, ?_⟩
    · have ec := cansOf_succ (hfat j hjn)
      have em := mainOf_succ (hfat j hjn)
      refine bsp_iff.2 ⟨fun ht => ?_, fun ht => ?_⟩
      · rw [if_pos ht] at ec em
        rw [ec, em]
        refine s_nwc h ?_
        clear h; intro kd M h
        refine h.rowAppend1 (A := B) el_int [(j : Int)] rfl rfl (by simp only [List.length_singleton]; omega) ?_
        clear h; intro B' cb' M h
        refine u_exSl ?_
        refine s_nwc h ?_
        clear h; intro ke M h
        refine h.rowAppend1 (A := A) el_ins [(⟨13, (j : Int), 1, 0⟩ : Ins)] rfl rfl (by simp only [List.length_singleton]; omega) ?_
        clear h; intro A' c' M h
        exact u_exSl ⟨A', c', B', cb', rfl, h.sub (by repeat (first | exact Sub.refl | refine Sub.cons (by first | exact Pick.here | exact (.there .here) | exact (.there (.there .here)) | exact (.there (.there (.there .here))) | exact (.there (.there (.there (.there .here)))) | exact (.there (.there (.there (.there (.there .here))))) | exact (.there (.there (.there (.there (.there (.there .here)))))) | exact (.there (.there (.there (.there (.there (.there (.there .here))))))) | exact (.there (.there (.there (.there (.there (.there (.there (.there .here)))))))) | exact (.there (.there (.there (.there (.there (.there (.there (.there (.there .here))))))))) | exact (.there (.there (.there (.there (.there (.there (.there (.there (.there (.there .here)))))))))) | exact (.there (.there (.there (.there (.there (.there (.there (.there (.there (.there (.there .here))))))))))) | exact (.there (.there (.there (.there (.there (.there (.there (.there (.there (.there (.there (.there .here)))))))))))) | exact (.there (.there (.there (.there (.there (.there (.there (.there (.there (.there (.there (.there (.there .here))))))))))))) | exact (.there (.there (.there (.there (.there (.there (.there (.there (.there (.there (.there (.there (.there (.there .here)))))))))))))) | exact (.there (.there (.there (.there (.there (.there (.there (.there (.there (.there (.there (.there (.there (.there (.there .here)))))))))))))))) ?_ | refine Sub.drop ?_))⟩
      · rw [if_neg (by simp [ht]), List.append_nil] at ec em
        rw [ec, em]
        exact ⟨A, c, B, cb, rfl, h.sub (by repeat (first | exact Sub.refl | refine Sub.cons (by first | exact Pick.here | exact (.there .here) | exact (.there (.there .here)) | exact (.there (.there (.there .here))) | exact (.there (.there (.there (.there .here)))) | exact (.there (.there (.there (.there (.there .here))))) | exact (.there (.there (.there (.there (.there (.there .here)))))) | exact (.there (.there (.there (.there (.there (.there (.there .here))))))) | exact (.there (.there (.there (.there (.there (.there (.there (.there .here)))))))) | exact (.there (.there (.there (.there (.there (.there (.there (.there (.there .here))))))))) | exact (.there (.there (.there (.there (.there (.there (.there (.there (.there (.there .here)))))))))) | exact (.there (.there (.there (.there (.there (.there (.there (.there (.there (.there (.there .here))))))))))) | exact (.there (.there (.there (.there (.there (.there (.there (.there (.there (.there (.there (.there .here)))))))))))) | exact (.there (.there (.there (.there (.there (.there (.there (.there (.there (.there (.there (.there (.there .here))))))))))))) | exact (.there (.there (.there (.there (.there (.there (.there (.there (.there (.there (.there (.there (.there (.there .here)))))))))))))) | exact (.there (.there (.there (.there (.there (.there (.there (.there (.there (.there (.there (.there (.there (.there (.there .here)))))))))))))))) ?_ | refine Sub.drop ?_))⟩
    · clear h
      rintro _ A m c B mb cb M ⟨A', c', B', cb', he, h⟩
      simp only [List.cons.injEq, Value.slice.injEq, and_true, true_and] at he
      obtain ⟨⟨rfl, rfl, rfl⟩, rfl, rfl, rfl⟩ := he
      rw [wrap_succ (by omega)]
      exact ⟨n - (j + 1), by omega, j + 1, A, c, B, cb, X', cx', Y', cy', rfl, rfl, by omega, h⟩
  have hjn : j = n := by omega
  subst hjn
  refine ⟨e0, ?_⟩
  refine s_nwc h ?_
  clear h; intro k77 M h
  refine h.rowAppend1 (A := A) el_ins [(⟨11, 1, 1, 6⟩ : Ins), ⟨16, 0, (j : Int), 3⟩, ⟨12, 0, 0, 0⟩] rfl rfl (by simp only [List.length_cons, List.length_nil]; omega) ?_
  clear h; intro A' c' M h
  refine u_exSl ?_
  refine s_nwc h ?_
  clear h; intro k84 M h
  refine s_nwc h ?_
  clear h; intro k86 M h
  refine s_stc h ?_
  clear h; intro M h
  refine t_exSl h (t_exSl h (t_exI h (t_exSl h ?_)))
  -- the program's rows
  obtain ⟨R1, e1, r1, h⟩ := h.sealRow A'
  obtain ⟨R2, e2, r2, h⟩ := ((h.pt k84).row_pt (E := insE) (l := [⟨13, (late : Int), 0, 0⟩, ⟨10, 0, 0, 0⟩]) rfl).sealRow (some ⟨k84, 0, none⟩)
  obtain ⟨R3, e3, r3, h⟩ := ((h.pt k86).row_pt (E := slE) (l := [(A', (mainOf fl j ++ [(⟨11, 1, 1, 6⟩ : Ins), ⟨16, 0, (j : Int), 3⟩, ⟨12, 0, 0, 0⟩]).length, c'), (some ⟨k84, 0, none⟩, 2, 2)]) rfl).sealRow (some ⟨k86, 0, none⟩)
  obtain ⟨R4, e4, r4, h⟩ := h.sealRow X
  obtain ⟨R5, e5, r5, h⟩ := h.sealRow Y
  obtain ⟨R6, e6, r6, h⟩ := h.sealRow B
  have le46 : R4.le R6 := Mem.le_trans e5 e6
  have le36 : R3.le R6 := Mem.le_trans e4 le46
  have le26 : R2.le R6 := Mem.le_trans e3 le36
  have le16 : R1.le R6 := Mem.le_trans e2 le26
  have hle6 : R0.le R6 := Mem.le_trans e1 le16
  have hpeq : pS fl (late : Int) = ⟨[mainOf fl j ++ [⟨11, 1, 1, 6⟩, ⟨16, 0, (j : Int), 3⟩, ⟨12, 0, 0, 0⟩], [⟨13, (late : Int), 0, 0⟩, ⟨10, 0, 0, 0⟩]], List.replicate j 1, 0, casesOf j⟩ := by unfold pS; rw [hfll]
  have hp : PrgR R6 ⟨some ⟨k86, 0, none⟩, 2, X, cx, Y, cy⟩ (pS fl (late : Int)) := by
    rw [hpeq]
    exact ⟨⟨_, r3.le le36, rfl, fun i t f a b => by
      match i, a, b with
      | 0, a, b => simp at a; cases b; subst a; exact ⟨r1.le le16, by simp⟩
      | 1, a, b => simp at a; cases b; subst a; exact ⟨r2.le le26, rfl⟩
      | i + 2, a, b => simp at a⟩, r5.le e6⟩
  have hch : RS intE R6 X cx (pS fl (late : Int)).chs := by rw [hpeq]; exact r4.le le46
  have hargs : (#[.agg #[.slice (some ⟨k86, 0, none⟩) 2 2, .slice X j cx, .int .i64 0, .slice Y j cy]] : Array Value) = #[.agg #[.slice (some ⟨k86, 0, none⟩) (pS fl (late : Int)).funcs.length 2, .slice X (pS fl (late : Int)).chs.length cx, .int .i64 (pS fl (late : Int)).locks, .slice Y (pS fl (late : Int)).cases.length cy]] := by
    rw [hpeq]; simp [casesOf]
  rw [hargs]
  refine world_New (p := pS fl (late : Int)) (pa := ⟨some ⟨k86, 0, none⟩, 2, X, cx, Y, cy⟩) h hch (by rw [hpeq]; simp; omega) (by rw [hpeq]; exact ⟨Int.le_refl _, show (0 : Int) ≤ 1000000 by decide⟩) ?_
  clear h hargs r1 r2 r3 r4 r5 hch e1 e2 e3 e4 e5 e6 le16 le26 le36 le46
  intro b M h
  refine u_exP ?_
  refine t_exI h ?_
  refine s_stc h ?_
  clear h; intro M h
  rw [hqd] at h
  refine s_nwc h ?_
  clear h; intro k104 M h
  refine s_stc h ?_
  clear h; intro M h
  generalize hpa : PA.mk _ _ _ _ _ _ = pa at h hp
  have hms : (cansOf fl fl.length) = cansOf fl j := by rw [hfll]
  have hlenT : (trS fl (0 : Int)).length = (cansOf fl j).length + 3 := by unfold trS; rw [hms]; simp
  have eT : IntKind.wrap .i64 (((mainOf fl j ++ [(⟨11, 1, 1, 6⟩ : Ins), ⟨16, 0, (j : Int), 3⟩, ⟨12, 0, 0, 0⟩]).length : Int) - 1) = (((cansOf fl j).length + 3 : Nat) : Int) := by
    rw [wrap_id (by simp; omega) (by simp; omega)]; simp; omega
  rw [eT]
  clear eT
  -- the run
  have hz : ∃ (dd : Int) (z : Wd), runs (pS fl (late : Int)) (trS fl dd) (Wd.new (pS fl (late : Int))) = some z ∧
      (((cansOf fl j).length = 0 ∧ dd = 0 ∧ chkB fl late = true) ∨ (0 < (cansOf fl j).length ∧ dd = Int.tmod (qd : Int) ((cansOf fl j).length : Int) ∧ okA fl ((cansOf fl j).getD (qd % (cansOf fl j).length) 0) z = true)) := by
    rcases Nat.eq_zero_or_pos (cansOf fl j).length with hz | hz
    · have hcb := chkB_at (fl := fl) (by omega) (by rw [hms]; exact List.eq_nil_of_length_eq_zero hz) (late := late) (by omega)
      have hcb' := hcb
      unfold chkB at hcb
      split at hcb
      · rename_i z hz2
        exact ⟨0, z, hz2, .inl ⟨hz, rfl, hcb'⟩⟩
      · cases hcb
    · have hda : qd % (cansOf fl j).length < (cansOf fl fl.length).length := by rw [hms]; exact Nat.mod_lt _ hz
      have hca := chkA_at (fl := fl) (by omega) (late : Int) hda
      unfold chkA at hca
      split at hca
      · rename_i z hz2
        rw [hms] at hca
        exact ⟨_, z, hz2, .inr ⟨hz, by rw [tmod_nat], hca⟩⟩
      · cases hca
  obtain ⟨dd, z, hrun, hcase⟩ := hz
  have hlenD : (trS fl dd).length = (cansOf fl j).length + 3 := by unfold trS; rw [hms]; simp
  have hat1 : ∀ q, q < (cansOf fl j).length + 2 → (trS fl dd)[q]? = some ⟨0, 0, none⟩ := by
    intro q hq
    unfold trS
    rw [hms, List.getElem?_append_left (by simp; omega), List.getElem?_replicate, if_pos hq]
  have hat2 : (trS fl dd)[(cansOf fl j).length + 2]? = some ⟨0, dd, if (cansOf fl j).length = 0 then none else some (3, ((cansOf fl j).length : Int))⟩ := by
    unfold trS
    rw [hms, List.getElem?_append_right (by simp)]
    simp
  refine ⟨fun d vs M => ∃ (q : Nat) (R : Mem) (w : Wd), vs = [.int .i64 (q : Int)] ∧ d = (cansOf fl j).length + 3 - q ∧ q ≤ (cansOf fl j).length + 3 ∧ R6.le R ∧ runs (pS fl (late : Int)) ((trS fl dd).drop q) w = some z ∧
      Hp R (objP (idleR pa (pS fl (late : Int))) b w :: pt k104 [.int .i64 (if q = (cansOf fl j).length + 3 then ((cansOf fl j).length : Int) else 0)] 3 :: pt k1 [.int .i64 (qd : Int)] 3 :: []) M, ⟨_, 0, R6, _, rfl, rfl, by omega, Mem.le_refl _, hrun, ?_⟩, ?_⟩
  · rw [if_neg (by omega)]
    exact h.sub (by repeat (first | exact Sub.refl | refine Sub.cons (by first | exact Pick.here | exact (.there .here) | exact (.there (.there .here)) | exact (.there (.there (.there .here))) | exact (.there (.there (.there (.there .here)))) | exact (.there (.there (.there (.there (.there .here))))) | exact (.there (.there (.there (.there (.there (.there .here)))))) | exact (.there (.there (.there (.there (.there (.there (.there .here))))))) | exact (.there (.there (.there (.there (.there (.there (.there (.there .here)))))))) | exact (.there (.there (.there (.there (.there (.there (.there (.there (.there .here))))))))) | exact (.there (.there (.there (.there (.there (.there (.there (.there (.there (.there .here)))))))))) | exact (.there (.there (.there (.there (.there (.there (.there (.there (.there (.there (.there .here))))))))))) | exact (.there (.there (.there (.there (.there (.there (.there (.there (.there (.there (.there (.there .here)))))))))))) | exact (.there (.there (.there (.there (.there (.there (.there (.there (.there (.there (.there (.there (.there .here))))))))))))) | exact (.there (.there (.there (.there (.there (.there (.there (.there (.there (.there (.there (.there (.there (.there .here)))))))))))))) | exact (.there (.there (.there (.there (.there (.there (.there (.there (.there (.there (.there (.there (.there (.there (.there .here)))))))))))))))) ?_ | refine Sub.drop ?_))
  have hrun0 := hrun
  clear h hrun
  rintro d _ nn M ⟨q, R, w, he, hd, hq, hle, hw, h⟩
  simp only [List.cons.injEq, Value.int.injEq, and_true, true_and] at he
  subst he
  refine bsp_dec.2 ⟨fun hlt => ?_, fun hge => ?_⟩
  · rw [if_neg (by omega)] at h
    rcases Nat.lt_or_ge q ((cansOf fl j).length + 2) with hq2 | hq2
    · obtain ⟨ha, y, kp, hex, hy⟩ := runs_at hw (hat1 q hq2)
      refine law_Exec0 h (hp.le hle) ⟨_, _, _, rfl⟩ hex ha ?_
      clear h
      intro R' A' c' M h1 h2 h
      refine ⟨_, _, _, _, rfl, ?_⟩
      rw [wrap_succ (by omega)]
      refine ⟨(cansOf fl j).length + 3 - (q + 1), by omega, q + 1, R', y, rfl, rfl, by omega, Mem.le_trans hle h1, hy, ?_⟩
      rw [if_neg (by omega)]
      exact h
    · have hqe : q = (cansOf fl j).length + 2 := by omega
      subst hqe
      obtain ⟨ha, y, kp, hex, hy⟩ := runs_at hw hat2
      have hgo : ∀ R' A' c' M', R.le R' → RS intE R' A' c' y.ready → Hp R' (objP (idleR pa (pS fl (late : Int))) b y :: pt k104 [.int .i64 ((cansOf fl j).length : Int)] 3 :: pt k1 [.int .i64 (qd : Int)] 3 :: []) M' →
          ∃ t115 : Bool, ∃ A116 : Option Addr, ∃ k117 : Nat, ∃ k118 : Nat, ((.agg #[.bool kp, .slice A' y.ready.length c'] : Value) = (.agg #[(.bool t115), (.slice A116 k117 k118)])) ∧
          ∃ k119 : Nat, (k119 < d) ∧ ∃ (q : Nat) (R : Mem) (w : Wd), [Value.int .i64 (IntKind.wrap .i64 ((((cansOf fl j).length + 2 : Nat) : Int) + 1))] = [.int .i64 (q : Int)] ∧ k119 = (cansOf fl j).length + 3 - q ∧ q ≤ (cansOf fl j).length + 3 ∧ R6.le R ∧ runs (pS fl (late : Int)) ((trS fl dd).drop q) w = some z ∧
          Hp R (objP (idleR pa (pS fl (late : Int))) b w :: pt k104 [.int .i64 (if q = (cansOf fl j).length + 3 then ((cansOf fl j).length : Int) else 0)] 3 :: pt k1 [.int .i64 (qd : Int)] 3 :: []) M' := by
        intro R' A' c' M' h1 h2 h
        rw [wrap_succ (by omega)]
        refine ⟨_, _, _, _, rfl, (cansOf fl j).length + 3 - ((cansOf fl j).length + 3), by omega, (cansOf fl j).length + 3, R', y, rfl, rfl, by omega, Mem.le_trans hle h1, hy, ?_⟩
        rw [if_pos rfl]
        exact h
      dsimp only at ha
      rcases hcase with ⟨hm, rfl, _⟩ | ⟨hm, rfl, _⟩
      · rw [if_pos hm] at ha
        refine law_Exec0 h (hp.le hle) ⟨_, _, _, rfl⟩ hex ha ?_
        clear h
        intro R' A' c' M h1 h2 h
        rw [show (0 : Int) = ((cansOf fl j).length : Int) from by omega] at h
        exact hgo R' A' c' M h1 h2 h
      · rw [if_neg (by omega)] at ha
        have hdw := drawer (R := R) (L := []) (ka := k104) (kd := k1) (a0 := 0) (dr0 := (qd : Int)) (n := ((cansOf fl j).length : Int)) (by omega)
        refine law_Exec h (hp.le hle) ⟨_, _, _, rfl⟩ hex (by rw [ha]; exact hdw) ?_
        clear h
        intro R' A' c' M h1 h2 h
        exact hgo R' A' c' M h1 h2 h
  have hqe : q = (cansOf fl j).length + 3 := by omega
  subst hqe
  rw [if_pos rfl] at h
  have hwz : w = z := by
    rw [List.drop_of_length_le (by omega)] at hw
    exact Option.some.inj hw
  subst hwz
  have hleR : M.le M := Mem.le_refl _
  have hle0R : R0.le R := Mem.le_trans hle6 hle
  rcases hcase with ⟨hm, hdd, hck⟩ | ⟨hm, hdd, hck⟩
  · refine bsp_dec.2 ⟨fun hn => by omega, fun _ => ?_⟩
    refine t_exI h ?_
    subst hdd
    have hpp := hp.le hle
    exact sel_none h (by omega) hfll e0 hn6 hrun0 hck hpp fun R' L' M' h1 h2 => k' R' L' M' (Mem.le_trans hle0 (Mem.le_trans hle0R h1)) h2
  · refine bsp_dec.2 ⟨fun _ => ?_, fun hn => by omega⟩
    exact sel_some h hm hfll hnm hn6 hfat (fun i hi => hgv' R (Mem.le_trans hle0 hle0R) i hi) (r6.le hle) hck fun _ _ M' h2 => k' R _ M' (Mem.le_trans hle0 hle0R) h2
end
end Go.Proofs
