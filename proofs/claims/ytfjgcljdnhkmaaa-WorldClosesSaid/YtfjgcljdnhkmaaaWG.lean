/- A part of proofs about functions of one program: a condition over a partial memory that is enough for a call, and what calls answer by it. No condition of its own. -/
import Derived.Test.YtfjgcljdnhkmaaaWF
import Derived.Test.YtfjgcljdnhkmaaaVDo
/- The world's next instruction. -/
namespace Go.Proofs
open Go.AF
set_option linter.unusedVariables false
set_option maxRecDepth 100000
set_option maxHeartbeats 1000000
attribute [local irreducible] exI exB exS exP exSl exV nilc stc nwc semK semU bsp
def slE : Enc (Option Addr × Nat × Nat) := ⟨1, fun t => [.slice t.1 t.2.1 t.2.2], fun _ => rfl, fun w v hv => by simp only [List.mem_singleton] at hv; subst hv; rfl⟩
/-- The program stands there, to be read. -/
structure PrgR (R : Mem) (pa : PA) (p : Prg) : Prop where
  funcs : ∃ ts : List (Option Addr × Nat × Nat), RS slE R pa.f pa.fc ts ∧ ts.length = p.funcs.length ∧ ∀ (i : Nat) t f, ts[i]? = some t → p.funcs[i]? = some f → RS insE R t.1 t.2.2 f ∧ t.2.1 = f.length
  cases : RS casE R pa.k pa.kc p.cases
theorem PrgR.le {R R' : Mem} {pa : PA} {p : Prg} (h : PrgR R pa p) (hle : R.le R') : PrgR R' pa p := by
  obtain ⟨⟨ts, h1, h2, h3⟩, h4⟩ := h
  exact ⟨⟨ts, h1.le hle, h2, fun i t f a b => ⟨(h3 i t f a b).1.le hle, (h3 i t f a b).2⟩⟩, h4.le hle⟩
def Wd.next (x : Wd) (g : Int) : Wd := x.putG g ((gorAt x g).putTop (gorAt x g).top.next)
def trapV (n : Int) : List PanicEntry := [{ v := .iface 92 (.int .i64 n), recovered := false }]
/-- What an instruction's function does. -/
def OpSpec (R : Mem) (pa : PA) (p : Prg) (dr : Value) (fnum : Nat) (x : Wd) (g : Int) (i : Ins) (r : Out Wd) (L L2 : List HP) : Prop :=
  ∀ (gg : List GA) (b bs c : Nat) (M : Mem) (K : Value → Mem → Prop) (Kp : List PanicEntry → Mem → Prop) (Q : HP), Hp R (objP (worldR pa p gg dr) b x :: Q :: L) M → gg[g.toNat]? = some (some ⟨bs, 0, none⟩, c) →
    Out.Ok r (fun y => ∀ gg' M', Hp R (objP (worldR pa p gg' dr) b y :: Q :: L2) M' → K (.tuple #[]) M') (fun n y => ∀ gg' M', Hp R (objP (worldR pa p gg' dr) b y :: Q :: L2) M' → Kp (trapV n) M') →
    ACalls Try.prog fnum #[.pointer (some ⟨b, 0, none⟩), .int .i64 g, .pointer (some ⟨bs, ((gorAt x g).fs.length - 1) * 11, none⟩), .agg #[.int .i64 i.op, .int .i64 i.a, .int .i64 i.b, .int .i64 i.c]] M K Kp
theorem Out.Ok.mono {α : Type} {r : Out α} {k1 k1' : α → Prop} {k2 k2' : Int → Wd → Prop} (h : r.Ok k1 k2) (h1 : ∀ y, k1 y → k1' y) (h2 : ∀ n y, k2 n y → k2' n y) : r.Ok k1' k2' := by
  cases r with
  | on y => exact h1 y h
  | trap n y => exact h2 n y h
section
variable {R : Mem} {L L' L2 : List HP} {M : Mem} {K : Value → Mem → Prop} {Kp : List PanicEntry → Mem → Prop} {pa : PA} {p : Prg} {gg : List GA} {dr : Value} {b : Nat} {x : Wd} {g : Int} {i : Ins}
theorem op_send (hp : PrgR R pa p) (hk : sendOk p x g i) (hs : x.Sm) : OpSpec R pa p dr 49 x g i (x.send p g i) L L := fun gg b bs c M K Kp Q h hgg k =>
  world_send h hp.cases hgg hk hs (k.mono (fun y hy M' h' => hy gg M' h') (fun n y hy M' h' => hy gg M' h'))
theorem op_recv (hk : recvOk x g i) (hs : x.Sm) : OpSpec R pa p dr 50 x g i (.on (x.recv g i)) L L := fun gg b bs c M K Kp Q h hgg k =>
  world_recv h hgg hk hs fun M' h' => k gg M' h'
theorem op_emit (hg : gorOk x g) (ha : isReg i.a) (hs : x.Sm) : OpSpec R pa p dr 55 x g i (x.emit g i) L L := fun gg b bs c M K Kp Q h hgg k =>
  world_emit h hgg hg ha hs (k.mono (fun y hy M' h' => hy gg M' h') (fun n y hy M' h' => hy gg M' h'))
theorem op_spawn (hg : gorOk x g) (hb : isReg i.b) (hc : isReg i.c) (hs : x.Sm) : OpSpec R pa p dr 47 x g i (x.spawn g i) L L := fun gg b bs c M K Kp Q h hgg k =>
  world_spawn h hgg hg hb hc hs (k.mono (fun y hy => hy) (fun n y hy M' h' => hy gg M' h'))
theorem op_shut (hp : PrgR R pa p) (hk : closeOk p x i) (hs : x.Sm) : OpSpec R pa p dr 51 x g i (x.shut p i) L L := fun gg b bs c M K Kp Q h hgg k =>
  world_shut (f := .nilFunc) h hp.cases hk hs (k.mono (fun y hy M' h' => hy gg M' h') (fun n y hy M' h' => hy gg M' h'))
/-- Which function an op has. -/
def wTab : AL := [(9, .func (.func 45) #[] #[]), (10, .func (.func 46) #[] #[]), (11, .func (.func 47) #[] #[]), (12, .func (.func 48) #[] #[]), (13, .func (.func 49) #[] #[]), (14, .func (.func 50) #[] #[]), (15, .func (.func 51) #[] #[]), (17, .func (.func 52) #[] #[]), (18, .func (.func 53) #[] #[]), (19, .func (.func 54) #[] #[]), (20, .func (.func 55) #[] #[]), (22, .func (.func 56) #[] #[])]
theorem world_table (h : Hp R L M) (k : ∀ m M', Hp R (ob m (mapO wTab) :: L) M' → K (.map (some m)) M') : ACalls Try.prog 35 #[] M K Kp := by
  refine vc_world_table ?_
  refine s_nwo h ?_
  clear h
  intro m M h
  replace h : Hp R (ob m (mapO []) :: L) M := h
  have hu : Try.prog.underlying 97 = some (.map 29 96) := by kernel_rfl
  have hk : Try.prog.underlying 29 = some (.int .i64) := by kernel_rfl
  iterate 12
    refine s_mapUpdate h hu hk ?_
    clear h
    intro M h
  exact k _ _ h
end
end Go.Proofs
