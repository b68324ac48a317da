/- A part of proofs about functions of one program: a condition over a partial memory that is enough for a call, and what calls answer by it. No condition of its own. -/
import Derived.Test.YtfjgcljdnhkmaaaPicks
set_option linter.unusedVariables false
/- The world, as values: no program in sight. -/
namespace Go.Proofs
open Go.AF
structure Ins where
  op : Int
  a : Int
  b : Int
  c : Int
  deriving DecidableEq
def Ins.zero : Ins := ⟨0, 0, 0, 0⟩
def insE : Enc Ins := ⟨4, fun x => [.int .i64 x.op, .int .i64 x.a, .int .i64 x.b, .int .i64 x.c], fun _ => rfl, fun w v hv => by
  simp only [List.mem_cons, List.not_mem_nil, or_false] at hv; obtain rfl | rfl | rfl | rfl := hv <;> rfl⟩
/-- A frame: the function, the place in it, eight registers, where it returns into. -/
structure Frm where
  fn : Int
  pc : Int
  r : List Int
  into : Int
  deriving DecidableEq
def Frm.reg (f : Frm) (q : Int) : Int := f.r.getD q.toNat 0
def Frm.set (f : Frm) (q v : Int) : Frm := { f with r := (List.range 8).map fun i => if i = q.toNat then v else f.r.getD i 0 }
def Frm.next (f : Frm) : Frm := { f with pc := f.pc + 1 }
def Frm.begin (fn v : Int) : Frm := ⟨fn, 0, [v, 0, 0, 0, 0, 0, 0, 0], 0⟩
def frmV (f : Frm) : List Value := [.int .i64 f.fn, .int .i64 f.pc, .int .i64 (f.r.getD 0 0), .int .i64 (f.r.getD 1 0), .int .i64 (f.r.getD 2 0), .int .i64 (f.r.getD 3 0), .int .i64 (f.r.getD 4 0), .int .i64 (f.r.getD 5 0), .int .i64 (f.r.getD 6 0), .int .i64 (f.r.getD 7 0), .int .i64 f.into]
def frmE : Enc Frm := ⟨11, frmV, fun _ => rfl, fun w v hv => by
  simp only [frmV, List.mem_cons, List.not_mem_nil, or_false] at hv
  obtain rfl | rfl | rfl | rfl | rfl | rfl | rfl | rfl | rfl | rfl | rfl := hv <;> rfl⟩
theorem reg8 {q : Int} (h0 : 0 ≤ q) (h8 : q < 8) : q = 0 ∨ q = 1 ∨ q = 2 ∨ q = 3 ∨ q = 4 ∨ q = 5 ∨ q = 6 ∨ q = 7 := by omega
theorem frm_at {f : Frm} {q : Int} (h0 : 0 ≤ q) (h8 : q < 8) : (frmE.f f)[2 + q.toNat]? = some (.int .i64 (f.reg q)) := by
  obtain rfl | rfl | rfl | rfl | rfl | rfl | rfl | rfl := reg8 h0 h8 <;> rfl
theorem frm_set {f : Frm} {q v : Int} (h0 : 0 ≤ q) (h8 : q < 8) : (frmE.f f).set (2 + q.toNat) (.int .i64 v) = frmE.f (f.set q v) := by
  obtain rfl | rfl | rfl | rfl | rfl | rfl | rfl | rfl := reg8 h0 h8 <;> rfl
theorem frm_pc {f : Frm} {v : Int} : (frmE.f f).set 1 (.int .i64 v) = frmE.f { f with pc := v } := rfl
/-- Ops that registers alone decide: what a frame becomes (its place is one further already). -/
def Frm.pure (f : Frm) (x : Ins) : Frm :=
  if x.op = 0 then f
  else if x.op = 1 then f.set x.a x.b
  else if x.op = 2 then f.set x.a (f.reg x.b)
  else if x.op = 3 then f.set x.a (IntKind.wrap .i64 (f.reg x.b + f.reg x.c))
  else if x.op = 4 then f.set x.a (IntKind.wrap .i64 (f.reg x.b - f.reg x.c))
  else if x.op = 5 then f.set x.a (IntKind.wrap .i64 (f.reg x.b * f.reg x.c))
  else if x.op = 6 then f.set x.a (if f.reg x.b < f.reg x.c then 1 else 0)
  else if x.op = 7 then { f with pc := x.a }
  else if f.reg x.a ≠ 0 then { f with pc := x.b } else f
def isReg (q : Int) : Prop := 0 ≤ q ∧ q < 8
instance (q : Int) : Decidable (isReg q) := by unfold isReg; infer_instance
/-- The registers that a pure op names are registers. -/
def Ins.okPure (x : Ins) : Prop :=
  (x.op ∈ [1, 8] → isReg x.a) ∧ (x.op = 2 → isReg x.a ∧ isReg x.b) ∧ (x.op ∈ [3, 4, 5, 6] → isReg x.a ∧ isReg x.b ∧ isReg x.c)
instance (x : Ins) : Decidable x.okPure := by unfold Ins.okPure; infer_instance
structure Gor where
  st : Int
  fs : List Frm
  wt : Ins
  deriving DecidableEq
structure Lk where
  owner : Int
  waits : List Int
  deriving DecidableEq
structure HItem where
  t : Int
  seq : Int
  id : Int
  deriving DecidableEq
def itemE : Enc HItem := ⟨3, fun x => [.int .u64 x.t, .int .u64 x.seq, .int .i64 x.id], fun _ => rfl, fun w v hv => by
  simp only [List.mem_cons, List.not_mem_nil, or_false] at hv; obtain rfl | rfl | rfl := hv <;> rfl⟩
structure Prg where
  funcs : List (List Ins)
  chs : List Int
  locks : Int
  cases : List Cas
structure Wd where
  gs : List Gor
  clock : Int
  chans : List Chan
  locks : List Lk
  hl : List HItem
  hseq : Int
  out : List Int
  end_ : Int
  code : Int
  ready : List Int
  deriving DecidableEq
def gorAt (x : Wd) (g : Int) : Gor := x.gs.getD g.toNat ⟨0, [], .zero⟩
def Wd.putG (x : Wd) (g : Int) (y : Gor) : Wd := { x with gs := x.gs.set g.toNat y }
def Gor.top (y : Gor) : Frm := y.fs.getD (y.fs.length - 1) ⟨0, 0, [], 0⟩
def Gor.putTop (y : Gor) (f : Frm) : Gor := { y with fs := y.fs.set (y.fs.length - 1) f }
def Wd.putReg (x : Wd) (g q v : Int) : Wd := x.putG g ((gorAt x g).putTop ((gorAt x g).top.set q v))
def Wd.wake (x : Wd) (g : Int) : Wd := { x.putG g { gorAt x g with st := 1 } with ready := x.ready ++ [g] }
def Wd.block (x : Wd) (g : Int) (i : Ins) : Wd := x.putG g { gorAt x g with st := 2, wt := i }
def Wd.leave (x : Wd) (g : Int) : Wd := { x with chans := x.chans.map fun c => c.drop g }
def Wd.chosen (x : Wd) (g k : Int) : Wd := (x.putReg g (gorAt x g).wt.c k).leave g
def casAt (p : Prg) (k : Int) : Cas := p.cases.getD k.toNat ⟨0, 0, 0⟩
def Wd.received (p : Prg) (x : Wd) (v : Wt) (some : Int) : Wd :=
  let i := (gorAt x v.g).wt
  (if i.op = 16 then ((x.putReg v.g (casAt p (i.a + v.cs)).reg v.v).chosen v.g v.cs)
   else (x.putReg v.g i.b v.v).putReg v.g i.c some).wake v.g
def Wd.sent (x : Wd) (v : Wt) : Wd := (if (gorAt x v.g).wt.op = 16 then x.chosen v.g v.cs else x).wake v.g
/-- How an instruction ends: on, or in a trap. -/
inductive Out (α : Type) where
  | on (a : α)
  | trap (code : Int) (x : Wd)
def Wd.putCh (x : Wd) (k : Int) (c : Chan) : Wd := { x with chans := x.chans.set k.toNat c }
def Wd.put (p : Prg) (x : Wd) (k v : Int) : Out (Wd × Bool) :=
  let s := (chAt x.chans k).send v
  if s.2.2.2 = 10 then .trap (-1) (x.putCh k s.1)
  else .on ((if s.2.2.1 then (x.putCh k s.1).received p s.2.1 1 else x.putCh k s.1), s.2.2.2 == 0)
def Wd.get (x : Wd) (k : Int) : Wd × Int × Int × Bool :=
  let s := (chAt x.chans k).recv
  let y := if s.2.2.2.2.1 then (x.putCh k s.1).sent s.2.2.2.1 else x.putCh k s.1
  if s.2.2.1 then (y, s.2.1, 1, true) else (y, 0, 0, s.2.2.2.2.2 == 0)
/-- A goroutine that stands somewhere. -/
def gorOk (x : Wd) (g : Int) : Prop := 0 ≤ g ∧ g < x.gs.length ∧ 0 < (gorAt x g).fs.length ∧ (gorAt x g).fs.length ≤ 1000
instance (x : Wd) (g : Int) : Decidable (gorOk x g) := by unfold gorOk; infer_instance
/-- Who waits to receive can. -/
def rcvOk (p : Prg) (x : Wd) (v : Wt) : Prop := gorOk x v.g ∧
  if (gorAt x v.g).wt.op = 16 then 0 ≤ (gorAt x v.g).wt.a + v.cs ∧ (gorAt x v.g).wt.a + v.cs < p.cases.length ∧ p.cases.length ≤ 1000 ∧ isReg (casAt p ((gorAt x v.g).wt.a + v.cs)).reg ∧ isReg (gorAt x v.g).wt.c
  else isReg (gorAt x v.g).wt.b ∧ isReg (gorAt x v.g).wt.c
instance (p : Prg) (x : Wd) (v : Wt) : Decidable (rcvOk p x v) := by unfold rcvOk; infer_instance
def sndOk (x : Wd) (v : Wt) : Prop := gorOk x v.g ∧ ((gorAt x v.g).wt.op = 16 → isReg (gorAt x v.g).wt.c)
instance (x : Wd) (v : Wt) : Decidable (sndOk x v) := by unfold sndOk; infer_instance
/-- No row is long. -/
def Wd.Sm (x : Wd) : Prop := (∀ c ∈ x.chans, c.Small 1000000) ∧ x.chans.length ≤ 1000 ∧ x.gs.length ≤ 1000 ∧ x.ready.length ≤ 1000000 ∧ x.out.length ≤ 1000000 ∧ (∀ l ∈ x.locks, l.waits.length ≤ 1000000) ∧ x.locks.length ≤ 1000 ∧ x.hl.length ≤ 1000000
instance (x : Wd) : Decidable x.Sm := by unfold Wd.Sm; infer_instance
theorem gorAt_put {x : Wd} {g : Int} {y : Gor} (h0 : 0 ≤ g) (hg : g < x.gs.length) : gorAt (x.putG g y) g = y := by
  have : g.toNat < x.gs.length := by omega
  simp [gorAt, Wd.putG, this]
end Go.Proofs
