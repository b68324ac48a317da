/- A part of proofs about functions of one program: a condition over a partial memory that is enough for a call, and what calls answer by it. No condition of its own. -/
import Derived.Test.YtfjgcljdnhkmaaaWC
set_option linter.unusedVariables false
/- What the world's instructions do, as values. -/
namespace Go.Proofs
open Go.AF
def topReg (x : Wd) (g q : Int) : Int := (gorAt x g).top.reg q
def Wd.waitS (x : Wd) (k g v : Int) : Wd := x.putCh k { chAt x.chans k with snd := (chAt x.chans k).snd ++ [⟨g, 0, v⟩] }
def Wd.waitR (x : Wd) (k g : Int) : Wd := x.putCh k { chAt x.chans k with rcv := (chAt x.chans k).rcv ++ [⟨g, 0, 0⟩] }
def Wd.send (p : Prg) (x : Wd) (g : Int) (i : Ins) : Out Wd := match x.put p i.a (topReg x g i.b) with
  | .trap n y => .trap n y
  | .on (y, true) => .on y
  | .on (y, false) => .on ((y.waitS i.a g (topReg y g i.b)).block g i)
def Wd.recv (x : Wd) (g : Int) (i : Ins) : Wd :=
  if (x.get i.a).2.2.2 then ((x.get i.a).1.putReg g i.b (x.get i.a).2.1).putReg g i.c (x.get i.a).2.2.1
  else ((x.get i.a).1.waitR i.a g).block g i
def shutStep (p : Prg) (x : Wd) (v : Wt) : Wd := if (gorAt x v.g).st = 2 then x.received p { v with v := 0 } 0 else x
def Wd.shut (p : Prg) (x : Wd) (i : Ins) : Out Wd :=
  let s := (chAt x.chans i.a).close
  let y := x.putCh i.a s.1
  if s.2.2.2 ≠ 0 then .trap (-2) y else if 0 < s.2.2.1.length then .trap (-1) y else .on (s.2.1.foldl (shutStep p) y)
/-- What the ones that wait need. -/
def shutOk (p : Prg) (x : Wd) : List Wt → Prop
  | [] => True
  | v :: l => x.Sm ∧ 0 ≤ v.g ∧ v.g < x.gs.length ∧ ((gorAt x v.g).st = 2 → rcvOk p x { v with v := 0 }) ∧ shutOk p (shutStep p x v) l
instance shutOk_dec (p : Prg) : ∀ (l : List Wt) (x : Wd), Decidable (shutOk p x l)
  | [], _ => isTrue trivial
  | v :: l, x => by
    have := shutOk_dec p l (shutStep p x v)
    unfold shutOk; infer_instance
theorem shutOk_at {p : Prg} : ∀ {l : List Wt} {x : Wd} {i : Nat} {v : Wt}, shutOk p x l → l[i]? = some v →
    let y := (l.take i).foldl (shutStep p) x
    y.Sm ∧ 0 ≤ v.g ∧ v.g < y.gs.length ∧ ((gorAt y v.g).st = 2 → rcvOk p y { v with v := 0 })
  | [], _, _, _, _, h => by simp at h
  | w :: l, x, 0, v, h, hv => by simp at hv; subst hv; exact ⟨h.1, h.2.1, h.2.2.1, h.2.2.2.1⟩
  | w :: l, x, i + 1, v, h, hv => shutOk_at (l := l) h.2.2.2.2 (by simpa using hv)
def Wd.emit (x : Wd) (g : Int) (i : Ins) : Out Wd := if x.out.length ≥ 1000 then .trap (-6) x else .on { x with out := x.out ++ [topReg x g i.a] }
def Wd.spawn (x : Wd) (g : Int) (i : Ins) : Out Wd := if x.gs.length ≥ 100 then .trap (-5) x else
  .on ((Wd.wake { x with gs := x.gs ++ [⟨0, [Frm.begin i.a (topReg x g i.b)], .zero⟩] } (x.gs.length : Int)).putReg g i.c (x.gs.length : Int))
def Wd.call (x : Wd) (g : Int) (i : Ins) : Out Wd := if (gorAt x g).fs.length ≥ 16 then .trap (-4) x else
  .on (x.putG g { gorAt x g with fs := (gorAt x g).fs ++ [⟨i.a, 0, [topReg x g i.b, 0, 0, 0, 0, 0, 0, 0], i.c⟩] })
def Gor.back (y : Gor) (v : Int) : Gor := { y with fs := (y.fs.take (y.fs.length - 1)).set (y.fs.length - 2) ((y.fs.getD (y.fs.length - 2) ⟨0, 0, [], 0⟩).set y.top.into v) }
def Wd.back (x : Wd) (g : Int) (i : Ins) : Wd := if 2 ≤ (gorAt x g).fs.length then x.putG g ((gorAt x g).back (topReg x g i.a))
  else if g = 0 then { x.putG g { gorAt x g with st := 4 } with end_ := 1 } else x.putG g { gorAt x g with st := 4 }
end Go.Proofs
