/- A part of proofs about one program. -/
import Derived.Test.YtfjgcljdnhkmaaaGreatZWorldEnds4
set_option linter.unusedVariables false
namespace Go.Proofs
open Go.AF
set_option maxRecDepth 100000
set_option maxHeartbeats 1000000
attribute [local irreducible] bF dG fa dP aF eY aE b7 aO bj bJ aM
structure Prc where
 q : Loc
 turns : Int
 by_ : Int
structure Mch where
 p : Int
 g : Int
 left : Int
 deriving DecidableEq
structure Cfg where
 P : Int
 M : Int
 R : Int
 S : Int
structure Sc where
 w : Wd
 c : Cfg
 ps : List Prc
 ms : List Mch
 gl : List Int
 d : U9
 steps : Int
structure Ev where
 kind : Int
 m : Int
 g : Int
 ready : List Int
def procE : jM (Nat × Int × Int) := ⟨3, fun w => [.pointer (some ⟨w.1, 0, none⟩), .int .i64 w.2.1, .int .i64 w.2.2], fun _ => rfl, fun w v hv => by
 simp only [List.mem_cons, List.not_mem_nil, or_false] at hv; obtain rfl | rfl | rfl := hv <;> rfl⟩
def machE : jM Mch := ⟨3, fun w => [.int .i64 w.p, .int .i64 w.g, .int .i64 w.left], fun _ => rfl, fun w v hv => by
 simp only [List.mem_cons, List.not_mem_nil, or_false] at hv; obtain rfl | rfl | rfl := hv <;> rfl⟩
def prow (bs : List Nat) (ps : List Prc) : List (Nat × Int × Int) := List.zipWith (fun b (p : Prc) => (b, p.turns, p.by_)) bs ps
def jB (x : Sc) (m : Int) : Mch := x.ms.getD m.toNat ⟨-1, -1, 0⟩
def mD (x : Sc) (i : Int) : Prc := x.ps.getD i.toNat ⟨⟨-1, 0, []⟩, 0, -1⟩
def Sc.Qj (x : Sc) (m : Int) (y : Mch) : Sc := { x with ms := x.ms.set m.toNat y }
def Sc.Jr (x : Sc) (i : Int) (y : Prc) : Sc := { x with ps := x.ps.set i.toNat y }
structure SA where
 ap : Option Addr
 cp : Nat
 lb : List Nat
 am : Option Addr
 cm : Nat
abbrev rowPr (A : Option Addr) (c : Nat) (l : List (Nat × Int × Int)) : HP := cu procE 141 A c l
abbrev rowMc (A : Option Addr) (c : Nat) (l : List Mch) : HP := cu machE 143 A c l
abbrev Yg (wb db : Nat) (a : SA) (x : Sc) (A : Option Addr) (n c : Nat) : List Value :=
 [.pointer (some ⟨wb, 0, none⟩), .int .i64 x.c.P, .int .i64 x.c.M, .int .i64 x.c.R, .int .i64 x.c.S, .slice a.ap x.ps.length a.cp, .slice a.am x.ms.length a.cm, .slice A n c, .pointer (some ⟨db, 0, none⟩), .int .i64 x.steps]
abbrev scG (b wb db : Nat) (a : SA) (x : Sc) : Option Addr → Nat → Nat → HP := fun A n c => pt b (Yg wb db a x A n c) 137
abbrev scRest (a : SA) (x : Sc) (L : List HP) : List HP := rowPr a.ap a.cp (prow a.lb x.ps) :: cN locR a.lb (x.ps.map Prc.q) :: rowMc a.am a.cm x.ms :: L
def schR (pa : PA) (p : cy) (wb db : Nat) : xJ Sc := ⟨fun b x => exs fun a : SA =>
 sep (glP (scG b wb db a x) x.gl :: bl (cK pa p) wb x.w :: bl (souR .nilFunc) db x.d :: fact (a.lb.length = x.ps.length) :: scRest a x [])⟩
class Vb (b : Nat) (L : List HP) (pa : outParam PA) (p : outParam cy) (wb db : outParam Nat) (x : outParam Sc) (L' : outParam (List HP)) : Prop where
 pick : eB L (bl (schR pa p wb db) b x) L'
instance Vb.here {pa : PA} {p : cy} {wb db b : Nat} {x : Sc} {L : List HP} : Vb b (bl (schR pa p wb db) b x :: L) pa p wb db x L := ⟨.here⟩
instance (priority := low) Vb.there {pa : PA} {p : cy} {wb db b : Nat} {x : Sc} {Q : HP} {L L' : List HP} [h : Vb b L pa p wb db x L'] : Vb b (Q :: L) pa p wb db x (Q :: L') := ⟨.there h.pick⟩
section
variable {R : Mem} {L L' L2 : List HP} {M : Mem} {K : Value → Mem → Prop} {Kp : List PanicEntry → Mem → Prop} {pa : PA} {p : cy} {b wb db : Nat} {x : Sc} {m i : Int}
def Sc.status (x : Sc) : Int := if x.w.end_ = 1 then 1 else if x.w.end_ = 2 then 2 else if x.w.stuck then 3 else 0
def Sc.tick (x : Sc) : Sc × Ev := ({ x with w := x.w.tick, gl := x.gl ++ x.w.tick.ready }, ⟨1, -1, -1, x.w.tick.ready⟩)
def MQ (x : Sc) : Prop := x.w.hl.length ≤ 1000000 ∧ (∀ y ∈ (dM x.w.hl.length x.w.hl (IntKind.wrap .u64 (x.w.clock + 1))).2, 0 ≤ y.id ∧ y.id < x.w.gs.length) ∧ x.gl.length + x.w.tick.ready.length ≤ 1000000
instance (x : Sc) : Decidable (MQ x) := by unfold MQ; infer_instance
end
def ownHas (q : Loc) : Bool := q.next != -1 || !q.l.isEmpty
def ownL (q : Loc) (turns : Int) (gl : List Int) : Loc × List Int × Int × Bool :=
 let a := q.turn gl
 if Int.tmod turns 7 = 6 ∧ 0 < a.2.1.length then (a.1, a.2.1.drop 1, a.2.1.headD 0, true)
 else if ownHas a.1 then (a.1.get.1, a.2.1, a.1.get.2, true)
 else ((a.1.get.1.UK a.2.1 0).1, (a.1.get.1.UK a.2.1 0).2.1, (a.1.get.1.UK a.2.1 0).2.2, !a.2.1.isEmpty)
def Js (f : Loc) (v : Int) : Bool := v != -1 || !f.l.isEmpty
section
variable {R : Mem} {L L' L2 : List HP} {M : Mem} {K : Value → Mem → Prop} {Kp : List PanicEntry → Mem → Prop} {pa : PA} {p : cy} {b wb db : Nat} {x : Sc} {m i : Int}
def Sc.hold (x : Sc) (m : Int) : Sc × Ev := match x.ps.findIdx? (fun pr => pr.by_ == -1) with
 | some i => (((x.Jr (i : Int) { mD x (i : Int) with by_ := m }).Qj m { jB x m with p := (i : Int) }), ⟨2, m, -1, []⟩)
 | none => (x, ⟨3, m, -1, []⟩)
def Sc.own (x : Sc) (i : Int) : Sc × Int × Bool :=
 let r := ownL (mD x i).q (mD x i).turns x.gl
 ({ x.Jr i { mD x i with q := r.1 } with gl := r.2.1 }, r.2.2.1, r.2.2.2)
end
inductive MR where
 | ev (e : Ev)
 | fR (l : List PanicEntry)
def Sc.tO (x : Sc) (m i kind g : Int) (ok : Bool) : Sc × Ev :=
 if ok then ((x.Jr i { mD x i with turns := (mD x i).turns + 1 }).Qj m ⟨(jB x m).p, g, x.c.S⟩, ⟨kind, m, g, []⟩)
 else ((x.Jr i { mD x i with by_ := -1 }).Qj m ⟨-1, -1, 0⟩, ⟨6, m, -1, []⟩)
def Sc.find (x : Sc) (m : Int) : Sc × MR :=
 let i := (jB x m).p
 if 0 < (jB x m).left ∧ (mD x i).q.next ≠ -1 then
  ((x.Jr i { mD x i with q := (mD x i).q.get.1 }).Qj m { jB x m with g := (mD x i).q.get.2 }, .ev ⟨4, m, (mD x i).q.get.2, []⟩)
 else
  let y := (x.own i).1
  if (x.own i).2.2 = false ∧ 1 < x.c.P then match y.d.draw 2 x.c.P with
   | (d', .fR l) => ({ y with d := d' }, .fR l)
   | (d', .num v) =>
    let y := { y with d := d' }
    if v = i then ((y.tO m i 5 (-1) false).1, .ev (y.tO m i 5 (-1) false).2)
    else
     let s := (mD y i).q.steal (mD y v).q
     let z := (y.Jr i { mD y i with q := s.1 }).Jr v { mD y v with q := s.2.1 }
     ((z.tO m i 5 s.2.2 (Js (mD y v).q s.2.2)).1, .ev (z.tO m i 5 s.2.2 (Js (mD y v).q s.2.2)).2)
  else ((y.tO m i 4 (x.own i).2.1 (x.own i).2.2).1, .ev (y.tO m i 4 (x.own i).2.1 (x.own i).2.2).2)
section
variable {R : Mem} {L L' L2 : List HP} {M : Mem} {K : Value → Mem → Prop} {Kp : List PanicEntry → Mem → Prop} {pa : PA} {p : cy} {b wb db : Nat} {x : Sc} {m i : Int}
def MS (x : Sc) (m : Int) : Prop := 0 ≤ m ∧ m < x.ms.length ∧ 0 ≤ (jB x m).p ∧ (jB x m).p < x.ps.length ∧ x.gl.length ≤ 1000000 ∧ 0 ≤ (mD x (jB x m).p).turns ∧ (mD x (jB x m).p).turns < 1000000000 ∧ x.d.taken.length < 100000000 ∧ x.c.P ≤ x.ps.length ∧ x.c.P < 1000000
instance (x : Sc) (m : Int) : Decidable (MS x m) := by unfold MS; infer_instance
end
def dry2 (l : List PanicEntry) : List PanicEntry := l ++ l.map fun e => { e with recovered := true }
def Et (m : Int) (x : Sc) (r : Int) : Sc :=
 let i := (jB x m).p
 { x.Jr i { mD x i with q := ((mD x i).q.ready r x.gl).1 } with gl := ((mD x i).q.ready r x.gl).2.1 }
def Sc.Vc (x : Sc) (m g : Int) (keep : Bool) (ready : List Int) : Sc × Ev :=
 if keep = true ∧ (jB x m).left - 1 ≠ 0 then (x.Qj m { jB x m with left := (jB x m).left - 1 }, ⟨7, m, g, ready⟩)
 else ({ x.Qj m { jB x m with left := (jB x m).left - 1, g := -1 } with gl := if (aa x.w g).st = 1 then x.gl ++ [g] else x.gl }, ⟨7, m, g, ready⟩)
def MT (p : cy) (x : Sc) (m : Int) : Prop := 0 ≤ m ∧ m < x.ms.length ∧ 0 ≤ (jB x m).p ∧ (jB x m).p < x.ps.length ∧ x.gl.length ≤ 1000000 ∧ x.d.taken.length < 100000000 ∧ 1 ≤ (jB x m).left ∧ (jB x m).left < 1000000000 ∧ 0 ≤ (jB x m).g
instance (p : cy) (x : Sc) (m : Int) : Decidable (MT p x m) := by unfold MT; infer_instance
def askOk : Option (Int × Int) → Bool
 | none => true
 | some (_, n) => decide (n < 9223372036854775808)
def Zt (x : Sc) (m g : Int) (d : U9) (y : Wd) (rest : Bool) : Option (Sc × MR) :=
 if y.ready.length ≤ 10000 ∧ g < y.gs.length then
  some (((y.ready.foldl (Et m) { x with w := y, d := d }).Vc m g (mB y g rest) y.ready).1, .ev ((y.ready.foldl (Et m) { x with w := y, d := d }).Vc m g (mB y g rest) y.ready).2)
 else none
def AN (d : U9) : Option (Int × Int) → U9 × iz
 | none => (d, .num 0)
 | some (k, n) => d.draw k n
def Sc.run (p : cy) (x : Sc) (m : Int) : Option (Sc × MR) :=
 if MT p x m then
  if askOk (asks p { x.w with ready := [] } (jB x m).g) then
   match lC p x.w (jB x m).g (AN x.d (asks p { x.w with ready := [] } (jB x m).g)).2 with
   | none => none
   | some (.fR l y, _) => some ({ x with w := y, d := (AN x.d (asks p { x.w with ready := [] } (jB x m).g)).1 }, .fR (dry2 l))
   | some (.on y, rest) => Zt x m (jB x m).g (AN x.d (asks p { x.w with ready := [] } (jB x m).g)).1 y rest
   | some (.dg n y, rest) => Zt x m (jB x m).g (AN x.d (asks p { x.w with ready := [] } (jB x m).g)).1 { y with end_ := 2, code := n } rest
  else none
 else none
def incS : Sc × MR → Sc × MR
 | (x, .ev e) => ({ x with steps := x.steps + 1 }, .ev e)
 | (x, .fR l) => (x, .fR l)
def Gv (x : Sc) : Prop := x.w.gs.length ≤ 1000000 ∧ x.c.M = x.ms.length ∧ x.ps.length ≤ 1000000 ∧ x.ms.length ≤ 1000000 ∧ x.d.taken.length < 10000000 ∧ 0 ≤ x.steps ∧ x.steps < 1000000000
instance (x : Sc) : Decidable (Gv x) := by unfold Gv; infer_instance
def Sc.act (p : cy) (x : Sc) (m : Int) : Option (Sc × MR) :=
 if m = x.c.M then (if MQ x then some (x.tick.1, .ev x.tick.2) else none)
 else if (jB x m).p = -1 then some ((x.hold m).1, .ev (x.hold m).2)
 else if (jB x m).g = -1 then (if MS x m then some (x.find m) else none)
 else x.run p m
def Sc.step (p : cy) (x : Sc) : Option (Sc × MR) :=
 if Gv x then
  if x.status ≠ 0 then some (x, .ev ⟨0, 0, 0, []⟩)
  else match x.d.draw 1 (x.c.M + 1) with
   | (d', .fR l) => some ({ x with d := d' }, .fR l)
   | (d', .num m) => (Sc.act p { x with d := d' } m).map incS
 else none
def Sc.new (p : cy) (c : Cfg) (d : U9) : Sc := ⟨Wd.new p, c, List.replicate c.P.toNat ⟨⟨-1, capR c.R, []⟩, 0, -1⟩, List.replicate c.M.toNat ⟨-1, -1, 0⟩, [0], d, 0⟩
def aG (n m : Int) : Int := if m < 1 then 0 else Int.tmod (IntKind.wrap .i64 (Int.tmod n m + m)) m
theorem dN {n m : Int} (hm : 1 ≤ m) (hb : m < 4611686018427387904) : 0 ≤ aG n m ∧ aG n m < m := by
 have h1 := Int.tmod_lt_of_pos n (show 0 < m by omega)
 have h2 := Int.lt_tmod_of_pos n (show 0 < m by omega)
 unfold aG
 rw [if_neg (by omega), dD (by omega) (by omega)]
 have h3 : 0 ≤ Int.tmod n m + m := by omega
 exact ⟨Int.tmod_nonneg m h3, Int.tmod_lt_of_pos _ (by omega)⟩
def zL (nf nc jk lk lf : Int) (x : bY) : bY :=
 if aG x.op 23 = 1 then ⟨1, aG x.a 8, x.b, 0⟩
 else if aG x.op 23 = 2 then ⟨2, aG x.a 8, aG x.b 8, 0⟩
 else if aG x.op 23 = 3 then ⟨aG x.op 23, aG x.a 8, aG x.b 8, aG x.c 8⟩
 else if aG x.op 23 = 4 then ⟨aG x.op 23, aG x.a 8, aG x.b 8, aG x.c 8⟩
 else if aG x.op 23 = 5 then ⟨aG x.op 23, aG x.a 8, aG x.b 8, aG x.c 8⟩
 else if aG x.op 23 = 6 then ⟨aG x.op 23, aG x.a 8, aG x.b 8, aG x.c 8⟩
 else if aG x.op 23 = 7 then ⟨7, aG x.a lf, 0, 0⟩
 else if aG x.op 23 = 8 then ⟨8, aG x.a 8, aG x.b lf, 0⟩
 else if aG x.op 23 = 9 then ⟨aG x.op 23, aG x.a nf, aG x.b 8, aG x.c 8⟩
 else if aG x.op 23 = 11 then ⟨aG x.op 23, aG x.a nf, aG x.b 8, aG x.c 8⟩
 else if aG x.op 23 = 10 then ⟨aG x.op 23, aG x.a 8, 0, 0⟩
 else if aG x.op 23 = 17 then ⟨aG x.op 23, aG x.a 8, 0, 0⟩
 else if aG x.op 23 = 20 then ⟨aG x.op 23, aG x.a 8, 0, 0⟩
 else if aG x.op 23 = 13 then (if nc = 0 then .zero else ⟨aG x.op 23, aG x.a nc, aG x.b 8, 0⟩)
 else if aG x.op 23 = 14 then (if nc = 0 then .zero else ⟨aG x.op 23, aG x.a nc, aG x.b 8, aG x.c 8⟩)
 else if aG x.op 23 = 15 then (if nc = 0 then .zero else ⟨aG x.op 23, aG x.a nc, 0, 0⟩)
 else if aG x.op 23 = 16 then (if jk = 0 then .zero else ⟨16, aG x.a jk, 1 + aG x.b (jk - aG x.a jk), aG x.c 8⟩)
 else if aG x.op 23 = 18 then (if lk = 0 then .zero else ⟨aG x.op 23, aG x.a lk, 0, 0⟩)
 else if aG x.op 23 = 19 then (if lk = 0 then .zero else ⟨aG x.op 23, aG x.a lk, 0, 0⟩)
 else if aG x.op 23 = 21 then ⟨21, aG x.a 8, 1 + aG x.b 1000, 0⟩
 else if aG x.op 23 = 22 then ⟨22, aG x.a 1000, 0, 0⟩
 else ⟨aG x.op 23, 0, 0, 0⟩
def dH (nf nc jk lk lf : Int) (i : bY) : Prop := 0 ≤ i.op ∧ i.op < 23 ∧ i.cM ∧ (i.op = 7 → 0 ≤ i.a ∧ i.a < lf) ∧ (i.op = 8 → 0 ≤ i.b ∧ i.b < lf) ∧
 (i.op = 9 ∨ i.op = 11 → 0 ≤ i.a ∧ i.a < nf ∧ aR i.b ∧ aR i.c) ∧ (i.op = 10 ∨ i.op = 17 ∨ i.op = 20 ∨ i.op = 21 → aR i.a) ∧
 (i.op = 13 ∨ i.op = 14 ∨ i.op = 15 → 0 ≤ i.a ∧ i.a < nc) ∧ (i.op = 13 ∨ i.op = 14 → aR i.b) ∧ (i.op = 14 ∨ i.op = 16 → aR i.c) ∧
 (i.op = 16 → 0 ≤ i.a ∧ 1 ≤ i.b ∧ i.a + i.b ≤ jk) ∧ (i.op = 18 ∨ i.op = 19 → 0 ≤ i.a ∧ i.a < lk) ∧ (i.op = 21 → 1 ≤ i.b ∧ i.b < 1099511627776)
theorem dH.ok {p : cy} {f : List bY} {i : bY} (h : dH p.funcs.length p.dB.length p.cases.length p.aC f.length i) : iA p f i := h
theorem dH.zero {nf nc jk lk lf : Int} : dH nf nc jk lk lf .zero := by
 simp [dH, bY.cM, bY.zero]
theorem kB {nf nc jk lk lf : Int} {p : Prop} [Decidable p] {x y : bY} (h1 : p → dH nf nc jk lk lf x) (h2 : ¬ p → dH nf nc jk lk lf y) : dH nf nc jk lk lf (if p then x else y) := by
 split
 ·exact h1 ‹_›
 ·exact h2 ‹_›
theorem Vd {nf nc jk lk lf : Int} {x : bY} (hf : 1 ≤ nf ∧ nf ≤ 5) (hc : 0 ≤ nc ∧ nc ≤ 4) (hcs : 0 ≤ jk ∧ jk ≤ 8) (hl : 0 ≤ lk ∧ lk ≤ 3) (hlf : 1 ≤ lf ∧ lf ≤ 20) : dH nf nc jk lk lf (zL nf nc jk lk lf x) := by
 have a8 := dN (n := x.a) (m := 8) (by omega) (by omega)
 have b8 := dN (n := x.b) (m := 8) (by omega) (by omega)
 have c8 := dN (n := x.c) (m := 8) (by omega) (by omega)
 have o23 := dN (n := x.op) (m := 23) (by omega) (by omega)
 have af := dN (n := x.a) (m := lf) (by omega) (by omega)
 have bf := dN (n := x.b) (m := lf) (by omega) (by omega)
 have an := dN (n := x.a) (m := nf) (by omega) (by omega)
 have b1000 := dN (n := x.b) (m := 1000) (by omega) (by omega)
 have ac : nc ≠ 0 → _ := fun e => dN (n := x.a) (m := nc) (by omega) (by omega)
 have al : lk ≠ 0 → _ := fun e => dN (n := x.a) (m := lk) (by omega) (by omega)
 have Aj : jk ≠ 0 → _ := fun e => dN (n := x.a) (m := jk) (by omega) (by omega)
 have Cv : jk ≠ 0 → _ := fun e => dN (n := x.b) (m := jk - aG x.a jk) (by have := Aj e; omega) (by have := Aj e; omega)
 have p1 : dH nf nc jk lk lf ⟨1, aG x.a 8, x.b, 0⟩ := by clear ac al Aj Cv; simp [dH, bY.cM, aR] <;> omega
 have p2 : dH nf nc jk lk lf ⟨2, aG x.a 8, aG x.b 8, 0⟩ := by clear ac al Aj Cv; simp [dH, bY.cM, aR] <;> omega
 have p3 : dH nf nc jk lk lf ⟨3, aG x.a 8, aG x.b 8, aG x.c 8⟩ := by clear ac al Aj Cv; simp [dH, bY.cM, aR] <;> omega
 have p4 : dH nf nc jk lk lf ⟨4, aG x.a 8, aG x.b 8, aG x.c 8⟩ := by clear ac al Aj Cv; simp [dH, bY.cM, aR] <;> omega
 have p5 : dH nf nc jk lk lf ⟨5, aG x.a 8, aG x.b 8, aG x.c 8⟩ := by clear ac al Aj Cv; simp [dH, bY.cM, aR] <;> omega
 have p6 : dH nf nc jk lk lf ⟨6, aG x.a 8, aG x.b 8, aG x.c 8⟩ := by clear ac al Aj Cv; simp [dH, bY.cM, aR] <;> omega
 have p7 : dH nf nc jk lk lf ⟨7, aG x.a lf, 0, 0⟩ := by clear ac al Aj Cv; simp [dH, bY.cM, aR] <;> omega
 have p8 : dH nf nc jk lk lf ⟨8, aG x.a 8, aG x.b lf, 0⟩ := by clear ac al Aj Cv; simp [dH, bY.cM, aR] <;> omega
 have p9 : dH nf nc jk lk lf ⟨9, aG x.a nf, aG x.b 8, aG x.c 8⟩ := by clear ac al Aj Cv; simp [dH, bY.cM, aR] <;> omega
 have p11 : dH nf nc jk lk lf ⟨11, aG x.a nf, aG x.b 8, aG x.c 8⟩ := by clear ac al Aj Cv; simp [dH, bY.cM, aR] <;> omega
 have p10 : dH nf nc jk lk lf ⟨10, aG x.a 8, 0, 0⟩ := by clear ac al Aj Cv; simp [dH, bY.cM, aR] <;> omega
 have p17 : dH nf nc jk lk lf ⟨17, aG x.a 8, 0, 0⟩ := by clear ac al Aj Cv; simp [dH, bY.cM, aR] <;> omega
 have p20 : dH nf nc jk lk lf ⟨20, aG x.a 8, 0, 0⟩ := by clear ac al Aj Cv; simp [dH, bY.cM, aR] <;> omega
 have p13 : nc ≠ 0 → dH nf nc jk lk lf ⟨13, aG x.a nc, aG x.b 8, 0⟩ := fun z => by have := ac z; clear ac al Aj Cv; simp [dH, bY.cM, aR] <;> omega
 have p14 : nc ≠ 0 → dH nf nc jk lk lf ⟨14, aG x.a nc, aG x.b 8, aG x.c 8⟩ := fun z => by have := ac z; clear ac al Aj Cv; simp [dH, bY.cM, aR] <;> omega
 have p15 : nc ≠ 0 → dH nf nc jk lk lf ⟨15, aG x.a nc, 0, 0⟩ := fun z => by have := ac z; clear ac al Aj Cv; simp [dH, bY.cM, aR] <;> omega
 have p16 : jk ≠ 0 → dH nf nc jk lk lf ⟨16, aG x.a jk, 1 + aG x.b (jk - aG x.a jk), aG x.c 8⟩ := fun z => by have := Aj z; have := Cv z; clear ac al Aj Cv; simp [dH, bY.cM, aR] <;> omega
 have p18 : lk ≠ 0 → dH nf nc jk lk lf ⟨18, aG x.a lk, 0, 0⟩ := fun z => by have := al z; clear ac al Aj Cv; simp [dH, bY.cM, aR] <;> omega
 have p19 : lk ≠ 0 → dH nf nc jk lk lf ⟨19, aG x.a lk, 0, 0⟩ := fun z => by have := al z; clear ac al Aj Cv; simp [dH, bY.cM, aR] <;> omega
 have p21 : dH nf nc jk lk lf ⟨21, aG x.a 8, 1 + aG x.b 1000, 0⟩ := by clear ac al Aj Cv; simp [dH, bY.cM, aR] <;> omega
 have p22 : dH nf nc jk lk lf ⟨22, aG x.a 1000, 0, 0⟩ := by clear ac al Aj Cv; simp [dH, bY.cM, aR] <;> omega
 clear a8 b8 c8 af bf an b1000 ac al Aj Cv
 unfold zL
 refine kB (fun e => p1) fun n1 => ?_
 refine kB (fun e => p2) fun n2 => ?_
 refine kB (fun e => e ▸ p3) fun n3 => ?_
 refine kB (fun e => e ▸ p4) fun n4 => ?_
 refine kB (fun e => e ▸ p5) fun n5 => ?_
 refine kB (fun e => e ▸ p6) fun n6 => ?_
 refine kB (fun e => p7) fun n7 => ?_
 refine kB (fun e => p8) fun n8 => ?_
 refine kB (fun e => e ▸ p9) fun n9 => ?_
 refine kB (fun e => e ▸ p11) fun kY => ?_
 refine kB (fun e => e ▸ p10) fun dI => ?_
 refine kB (fun e => e ▸ p17) fun kN => ?_
 refine kB (fun e => e ▸ p20) fun gC => ?_
 refine kB (fun e => kB (fun _ => dH.zero) fun z => e ▸ p13 z) fun mY => ?_
 refine kB (fun e => kB (fun _ => dH.zero) fun z => e ▸ p14 z) fun jA => ?_
 refine kB (fun e => kB (fun _ => dH.zero) fun z => e ▸ p15 z) fun kX => ?_
 refine kB (fun e => kB (fun _ => dH.zero) fun z => p16 z) fun nZ => ?_
 refine kB (fun e => kB (fun _ => dH.zero) fun z => e ▸ p18 z) fun kM => ?_
 refine kB (fun e => kB (fun _ => dH.zero) fun z => e ▸ p19 z) fun nN => ?_
 refine kB (fun e => p21) fun u0 => ?_
 refine kB (fun e => p22) fun wP => ?_
 generalize aG x.op 23 = o at *
 have : o = 0 ∨ o = 12 := by omega
 rcases this with rfl | rfl <;> simp [dH, bY.cM]
section
variable {M : Mem} {K : Value → Mem → Prop} {Kp : List PanicEntry → Mem → Prop}
theorem bK {n m : Int} (k : K (.int .i64 (aG n m)) M) : ae Tryz.prog 69 #[.int .i64 n, .int .i64 m] M K Kp := by
 refine uK ?_
 unfold aG at k
 exact aH.2 ⟨fun h => by rw [if_pos h] at k; exact k, fun h => ⟨by omega, by omega, by rw [if_neg h] at k; exact k⟩⟩
variable {R : Mem} {L : List HP}
abbrev insV (i : bY) : Value := .agg #[.int .i64 i.op, .int .i64 i.a, .int .i64 i.b, .int .i64 i.c]
theorem Yh {A B C F : Option Addr} {nf cf nc cc jk ccs lf cl : Nat} {lk o a b c : Int} (h : Hp R L M) (hcs : jk ≤ 8)
  (k : ∀ M', Hp R L M' → K (insV (zL nf nc jk lk lf ⟨o, a, b, c⟩)) M') :
  ae Tryz.prog 70 #[.agg #[.slice A nf cf, .slice B nc cc, .int .i64 lk, .slice C jk ccs], .slice F lf cl, .agg #[.int .i64 o, .int .i64 a, .int .i64 b, .int .i64 c]] M K Kp := by
 refine uL ?_
 have w1000 : IntKind.wrap .i64 (1 + aG b 1000) = 1 + aG b 1000 := by
  have := dN (n := b) (m := 1000) (by omega) (by omega)
  exact dD (by omega) (by omega)
 have as_ : (jk : Int) ≠ 0 → IntKind.wrap .i64 ((jk : Int) - aG a jk) = jk - aG a jk ∧ IntKind.wrap .i64 (1 + aG b (jk - aG a jk)) = 1 + aG b (jk - aG a jk) := fun e => by
  have h1 := dN (n := a) (m := (jk : Int)) (by omega) (by omega)
  have h2 := dN (n := b) (m := (jk : Int) - aG a jk) (by omega) (by omega)
  exact ⟨dD (by omega) (by omega), dD (by omega) (by omega)⟩
 unfold zL at k
 dsimp only at k
 repeat (first|refine bK ?_|(refine ai h ?_;clear h;intro kb M h)|(refine ak h ?_;clear h;intro M h)|refine St.to h ?_|(apply Exists.intro;(repeat apply Exists.intro);refine And.intro rfl ?_)|refine ay ?_|refine aq ?_|refine au ?_)
 refine bh.2 ⟨fun e => ?_, fun e => ?_⟩
 ·rw [if_pos e] at k
  repeat (first|refine bK ?_|(refine ai h ?_;clear h;intro kb M h)|(refine ak h ?_;clear h;intro M h)|refine St.to h ?_|(apply Exists.intro;(repeat apply Exists.intro);refine And.intro rfl ?_)|refine ay ?_|refine aq ?_|refine au ?_)
  exact k _ (h.sub bx)
 rw [if_neg e] at k
 clear e
 refine bh.2 ⟨fun e => ?_, fun e => ?_⟩
 ·rw [if_pos e] at k
  repeat (first|refine bK ?_|(refine ai h ?_;clear h;intro kb M h)|(refine ak h ?_;clear h;intro M h)|refine St.to h ?_|(apply Exists.intro;(repeat apply Exists.intro);refine And.intro rfl ?_)|refine ay ?_|refine aq ?_|refine au ?_)
  exact k _ (h.sub bx)
 rw [if_neg e] at k
 clear e
 refine bh.2 ⟨fun e => ?_, fun e => ?_⟩
 ·rw [if_pos e] at k
  repeat (first|refine bK ?_|(refine ai h ?_;clear h;intro kb M h)|(refine ak h ?_;clear h;intro M h)|refine St.to h ?_|(apply Exists.intro;(repeat apply Exists.intro);refine And.intro rfl ?_)|refine ay ?_|refine aq ?_|refine au ?_)
  exact k _ (h.sub bx)
 rw [if_neg e] at k
 clear e
 refine bh.2 ⟨fun e => ?_, fun e => ?_⟩
 ·rw [if_pos e] at k
  repeat (first|refine bK ?_|(refine ai h ?_;clear h;intro kb M h)|(refine ak h ?_;clear h;intro M h)|refine St.to h ?_|(apply Exists.intro;(repeat apply Exists.intro);refine And.intro rfl ?_)|refine ay ?_|refine aq ?_|refine au ?_)
  exact k _ (h.sub bx)
 rw [if_neg e] at k
 clear e
 refine bh.2 ⟨fun e => ?_, fun e => ?_⟩
 ·rw [if_pos e] at k
  repeat (first|refine bK ?_|(refine ai h ?_;clear h;intro kb M h)|(refine ak h ?_;clear h;intro M h)|refine St.to h ?_|(apply Exists.intro;(repeat apply Exists.intro);refine And.intro rfl ?_)|refine ay ?_|refine aq ?_|refine au ?_)
  exact k _ (h.sub bx)
 rw [if_neg e] at k
 clear e
 refine bh.2 ⟨fun e => ?_, fun e => ?_⟩
 ·rw [if_pos e] at k
  repeat (first|refine bK ?_|(refine ai h ?_;clear h;intro kb M h)|(refine ak h ?_;clear h;intro M h)|refine St.to h ?_|(apply Exists.intro;(repeat apply Exists.intro);refine And.intro rfl ?_)|refine ay ?_|refine aq ?_|refine au ?_)
  exact k _ (h.sub bx)
 rw [if_neg e] at k
 clear e
 refine bh.2 ⟨fun e => ?_, fun e => ?_⟩
 ·rw [if_pos e] at k
  repeat (first|refine bK ?_|(refine ai h ?_;clear h;intro kb M h)|(refine ak h ?_;clear h;intro M h)|refine St.to h ?_|(apply Exists.intro;(repeat apply Exists.intro);refine And.intro rfl ?_)|refine ay ?_|refine aq ?_|refine au ?_)
  exact k _ (h.sub bx)
 rw [if_neg e] at k
 clear e
 refine bh.2 ⟨fun e => ?_, fun e => ?_⟩
 ·rw [if_pos e] at k
  repeat (first|refine bK ?_|(refine ai h ?_;clear h;intro kb M h)|(refine ak h ?_;clear h;intro M h)|refine St.to h ?_|(apply Exists.intro;(repeat apply Exists.intro);refine And.intro rfl ?_)|refine ay ?_|refine aq ?_|refine au ?_)
  exact k _ (h.sub bx)
 rw [if_neg e] at k
 clear e
 refine bh.2 ⟨fun e => ?_, fun e => ?_⟩
 ·rw [if_pos e] at k
  repeat (first|refine bK ?_|(refine ai h ?_;clear h;intro kb M h)|(refine ak h ?_;clear h;intro M h)|refine St.to h ?_|(apply Exists.intro;(repeat apply Exists.intro);refine And.intro rfl ?_)|refine ay ?_|refine aq ?_|refine au ?_)
  exact k _ (h.sub bx)
 rw [if_neg e] at k
 clear e
 refine bh.2 ⟨fun e => ?_, fun e => ?_⟩
 ·rw [if_pos e] at k
  repeat (first|refine bK ?_|(refine ai h ?_;clear h;intro kb M h)|(refine ak h ?_;clear h;intro M h)|refine St.to h ?_|(apply Exists.intro;(repeat apply Exists.intro);refine And.intro rfl ?_)|refine ay ?_|refine aq ?_|refine au ?_)
  exact k _ (h.sub bx)
 rw [if_neg e] at k
 clear e
 refine bh.2 ⟨fun e => ?_, fun e => ?_⟩
 ·rw [if_pos e] at k
  repeat (first|refine bK ?_|(refine ai h ?_;clear h;intro kb M h)|(refine ak h ?_;clear h;intro M h)|refine St.to h ?_|(apply Exists.intro;(repeat apply Exists.intro);refine And.intro rfl ?_)|refine ay ?_|refine aq ?_|refine au ?_)
  exact k _ (h.sub bx)
 rw [if_neg e] at k
 clear e
 refine bh.2 ⟨fun e => ?_, fun e => ?_⟩
 ·rw [if_pos e] at k
  repeat (first|refine bK ?_|(refine ai h ?_;clear h;intro kb M h)|(refine ak h ?_;clear h;intro M h)|refine St.to h ?_|(apply Exists.intro;(repeat apply Exists.intro);refine And.intro rfl ?_)|refine ay ?_|refine aq ?_|refine au ?_)
  exact k _ (h.sub bx)
 rw [if_neg e] at k
 clear e
 refine bh.2 ⟨fun e => ?_, fun e => ?_⟩
 ·rw [if_pos e] at k
  repeat (first|refine bK ?_|(refine ai h ?_;clear h;intro kb M h)|(refine ak h ?_;clear h;intro M h)|refine St.to h ?_|(apply Exists.intro;(repeat apply Exists.intro);refine And.intro rfl ?_)|refine ay ?_|refine aq ?_|refine au ?_)
  exact k _ (h.sub bx)
 rw [if_neg e] at k
 clear e
 refine bh.2 ⟨fun e => ?_, fun e => ?_⟩
 ·rw [if_pos e] at k
  refine bh.2 ⟨fun z => ?_, fun z => ?_⟩
  ·rw [if_pos z] at k
   repeat (first|refine bK ?_|(refine ai h ?_;clear h;intro kb M h)|(refine ak h ?_;clear h;intro M h)|refine St.to h ?_|(apply Exists.intro;(repeat apply Exists.intro);refine And.intro rfl ?_)|refine ay ?_|refine aq ?_|refine au ?_)
   exact k _ (h.sub bx)
  rw [if_neg z] at k
  repeat (first|refine bK ?_|(refine ai h ?_;clear h;intro kb M h)|(refine ak h ?_;clear h;intro M h)|refine St.to h ?_|(apply Exists.intro;(repeat apply Exists.intro);refine And.intro rfl ?_)|refine ay ?_|refine aq ?_|refine au ?_)
  refine aH.2 ⟨fun _ => ?_, fun e2 => absurd (show aG o 23 < 15 by omega) e2⟩
  repeat (first|refine bK ?_|(refine ai h ?_;clear h;intro kb M h)|(refine ak h ?_;clear h;intro M h)|refine St.to h ?_|(apply Exists.intro;(repeat apply Exists.intro);refine And.intro rfl ?_)|refine ay ?_|refine aq ?_|refine au ?_)
  refine bh.2 ⟨fun e2 => absurd e2 (by omega), fun _ => ?_⟩
  repeat (first|refine bK ?_|(refine ai h ?_;clear h;intro kb M h)|(refine ak h ?_;clear h;intro M h)|refine St.to h ?_|(apply Exists.intro;(repeat apply Exists.intro);refine And.intro rfl ?_)|refine ay ?_|refine aq ?_|refine au ?_)
  exact k _ (h.sub bx)
 rw [if_neg e] at k
 clear e
 refine bh.2 ⟨fun e => ?_, fun e => ?_⟩
 ·rw [if_pos e] at k
  refine bh.2 ⟨fun z => ?_, fun z => ?_⟩
  ·rw [if_pos z] at k
   repeat (first|refine bK ?_|(refine ai h ?_;clear h;intro kb M h)|(refine ak h ?_;clear h;intro M h)|refine St.to h ?_|(apply Exists.intro;(repeat apply Exists.intro);refine And.intro rfl ?_)|refine ay ?_|refine aq ?_|refine au ?_)
   exact k _ (h.sub bx)
  rw [if_neg z] at k
  repeat (first|refine bK ?_|(refine ai h ?_;clear h;intro kb M h)|(refine ak h ?_;clear h;intro M h)|refine St.to h ?_|(apply Exists.intro;(repeat apply Exists.intro);refine And.intro rfl ?_)|refine ay ?_|refine aq ?_|refine au ?_)
  refine aH.2 ⟨fun _ => ?_, fun e2 => absurd (show aG o 23 < 15 by omega) e2⟩
  repeat (first|refine bK ?_|(refine ai h ?_;clear h;intro kb M h)|(refine ak h ?_;clear h;intro M h)|refine St.to h ?_|(apply Exists.intro;(repeat apply Exists.intro);refine And.intro rfl ?_)|refine ay ?_|refine aq ?_|refine au ?_)
  refine bh.2 ⟨fun _ => ?_, fun e2 => absurd e e2⟩
  repeat (first|refine bK ?_|(refine ai h ?_;clear h;intro kb M h)|(refine ak h ?_;clear h;intro M h)|refine St.to h ?_|(apply Exists.intro;(repeat apply Exists.intro);refine And.intro rfl ?_)|refine ay ?_|refine aq ?_|refine au ?_)
  exact k _ (h.sub bx)
 rw [if_neg e] at k
 clear e
 refine bh.2 ⟨fun e => ?_, fun e => ?_⟩
 ·rw [if_pos e] at k
  refine bh.2 ⟨fun z => ?_, fun z => ?_⟩
  ·rw [if_pos z] at k
   repeat (first|refine bK ?_|(refine ai h ?_;clear h;intro kb M h)|(refine ak h ?_;clear h;intro M h)|refine St.to h ?_|(apply Exists.intro;(repeat apply Exists.intro);refine And.intro rfl ?_)|refine ay ?_|refine aq ?_|refine au ?_)
   exact k _ (h.sub bx)
  rw [if_neg z] at k
  repeat (first|refine bK ?_|(refine ai h ?_;clear h;intro kb M h)|(refine ak h ?_;clear h;intro M h)|refine St.to h ?_|(apply Exists.intro;(repeat apply Exists.intro);refine And.intro rfl ?_)|refine ay ?_|refine aq ?_|refine au ?_)
  refine aH.2 ⟨fun e2 => absurd e2 (by omega), fun _ => ?_⟩
  repeat (first|refine bK ?_|(refine ai h ?_;clear h;intro kb M h)|(refine ak h ?_;clear h;intro M h)|refine St.to h ?_|(apply Exists.intro;(repeat apply Exists.intro);refine And.intro rfl ?_)|refine ay ?_|refine aq ?_|refine au ?_)
  refine bh.2 ⟨fun e2 => absurd e2 (by omega), fun _ => ?_⟩
  repeat (first|refine bK ?_|(refine ai h ?_;clear h;intro kb M h)|(refine ak h ?_;clear h;intro M h)|refine St.to h ?_|(apply Exists.intro;(repeat apply Exists.intro);refine And.intro rfl ?_)|refine ay ?_|refine aq ?_|refine au ?_)
  exact k _ (h.sub bx)
 rw [if_neg e] at k
 clear e
 refine bh.2 ⟨fun e => ?_, fun e => ?_⟩
 ·rw [if_pos e] at k
  refine bh.2 ⟨fun z => ?_, fun z => ?_⟩
  ·rw [if_pos z] at k
   repeat (first|refine bK ?_|(refine ai h ?_;clear h;intro kb M h)|(refine ak h ?_;clear h;intro M h)|refine St.to h ?_|(apply Exists.intro;(repeat apply Exists.intro);refine And.intro rfl ?_)|refine ay ?_|refine aq ?_|refine au ?_)
   exact k _ (h.sub bx)
  rw [if_neg z] at k
  obtain ⟨e1, e2⟩ := as_ z
  repeat (first|refine bK ?_|(refine ai h ?_;clear h;intro kb M h)|(refine ak h ?_;clear h;intro M h)|refine St.to h ?_|(apply Exists.intro;(repeat apply Exists.intro);refine And.intro rfl ?_)|refine ay ?_|refine aq ?_|refine au ?_)
  rw [e1]
  repeat (first|refine bK ?_|(refine ai h ?_;clear h;intro kb M h)|(refine ak h ?_;clear h;intro M h)|refine St.to h ?_|(apply Exists.intro;(repeat apply Exists.intro);refine And.intro rfl ?_)|refine ay ?_|refine aq ?_|refine au ?_)
  rw [e2]
  repeat (first|refine bK ?_|(refine ai h ?_;clear h;intro kb M h)|(refine ak h ?_;clear h;intro M h)|refine St.to h ?_|(apply Exists.intro;(repeat apply Exists.intro);refine And.intro rfl ?_)|refine ay ?_|refine aq ?_|refine au ?_)
  exact k _ (h.sub bx)
 rw [if_neg e] at k
 clear e
 refine bh.2 ⟨fun e => ?_, fun e => ?_⟩
 ·rw [if_pos e] at k
  repeat (first|refine bK ?_|(refine ai h ?_;clear h;intro kb M h)|(refine ak h ?_;clear h;intro M h)|refine St.to h ?_|(apply Exists.intro;(repeat apply Exists.intro);refine And.intro rfl ?_)|refine ay ?_|refine aq ?_|refine au ?_)
  refine bh.2 ⟨fun z => ?_, fun z => ?_⟩
  ·rw [if_pos z] at k
   repeat (first|refine bK ?_|(refine ai h ?_;clear h;intro kb M h)|(refine ak h ?_;clear h;intro M h)|refine St.to h ?_|(apply Exists.intro;(repeat apply Exists.intro);refine And.intro rfl ?_)|refine ay ?_|refine aq ?_|refine au ?_)
   exact k _ (h.sub bx)
  rw [if_neg z] at k
  repeat (first|refine bK ?_|(refine ai h ?_;clear h;intro kb M h)|(refine ak h ?_;clear h;intro M h)|refine St.to h ?_|(apply Exists.intro;(repeat apply Exists.intro);refine And.intro rfl ?_)|refine ay ?_|refine aq ?_|refine au ?_)
  exact k _ (h.sub bx)
 rw [if_neg e] at k
 clear e
 refine bh.2 ⟨fun e => ?_, fun e => ?_⟩
 ·rw [if_pos e] at k
  repeat (first|refine bK ?_|(refine ai h ?_;clear h;intro kb M h)|(refine ak h ?_;clear h;intro M h)|refine St.to h ?_|(apply Exists.intro;(repeat apply Exists.intro);refine And.intro rfl ?_)|refine ay ?_|refine aq ?_|refine au ?_)
  refine bh.2 ⟨fun z => ?_, fun z => ?_⟩
  ·rw [if_pos z] at k
   repeat (first|refine bK ?_|(refine ai h ?_;clear h;intro kb M h)|(refine ak h ?_;clear h;intro M h)|refine St.to h ?_|(apply Exists.intro;(repeat apply Exists.intro);refine And.intro rfl ?_)|refine ay ?_|refine aq ?_|refine au ?_)
   exact k _ (h.sub bx)
  rw [if_neg z] at k
  repeat (first|refine bK ?_|(refine ai h ?_;clear h;intro kb M h)|(refine ak h ?_;clear h;intro M h)|refine St.to h ?_|(apply Exists.intro;(repeat apply Exists.intro);refine And.intro rfl ?_)|refine ay ?_|refine aq ?_|refine au ?_)
  exact k _ (h.sub bx)
 rw [if_neg e] at k
 clear e
 refine bh.2 ⟨fun e => ?_, fun e => ?_⟩
 ·rw [if_pos e] at k
  repeat (first|refine bK ?_|(refine ai h ?_;clear h;intro kb M h)|(refine ak h ?_;clear h;intro M h)|refine St.to h ?_|(apply Exists.intro;(repeat apply Exists.intro);refine And.intro rfl ?_)|refine ay ?_|refine aq ?_|refine au ?_)
  rw [w1000]
  exact k _ (h.sub bx)
 rw [if_neg e] at k
 clear e
 refine bh.2 ⟨fun e => ?_, fun e => ?_⟩
 ·rw [if_pos e] at k
  repeat (first|refine bK ?_|(refine ai h ?_;clear h;intro kb M h)|(refine ak h ?_;clear h;intro M h)|refine St.to h ?_|(apply Exists.intro;(repeat apply Exists.intro);refine And.intro rfl ?_)|refine ay ?_|refine aq ?_|refine au ?_)
  exact k _ (h.sub bx)
 rw [if_neg e] at k
 clear e
 repeat (first|refine bK ?_|(refine ai h ?_;clear h;intro kb M h)|(refine ak h ?_;clear h;intro M h)|refine St.to h ?_|(apply Exists.intro;(repeat apply Exists.intro);refine And.intro rfl ?_)|refine ay ?_|refine aq ?_|refine au ?_)
 exact k _ (h.sub bx)
end
end Go.Proofs
namespace Go.Proofs
open Go.AF Go.Deep
def Jt : List IntKind := [.i64, .i64, .i64, .i64]
def Zu : List IntKind := [.i64, .i64, .i64]
def Zv (g : Nat → Int) : bY := ⟨g 0, g 1, g 2, g 3⟩
def Zw (g : Nat → Int) : m5 := ⟨g 0, g 1, g 2⟩
theorem Qk (l : List (Nat → Int)) : (kE Jt).cells l = jf.cells (l.map Zv) := by
 induction l with
 | nil => rfl
 | cons g l ih => rw [jM.cT, List.map_cons, jM.cT, ih]; rfl
theorem Ql (l : List (Nat → Int)) : (kE Zu).cells l = gP.cells (l.map Zw) := by
 induction l with
 | nil => rfl
 | cons g l ih => rw [jM.cT, List.map_cons, jM.cT, ih]; rfl
theorem Qm (l : List (Nat → Int)) : (kE [.i64]).cells l = bR.cells (l.map (· 0)) := by
 induction l with
 | nil => rfl
 | cons g l ih => rw [jM.cT, List.map_cons, jM.cT, ih]; rfl
structure yY (M : Mem) (pa : PA) (p : cy) : Prop where
 n1 : p.funcs.length ≤ 9223372036854775807
 n2 : p.dB.length ≤ 9223372036854775807
 n3 : p.cases.length ≤ 9223372036854775807
 le1 : p.funcs.length ≤ pa.fc
 funcs : 0 < p.funcs.length → ∃ ts : List (Option Addr × Nat × Nat), RS sN M pa.f pa.fc ts ∧ ts.length = p.funcs.length ∧ ∀ (i : Nat) t f, ts[i]? = some t → p.funcs[i]? = some f → t.2.1 = f.length ∧ f.length ≤ 9223372036854775807 ∧ f.length ≤ t.2.2 ∧ (0 < f.length → RS jf M t.1 t.2.2 f)
 dB : 0 < p.dB.length → RS bR M pa.c pa.cc p.dB
 cases : 0 < p.cases.length → RS gP M pa.k pa.kc p.cases
theorem yY.le {M M' : Mem} {pa : PA} {p : cy} (h : yY M pa p) (hle : M.le M') : yY M' pa p := by
 obtain ⟨a1, a2, a3, a4, a5, a6, a7⟩ := h
 refine ⟨a1, a2, a3, a4, fun h0 => ?_, fun h0 => (a6 h0).le hle, fun h0 => (a7 h0).le hle⟩
 obtain ⟨ts, t1, t2, t3⟩ := a5 h0
 exact ⟨ts, t1.le hle, t2, fun i t f a b => ⟨(t3 i t f a b).1, (t3 i t f a b).2.1, (t3 i t f a b).2.2.1, fun h => ((t3 i t f a b).2.2.2 h).le hle⟩⟩
theorem q6.rs {α : Type} {E : jM α} {M : Mem} {A : Option Addr} {n c : Nat} {ks : List IntKind} (h : q6 M A n c ks) (f : (Nat → Int) → α) (hc : ∀ l, (kE ks).cells l = E.cells (l.map f)) : ∃ l : List α, l.length = n ∧ n ≤ c ∧ n ≤ 9223372036854775807 ∧ (0 < n → RS E M A c l) := by
 obtain ⟨l, rfl, h1, h2, h3, _⟩ := h
 refine ⟨l.map f, by simp, h1, Nat.le_trans h2 (by decide), fun h0 => ⟨?_, by simpa using h1⟩⟩
 rw [← hc]
 exact h3 h0
section
variable {H : Type} {enc : TypeId × Value → H} {P : Program} {w : World} {base : Nat} {spare : Nat → Bool} {held : Bool}
theorem Dx {t e e2 : TypeId} {A : Option Addr} {n c fuel : Nat} {x : DataW H × List MemPlace} (ht : P.underlying t = some (.slice e)) (he : P.underlying e = some (.slice e2)) (hc1 : P.cellsOf e = 1) (hk : kD P 8 e2 = some Jt) (hc : P.cellsOf e2 = Jt.length ∧ 0 < Jt.length)
  (h : DataW.trod enc P w base spare held fuel t [.slice A n c] = some x) : ∃ fs : List (List bY), fs.length = n ∧ n ≤ c ∧ n ≤ 9223372036854775807 ∧ (0 < n → ∃ ts : List (Option Addr × Nat × Nat), RS sN (j8 w) A c ts ∧ ts.length = n ∧ ∀ (i : Nat) t f, ts[i]? = some t → fs[i]? = some f → t.2.1 = f.length ∧ f.length ≤ 9223372036854775807 ∧ f.length ≤ t.2.2 ∧ (0 < f.length → RS jf (j8 w) t.1 t.2.2 f)) := by
 rcases open_slice1 ht hc1 h with ⟨h0, _⟩ | ⟨a, len, cap, m, n', V, D, Pl, hcs, hb, hl, hm, Z8, hx, hel⟩
 ·cases h0
  exact ⟨[], rfl, Nat.le_refl _, by omega, fun h => absurd h (by omega)⟩
 ·cases hcs
  have hlm : n ≤ m := by rw [Z8]; split <;> omega
  have each : ∀ i, i < n → ∃ q : (Option Addr × Nat × Nat) × List bY, w.cell? (a.add i) = some (.slice q.1.1 q.1.2.1 q.1.2.2) ∧ q.1.2.1 = q.2.length ∧ q.2.length ≤ 9223372036854775807 ∧ q.2.length ≤ q.1.2.2 ∧ (0 < q.2.length → RS jf (j8 w) q.1.1 q.1.2.2 q.2) := by
   intro i hi
   obtain ⟨h1, h2⟩ := hel i (by omega)
   rcases Go.Deep.open_slice he h2 with ⟨h0, _⟩ | ⟨a', len', cap', _, _, _, _, KE, _, _, _, _, _, _⟩
   ·refine ⟨((none, 0, 0), []), ?_, rfl, by simp, by simp, fun h => by simp at h⟩
    rw [h1]; simpa using h0
   ·have hv : V i = .slice (some a') len' cap' := by simpa using KE
    rw [hv] at h2 h1
    obtain ⟨l, l1, l2, l3, l4⟩ := q6.rs (E := jf) (q6.tu he hk hc ⟨n', h2⟩) Zv Qk
    subst l1
    exact ⟨((some a', l.length, cap'), l), h1, rfl, l3, l2, l4⟩
  obtain ⟨q, hq⟩ := Go.Deep.choose_lt each
  refine ⟨(List.range n).map fun i => (q i).2, by simp, hl, Nat.le_trans hl (Nat.le_trans hm (by decide)), fun hn => ⟨(List.range n).map fun i => (q i).1, ⟨?_, by simpa using hl⟩, by simp, fun i t f h1 h2 => ?_⟩⟩
  ·have hs := World.cell?_spot (hq 0 hn).1
   obtain ⟨b, o, sp⟩ := a
   have hsp : sp = none := by simpa [Addr.add] using hs
   subst hsp
   intro i hi
   rw [jM.dX, List.length_map, List.length_range] at hi
   have hi' : i < n := by simpa [sN] using hi
   have h3 := (hq i hi').1
   rw [add_eq] at h3
   show (j8 w).ld ⟨b, o + i, none⟩ = _
   have h4 := jM.wM (E := sN) (l := (List.range n).map fun i => (q i).1) (i := i) (j := 0) (a := (q i).1) (by rw [List.getElem?_map, List.getElem?_range hi']; rfl) rfl
   have e : i * sN.z + 0 = i := by simp [sN]
   rw [e] at h4
   rw [h4]
   exact h3
  ·rw [List.getElem?_map] at h1 h2
   obtain ⟨j, hj, rfl⟩ := Option.map_eq_some_iff.1 h1
   obtain ⟨j', hj', rfl⟩ := Option.map_eq_some_iff.1 h2
   obtain ⟨hl1, e1⟩ := List.getElem?_eq_some_iff.1 hj
   rw [hj] at hj'
   cases hj'
   have hjn : j < n := by rw [← e1]; simpa using hl1
   exact (hq j hjn).2
theorem Ju {t t1 t2 t3 t4 e1 Zx e2 e4 : TypeId} {fs : Array Field} {v : Value} {d : DataW H} {ps : List MemPlace} (hu : P.underlying t = some (.struct fs)) (hf : fs.toList.map (fun (f : Field) => (f.offset, f.type)) = [(0, t1), (1, t2), (2, t3), (3, t4)])
  (u1 : P.underlying t1 = some (.slice e1)) (u11 : P.underlying e1 = some (.slice Zx)) (u2 : P.underlying t2 = some (.slice e2)) (u3 : P.underlying t3 = some (.int .i64)) (u4 : P.underlying t4 = some (.slice e4))
  (c1 : P.cellsOf t1 = 1) (c2 : P.cellsOf t2 = 1) (c3 : P.cellsOf t3 = 1) (c4 : P.cellsOf t4 = 1) (c11 : P.cellsOf e1 = 1) (k1 : kD P 8 Zx = some Jt) (k2 : kD P 8 e2 = some [.i64]) (k4 : kD P 8 e4 = some Zu)
  (d1 : P.cellsOf Zx = 4) (d2 : P.cellsOf e2 = 1) (d4 : P.cellsOf e4 = 3) (ct : P.cellsOf t = 4)
  (hs : ∃ cs, v = .agg cs ∧ cs.size = P.cellsOf t)
  (h : DataW.Trod enc P w base spare held t v d ps) : ∃ (pa : PA) (p : cy), v = .agg #[.slice pa.f p.funcs.length pa.fc, .slice pa.c p.dB.length pa.cc, .int .i64 p.aC, .slice pa.k p.cases.length pa.kc] ∧ yY (j8 w) pa p := by
 obtain ⟨cs, rfl, hsz⟩ := hs
 obtain ⟨fuel, hh⟩ := h
 obtain ⟨xs, m, _, _, hl, VK, QF⟩ := DataW.trod_struct hu hh
 have e0 : (Value.agg cs).cells = cs := rfl
 rw [e0] at QF hl
 rw [ct] at hsz
 obtain ⟨cl⟩ := cs
 simp only [List.size_toArray] at hsz
 have hfl : fs.size = 4 := by have := congrArg List.length hf; simpa using this
 have fld : ∀ (i o : Nat) (ty : TypeId), ([(0, t1), (1, t2), (2, t3), (3, t4)] : List (Nat × TypeId))[i]? = some (o, ty) → ∃ (f : Field) (x : DataW H × List MemPlace), fs[i]? = some f ∧ f.offset = o ∧ f.type = ty ∧ DataW.trod enc P w base spare held m ty ((cl.drop o).take (P.cellsOf ty)) = some x := by
  intro i o ty hi
  rw [← hf, List.getElem?_map] at hi
  obtain ⟨f, HB, HC⟩ := Option.map_eq_some_iff.1 hi
  cases HC
  have hf3 : fs[i]? = some f := by simpa using HB
  have := QF i f hf3
  have hi4 : i < xs.length := by rw [VK]; exact (Array.getElem?_eq_some_iff.1 hf3).1
  rw [List.getElem?_eq_getElem hi4] at this
  exact ⟨f, _, hf3, rfl, rfl, this⟩
 match cl, hsz with
 | [w0, w1, w2, w3], _ =>
  obtain ⟨_, x1, _, _, _, a1⟩ := fld 0 0 t1 rfl
  obtain ⟨_, x2, _, _, _, a2⟩ := fld 1 1 t2 rfl
  obtain ⟨_, x3, _, _, _, a3⟩ := fld 2 2 t3 rfl
  obtain ⟨_, x4, _, _, _, a4⟩ := fld 3 3 t4 rfl
  rw [c1] at a1
  rw [c2] at a2
  rw [c3] at a3
  rw [c4] at a4
  have sl : ∀ {ty e : TypeId} {u : Value} {x : DataW H × List MemPlace}, P.underlying ty = some (.slice e) → DataW.trod enc P w base spare held m ty [u] = some x → ∃ A n c, u = .slice A n c := by
   intro ty e u x hu h
   rcases Go.Deep.open_slice hu h with ⟨h0, _⟩ | ⟨a, len, cap, _, _, _, _, h0, _⟩
   ·cases h0; exact ⟨_, _, _, rfl⟩
   ·cases h0; exact ⟨_, _, _, rfl⟩
  obtain ⟨A1, n1, q1, rfl⟩ := sl u1 a1
  obtain ⟨A2, n2, q2, rfl⟩ := sl u2 a2
  obtain ⟨A4, n4, q4, rfl⟩ := sl u4 a4
  obtain ⟨lk, b3, _⟩ := DataW.trod_int u3 a3
  have b3' : w2 = .int .i64 lk := by simpa using b3
  subst b3'
  obtain ⟨fs', f1, f2, f3, f4⟩ := Dx u1 u11 c11 k1 ⟨d1, by decide⟩ a1
  obtain ⟨l2, g1, g2, g3, g4⟩ := q6.rs (E := bR) (q6.tu u2 k2 ⟨d2, by decide⟩ ⟨m, a2⟩) (· 0) Qm
  obtain ⟨l4, j1, j2, j3, j4⟩ := q6.rs (E := gP) (q6.tu u4 k4 ⟨d4, by decide⟩ ⟨m, a4⟩) Zw Ql
  subst f1; subst g1; subst j1
  exact ⟨⟨A1, q1, A2, q2, A4, q4⟩, ⟨fs', l2, lk, l4⟩, rfl, ⟨f3, g3, j3, f2, f4, g4, j4⟩⟩
end
end Go.Proofs
namespace Go.Proofs
open Go.AF
set_option maxRecDepth 100000
set_option maxHeartbeats 1000000
attribute [local irreducible] bF dG fa dP aF eY aE b7 aO bj bJ aM
def dc (p : cy) : List Int := (p.dB.take 4).map (aG · 4)
def lD (nc : Nat) (c : m5) : m5 := if nc = 0 then ⟨2, 0, 0⟩ else ⟨aG c.way 3, aG c.ch nc, aG c.bH 8⟩
def gy (p : cy) : List m5 := (p.cases.take 8).map (lD (dc p).length)
def dW (p : cy) : List (List bY) := if (p.funcs.take 5).length = 0 then [[.zero]] else p.funcs.take 5
def hO (f : List bY) : List bY := if (f.take 20).length = 0 then [.zero] else f.take 20
def sR (p : cy) (f : List bY) : List bY := (hO f).map (zL (dW p).length (dc p).length (gy p).length (aG p.aC 4) (hO f).length)
def dQ (p : cy) : cy := ⟨(dW p).map (sR p), dc p, aG p.aC 4, gy p⟩
theorem yZ (p : cy) : 1 ≤ (dW p).length ∧ (dW p).length ≤ 5 := by
 unfold dW
 split
 ·simp
 ·rename_i h; rw [List.length_take] at h ⊢; omega
theorem y5 (f : List bY) : 1 ≤ (hO f).length ∧ (hO f).length ≤ 20 := by
 unfold hO
 split
 ·simp
 ·rename_i h; rw [List.length_take] at h ⊢; omega
theorem Eu (p : cy) : (dc p).length ≤ 4 := by unfold dc; rw [List.length_map, List.length_take]; omega
theorem Ew (p : cy) : (gy p).length ≤ 8 := by unfold gy; rw [List.length_map, List.length_take]; omega
theorem lk10 (p : cy) : 0 ≤ aG p.aC 4 ∧ aG p.aC 4 ≤ 3 := by have := dN (n := p.aC) (m := 4) (by omega) (by omega); omega
theorem Ey (p : cy) : eK (dQ p) := by
 have h1 := yZ p
 have h2 := Eu p
 have h3 := Ew p
 have h4 := lk10 p
 refine ⟨by simp [dQ]; omega, by show (dc p).length ≤ 8; omega, by show 0 ≤ aG p.aC 4 ∧ aG p.aC 4 ≤ 8; omega, by show (gy p).length ≤ 32; omega, fun c hc => ?_, fun f hf => ?_⟩
 ·obtain ⟨c0, _, rfl⟩ := List.mem_map.1 hc
  have a3 := dN (n := c0.way) (m := 3) (by omega) (by omega)
  have a8 := dN (n := c0.bH) (m := 8) (by omega) (by omega)
  unfold lD
  split
  ·exact ⟨⟨by decide, by decide, fun h => absurd rfl h⟩, by decide, by decide⟩
  ·rename_i hn
   have ac := dN (n := c0.ch) (m := ((dc p).length : Int)) (by omega) (by omega)
   exact ⟨⟨by dsimp only; omega, by dsimp only; omega, fun _ => ⟨ac.1, ac.2, a8.1, a8.2⟩⟩, a8.1, a8.2⟩
 ·obtain ⟨f0, _, rfl⟩ := List.mem_map.1 hf
  have h5 := y5 f0
  have hl : (sR p f0).length = (hO f0).length := by simp [sR]
  refine ⟨by omega, by omega, fun i hi => ?_⟩
  obtain ⟨i0, _, rfl⟩ := List.mem_map.1 hi
  refine dH.ok ?_
  have e1 : (dQ p).funcs.length = (dW p).length := by simp [dQ]
  rw [e1, hl]
  show dH _ ((dc p).length : Nat) ((gy p).length : Nat) (aG p.aC 4) _ _
  exact Vd (by omega) (by omega) (by omega) h4 (by omega)
theorem Oi : bE Tryz.prog 115 109 4 32 [.int .i64 0, .int .i64 0, .int .i64 0, .int .i64 0] := bE.mk' (zv := .agg #[.int .i64 0, .int .i64 0, .int .i64 0, .int .i64 0]) (by kernel_rfl) (by kernel_rfl) rfl (by omega)
theorem Yi : bE Tryz.prog 71 171 3 24 [.int .i64 0, .int .i64 0, .int .i64 0] := bE.mk' (zv := .agg #[.int .i64 0, .int .i64 0, .int .i64 0]) (by kernel_rfl) (by kernel_rfl) rfl (by omega)
theorem el_slT : bE Tryz.prog 70 115 1 24 [.slice none 0 0] := bE.mk' (zv := .slice none 0 0) (by kernel_rfl) (by kernel_rfl) rfl (by omega)
abbrev MU (pa : PA) (p : cy) : Value := .agg #[.slice pa.f p.funcs.length pa.fc, .slice pa.c p.dB.length pa.cc, .int .i64 p.aC, .slice pa.k p.cases.length pa.kc]
abbrev prgC (A : Option Addr) (n c : Nat) (B : Option Addr) (m d : Nat) (lk : Int) (C : Option Addr) (q e : Nat) : List Value := [.slice A n c, .slice B m d, .int .i64 lk, .slice C q e]
section
variable {R : Mem} {L L' : List HP} {M : Mem} {K : Value → Mem → Prop} {Kp : List PanicEntry → Mem → Prop} {pa : PA} {p : cy}
theorem take_succ {α : Type} {l : List α} {j : Nat} {v : α} (h : l[j]? = some v) : l.take (j + 1) = l.take j ++ [v] := by
 obtain ⟨hj, rfl⟩ := List.getElem?_eq_some_iff.1 h
 rw [List.take_add_one, List.getElem?_eq_getElem hj]; rfl
def zM (R : Mem) (A : Option Addr) (c : Nat) (fs : List (List bY)) : Prop := ∃ ts : List (Option Addr × Nat × Nat), RS sN R A c ts ∧ ts.length = fs.length ∧ ∀ (i : Nat) t f, ts[i]? = some t → fs[i]? = some f → t.2.1 = f.length ∧ f.length ≤ 9223372036854775807 ∧ f.length ≤ t.2.2 ∧ (0 < f.length → RS jf R t.1 t.2.2 f)
theorem zM.le {R R' : Mem} {A : Option Addr} {c : Nat} {fs : List (List bY)} (h : zM R A c fs) (hle : R.le R') : zM R' A c fs := by
 obtain ⟨ts, h1, h2, h3⟩ := h
 exact ⟨ts, h1.le hle, h2, fun i t f a b => ⟨(h3 i t f a b).1, (h3 i t f a b).2.1, (h3 i t f a b).2.2.1, fun h => ((h3 i t f a b).2.2.2 h).le hle⟩⟩
theorem zM.cut {R : Mem} {A : Option Addr} {c : Nat} {fs : List (List bY)} (h : zM R A c fs) (q : Nat) : zM R (iZ A 0 c 1) (c - 0) (fs.take q) := by
 obtain ⟨ts, h1, h2, h3⟩ := h
 have h4 := (h1.drop 0 (Nat.zero_le _)).take q
 rw [List.drop_zero] at h4
 refine ⟨ts.take q, h4, by rw [List.length_take, List.length_take, h2], fun i t f a b => ?_⟩
 rw [List.getElem?_take] at a b
 split at a
 ·rename_i hi
  rw [if_pos hi] at b
  exact h3 i t f a b
 ·cases a
theorem RS.cut {α : Type} {E : jM α} {R : Mem} {A : Option Addr} {c : Nat} {l : List α} (h : RS E R A c l) (q : Nat) : RS E R (iZ A 0 c E.z) (c - 0) (l.take q) := by
 have h4 := (h.drop 0 (Nat.zero_le _)).take q
 rwa [List.drop_zero] at h4
abbrev eo (k : Nat) (A : Option Addr) (n c : Nat) (B : Option Addr) (m d : Nat) (lk : Int) (C : Option Addr) (q e : Nat) : HP := pt k (prgC A n c B m d lk C q e) 73
theorem Qn (h : Hp R L M) (ha : yY R pa p) (k : ∀ R' QX q us M', R.le R' → QX.f = some ⟨q, 0, none⟩ → us.length = (dQ p).funcs.length → (∀ (i : Nat) t f, us[i]? = some t → (dQ p).funcs[i]? = some f → RS jf R' t.1 t.2.2 f ∧ t.2.1 = f.length) → RS gP R' QX.k QX.kc (dQ p).cases → RS bR R' QX.c QX.cc (dQ p).dB →
  Hp R' (cu sN 115 (some ⟨q, 0, none⟩) QX.fc us :: L) M' → K (MU QX (dQ p)) M') :
  ae Tryz.prog 35 #[MU pa p] M K Kp := by
 refine rO ?_
 have Gm := Eu p
 have hkl := Ew p
 have n1 := ha.n1
 have n2 := ha.n2
 have n3 := ha.n3
 have le1 := ha.le1
 refine ai h ?_
 clear h
 intro k1 M h
 refine ai h ?_
 clear h
 intro k3 M h
 refine az h (bK (ff ?_))
 refine ai h ?_
 clear h
 intro k9 M h
 repeat (refine ak h ?_; clear h; intro M h)
 generalize hlk : aG p.aC 4 = lk at h
 have h0 : Hp R (cu bR 3 none 0 [] :: eo k9 none 0 0 none 0 0 lk none 0 0 :: eo k3 none 0 0 none 0 0 0 none 0 0 :: eo k1 pa.f p.funcs.length pa.fc pa.c p.dB.length pa.cc p.aC pa.k p.cases.length pa.kc :: L) M := h.dz bR 3
 clear h
 refine ⟨fun vs M => vs = [] ∧ ∃ B c, Hp R (cu bR 3 B c (dc p) :: eo k9 none 0 0 B (dc p).length c lk none 0 0 :: eo k3 none 0 0 none 0 0 0 none 0 0 :: eo k1 pa.f p.funcs.length pa.fc pa.c p.dB.length pa.cc p.aC pa.k p.cases.length pa.kc :: L) M,
  ⟨fun dd vs M => ∃ (j : Nat) (B : Option Addr) (c : Nat), vs = [.int .i64 (j : Int)] ∧ dd = 4 - j ∧ j ≤ 4 ∧ j ≤ p.dB.length ∧ Hp R (cu bR 3 B c ((p.dB.take j).map (aG · 4)) :: eo k9 none 0 0 B j c lk none 0 0 :: eo k3 none 0 0 none 0 0 0 none 0 0 :: eo k1 pa.f p.funcs.length pa.fc pa.c p.dB.length pa.cc p.aC pa.k p.cases.length pa.kc :: L) M, ⟨_, 0, none, 0, rfl, rfl, by omega, by omega, h0⟩, ?_⟩, ?_⟩
 ·clear h0
  rintro dd _ nn M ⟨j, B, c, he, hd, hj, Y3, h⟩
  simp only [List.cons.injEq, Value.int.injEq, and_true, true_and] at he
  subst he
  have hlen : ((p.dB.take j).map (aG · 4)).length = j := by rw [List.length_map, List.length_take]; omega
  have hout : ¬ (j < p.dB.length ∧ j < 4) → (p.dB.take j).map (aG · 4) = dc p ∧ j = (dc p).length := fun hn => by
   have e : p.dB.take j = p.dB.take 4 := by
    rcases Nat.lt_or_ge j 4 with h4 | h4
    ·rw [List.take_of_length_le (by omega), List.take_of_length_le (by omega)]
    ·rw [show j = 4 from by omega]
   refine ⟨by rw [dc, e], ?_⟩
   rw [← hlen, e]; rfl
  refine ax h ?_
  by_cases hc : j < p.dB.length ∧ j < 4
  ·obtain ⟨c1, c2⟩ := hc
   refine bV (by simp; omega) (bV (by simp; omega) ?_)
   have hr := ha.dB (by omega)
   obtain ⟨b, o, hb⟩ := hr.some (by omega) (by decide)
   rw [hb] at hr h
   obtain ⟨v, hv⟩ := aL c1
   have Yj : (p.dB.take (j + 1)).map (aG · 4) = (p.dB.take j).map (aG · 4) ++ [aG v 4] := by rw [take_succ hv, List.map_append]; rfl
   have hstep : ∀ M B c, Hp R (cu bR 3 B c ((p.dB.take j).map (aG · 4) ++ [aG v 4]) :: eo k9 none 0 0 B (j + 1) c lk none 0 0 :: eo k3 none 0 0 none 0 0 0 none 0 0 :: eo k1 pa.f p.funcs.length pa.fc (some ⟨b, o, none⟩) p.dB.length pa.cc p.aC pa.k p.cases.length pa.kc :: L) M →
     ∃ (j' : Nat) (B : Option Addr) (c : Nat), [Value.int .i64 (IntKind.wrap .i64 ((j : Int) + 1))] = [.int .i64 (j' : Int)] ∧ 4 - (j + 1) = 4 - j' ∧ j' ≤ 4 ∧ j' ≤ p.dB.length ∧ Hp R (cu bR 3 B c ((p.dB.take j').map (aG · 4)) :: eo k9 none 0 0 B j' c lk none 0 0 :: eo k3 none 0 0 none 0 0 0 none 0 0 :: eo k1 pa.f p.funcs.length pa.fc pa.c p.dB.length pa.cc p.aC pa.k p.cases.length pa.kc :: L) M := by
    intro M B c h
    refine ⟨j + 1, B, c, by rw [aS (by omega)], rfl, by omega, by omega, ?_⟩
    rw [Yj, hb]
    exact h
   refine ⟨fun vs M => vs = [] ∧ ∃ B c, Hp R (cu bR 3 B c ((p.dB.take j).map (aG · 4) ++ [aG v 4]) :: eo k9 none 0 0 B (j + 1) c lk none 0 0 :: eo k3 none 0 0 none 0 0 0 none 0 0 :: eo k1 pa.f p.funcs.length pa.fc (some ⟨b, o, none⟩) p.dB.length pa.cc p.aC pa.k p.cases.length pa.kc :: L) M, ?_, ?_⟩
   ·refine ax h ⟨by omega, by omega, aT ?_⟩
    refine aj (Src.at hr.src h (i := j) (j := 0) hv rfl (by simp [bR])) ?_
    refine ⟨?_, ?_, trivial⟩
    ·refine ax h (bK (ff ?_))
     refine ai h ?_
     clear h
     intro pC M h
     refine h.jT (A := B) jP [aG v 4] rfl hlen.symm rfl (by simp; omega) ?_
     clear h; intro A' c' M h
     refine aU ?_
     refine ak h ?_
     clear h
     intro M h
     exact ⟨rfl, _, _, h.sub bx⟩
    ·refine bK (ff (ax h ?_))
     refine ai h ?_
     clear h
     intro pC M h
     refine h.jT (A := B) jP [aG v 4] rfl hlen.symm rfl (by simp; omega) ?_
     clear h; intro A' c' M h
     refine aU ?_
     refine ak h ?_
     clear h
     intro M h
     exact ⟨rfl, _, _, h.sub bx⟩
   ·clear h
    rintro nn M ⟨_, B', c', h⟩
    exact ⟨4 - (j + 1), by omega, hstep M B' c' h⟩
  ·have ho := hout hc
   obtain ⟨e1, e2⟩ := ho
   rw [e1] at h
   refine N2 ⟨rfl, B, c, ?_⟩ fun h1 h2 => absurd ⟨by omega, by omega⟩ hc
   rw [← e2]; exact h
 clear h0
 rintro nn M ⟨_, B, c, h⟩
 clear nn
 have h0 : Hp R (cu gP 171 none 0 [] :: cu bR 3 B c (dc p) :: eo k9 none 0 0 B (dc p).length c lk none 0 0 :: eo k3 none 0 0 none 0 0 0 none 0 0 :: eo k1 pa.f p.funcs.length pa.fc pa.c p.dB.length pa.cc p.aC pa.k p.cases.length pa.kc :: L) M := h.dz gP _
 clear h
 refine ⟨fun vs M => vs = [] ∧ ∃ C d, Hp R (cu gP 171 C d (gy p) :: cu bR 3 B c (dc p) :: eo k9 none 0 0 B (dc p).length c lk C (gy p).length d :: eo k3 none 0 0 none 0 0 0 none 0 0 :: eo k1 pa.f p.funcs.length pa.fc pa.c p.dB.length pa.cc p.aC pa.k p.cases.length pa.kc :: L) M,
  ⟨fun dd vs M => ∃ (j : Nat) (C : Option Addr) (d : Nat), vs = [.int .i64 (j : Int)] ∧ dd = 8 - j ∧ j ≤ 8 ∧ j ≤ p.cases.length ∧ Hp R (cu gP 171 C d ((p.cases.take j).map (lD (dc p).length)) :: cu bR 3 B c (dc p) :: eo k9 none 0 0 B (dc p).length c lk C j d :: eo k3 none 0 0 none 0 0 0 none 0 0 :: eo k1 pa.f p.funcs.length pa.fc pa.c p.dB.length pa.cc p.aC pa.k p.cases.length pa.kc :: L) M, ⟨_, 0, none, 0, rfl, rfl, by omega, by omega, h0⟩, ?_⟩, ?_⟩
 ·clear h0
  rintro dd _ nn M ⟨j, C, d, he, hd, hj, Y3, h⟩
  simp only [List.cons.injEq, Value.int.injEq, and_true, true_and] at he
  subst he
  have hlen : ((p.cases.take j).map (lD (dc p).length)).length = j := by rw [List.length_map, List.length_take]; omega
  have hout : ¬ (j < p.cases.length ∧ j < 8) → (p.cases.take j).map (lD (dc p).length) = gy p ∧ j = (gy p).length := fun hn => by
   have e : p.cases.take j = p.cases.take 8 := by
    rcases Nat.lt_or_ge j 8 with h4 | h4
    ·rw [List.take_of_length_le (by omega), List.take_of_length_le (by omega)]
    ·rw [show j = 8 from by omega]
   refine ⟨by rw [gy, e], ?_⟩
   rw [← hlen, e]; rfl
  refine ax h ?_
  by_cases hc : j < p.cases.length ∧ j < 8
  ·obtain ⟨c1, c2⟩ := hc
   refine bV (by simp; omega) (bV (by simp; omega) ?_)
   have hr := ha.cases (by omega)
   obtain ⟨b, o, hb⟩ := hr.some (by omega) (by decide)
   rw [hb] at hr h
   obtain ⟨v, hv⟩ := aL c1
   have Yj : (p.cases.take (j + 1)).map (lD (dc p).length) = (p.cases.take j).map (lD (dc p).length) ++ [lD (dc p).length v] := by rw [take_succ hv, List.map_append]; rfl
   refine ax h ⟨by omega, by omega, aT ?_⟩
   refine aj (Src.at hr.src h (i := j) (j := 0) hv rfl (by simp [gP])) ?_
   refine aj (Src.at hr.src h (i := j) (j := 1) hv rfl (by simp [gP]; omega)) ?_
   refine aj (Src.at hr.src h (i := j) (j := 2) hv rfl (by simp [gP]; omega)) ?_
   refine ai h ?_
   clear h
   intro BC M h
   repeat (first|refine bK ?_|(refine ai h ?_;clear h;intro kb M h)|(refine ak h ?_;clear h;intro M h)|refine St.to h ?_|(apply Exists.intro;(repeat apply Exists.intro);refine And.intro rfl ?_)|refine ay ?_|refine aq ?_|refine au ?_)
   refine ⟨fun vs M => vs = [] ∧ Hp R (pt kb (gP.f (lD (dc p).length v)) 171 :: cu gP 171 C d ((p.cases.take j).map (lD (dc p).length)) :: cu bR 3 B c (dc p) :: eo k9 none 0 0 B (dc p).length c lk C j d :: eo k3 none 0 0 none 0 0 0 none 0 0 :: eo k1 pa.f p.funcs.length pa.fc pa.c p.dB.length pa.cc p.aC (some ⟨b, o, none⟩) p.cases.length pa.kc :: L) M, ?_, ?_⟩
   ·refine bh.2 ⟨fun hz => ?_, fun hz => ?_⟩
    ·have ez : lD (dc p).length v = ⟨2, 0, 0⟩ := by unfold lD; rw [if_pos (by omega)]
     rw [ez]
     repeat (first|(refine ai h ?_;clear h;intro kb M h)|(refine ak h ?_;clear h;intro M h)|refine St.to h ?_|(apply Exists.intro;(repeat apply Exists.intro);refine And.intro rfl ?_)|refine ay ?_|refine aq ?_|refine au ?_)
     exact h.sub bx
    ·have ez : lD (dc p).length v = ⟨aG v.way 3, aG v.ch (dc p).length, aG v.bH 8⟩ := by unfold lD; rw [if_neg (by omega)]
     rw [ez]
     exact ⟨rfl, h.sub bx⟩
   ·clear h
    rintro nn M ⟨_, h⟩
    generalize lD (dc p).length v = w at h Yj
    have h : Hp R (pt kb [.int .i64 w.way, .int .i64 w.ch, .int .i64 w.bH] 171 :: cu gP 171 C d ((p.cases.take j).map (lD (dc p).length)) :: cu bR 3 B c (dc p) :: eo k9 none 0 0 B (dc p).length c lk C j d :: eo k3 none 0 0 none 0 0 0 none 0 0 :: eo k1 pa.f p.funcs.length pa.fc pa.c p.dB.length pa.cc p.aC (some ⟨b, o, none⟩) p.cases.length pa.kc :: L) M := h
    refine ax h (az h (az h (az h ?_)))
    refine ai h ?_
    clear h
    intro QM M h
    refine h.jT (A := C) Yi [w] rfl hlen.symm rfl (by simp; omega) ?_
    clear h; intro C' d' M h
    refine aU ?_
    refine ak h ?_
    clear h
    intro M h
    refine ⟨8 - (j + 1), by omega, j + 1, C', d', by rw [aS (by omega)], rfl, by omega, by omega, ?_⟩
    rw [Yj, hb]
    exact h.sub bx
  ·have ho := hout hc
   obtain ⟨e1, e2⟩ := ho
   rw [e1] at h
   refine N2 ⟨rfl, C, d, ?_⟩ fun h1 h2 => absurd ⟨by omega, by omega⟩ hc
   rw [← e2]; exact h
 clear h0
 rintro nn M ⟨_, C, d, h⟩
 clear nn
 obtain ⟨R1, l1, rC, h1⟩ := h.bz C
 obtain ⟨R2, l2, rB, h2⟩ := h1.bz B
 clear h h1
 replace rC := rC.le l2
 have dU : R.le R2 := Mem.le_trans l1 l2
 replace h := h2
 clear h2 l1 l2
 have e5 : Int.toNat (if (5 : Int) < ((p.funcs.length : Nat) : Int) then 5 else ((p.funcs.length : Nat) : Int)) - 0 = min 5 p.funcs.length := by split <;> omega
 refine ax h (ax h ⟨by omega, by omega, by split <;> omega, by split <;> omega, by omega, by split <;> omega, ?_⟩)
 simp only [e5, Int.toNat_natCast]
 refine ⟨fun vs M => ∃ R' A c', vs = [.slice A (dW p).length c'] ∧ R2.le R' ∧ zM R' A c' (dW p) ∧ Hp R' (eo k9 none 0 0 B (dc p).length c lk C (gy p).length d :: eo k3 none 0 0 none 0 0 0 none 0 0 :: eo k1 pa.f p.funcs.length pa.fc pa.c p.dB.length pa.cc p.aC pa.k p.cases.length pa.kc :: L) M, ?_, ?_⟩
 ·refine bh.2 ⟨fun hz => ?_, fun hz => ?_⟩
  ·have ez : dW p = [[.zero]] := by unfold dW; rw [if_pos (by rw [List.length_take]; omega)]
   rw [ez]
   refine ai h ?_
   clear h
   intro ka M h
   obtain ⟨R3, l3, r3, h3⟩ := ((h.pt ka).gY (E := jf) (l := [.zero]) rfl).bz (some ⟨ka, 0, none⟩)
   clear h
   refine ai h3 ?_
   clear h3; intro kb M h
   obtain ⟨R4, l4, r4, h4⟩ := ((h.pt kb).gY (E := sN) (l := [(some ⟨ka, 0, none⟩, 1, 1)]) rfl).bz (some ⟨kb, 0, none⟩)
   clear h
   refine ⟨R4, _, _, rfl, Mem.le_trans l3 l4, ⟨_, r4, rfl, fun i t f a b => ?_⟩, h4⟩
   match i, a, b with
   | 0, a, b => cases a; cases b; exact ⟨rfl, by simp, by simp, fun _ => r3.le l4⟩
   | i + 1, a, b => simp at a
  ·have ez : dW p = p.funcs.take 5 := by unfold dW; rw [if_neg (by rw [List.length_take]; omega)]
   have hf : zM R pa.f pa.fc p.funcs := ha.funcs (by omega)
   rw [ez]
   refine ⟨R2, _, _, by rw [List.length_take], Mem.le_refl _, (hf.cut 5).le dU, h⟩
 clear h
 rintro nn A' n' c' M ⟨R3, A, cA, he, l3, hrows, h⟩
 simp only [List.cons.injEq, Value.slice.injEq, and_true] at he
 obtain ⟨rfl, rfl, rfl⟩ := he
 clear nn e5
 replace rC := rC.le l3
 replace rB := rB.le l3
 have hl3 : R.le R3 := Mem.le_trans dU l3
 clear l3 dU
 have hfl := yZ p
 refine h.NK (E := sN) (a := (none, 0, 0)) el_slT (by omega) ?_
 clear h; intro q M h
 refine aU ?_
 refine ak h ?_
 clear h
 intro M h
 obtain ⟨ts, hts1, hts2, hts3⟩ := hrows
 refine ⟨fun dd vs M => ∃ (j : Nat) (R4 : Mem) (us : List (Option Addr × Nat × Nat)), vs = [.int .i64 (j : Int)] ∧ dd = (dW p).length - j ∧ j ≤ (dW p).length ∧ R3.le R4 ∧ us.length = (dW p).length ∧ (∀ (i : Nat) t f, i < j → us[i]? = some t → (dW p)[i]? = some f → RS jf R4 t.1 t.2.2 (sR p f) ∧ t.2.1 = (sR p f).length) ∧
  Hp R4 (cu sN 115 (some ⟨q, 0, none⟩) (dW p).length us :: eo k9 (some ⟨q, 0, none⟩) (dW p).length (dW p).length B (dc p).length c lk C (gy p).length d :: eo k3 none 0 0 none 0 0 0 none 0 0 :: eo k1 pa.f p.funcs.length pa.fc pa.c p.dB.length pa.cc p.aC pa.k p.cases.length pa.kc :: L) M,
  ⟨_, 0, R3, List.replicate (dW p).length (none, 0, 0), rfl, rfl, by omega, Mem.le_refl _, by simp, fun i t f hi => absurd hi (by omega), h.sub bx⟩, ?_⟩
 clear h
 rintro dd _ nn M ⟨j, R4, us, he, hd, hj, l4, Yk, Jv, h⟩
 simp only [List.cons.injEq, Value.int.injEq, and_true, true_and] at he
 subst he
 refine aH.2 ⟨fun hlt => ?_, fun hge => ?_⟩
 ·obtain ⟨t, ht⟩ := aL (l := ts) (i := j) (by omega)
  obtain ⟨f, hf⟩ := aL (l := dW p) (i := j) (by omega)
  obtain ⟨u1, u2, u3, u4⟩ := hts3 j t f ht hf
  obtain ⟨tA, tn, tc⟩ := t
  dsimp only at u1 u3 u4
  subst u1
  have MV := hts1.le l4
  obtain ⟨b, o, hb⟩ := MV.some (by omega) (by decide)
  rw [hb] at MV
  rw [hb]
  refine ⟨by omega, hlt, aT ?_⟩
  refine br (Src.at MV.src h (i := j) (j := 0) ht rfl (by simp [sN])) ?_
  dsimp only
  have e20 : Int.toNat (if (20 : Int) < ((f.length : Nat) : Int) then 20 else ((f.length : Nat) : Int)) - 0 = min 20 f.length := by split <;> omega
  refine ⟨by omega, by omega, by split <;> omega, by split <;> omega, by omega, by split <;> omega, ?_⟩
  simp only [e20, Int.toNat_natCast]
  refine ⟨fun vs M => ∃ R' A c', vs = [.slice A (hO f).length c'] ∧ R4.le R' ∧ RS jf R' A c' (hO f) ∧ Hp R' (cu sN 115 (some ⟨q, 0, none⟩) (dW p).length us :: eo k9 (some ⟨q, 0, none⟩) (dW p).length (dW p).length B (dc p).length c lk C (gy p).length d :: eo k3 none 0 0 none 0 0 0 none 0 0 :: eo k1 pa.f p.funcs.length pa.fc pa.c p.dB.length pa.cc p.aC pa.k p.cases.length pa.kc :: L) M, ?_, ?_⟩
  ·refine bh.2 ⟨fun hz => ?_, fun hz => ?_⟩
   ·have ez : hO f = [.zero] := by unfold hO; rw [if_pos (by rw [List.length_take]; omega)]
    rw [ez]
    refine ai h ?_
    clear h
    intro ka M h
    obtain ⟨R5, l5, r5, h5⟩ := ((h.pt ka).gY (E := jf) (l := [.zero]) rfl).bz (some ⟨ka, 0, none⟩)
    clear h
    exact ⟨R5, _, _, rfl, l5, r5, h5⟩
   ·have ez : hO f = f.take 20 := by unfold hO; rw [if_neg (by rw [List.length_take]; omega)]
    rw [ez]
    refine ⟨R4, _, _, by rw [List.length_take]; rfl, Mem.le_refl _, RS.le (RS.cut (E := jf) (u4 (by omega)) 20) l4, h⟩
  clear h
  rintro nn Yl CP c'' M ⟨R5, F, cF, he, l5, hF, h⟩
  simp only [List.cons.injEq, Value.slice.injEq, and_true] at he
  obtain ⟨rfl, rfl, rfl⟩ := he
  clear nn e20
  have h5 := y5 f
  refine ai h ?_
  clear h
  intro kr M h
  have h0 := (h.pt kr).gY (E := jf) (l := []) rfl
  clear h
  refine ⟨fun dd vs M => ∃ (i : Nat) (A : Option Addr) (c' : Nat), vs = [.slice A i c', .int .i64 (i : Int)] ∧ dd = (hO f).length - i ∧ i ≤ (hO f).length ∧ Hp R5 (cu jf 109 A c' (((hO f).take i).map (zL (dW p).length (dc p).length (gy p).length lk (hO f).length)) :: cu sN 115 (some ⟨q, 0, none⟩) (dW p).length us :: eo k9 (some ⟨q, 0, none⟩) (dW p).length (dW p).length B (dc p).length c lk C (gy p).length d :: eo k3 none 0 0 none 0 0 0 none 0 0 :: eo k1 pa.f p.funcs.length pa.fc pa.c p.dB.length pa.cc p.aC pa.k p.cases.length pa.kc :: L) M,
   ⟨_, 0, _, _, rfl, rfl, by omega, h0⟩, ?_⟩
  clear h0
  rintro dd _ Yl CP c'' nn M ⟨i, A2, c2, he, Jn, hi, h⟩
  simp only [List.cons.injEq, Value.int.injEq, Value.slice.injEq, and_true, true_and] at he
  obtain ⟨⟨rfl, rfl, rfl⟩, rfl⟩ := he
  have hlen : (((hO f).take CP).map (zL (dW p).length (dc p).length (gy p).length lk (hO f).length)).length = CP := by rw [List.length_map, List.length_take]; omega
  refine aH.2 ⟨fun Ve => ?_, fun hge2 => ?_⟩
  ·obtain ⟨x, hx⟩ := aL (l := hO f) (i := CP) (by omega)
   obtain ⟨b', o', hb'⟩ := hF.some (by omega) (by decide)
   rw [hb'] at hF
   rw [hb']
   refine ⟨by omega, Ve, aT ?_⟩
   refine aj (Src.at hF.src h (i := CP) (j := 0) hx rfl (by simp [jf])) ?_
   refine aj (Src.at hF.src h (i := CP) (j := 1) hx rfl (by simp [jf]; omega)) ?_
   refine aj (Src.at hF.src h (i := CP) (j := 2) hx rfl (by simp [jf]; omega)) ?_
   refine aj (Src.at hF.src h (i := CP) (j := 3) hx rfl (by simp [jf]; omega)) ?_
   repeat (first|(refine ai h ?_;clear h;intro kb M h)|(refine ak h ?_;clear h;intro M h)|refine St.to h ?_|(apply Exists.intro;(repeat apply Exists.intro);refine And.intro rfl ?_)|refine ay ?_|refine aq ?_|refine au ?_)
   refine Yh h (by omega) ?_
   clear h; intro M h
   refine ⟨_, _, _, _, rfl, ?_⟩
   refine ai h ?_
   clear h
   intro kz M h
   refine h.jT (A := Yl) Oi [zL (dW p).length (dc p).length (gy p).length lk (hO f).length x] rfl hlen.symm rfl (by simp; omega) ?_
   clear h; intro A3 c3 M h
   refine aU ⟨(hO f).length - (CP + 1), by omega, CP + 1, A3, c3, ?_, rfl, by omega, ?_⟩
   ·rw [aS (by omega)]
   ·rw [take_succ hx, List.map_append]
    exact h.sub bx
  ·have hin : CP = (hO f).length := by omega
   subst hin
   rw [List.take_of_length_le (Nat.le_refl _)] at h
   obtain ⟨R6, l6, r6, h6⟩ := h.bz Yl
   clear h
   refine ax h6 ⟨by omega, by omega, aT ?_⟩
   obtain ⟨u, hu⟩ := aL (l := us) (i := j) (by omega)
   refine gK (a' := (Yl, (hO f).length, c'')) j 0 h6 hu (by decide) rfl (by simp [sN]) ?_
   clear h6; intro M h
   refine ⟨(dW p).length - (j + 1), by omega, j + 1, R6, _, by rw [aS (by omega)], rfl, by omega, Mem.le_trans l4 (Mem.le_trans l5 l6), ?_, ?_, h.sub bx⟩
   ·simp [Yk]
   ·intro i t' f' hi' ht' Kj
    by_cases hij : i = j
    ·subst hij
     rw [List.getElem?_set_self (by omega)] at ht'
     cases ht'
     rw [hf] at Kj
     cases Kj
     subst hlk
     exact ⟨r6, by simp [sR]⟩
    ·rw [List.getElem?_set_ne (by omega)] at ht'
     obtain ⟨g1, g2⟩ := Jv i t' f' (by omega) ht' Kj
     exact ⟨g1.le (Mem.le_trans l5 l6), g2⟩
 ·have h5 : Hp R4 (eo k9 (some ⟨q, 0, none⟩) (dW p).length (dW p).length B (dc p).length c lk C (gy p).length d :: eo k3 none 0 0 none 0 0 0 none 0 0 :: cu sN 115 (some ⟨q, 0, none⟩) (dW p).length us :: L) M := h.sub bx
  clear h
  replace h := h5
  clear h5
  repeat (first|(refine ai h ?_;clear h;intro kb M h)|(refine ak h ?_;clear h;intro M h)|refine St.to h ?_|(apply Exists.intro;(repeat apply Exists.intro);refine And.intro rfl ?_)|refine ay ?_|refine aq ?_|refine au ?_)
  subst hlk
  have ef : (dQ p).funcs.length = (dW p).length := by simp [dQ]
  have hk := k R4 ⟨some ⟨q, 0, none⟩, (dW p).length, B, c, C, d⟩ q us M (Mem.le_trans hl3 l4) rfl (by rw [Yk, ef]) (fun i t f a b => ?_) (rC.le l4) (rB.le l4) (h.sub bx)
  ·rw [MU, ef] at hk
   exact hk
  ·have b' : ((dW p).map (sR p))[i]? = some f := b
   rw [List.getElem?_map] at b'
   obtain ⟨f0, b1, rfl⟩ := Option.map_eq_some_iff.1 b'
   exact Jv i t f0 (by have := (List.getElem?_eq_some_iff.1 b1).1; omega) a b1
end
theorem Ym : bE Tryz.prog 31 34 4 32 [.int .i64 0, .int .i64 0, .int .i64 0, .int .i64 0] := bE.mk' (zv := .agg #[.int .i64 0, .int .i64 0, .int .i64 0, .int .i64 0]) (by kernel_rfl) (by kernel_rfl) rfl (by omega)
theorem Yn : bE Tryz.prog 39 172 3 24 [.int .i64 0, .int .i64 0, .int .i64 0] := bE.mk' (zv := .agg #[.int .i64 0, .int .i64 0, .int .i64 0]) (by kernel_rfl) (by kernel_rfl) rfl (by omega)
theorem el_slP : bE Tryz.prog 37 31 1 24 [.slice none 0 0] := bE.mk' (zv := .slice none 0 0) (by kernel_rfl) (by kernel_rfl) rfl (by omega)
theorem bB {A : Option Addr} {b o : Nat} {G : Nat → Nat → Prop} (e : A = some ⟨b, o, none⟩) (g : G b o) : aE A G := by subst e; exact aT g
abbrev Dy (k : Nat) (A : Option Addr) (n c : Nat) (B : Option Addr) (m d : Nat) (lk : Int) (C : Option Addr) (q e : Nat) : HP := pt k (prgC A n c B m d lk C q e) 41
section
variable {R : Mem} {L L' : List HP} {M : Mem} {K : Value → Mem → Prop} {Kp : List PanicEntry → Mem → Prop} {pa : PA} {p : cy}
theorem Yo (h : Hp R L M) (ha : oG R pa p) (hc : RS bR R pa.c pa.cc p.dB) (hp : eK p) (hfn : p.funcs.length ≤ 1000000) (k : ∀ R' QX M', R.le R' → oG R' QX p → RS bR R' QX.c QX.cc p.dB → Hp R' L M' → K (MU QX p) M') :
  ae Tryz.prog 29 #[MU pa p] M K Kp := by
 refine uH ?_
 have p1 := hp.ch
 have p2 := hp.cs
 obtain ⟨ts, t1, t2, t3⟩ := ha.funcs
 have t4 := t1.2
 refine ai h ?_
 clear h
 intro k1 M h
 refine ai h ?_
 clear h
 intro k3 M h
 refine ax h (az h ?_)
 refine ai h ?_
 clear h
 intro k9 M h
 refine ⟨trivial, ?_⟩
 refine h.b6 bR jP p.dB hc.src rfl (by omega) ?_
 clear h; intro B c M h
 refine aU ⟨cw h, ?_⟩
 refine ai h ?_
 clear h
 intro fq M h
 repeat (refine ak h ?_; clear h; intro M h)
 refine ⟨cw h, ax h ?_⟩
 obtain ⟨R1, l1, rB, h1⟩ := h.bz B
 clear h
 have h0 : Hp R1 (cu sN 31 none 0 [] :: Dy fq none 0 0 B p.dB.length c p.aC none 0 0 :: Dy k3 none 0 0 none 0 0 0 none 0 0 :: eo k1 pa.f p.funcs.length pa.fc pa.c p.dB.length pa.cc p.aC pa.k p.cases.length pa.kc :: L) M := (h1.dz sN _).sub bx
 clear h1
 refine ⟨fun dd vs M => ∃ (j : Nat) (R2 : Mem) (A : Option Addr) (cA : Nat) (us : List (Option Addr × Nat × Nat)), vs = [.int .i64 (j : Int)] ∧ dd = p.funcs.length - j ∧ j ≤ p.funcs.length ∧ R1.le R2 ∧ us.length = j ∧ (∀ (i : Nat) t f, us[i]? = some t → p.funcs[i]? = some f → RS jf R2 t.1 t.2.2 f ∧ t.2.1 = f.length) ∧
  Hp R2 (cu sN 31 A cA us :: Dy fq A j cA B p.dB.length c p.aC none 0 0 :: Dy k3 none 0 0 none 0 0 0 none 0 0 :: eo k1 pa.f p.funcs.length pa.fc pa.c p.dB.length pa.cc p.aC pa.k p.cases.length pa.kc :: L) M,
  ⟨_, 0, R1, none, 0, [], rfl, rfl, by omega, Mem.le_refl _, rfl, fun i t f a => by simp at a, h0⟩, ?_⟩
 clear h0
 rintro dd _ nn M ⟨j, R2, A, cA, us, he, hd, hj, l2, Yk, Jv, h⟩
 simp only [List.cons.injEq, Value.int.injEq, and_true, true_and] at he
 subst he
 refine aH.2 ⟨fun hlt => ?_, fun hge => ?_⟩
 ·obtain ⟨t, ht⟩ := aL (l := ts) (i := j) (by omega)
  obtain ⟨f, hf⟩ := aL (l := p.funcs) (i := j) (by omega)
  obtain ⟨u1, u2⟩ := t3 j t f ht hf
  have hfl := (hp.code f (List.mem_of_getElem? hf)).2.1
  obtain ⟨tA, tn, tc⟩ := t
  dsimp only at u1 u2
  subst u2
  have MV := t1.le (Mem.le_trans l1 l2)
  obtain ⟨b, o, hb⟩ := MV.some (by omega) (by decide)
  rw [hb] at MV
  refine ⟨by omega, hlt, bB hb ?_⟩
  refine br (Src.at MV.src h (i := j) (j := 0) ht rfl (by simp [sN])) ?_
  dsimp only
  have hF := u1.le (Mem.le_trans l1 l2)
  refine ai h ?_
  clear h
  intro kr M h
  have h0 := (h.pt kr).gY (E := jf) (l := []) rfl
  clear h
  refine ⟨fun dd vs M => ∃ (i : Nat) (A2 : Option Addr) (c' : Nat), vs = [.slice A2 i c', .int .i64 (i : Int)] ∧ dd = f.length - i ∧ i ≤ f.length ∧ Hp R2 (cu jf 34 A2 c' (f.take i) :: cu sN 31 A cA us :: Dy fq A j cA B p.dB.length c p.aC none 0 0 :: Dy k3 none 0 0 none 0 0 0 none 0 0 :: eo k1 pa.f p.funcs.length pa.fc pa.c p.dB.length pa.cc p.aC pa.k p.cases.length pa.kc :: L) M,
   ⟨_, 0, _, _, rfl, rfl, by omega, h0⟩, ?_⟩
  clear h0
  rintro dd _ Yl CP c'' nn M ⟨i, A2, c2, he, Jn, hi, h⟩
  simp only [List.cons.injEq, Value.int.injEq, Value.slice.injEq, and_true, true_and] at he
  obtain ⟨⟨rfl, rfl, rfl⟩, rfl⟩ := he
  have hlen : (f.take CP).length = CP := by rw [List.length_take]; omega
  refine aH.2 ⟨fun Ve => ?_, fun hge2 => ?_⟩
  ·obtain ⟨x, hx⟩ := aL (l := f) (i := CP) (by omega)
   obtain ⟨b', o', hb'⟩ := hF.some (by omega) (by decide)
   rw [hb'] at hF
   refine ⟨by omega, Ve, bB hb' ?_⟩
   refine aj (Src.at hF.src h (i := CP) (j := 0) hx rfl (by simp [jf])) ?_
   refine aj (Src.at hF.src h (i := CP) (j := 1) hx rfl (by simp [jf]; omega)) ?_
   refine aj (Src.at hF.src h (i := CP) (j := 2) hx rfl (by simp [jf]; omega)) ?_
   refine aj (Src.at hF.src h (i := CP) (j := 3) hx rfl (by simp [jf]; omega)) ?_
   repeat (first|(refine ai h ?_;clear h;intro kb M h)|(refine ak h ?_;clear h;intro M h)|refine St.to h ?_|(apply Exists.intro;(repeat apply Exists.intro);refine And.intro rfl ?_)|refine ay ?_|refine aq ?_|refine au ?_)
   refine h.jT (A := Yl) Ym [x] rfl hlen.symm rfl (by simp; omega) ?_
   clear h; intro A3 c3 M h
   refine aU ⟨f.length - (CP + 1), by omega, CP + 1, A3, c3, ?_, rfl, by omega, ?_⟩
   ·rw [aS (by omega)]
   ·rw [take_succ hx]
    exact h.sub bx
  ·have hin : CP = f.length := by omega
   subst hin
   rw [List.take_of_length_le (Nat.le_refl _)] at h
   obtain ⟨R6, l6, r6, h6⟩ := h.bz Yl
   clear h
   refine ax h6 ?_
   refine ai h6 ?_
   clear h6; intro kz M h
   refine h.jT (A := A) el_slP [(Yl, f.length, c'')] rfl Yk.symm rfl (by simp; omega) ?_
   clear h; intro A3 c3 M h
   refine aU ?_
   refine ak h ?_
   clear h
   intro M h
   refine ⟨p.funcs.length - (j + 1), by omega, j + 1, R6, A3, c3, us ++ [(Yl, f.length, c'')], by rw [aS (by omega)], rfl, by omega, Mem.le_trans l2 l6, by simp [Yk], ?_, h.sub bx⟩
   intro i t' f' ht' Kj
   rcases Nat.lt_or_ge i us.length with hi' | hi'
   ·rw [List.getElem?_append_left hi'] at ht'
    obtain ⟨g1, g2⟩ := Jv i t' f' ht' Kj
    exact ⟨g1.le l6, g2⟩
   ·rw [List.getElem?_append_right hi'] at ht'
    have hi0 : i - us.length = 0 := by
     rcases Nat.eq_zero_or_pos (i - us.length) with e | e
     ·exact e
     ·rw [List.getElem?_eq_none (by simp; omega)] at ht'; cases ht'
    rw [hi0] at ht'
    cases ht'
    have : i = j := by omega
    subst this
    rw [hf] at Kj
    cases Kj
    exact ⟨r6, rfl⟩
 ·have KF : j = p.funcs.length := by omega
  subst KF
  obtain ⟨R3, l3, rA, h3⟩ := h.bz A
  clear h
  refine ax h3 ?_
  have h0 : Hp R3 (cu gP 172 none 0 [] :: Dy fq A p.funcs.length cA B p.dB.length c p.aC none 0 0 :: Dy k3 none 0 0 none 0 0 0 none 0 0 :: eo k1 pa.f p.funcs.length pa.fc pa.c p.dB.length pa.cc p.aC pa.k p.cases.length pa.kc :: L) M := h3.dz gP _
  clear h3
  have XI := Mem.le_trans l1 (Mem.le_trans l2 l3)
  have hk := ha.cases.le XI
  refine ⟨fun dd vs M => ∃ (i : Nat) (A2 : Option Addr) (c' : Nat), vs = [.int .i64 (i : Int)] ∧ dd = p.cases.length - i ∧ i ≤ p.cases.length ∧ Hp R3 (cu gP 172 A2 c' (p.cases.take i) :: Dy fq A p.funcs.length cA B p.dB.length c p.aC A2 i c' :: Dy k3 none 0 0 none 0 0 0 none 0 0 :: eo k1 pa.f p.funcs.length pa.fc pa.c p.dB.length pa.cc p.aC pa.k p.cases.length pa.kc :: L) M,
   ⟨_, 0, none, 0, rfl, rfl, by omega, h0⟩, ?_⟩
  clear h0
  rintro dd _ nn M ⟨i, A2, c2, he, Jn, hi, h⟩
  simp only [List.cons.injEq, Value.int.injEq, and_true, true_and] at he
  subst he
  have hlen : (p.cases.take i).length = i := by rw [List.length_take]; omega
  refine aH.2 ⟨fun Ve => ?_, fun hge2 => ?_⟩
  ·obtain ⟨x, hx⟩ := aL (l := p.cases) (i := i) (by omega)
   obtain ⟨b', o', hb'⟩ := hk.some (by omega) (by decide)
   rw [hb'] at hk
   refine ⟨by omega, Ve, bB hb' ?_⟩
   refine aj (Src.at hk.src h (i := i) (j := 0) hx rfl (by simp [gP])) ?_
   refine aj (Src.at hk.src h (i := i) (j := 1) hx rfl (by simp [gP]; omega)) ?_
   refine aj (Src.at hk.src h (i := i) (j := 2) hx rfl (by simp [gP]; omega)) ?_
   repeat (first|(refine ai h ?_;clear h;intro kb M h)|(refine ak h ?_;clear h;intro M h)|refine St.to h ?_|(apply Exists.intro;(repeat apply Exists.intro);refine And.intro rfl ?_)|refine ay ?_|refine aq ?_|refine au ?_)
   refine h.jT (A := A2) Yn [x] rfl hlen.symm rfl (by simp; omega) ?_
   clear h; intro A3 c3 M h
   refine aU ?_
   refine ak h ?_
   clear h
   intro M h
   refine ⟨p.cases.length - (i + 1), by omega, i + 1, A3, c3, ?_, rfl, by omega, ?_⟩
   ·rw [aS (by omega)]
   ·rw [take_succ hx]
    exact h.sub bx
  ·have hin : i = p.cases.length := by omega
   subst hin
   rw [List.take_of_length_le (Nat.le_refl _)] at h
   obtain ⟨R6, l6, r6, h6⟩ := h.bz A2
   clear h
   replace h := h6
   clear h6
   repeat (first|(refine ai h ?_;clear h;intro kb M h)|(refine ak h ?_;clear h;intro M h)|refine St.to h ?_|(apply Exists.intro;(repeat apply Exists.intro);refine And.intro rfl ?_)|refine ay ?_|refine aq ?_|refine au ?_)
   have l16 := Mem.le_trans XI l6
   refine k R6 ⟨A, cA, B, c, A2, c2⟩ _ l16 ⟨⟨us, rA.le l6, Yk, fun i t f a b => ?_⟩, r6⟩ (rB.le (Mem.le_trans l2 (Mem.le_trans l3 l6))) (h.sub bx)
   obtain ⟨g1, g2⟩ := Jv i t f a b
   exact ⟨g1.le (Mem.le_trans l3 l6), g2⟩
end
def Jw {ρ α : Type} (P : Mem → ρ → α → Prop) (R : Mem) (xs : List ρ) (ys : List α) : Prop := xs.length = ys.length ∧ ∀ (i : Nat) (r : ρ) (a : α), xs[i]? = some r → ys[i]? = some a → P R r a
section
variable {ρ α : Type} {P : Mem → ρ → α → Prop} {R R' : Mem} {xs : List ρ} {ys : List α}
theorem Jw.nil (P : Mem → ρ → α → Prop) (R : Mem) : Jw P R [] [] := ⟨rfl, fun i r c h => by simp at h⟩
theorem Jw.le (hm : ∀ R R' r a, R.le R' → P R r a → P R' r a) (h : Jw P R xs ys) (hle : R.le R') : Jw P R' xs ys := ⟨h.1, fun i r c h1 h2 => hm _ _ _ _ hle (h.2 i r c h1 h2)⟩
theorem Jw.snoc {r : ρ} {c : α} (h : Jw P R xs ys) (hr : P R r c) : Jw P R (xs ++ [r]) (ys ++ [c]) := by
 refine ⟨by simp [h.1], fun i r' c' h1 h2 => ?_⟩
 rcases Nat.lt_or_ge i xs.length with hl | hl
 ·rw [List.getElem?_append_left hl] at h1; rw [List.getElem?_append_left (by rw [← h.1]; exact hl)] at h2; exact h.2 i _ _ h1 h2
 ·rw [List.getElem?_append_right hl] at h1; rw [List.getElem?_append_right (by rw [← h.1]; exact hl)] at h2
  have : i - xs.length = 0 := by
   obtain ⟨hh, _⟩ := List.getElem?_eq_some_iff.1 h1; simp at hh; omega
  rw [this] at h1; rw [← h.1, this] at h2
  cases h1; cases h2; exact hr
theorem Jw.set {r : ρ} {c : α} (h : Jw P R xs ys) (i : Nat) (hr : P R r c) : Jw P R (xs.set i r) (ys.set i c) := by
 refine ⟨by simp [h.1], fun j r' c' h1 h2 => ?_⟩
 rw [List.getElem?_set] at h1 h2
 split at h1
 ·rename_i e; rw [if_pos e] at h2
  split at h1
  ·split at h2
   ·cases h1; cases h2; exact hr
   ·cases h2
  ·cases h1
 ·rename_i e; rw [if_neg e] at h2; exact h.2 j _ _ h1 h2
theorem Jw.at {i : Nat} {a : α} (h : Jw P R xs ys) (ha : ys[i]? = some a) : ∃ r, xs[i]? = some r ∧ P R r a := by
 have hi : i < xs.length := by rw [h.1]; exact (List.getElem?_eq_some_iff.1 ha).1
 exact ⟨xs[i], List.getElem?_eq_getElem hi, h.2 i _ _ (List.getElem?_eq_getElem hi) ha⟩
end
structure RG where
 st : Int
 A : Option Addr
 n : Nat
 c : Nat
 wt : bY
def uU : jM RG := ⟨6, fun g => [.int .i64 g.st, .slice g.A g.n g.c, .int .i64 g.wt.op, .int .i64 g.wt.a, .int .i64 g.wt.b, .int .i64 g.wt.c], fun _ => rfl, fun w v hv => by
 simp only [List.mem_cons, List.not_mem_nil, or_false] at hv; obtain rfl | rfl | rfl | rfl | rfl | rfl := hv <;> rfl⟩
def Ak (R : Mem) (r : RG) (y : gG) : Prop := r.st = y.st ∧ r.n = y.fs.length ∧ RS fV R r.A r.c y.fs ∧ r.wt = y.wt
theorem Ak.le (R R' : Mem) (r : RG) (y : gG) (hle : R.le R') (h : Ak R r y) : Ak R' r y := ⟨h.1, h.2.1, h.2.2.1.le hle, h.2.2.2⟩
def vY (l : Lk) : List Int := if l.owner = -1 then [] else l.owner :: l.waits
def Qo (R : Mem) (t : Option Addr × Nat × Nat) (l : Lk) : Prop := t.2.1 = (vY l).length ∧ RS bR R t.1 t.2.2 (vY l)
theorem Qo.le (R R' : Mem) (r : Option Addr × Nat × Nat) (y : Lk) (hle : R.le R') (h : Qo R r y) : Qo R' r y := ⟨h.1, h.2.le hle⟩
structure Al where
 pa : PA
 ag : Option Addr
 cg : Nat
 ac : Option Addr
 cc : Nat
 al : Option Addr
 cl : Nat
 ah : Option Addr
 ch : Nat
 ao : Option Addr
 co : Nat
 ar : Option Addr
 cr : Nat
abbrev jZ (a : Al) (p : cy) (x : Wd) : List Value :=
 [.slice a.pa.f p.funcs.length a.pa.fc, .slice a.pa.c p.dB.length a.pa.cc, .int .i64 p.aC, .slice a.pa.k p.cases.length a.pa.kc, .slice a.ag x.gs.length a.cg, .int .u64 x.clock, .slice a.ac x.av.length a.cc, .slice a.al x.aC.length a.cl, .slice a.ah x.hl.length a.ch, .int .u64 x.di, .slice a.ao x.out.length a.co, .int .i64 x.end_, .int .i64 x.code, .slice a.ar x.ready.length a.cr]
structure eN (R : Mem) (a : Al) (p : cy) (x : Wd) : Prop where
 AO : oG R a.pa p
 dB : RS bR R a.pa.c a.pa.cc p.dB
 gs : ∃ rs, RS uU R a.ag a.cg rs ∧ Jw Ak R rs x.gs
 av : ∃ rs, RS xQ R a.ac a.cc rs ∧ yN R rs x.av
 aC : ∃ rs, RS sN R a.al a.cl rs ∧ Jw Qo R rs x.aC
 hl : RS g6 R a.ah a.ch x.hl
 out : RS bR R a.ao a.co x.out
 ready : RS bR R a.ar a.cr x.ready
theorem eN.le {R R' : Mem} {a : Al} {p : cy} {x : Wd} (h : eN R a p x) (hle : R.le R') : eN R' a p x := by
 obtain ⟨h1, h2, ⟨r3, a3, b3⟩, ⟨r4, a4, b4⟩, ⟨r5, a5, b5⟩, h6, h7, h8⟩ := h
 exact ⟨h1.le hle, h2.le hle, ⟨r3, a3.le hle, b3.le Ak.le hle⟩, ⟨r4, a4.le hle, b4.le hle⟩, ⟨r5, a5.le hle, b5.le Qo.le hle⟩, h6.le hle, h7.le hle, h8.le hle⟩
theorem Vf : bE Tryz.prog 74 111 6 64 [.int .i64 0, .slice none 0 0, .int .i64 0, .int .i64 0, .int .i64 0, .int .i64 0] := bE.mk' (zv := .agg #[.int .i64 0, .slice none 0 0, .int .i64 0, .int .i64 0, .int .i64 0, .int .i64 0]) (by kernel_rfl) (by kernel_rfl) rfl (by omega)
theorem pP : bE Tryz.prog 107 114 11 88 (List.replicate 11 (.int .i64 0)) := bE.mk' (zv := .agg (List.replicate 11 (.int .i64 0)).toArray) (by kernel_rfl) (by kernel_rfl) rfl (by omega)
theorem Vg : bE Tryz.prog 75 190 5 88 [.int .i64 0, .slice none 0 0, .slice none 0 0, .slice none 0 0, .bool false] := bE.mk' (zv := .agg #[.int .i64 0, .slice none 0 0, .slice none 0 0, .slice none 0 0, .bool false]) (by kernel_rfl) (by kernel_rfl) rfl (by omega)
theorem Gw : bE Tryz.prog 76 251 1 24 [.slice none 0 0] := bE.mk' (zv := .agg #[.slice none 0 0]) (by kernel_rfl) (by kernel_rfl) rfl (by omega)
end Go.Proofs
namespace Go.Proofs
open Go.AF
set_option maxRecDepth 100000
set_option maxHeartbeats 1000000
attribute [local irreducible] bF dG fa dP aF eY aE b7 aO bj bJ aM
attribute [local irreducible] zd dO
abbrev gz : List Value := [.slice none 0 0, .slice none 0 0, .int .i64 0, .slice none 0 0, .slice none 0 0, .int .u64 0, .slice none 0 0, .slice none 0 0, .slice none 0 0, .int .u64 0, .slice none 0 0, .int .i64 0, .int .i64 0, .slice none 0 0]
abbrev gD (a : Al) (p : cy) (x : Wd) : Value := .agg (jZ a p x).toArray
abbrev rgV (r : RG) : Value := .agg #[.int .i64 r.st, .slice r.A r.n r.c, .int .i64 r.wt.op, .int .i64 r.wt.a, .int .i64 r.wt.b, .int .i64 r.wt.c]
def Wd.eX (x : Wd) (g : Int) : Wd := { x.bp g { aa x g with st := 1, wt := .zero } with ready := x.ready ++ [g] }
def Wd.iB (x : Wd) (n : Int) : Wd := { x with end_ := 2, code := n }
def Wd.mE (x : Wd) (g s : Int) (i : bY) : Wd := x.bp g { aa x g with st := s, wt := i }
section
variable {R : Mem} {L L' : List HP} {M : Mem} {K : Value → Mem → Prop} {Kp : List PanicEntry → Mem → Prop} {a : Al} {p : cy} {x : Wd} {g : Int}
theorem s_rg {b o T c q : Nat} {xs : List RG} {r r' : RG} {G : Mem → Prop} (h : Hp R L M) [hp : dF (some ⟨b, 0, none⟩) L RG uU T c xs L'] (hi : xs[q]? = some r) (e : o = q * 6)
  (k : ∀ M', Hp R (cu uU T (some ⟨b, 0, none⟩) c (xs.set q r') :: L') M' → G M') :
  b7 M ⟨b, o, none⟩ (.int .i64 r'.st) fun M => b7 M ⟨b, o + 1, none⟩ (.slice r'.A r'.n r'.c) fun M => b7 M ⟨b, o + 2, none⟩ (.int .i64 r'.wt.op) fun M =>
  b7 M ⟨b, o + 3, none⟩ (.int .i64 r'.wt.a) fun M => b7 M ⟨b, o + 4, none⟩ (.int .i64 r'.wt.b) fun M => b7 M ⟨b, o + 5, none⟩ (.int .i64 r'.wt.c) fun M => G M := by
 subst e
 have hl := (List.getElem?_eq_some_iff.1 hi).1
 refine gK q 0 h hi (by decide) (a' := { r with st := r'.st }) rfl rfl fun M1 h1 => ?_
 refine gK q 1 h1 (a := { r with st := r'.st }) (by simp [hl]) (by decide) (a' := { r' with wt := r.wt }) rfl rfl fun M2 h2 => ?_
 refine gK q 2 h2 (a := { r' with wt := r.wt }) (by simp [hl]) (by decide) (a' := { r' with wt := { r.wt with op := r'.wt.op } }) rfl rfl fun M3 h3 => ?_
 refine gK q 3 h3 (a := { r' with wt := { r.wt with op := r'.wt.op } }) (by simp [hl]) (by decide) (a' := { r' with wt := { r.wt with op := r'.wt.op, a := r'.wt.a } }) rfl rfl fun M4 h4 => ?_
 refine gK q 4 h4 (a := { r' with wt := { r.wt with op := r'.wt.op, a := r'.wt.a } }) (by simp [hl]) (by decide) (a' := { r' with wt := { r'.wt with c := r.wt.c } }) rfl rfl fun M5 h5 => ?_
 refine gK q 5 h5 (a := { r' with wt := { r'.wt with c := r.wt.c } }) (by simp [hl]) (by decide) (a' := r') rfl rfl fun M6 h6 => ?_
 simp only [List.set_set] at h6
 exact k _ h6
theorem kC {y : gG} {r : RG} (h : Hp R L M) (hw : eN R a p x) (hr : Ak R r y) (g0 : 0 ≤ g) (g1 : g < x.gs.length) (hn : x.gs.length ≤ 1000000)
  (k : ∀ R' a' M', R.le R' → eN R' a' p (x.bp g y) → Hp R' L M' → K (gD a' p (x.bp g y)) M') :
  ae Tryz.prog 112 #[gD a p x, .int .i64 g, rgV r] M K Kp := by
 refine si ?_
 obtain ⟨rs, bu, hl⟩ := hw.gs
 refine ai h ?_
 clear h
 intro k1 M h
 refine ai h ?_
 clear h
 intro k3 M h
 refine ai h ?_
 clear h
 intro k5 M h
 refine ai h ?_
 clear h
 intro k7 M h
 refine ax h ?_
 refine h.b6 uU Vf rs bu.src hl.1.symm (by rw [hl.1]; omega) ?_
 clear h; intro A' c' M h
 refine aU ?_
 obtain ⟨q, hq⟩ := h.bU (A := A') (l := rs) (by rw [hl.1]; omega) (by decide)
 subst hq
 refine ak h ?_
 clear h
 intro M h
 refine ax h (az h (ax h (az h (az h (az h (az h ⟨g0, by rw [hl.1]; exact g1, aT ?_⟩))))))
 obtain ⟨j, rfl⟩ := Int.eq_ofNat_of_zero_le g0
 obtain ⟨r0, Em⟩ := aL (l := rs) (i := j) (by rw [hl.1]; omega)
 refine s_rg (q := j) (r' := r) h Em (by omega) ?_
 clear h; intro M h
 obtain ⟨R2, l2, r2, h2⟩ := h.bz (some ⟨q, 0, none⟩)
 clear h
 refine aI h2 rfl ?_
 refine bk h2 rfl rfl rfl ?_
 clear h2; intro M h
 refine aI h rfl ?_
 have cv := hw.le l2
 have dU : Jw Ak R2 (rs.set j r) (x.gs.set j y) := (hl.le Ak.le l2).set j (Ak.le _ _ _ _ l2 hr)
 have hx : eN R2 { a with ag := some ⟨q, 0, none⟩, cg := c' } p (x.bp j y) := ⟨cv.AO, cv.dB, ⟨_, r2, by unfold Wd.bp; exact dU⟩, cv.av, cv.aC, cv.hl, cv.out, cv.ready⟩
 have hk := fun M' => k R2 _ M' l2 hx
 have e : (x.bp j y).gs.length = rs.length := by simp [Wd.bp, hl.1]
 simp only [gD, jZ, e] at hk
 exact hk _ (h.sub bx)
theorem bN (g0 : 0 ≤ g) (g1 : g < x.gs.length) : x.gs[g.toNat]? = some (aa x g) := by
 unfold aa
 rw [List.getD_eq_getElem?_getD, List.getElem?_eq_getElem (by omega)]; rfl
theorem cP {n : Nat} (h : 0 < n) (hb : n < 9223372036854775808) : IntKind.wrap .i64 ((n : Int) - 1) = ((n - 1 : Nat) : Int) := by rw [dD (by omega) (by omega)]; omega
theorem fC {q v : Int} (h : Hp R L M) (hw : eN R a p x) (hg : aW x g) (hn : x.gs.length ≤ 1000000) (hq : aR q)
  (k : ∀ R' a' M', R.le R' → eN R' a' p (x.aV g q v) → Hp R' L M' → K (gD a' p (x.aV g q v)) M') :
  ae Tryz.prog 142 #[gD a p x, .int .i64 g, .int .i64 q, .int .i64 v] M K Kp := by
 refine uQ ?_
 obtain ⟨rs, bu, hl⟩ := hw.gs
 obtain ⟨g0, g1, g2, g3⟩ := hg
 refine ai h ?_
 clear h
 intro k1 M h
 refine ai h ?_
 clear h
 intro k3 M h
 obtain ⟨r, hr, e1, e2, e3, e4⟩ := hl.at (bN g0 g1)
 obtain ⟨b, o, hb⟩ := bu.some (by rw [hl.1]; omega) (by decide)
 rw [hb] at bu
 refine ax h ⟨g0, by omega, bB hb ?_⟩
 refine aj (Src.at bu.src h hr (j := 0) rfl (by simp [uU])) ?_
 refine br (Src.at bu.src h hr (j := 1) rfl rfl) ?_
 refine aj (Src.at bu.src h hr (j := 2) rfl rfl) ?_
 refine aj (Src.at bu.src h hr (j := 3) rfl rfl) ?_
 refine aj (Src.at bu.src h hr (j := 4) rfl rfl) ?_
 refine aj (Src.at bu.src h hr (j := 5) rfl rfl) ?_
 refine ai h ?_
 clear h
 intro fm M h
 repeat (refine ak h ?_; clear h; intro M h)
 refine ai h ?_
 clear h
 intro gH M h
 refine ax h ?_
 refine h.b6 fV pP (aa x g).fs e3.src e2 (by omega) ?_
 clear h; intro A' c' M h
 refine aU ?_
 refine ak h ?_
 clear h
 intro M h
 obtain ⟨qb, hqb⟩ := h.bU (A := A') (l := (aa x g).fs) g2 (by decide)
 subst hqb
 have ew : IntKind.wrap .i64 (((aa x g).fs.length : Int) - 1) = (((aa x g).fs.length - 1 : Nat) : Int) := cP g2 (by omega)
 refine ax h (ax h ?_)
 rw [ew]
 refine ⟨by omega, by omega, aT ⟨hq.1, hq.2, ?_⟩⟩
 refine gK ((aa x g).fs.length - 1) (2 + q.toNat) h (bS g2) (by have := hq.1; have := hq.2; show 2 + q.toNat < 11; omega) (kH (v := v) hq.1 hq.2) (by show _ = ((aa x g).fs.length - 1) * 11 + (2 + q.toNat); omega) ?_
 clear h; intro M h
 obtain ⟨R2, l2, r2, h2⟩ := h.bz (some ⟨qb, 0, none⟩)
 clear h
 refine aI h2 rfl (az h2 (ax h2 (az h2 (az h2 (az h2 (az h2 ?_))))))
 have MW : Ak R2 ⟨r.st, some ⟨qb, 0, none⟩, (aa x g).fs.length, c', r.wt⟩ ((aa x g).bW ((aa x g).top.set q v)) := ⟨e1, by simp [gG.bW], r2, e4⟩
 refine kC (r := ⟨r.st, some ⟨qb, 0, none⟩, (aa x g).fs.length, c', r.wt⟩) h2 (hw.le l2) MW g0 g1 hn ?_
 clear h2; intro R3 a' M l3 nJ h
 refine ⟨_, _, _, _, _, _, _, _, _, _, _, _, _, _, rfl, ?_⟩
 refine bk h rfl rfl rfl ?_
 clear h; intro M h
 refine aI h rfl ?_
 exact k R3 a' M (Mem.le_trans l2 l3) nJ (h.sub bx)
theorem MX (h : Hp R L M) (hw : eN R a p x) (hg : aW x g) (hn : x.gs.length ≤ 1000000) (tH : 0 ≤ (aa x g).top.pc ∧ (aa x g).top.pc < 1000000000)
  (k : ∀ R' a' M', R.le R' → eN R' a' p (x.next g) → Hp R' L M' → K (gD a' p (x.next g)) M') :
  ae Tryz.prog 114 #[gD a p x, .int .i64 g] M K Kp := by
 refine sj ?_
 obtain ⟨rs, bu, hl⟩ := hw.gs
 obtain ⟨g0, g1, g2, g3⟩ := hg
 refine ai h ?_
 clear h
 intro k1 M h
 refine ai h ?_
 clear h
 intro k3 M h
 obtain ⟨r, hr, e1, e2, e3, e4⟩ := hl.at (bN g0 g1)
 obtain ⟨b, o, hb⟩ := bu.some (by rw [hl.1]; omega) (by decide)
 rw [hb] at bu
 refine ax h ⟨g0, by omega, bB hb ?_⟩
 refine aj (Src.at bu.src h hr (j := 0) rfl (by simp [uU])) ?_
 refine br (Src.at bu.src h hr (j := 1) rfl rfl) ?_
 refine aj (Src.at bu.src h hr (j := 2) rfl rfl) ?_
 refine aj (Src.at bu.src h hr (j := 3) rfl rfl) ?_
 refine aj (Src.at bu.src h hr (j := 4) rfl rfl) ?_
 refine aj (Src.at bu.src h hr (j := 5) rfl rfl) ?_
 refine ai h ?_
 clear h
 intro fm M h
 repeat (refine ak h ?_; clear h; intro M h)
 refine ai h ?_
 clear h
 intro gH M h
 refine ax h ?_
 refine h.b6 fV pP (aa x g).fs e3.src e2 (by omega) ?_
 clear h; intro A' c' M h
 refine aU ?_
 refine ak h ?_
 clear h
 intro M h
 obtain ⟨qb, hqb⟩ := h.bU (A := A') (l := (aa x g).fs) g2 (by decide)
 subst hqb
 have ew : IntKind.wrap .i64 (((aa x g).fs.length : Int) - 1) = (((aa x g).fs.length - 1 : Nat) : Int) := cP g2 (by omega)
 refine ax h (ax h ?_)
 rw [ew]
 refine ⟨by omega, by omega, aT ?_⟩
 refine aj (Src.at (h.src (A := some ⟨qb, 0, none⟩)) h (bS g2) (j := 1) rfl (by show _ = 0 + (((aa x g).fs.length - 1) * 11 + 1); omega)) ?_
 refine ⟨by omega, by omega, aT ?_⟩
 rw [jg tH.1 (by omega)]
 refine gK ((aa x g).fs.length - 1) 1 h (bS g2) (by decide) (Su (v := (aa x g).top.pc + 1)) (by show _ = ((aa x g).fs.length - 1) * 11 + 1; omega) ?_
 clear h; intro M h
 obtain ⟨R2, l2, r2, h2⟩ := h.bz (some ⟨qb, 0, none⟩)
 clear h
 refine aI h2 rfl (az h2 (ax h2 (az h2 (az h2 (az h2 (az h2 ?_))))))
 have MW : Ak R2 ⟨r.st, some ⟨qb, 0, none⟩, (aa x g).fs.length, c', r.wt⟩ ((aa x g).bW (aa x g).top.next) := ⟨e1, by simp [gG.bW], r2, e4⟩
 refine kC (r := ⟨r.st, some ⟨qb, 0, none⟩, (aa x g).fs.length, c', r.wt⟩) h2 (hw.le l2) MW g0 g1 hn ?_
 clear h2; intro R3 a' M l3 nJ h
 refine ⟨_, _, _, _, _, _, _, _, _, _, _, _, _, _, rfl, ?_⟩
 refine bk h rfl rfl rfl ?_
 clear h; intro M h
 refine aI h rfl ?_
 exact k R3 a' M (Mem.le_trans l2 l3) nJ (h.sub bx)
theorem gA {s : Int} {i : bY} (h : Hp R L M) (hw : eN R a p x) (g0 : 0 ≤ g) (g1 : g < x.gs.length) (hn : x.gs.length ≤ 1000000)
  (k : ∀ R' a' M', R.le R' → eN R' a' p (x.mE g s i) → Hp R' L M' → K (gD a' p (x.mE g s i)) M') :
  ae Tryz.prog 139 #[gD a p x, .int .i64 g, .int .i64 s, insV i] M K Kp := by
 refine pD ?_
 obtain ⟨rs, bu, hl⟩ := hw.gs
 refine ai h ?_
 clear h
 intro k1 M h
 refine ai h ?_
 clear h
 intro k3 M h
 refine ai h ?_
 clear h
 intro k5 M h
 obtain ⟨r, hr, e1, e2, e3, e4⟩ := hl.at (bN g0 g1)
 obtain ⟨b, o, hb⟩ := bu.some (by rw [hl.1]; omega) (by decide)
 rw [hb] at bu
 refine ax h ⟨g0, by omega, bB hb ?_⟩
 refine aj (Src.at bu.src h hr (j := 0) rfl (by simp [uU])) ?_
 refine br (Src.at bu.src h hr (j := 1) rfl rfl) ?_
 refine aj (Src.at bu.src h hr (j := 2) rfl rfl) ?_
 refine aj (Src.at bu.src h hr (j := 3) rfl rfl) ?_
 refine aj (Src.at bu.src h hr (j := 4) rfl rfl) ?_
 refine aj (Src.at bu.src h hr (j := 5) rfl rfl) ?_
 refine ai h ?_
 clear h
 intro fQ M h
 repeat (refine ak h ?_; clear h; intro M h)
 refine az h (az h (az h (az h ?_)))
 repeat (refine ak h ?_; clear h; intro M h)
 refine aI h rfl (az h (ax h (az h (az h (az h (az h ?_))))))
 refine kC (r := ⟨s, r.A, r.n, r.c, i⟩) (y := { aa x g with st := s, wt := i }) h hw ⟨rfl, e2, e3, rfl⟩ g0 g1 hn ?_
 clear h; intro R3 a' M l3 nJ h
 refine ⟨_, _, _, _, _, _, _, _, _, _, _, _, _, _, rfl, ?_⟩
 refine bk h rfl rfl rfl ?_
 clear h; intro M h
 refine aI h rfl ?_
 exact k R3 a' M l3 nJ (h.sub bx)
theorem gB {n : Int} (h : Hp R L M) (hw : eN R a p x) (k : ∀ M', eN R a p (x.iB n) → Hp R L M' → K (gD a p (x.iB n)) M') :
  ae Tryz.prog 110 #[gD a p x, .int .i64 n] M K Kp := by
 refine sg ?_
 refine ai h ?_
 clear h
 intro k1 M h
 refine ai h ?_
 clear h
 intro k3 M h
 repeat (refine ak h ?_; clear h; intro M h)
 refine aI h rfl ?_
 refine bk h rfl rfl rfl ?_
 clear h; intro M h
 refine aI h rfl ?_
 exact k M ⟨hw.AO, hw.dB, hw.gs, hw.av, hw.aC, hw.hl, hw.out, hw.ready⟩ (h.sub bx)
theorem jm (h : Hp R L M) (hw : eN R a p x) (g0 : 0 ≤ g) (g1 : g < x.gs.length) (hn : x.gs.length ≤ 1000000) (hr : x.ready.length ≤ 1000000)
  (k : ∀ R' a' M', R.le R' → eN R' a' p (x.eX g) → Hp R' L M' → K (gD a' p (x.eX g)) M') :
  ae Tryz.prog 109 #[gD a p x, .int .i64 g] M K Kp := by
 refine r7 ?_
 refine ai h ?_
 clear h
 intro k1 M h
 refine ai h ?_
 clear h
 intro k3 M h
 refine aI h rfl ?_
 refine gA (i := .zero) (s := 1) h hw g0 g1 hn ?_
 clear h; intro R1 a1 M l1 mM h
 refine ⟨_, _, _, _, _, _, _, _, _, _, _, _, _, _, rfl, ?_⟩
 refine bk h rfl rfl rfl ?_
 clear h; intro M h
 refine ai h ?_
 clear h
 intro gI M h
 refine ax h ?_
 refine h.b6 bR jP x.ready mM.ready.src rfl (by omega) ?_
 clear h; intro A c M h
 refine aU ?_
 refine ai h ?_
 clear h
 intro lg M h
 refine h.aZ (A := A) jP [g] rfl rfl (by simp; omega) ?_
 clear h; intro A2 c2 M h
 refine aU ?_
 refine ak h ?_
 clear h
 intro M h
 obtain ⟨R2, l2, r2, h2⟩ := h.bz A2
 clear h
 refine aI h2 rfl ?_
 refine bk h2 rfl rfl rfl ?_
 clear h2; intro M h
 refine aI h rfl ?_
 have cv := mM.le l2
 have hx : eN R2 { a1 with ar := A2, cr := c2 } p (x.eX g) := ⟨cv.AO, cv.dB, cv.gs, cv.av, cv.aC, cv.hl, cv.out, r2⟩
 exact k R2 _ M (Mem.le_trans l1 l2) hx (h.sub bx)
theorem iU {j : Int} {c : aQ} {r : RC} (h : Hp R L M) (hw : eN R a p x) (hr : Ty R r c) (j0 : 0 ≤ j) (j1 : j < x.av.length) (hn : x.av.length ≤ 1000000)
  (k : ∀ R' a' M', R.le R' → eN R' a' p (x.bg j c) → Hp R' L M' → K (gD a' p (x.bg j c)) M') :
  ae Tryz.prog 144 #[gD a p x, .int .i64 j, .agg (xQ.f r).toArray] M K Kp := by
 refine oD ?_
 obtain ⟨rs, bu, hl⟩ := hw.av
 refine ai h ?_
 clear h
 intro k1 M h
 refine ai h ?_
 clear h
 intro k3 M h
 refine ai h ?_
 clear h
 intro k5 M h
 refine ai h ?_
 clear h
 intro k7 M h
 refine ax h ?_
 refine h.b6 xQ Ma rs bu.src hl.1.symm (by rw [hl.1]; omega) ?_
 clear h; intro A' c' M h
 refine aU ?_
 obtain ⟨q, hq⟩ := h.bU (A := A') (l := rs) (by rw [hl.1]; omega) (by decide)
 subst hq
 refine ak h ?_
 clear h
 intro M h
 refine ax h (az h (ax h (ax h (ax h (me h ⟨j0, by rw [hl.1]; exact j1, aT ?_⟩)))))
 obtain ⟨j, rfl⟩ := Int.eq_ofNat_of_zero_le j0
 obtain ⟨r0, Em⟩ := aL (l := rs) (i := j) (by rw [hl.1]; omega)
 refine s_rc (q := j) (r' := r) h Em (by omega) ?_
 clear h; intro M h
 obtain ⟨R2, l2, r2, h2⟩ := h.bz (some ⟨q, 0, none⟩)
 clear h
 refine aI h2 rfl ?_
 refine bk h2 rfl rfl rfl ?_
 clear h2; intro M h
 refine aI h rfl ?_
 have cv := hw.le l2
 have dU : yN R2 (rs.set j r) (x.av.set j c) := (hl.le l2).set j (hr.le l2)
 have hx : eN R2 { a with ac := some ⟨q, 0, none⟩, cc := c' } p (x.bg j c) := ⟨cv.AO, cv.dB, cv.gs, ⟨_, r2, by unfold Wd.bg; exact dU⟩, cv.aC, cv.hl, cv.out, cv.ready⟩
 have hk := fun M' => k R2 _ M' l2 hx
 have e : (x.bg j c).av.length = rs.length := by simp [Wd.bg, hl.1]
 simp only [gD, jZ, e] at hk
 exact hk _ (h.sub bx)
end
def Wd.dZ (p : cy) (x : Wd) (v : Wt) (some : Int) : Wd :=
 let i := (aa x v.g).wt
 (if i.op = 16 then ((x.aV v.g (mw p (i.a + v.cs)).bH v.v).cU v.g v.cs)
  else (x.aV v.g i.b v.v).aV v.g i.c some).eX v.g
def Wd.oO (x : Wd) (v : Wt) : Wd := (if (aa x v.g).wt.op = 16 then x.cU v.g v.cs else x).eX v.g
section
variable {R : Mem} {L L' : List HP} {M : Mem} {K : Value → Mem → Prop} {Kp : List PanicEntry → Mem → Prop} {a : Al} {p : cy} {x : Wd} {g : Int}
theorem MY {q n : Int} : (x.aV g q n).gs.length = x.gs.length := by simp [Wd.aV, Wd.bp]
theorem Yp {q : Int} : (x.cU g q).gs.length = x.gs.length := by simp [Wd.cU, Wd.leave, Wd.aV, Wd.bp]
theorem Gx (hs : x.Sm) : ∀ c ∈ x.av, c.Small 1000000000 := fun c hc => (hs.1 c hc).mono (by omega)
theorem xG {pl : Int} (h : Hp R L M) (hw : eN R a p x) (hg : aW x g) (hs : x.Sm) (hq : aR (aa x g).wt.c)
  (k : ∀ R' a' M', R.le R' → eN R' a' p (x.cU g pl) → Hp R' L M' → K (gD a' p (x.cU g pl)) M') :
  ae Tryz.prog 190 #[gD a p x, .int .i64 g, .int .i64 pl] M K Kp := by
 refine pF ?_
 obtain ⟨rs, bu, hl⟩ := hw.gs
 obtain ⟨g0, g1, g2, g3⟩ := id hg
 have hn := hs.2.2.1
 refine ai h ?_
 clear h
 intro k1 M h
 refine ai h ?_
 clear h
 intro k3 M h
 obtain ⟨⟨oZ, rA, rn, rc, Cw⟩, hr, e1, e2, e3, e4⟩ := hl.at (bN g0 g1)
 dsimp only at e1 e2 e3 e4
 subst e4
 obtain ⟨b, o, hb⟩ := bu.some (by rw [hl.1]; omega) (by decide)
 rw [hb] at bu
 refine aI h rfl ?_
 refine ax h ⟨g0, by omega, bB hb ?_⟩
 refine aj (Src.at bu.src h hr (j := 5) rfl rfl) ?_
 refine fC h hw hg (by omega) hq ?_
 clear h; intro R1 a1 M l1 mM h
 refine ⟨_, _, _, _, _, _, _, _, _, _, _, _, _, _, rfl, ?_⟩
 refine bk h rfl rfl rfl ?_
 clear h; intro M h
 obtain ⟨ys, hys, hyl⟩ := mM.av
 have vl : (x.aV g (aa x g).wt.c pl).Sm := AD hs
 refine ax h ?_
 refine IJ h hys hyl rfl (Nat.le_trans vl.2.1 (by decide)) (Gx vl) ?_
 clear h; intro R2 X cx xs' M l2 h hx
 refine aU ?_
 refine ak h ?_
 clear h
 intro M h
 obtain ⟨R3, l3, r3, h3⟩ := h.bz X
 clear h
 refine aI h3 rfl ?_
 refine bk h3 rfl rfl rfl ?_
 clear h3; intro M h
 refine aI h rfl ?_
 have cv := mM.le (Mem.le_trans l2 l3)
 have hz : eN R3 { a1 with ac := X, cc := cx } p (x.cU g pl) := ⟨cv.AO, cv.dB, cv.gs, ⟨_, r3, hx.le l3⟩, cv.aC, cv.hl, cv.out, cv.ready⟩
 have hk := fun M' => k R3 _ M' (Mem.le_trans l1 (Mem.le_trans l2 l3)) hz
 have e : (x.cU g pl).av.length = (x.aV g (aa x g).wt.c pl).av.length := by simp [Wd.cU, Wd.leave]
 simp only [gD, jZ, e] at hk
 exact hk _ (h.sub bx)
theorem Qp {j : Int} (h0 : 0 ≤ j) (h1 : j < p.cases.length) : p.cases[j.toNat]? = some (mw p j) := by
 unfold mw
 rw [List.getD_eq_getElem?_getD, List.getElem?_eq_getElem (by omega)]; rfl
theorem sS {v : Wt} {s : Int} (h : Hp R L M) (hw : eN R a p x) (hv : lA p x v) (hs : x.Sm)
  (k : ∀ R' a' M', R.le R' → eN R' a' p (x.dZ p v s) → Hp R' L M' → K (gD a' p (x.dZ p v s)) M') :
  ae Tryz.prog 188 #[gD a p x, .agg #[.int .i64 v.g, .int .i64 v.cs, .int .i64 v.v], .int .i64 s] M K Kp := by
 refine nD ?_
 obtain ⟨hg, hv⟩ := hv
 obtain ⟨rs, bu, hl⟩ := hw.gs
 obtain ⟨g0, g1, g2, g3⟩ := id hg
 have hn := hs.2.2.1
 have hrd := hs.2.2.2.1
 refine ai h ?_
 clear h
 intro k1 M h
 refine ai h ?_
 clear h
 intro k3 M h
 refine ai h ?_
 clear h
 intro k5 M h
 obtain ⟨⟨oZ, rA, rn, rc, Cw⟩, hr, e1, e2, e3, e4⟩ := hl.at (bN g0 g1)
 dsimp only at e1 e2 e3 e4
 subst e4
 obtain ⟨b, o, hb⟩ := bu.some (by rw [hl.1]; omega) (by decide)
 rw [hb] at bu
 refine ax h (az h ⟨g0, by omega, bB hb ?_⟩)
 refine aj (Src.at bu.src h hr (j := 2) rfl rfl) ?_
 refine aj (Src.at bu.src h hr (j := 3) rfl rfl) ?_
 refine aj (Src.at bu.src h hr (j := 4) rfl rfl) ?_
 refine aj (Src.at bu.src h hr (j := 5) rfl rfl) ?_
 refine ai h ?_
 clear h
 intro fO M h
 repeat (refine ak h ?_; clear h; intro M h)
 refine az h ?_
 by_cases mL : (aa x v.g).wt.op = 16
 ·rw [if_pos mL] at hv
  obtain ⟨c0, c1, c2, c3, c4⟩ := hv
  have hk : x.dZ p v s = (((x.aV v.g (mw p ((aa x v.g).wt.a + v.cs)).bH v.v).cU v.g v.cs).eX v.g) := by
   unfold Wd.dZ; simp only [if_pos mL]
  rw [hk] at k
  refine bV (by simp [mL]) ?_
  refine aI h rfl (az h (ax h (az h (az h ?_))))
  rw [dD c0 (by omega)]
  obtain ⟨b', o', hb'⟩ := hw.AO.cases.some (by omega) (by decide)
  have hcs := hw.AO.cases
  rw [hb'] at hcs
  refine ⟨c0, c1, bB hb' ?_⟩
  refine aj (Src.at hcs.src h (Qp c0 c1) (j := 2) rfl rfl) ?_
  refine az h ?_
  refine fC h hw hg (by omega) c3 ?_
  clear h; intro R1 a1 M l1 mM h
  refine ⟨_, _, _, _, _, _, _, _, _, _, _, _, _, _, rfl, ?_⟩
  refine bk h rfl rfl rfl ?_
  clear h; intro M h
  refine aI h rfl (az h (az h ?_))
  refine xG h mM (gv hg) (AD hs) (by rw [Ec hg]; exact c4) ?_
  clear h; intro R2 a2 M l2 cv h
  refine ⟨_, _, _, _, _, _, _, _, _, _, _, _, _, _, rfl, ?_⟩
  refine bk h rfl rfl rfl ?_
  clear h; intro M h
  refine aI h rfl (az h ?_)
  refine jm h cv g0 (by rw [Yp, MY]; exact g1) (by rw [Yp, MY]; omega) (by show x.ready.length ≤ _; omega) ?_
  clear h; intro R3 a3 M l3 nJ h
  refine ⟨_, _, _, _, _, _, _, _, _, _, _, _, _, _, rfl, ?_⟩
  refine bk h rfl rfl rfl ?_
  clear h; intro M h
  refine aI h rfl ?_
  exact k _ _ _ (Mem.le_trans l1 (Mem.le_trans l2 l3)) nJ (h.sub bx)
 ·rw [if_neg mL] at hv
  obtain ⟨c3, c4⟩ := hv
  have hk : x.dZ p v s = ((x.aV v.g (aa x v.g).wt.b v.v).aV v.g (aa x v.g).wt.c s).eX v.g := by
   unfold Wd.dZ; simp only [if_neg mL]
  rw [hk] at k
  refine aD (by simp [mL]) ?_
  refine aI h rfl (az h (az h (az h ?_)))
  refine fC h hw hg (by omega) c3 ?_
  clear h; intro R1 a1 M l1 mM h
  refine ⟨_, _, _, _, _, _, _, _, _, _, _, _, _, _, rfl, ?_⟩
  refine bk h rfl rfl rfl ?_
  clear h; intro M h
  refine aI h rfl (az h (az h ?_))
  refine fC h mM (gv hg) (by rw [MY]; omega) c4 ?_
  clear h; intro R2 a2 M l2 cv h
  refine ⟨_, _, _, _, _, _, _, _, _, _, _, _, _, _, rfl, ?_⟩
  refine bk h rfl rfl rfl ?_
  clear h; intro M h
  refine aI h rfl (az h ?_)
  refine jm h cv g0 (by rw [MY, MY]; exact g1) (by rw [MY, MY]; omega) (by show x.ready.length ≤ _; omega) ?_
  clear h; intro R3 a3 M l3 nJ h
  refine ⟨_, _, _, _, _, _, _, _, _, _, _, _, _, _, rfl, ?_⟩
  refine bk h rfl rfl rfl ?_
  clear h; intro M h
  refine aI h rfl ?_
  exact k _ _ _ (Mem.le_trans l1 (Mem.le_trans l2 l3)) nJ (h.sub bx)
def Wd.nK (p : cy) (x : Wd) (k v : Int) : Wd × Bool :=
 let s := (aX x.av k).send v
 if s.2.2.2 = 10 then (x.iB (-1), true) else ((if s.2.2.1 then (x.bg k s.1).dZ p s.2.1 1 else x.bg k s.1), s.2.2.2 == 0)
def Wd.jW (x : Wd) (k : Int) : Wd × Int × Int × Bool :=
 let s := (aX x.av k).recv
 let y := if s.2.2.2.2.1 then (x.bg k s.1).oO s.2.2.2.1 else x.bg k s.1
 if s.2.2.1 then (y, s.2.1, 1, true) else (y, 0, 0, s.2.2.2.2.2 == 0)
theorem yN.at {xs : List RC} {cs : List aQ} {i : Nat} {c : aQ} (h : yN R xs cs) (hc : cs[i]? = some c) : ∃ r, xs[i]? = some r ∧ Ty R r c := by
 have hi : i < xs.length := by rw [h.1]; exact (List.getElem?_eq_some_iff.1 hc).1
 exact ⟨xs[i], List.getElem?_eq_getElem hi, h.2 i _ _ (List.getElem?_eq_getElem hi) hc⟩
theorem hU {cs : List aQ} {k : Int} (h0 : 0 ≤ k) (h : k < cs.length) : cs[k.toNat]? = some (aX cs k) := by
 unfold aX
 rw [List.getD_eq_getElem?_getD, List.getElem?_eq_getElem (by omega)]; rfl
theorem Ez {j v : Int} (h : Hp R L M) (hw : eN R a p x) (j0 : 0 ≤ j) (j1 : j < x.av.length) (hs : x.Sm)
  (hs' : (x.bg j ((aX x.av j).send v).1).Sm) (hv : ((aX x.av j).send v).2.2.1 = true → lA p (x.bg j ((aX x.av j).send v).1) ((aX x.av j).send v).2.1)
  (k : ∀ R' a' M', R.le R' → eN R' a' p (x.nK p j v).1 → Hp R' L M' → K (.tuple #[gD a' p (x.nK p j v).1, .bool (x.nK p j v).2]) M') :
  ae Tryz.prog 143 #[gD a p x, .int .i64 j, .int .i64 v] M K Kp := by
 refine uR ?_
 obtain ⟨rs, bu, hl⟩ := hw.av
 have hc := hU j0 j1
 have ry := Gx hs _ (List.mem_of_getElem? hc)
 have hn := hs.2.1
 unfold Wd.nK at k
 generalize P7 : aX x.av j = cc at hc ry hs' hv k
 refine ai h ?_
 clear h
 intro k1 M h
 refine ai h ?_
 clear h
 intro k3 M h
 obtain ⟨r, hr, hrc⟩ := hl.at hc
 obtain ⟨b, o, hb⟩ := bu.some (by rw [hl.1]; omega) (by decide)
 rw [hb] at bu
 refine ax h ⟨j0, by omega, bB hb ?_⟩
 refine aj (Src.at bu.src h hr (j := 0) rfl (by simp [xQ])) ?_
 refine br (Src.at bu.src h hr (j := 1) rfl rfl) ?_
 refine br (Src.at bu.src h hr (j := 2) rfl rfl) ?_
 refine br (Src.at bu.src h hr (j := 3) rfl rfl) ?_
 refine uZ (Src.at bu.src h hr (j := 4) rfl rfl) ?_
 refine LV h hrc ry ?_
 clear h; intro R1 vs' M l1 h wY
 generalize cc.send v = s at wY hs' hv k
 obtain ⟨c', w, ok, e⟩ := s
 dsimp only at wY hs' hv k
 obtain ⟨r', rfl, Hl⟩ := wY.rc
 apply Exists.intro; (repeat apply Exists.intro); refine And.intro rfl ?_
 refine ai h ?_
 clear h
 intro lH M h
 refine ai h ?_
 clear h
 intro mP M h
 repeat (refine ak h ?_; clear h; intro M h)
 by_cases Ka : e = 10
 ·subst Ka
  refine bV (by simp) ?_
  simp only [if_true] at k
  refine aI h rfl ?_
  refine gB h (hw.le l1) ?_
  intro M cv h
  refine ⟨_, _, _, _, _, _, _, _, _, _, _, _, _, _, rfl, ?_⟩
  refine bk h rfl rfl rfl ?_
  clear h; intro M h
  refine aI h rfl ?_
  exact k _ _ _ l1 cv (h.sub bx)
 ·refine aD (by simp [Ka]) ?_
  simp only [if_neg Ka] at k
  refine aI h rfl (az h (ax h (ax h (ax h (me h ?_)))))
  refine iU h (hw.le l1) Hl j0 j1 (by omega) ?_
  clear h; intro R2 a2 M l2 cv h
  refine ⟨_, _, _, _, _, _, _, _, _, _, _, _, _, _, rfl, ?_⟩
  refine bk h rfl rfl rfl ?_
  clear h; intro M h
  cases ok with
  | true =>
   refine bV rfl ?_
   simp only [if_true] at k
   refine aI h rfl (az h (az h (az h ?_)))
   refine sS h cv (hv rfl) hs' ?_
   clear h; intro R3 a3 M l3 nJ h
   refine ⟨_, _, _, _, _, _, _, _, _, _, _, _, _, _, rfl, ?_⟩
   refine bk h rfl rfl rfl ?_
   clear h; intro M h
   refine aI h rfl ?_
   refine bk h rfl rfl rfl ?_
   clear h; intro M h
   refine aI h rfl ?_
   exact k _ _ _ (Mem.le_trans l1 (Mem.le_trans l2 l3)) nJ (h.sub bx)
  | false =>
   refine aD rfl ?_
   simp only [Bool.false_eq_true, if_false] at k
   refine aI h rfl ?_
   refine bk h rfl rfl rfl ?_
   clear h; intro M h
   refine aI h rfl ?_
   exact k _ _ _ (Mem.le_trans l1 l2) cv (h.sub bx)
theorem EA {j : Int} (h : Hp R L M) (hw : eN R a p x) (j0 : 0 ≤ j) (j1 : j < x.av.length) (hs : x.Sm)
  (hs' : (x.bg j (aX x.av j).recv.1).Sm) (hv : (aX x.av j).recv.2.2.2.2.1 = true → u5 (x.bg j (aX x.av j).recv.1) (aX x.av j).recv.2.2.2.1)
  (k : ∀ R' a' M', R.le R' → eN R' a' p (x.jW j).1 → Hp R' L M' → K (.tuple #[gD a' p (x.jW j).1, .int .i64 (x.jW j).2.1, .int .i64 (x.jW j).2.2.1, .bool (x.jW j).2.2.2]) M') :
  ae Tryz.prog 145 #[gD a p x, .int .i64 j] M K Kp := by
 refine uS ?_
 obtain ⟨rs, bu, hl⟩ := hw.av
 have hc := hU j0 j1
 have ry := Gx hs _ (List.mem_of_getElem? hc)
 have hn := hs.2.1
 unfold Wd.jW at k
 generalize P7 : aX x.av j = cc at hc ry hs' hv k
 refine ai h ?_
 clear h
 intro k1 M h
 refine ai h ?_
 clear h
 intro k3 M h
 obtain ⟨r, hr, hrc⟩ := hl.at hc
 obtain ⟨b, o, hb⟩ := bu.some (by rw [hl.1]; omega) (by decide)
 rw [hb] at bu
 refine ax h ⟨j0, by omega, bB hb ?_⟩
 refine aj (Src.at bu.src h hr (j := 0) rfl (by simp [xQ])) ?_
 refine br (Src.at bu.src h hr (j := 1) rfl rfl) ?_
 refine br (Src.at bu.src h hr (j := 2) rfl rfl) ?_
 refine br (Src.at bu.src h hr (j := 3) rfl rfl) ?_
 refine uZ (Src.at bu.src h hr (j := 4) rfl rfl) ?_
 refine LW h hrc ry ?_
 clear h; intro R1 vs' M l1 h wY
 generalize cc.recv = s at wY hs' hv k
 obtain ⟨c', n, sm, w, wk, e⟩ := s
 dsimp only at wY hs' hv k
 obtain ⟨r', rfl, Hl⟩ := wY.rc
 apply Exists.intro; (repeat apply Exists.intro); refine And.intro rfl ?_
 refine ai h ?_
 clear h
 intro mP M h
 refine ai h ?_
 clear h
 intro jF M h
 repeat (refine ak h ?_; clear h; intro M h)
 refine aI h rfl (az h (ax h (ax h (ax h (me h ?_)))))
 refine iU h (hw.le l1) Hl j0 j1 (by omega) ?_
 clear h; intro R2 a2 M l2 cv h
 refine ⟨_, _, _, _, _, _, _, _, _, _, _, _, _, _, rfl, ?_⟩
 refine bk h rfl rfl rfl ?_
 clear h; intro M h
 cases wk with
 | true =>
  refine bV rfl ?_
  simp only [if_true] at k
  obtain ⟨hg, mL⟩ := hv rfl
  obtain ⟨g0, g1, g2, g3⟩ := id hg
  obtain ⟨rs2, Yq, dU⟩ := cv.gs
  obtain ⟨⟨oZ, rA, rn, rc, Cw⟩, QU, e1, e2, e3, e4⟩ := dU.at (bN g0 g1)
  dsimp only at e1 e2 e3 e4
  subst e4
  obtain ⟨b2, o2, Rn⟩ := Yq.some (by rw [dU.1]; omega) (by decide)
  rw [Rn] at Yq
  have td := hs'.2.2.1
  have hrd := hs'.2.2.2.1
  refine ax h (az h ⟨g0, g1, bB Rn ?_⟩)
  refine aj (Src.at Yq.src h QU (j := 2) rfl rfl) ?_
  by_cases hop : (aa (x.bg j c') w.g).wt.op = 16
  ·have hk : (x.bg j c').oO w = ((x.bg j c').cU w.g w.cs).eX w.g := by unfold Wd.oO; rw [if_pos hop]
   rw [hk] at k
   refine bV (by simp [hop]) ?_
   refine aI h rfl (az h (az h ?_))
   refine xG h cv hg hs' (mL hop) ?_
   clear h; intro R3 a3 M l3 nJ h
   refine ⟨_, _, _, _, _, _, _, _, _, _, _, _, _, _, rfl, ?_⟩
   refine bk h rfl rfl rfl ?_
   clear h; intro M h
   refine aI h rfl (az h ?_)
   refine jm h nJ g0 (by rw [Yp]; exact g1) (by rw [Yp]; omega) (by show x.ready.length ≤ _; exact hrd) ?_
   clear h; intro R4 a4 M l4 Qq h
   refine ⟨_, _, _, _, _, _, _, _, _, _, _, _, _, _, rfl, ?_⟩
   refine bk h rfl rfl rfl ?_
   clear h; intro M h
   cases sm with
   | true =>
    refine bV rfl ?_
    simp only [if_true] at k
    refine aI h rfl ?_
    refine bk h rfl rfl rfl ?_
    clear h; intro M h
    refine aI h rfl ?_
    exact k _ _ _ (Mem.le_trans l1 (Mem.le_trans l2 (Mem.le_trans l3 l4))) Qq (h.sub bx)
   | false =>
    refine aD rfl ?_
    simp only [Bool.false_eq_true, if_false] at k
    refine aI h rfl ?_
    refine bk h rfl rfl rfl ?_
    clear h; intro M h
    refine aI h rfl ?_
    exact k _ _ _ (Mem.le_trans l1 (Mem.le_trans l2 (Mem.le_trans l3 l4))) Qq (h.sub bx)
  ·have hk : (x.bg j c').oO w = (x.bg j c').eX w.g := by unfold Wd.oO; rw [if_neg hop]
   rw [hk] at k
   refine aD (by simp [hop]) ?_
   refine aI h rfl (az h ?_)
   refine jm h cv g0 g1 (by omega) hrd ?_
   clear h; intro R4 a4 M l4 Qq h
   refine ⟨_, _, _, _, _, _, _, _, _, _, _, _, _, _, rfl, ?_⟩
   refine bk h rfl rfl rfl ?_
   clear h; intro M h
   cases sm with
   | true =>
    refine bV rfl ?_
    simp only [if_true] at k
    refine aI h rfl ?_
    refine bk h rfl rfl rfl ?_
    clear h; intro M h
    refine aI h rfl ?_
    exact k _ _ _ (Mem.le_trans l1 (Mem.le_trans l2 l4)) Qq (h.sub bx)
   | false =>
    refine aD rfl ?_
    simp only [Bool.false_eq_true, if_false] at k
    refine aI h rfl ?_
    refine bk h rfl rfl rfl ?_
    clear h; intro M h
    refine aI h rfl ?_
    exact k _ _ _ (Mem.le_trans l1 (Mem.le_trans l2 l4)) Qq (h.sub bx)
 | false =>
  refine aD rfl ?_
  simp only [Bool.false_eq_true, if_false] at k
  cases sm with
  | true =>
   refine bV rfl ?_
   simp only [if_true] at k
   refine aI h rfl ?_
   refine bk h rfl rfl rfl ?_
   clear h; intro M h
   refine aI h rfl ?_
   exact k _ _ _ (Mem.le_trans l1 l2) cv (h.sub bx)
  | false =>
   refine aD rfl ?_
   simp only [Bool.false_eq_true, if_false] at k
   refine aI h rfl ?_
   refine bk h rfl rfl rfl ?_
   clear h; intro M h
   refine aI h rfl ?_
   exact k _ _ _ (Mem.le_trans l1 l2) cv (h.sub bx)
end
section
variable {R : Mem} {L L' : List HP} {M : Mem} {K : Value → Mem → Prop} {Kp : List PanicEntry → Mem → Prop} {pa : PA} {p : cy}
theorem sU {fn v : Int} (h : Hp R L M) (k : ∀ R' A c M', R.le R' → RS fV R' A c [eJ.begin fn v] → Hp R' L M' → K (.slice A 1 c) M') : ae Tryz.prog 74 #[.int .i64 fn, .int .i64 v] M K Kp := by
 refine qD ?_
 repeat (first|(refine ai h ?_;clear h;intro kb M h)|(refine ak h ?_;clear h;intro M h)|refine St.to h ?_|(apply Exists.intro;(repeat apply Exists.intro);refine And.intro rfl ?_)|refine ay ?_|refine aq ?_|refine au ?_)
 obtain ⟨R2, l2, r2, h2⟩ := ((h.pt kb).gY (E := fV) (l := [eJ.begin fn v]) rfl).bz (some ⟨kb, 0, none⟩)
 clear h
 exact k R2 _ _ _ l2 r2 (h2.sub bx)
theorem Qr (h : Hp R L M) (hp : oG R pa p) (hc : RS bR R pa.c pa.cc p.dB) (hok : eK p) (k : ∀ R' a M', R.le R' → a.pa = pa → eN R' a p (Wd.new p) → Hp R' L M' → K (.agg (jZ a p (Wd.new p)).toArray) M') :
  ae Tryz.prog 37 #[MU pa p] M K Kp := by
 refine uT ?_
 have p1 := hok.ch
 have p2 := hok.lk
 refine ai h ?_
 clear h
 intro k1 M h
 refine ai h ?_
 clear h
 intro k3 M h
 refine ax h (ax h (az h (ax h ⟨trivial, ?_⟩)))
 refine sU h ?_
 clear h; intro R1 A c M l1 r1 h
 refine aU ⟨fy h rfl, ?_⟩
 refine ai h ?_
 clear h
 intro fQ M h
 obtain ⟨R2, l2, r2, h2⟩ := ((h.pt fQ).gY (E := uU) (l := [⟨1, A, 1, c, .zero⟩]) rfl).bz (some ⟨fQ, 0, none⟩)
 clear h
 refine ai h2 ?_
 clear h2; intro gf M h
 refine bk h rfl rfl rfl ?_
 clear h; intro M h
 refine ⟨fy h rfl, ax h ?_⟩
 have l12 := Mem.le_trans l1 l2
 have hc2 := hc.le l12
 have W : Option Addr → Nat → Nat → List Value := fun B m d => []
 have h0 := h.dz xQ 190
 clear h
 refine ⟨fun dd vs M => ∃ (j : Nat) (B : Option Addr) (d : Nat) (rs : List RC), vs = [.int .i64 (j : Int)] ∧ dd = p.dB.length - j ∧ j ≤ p.dB.length ∧ yN R2 rs ((p.dB.take j).map aQ.new) ∧
  Hp R2 (cu xQ 190 B d rs :: pt gf [.slice pa.f p.funcs.length pa.fc, .slice pa.c p.dB.length pa.cc, .int .i64 p.aC, .slice pa.k p.cases.length pa.kc, .slice (some ⟨fQ, 0, none⟩) 1 1, .int .u64 0, .slice B j d, .slice none 0 0, .slice none 0 0, .int .u64 0, .slice none 0 0, .int .i64 0, .int .i64 0, .slice none 0 0] 81 ::
   pt k3 [.slice none 0 0, .slice none 0 0, .int .i64 0, .slice none 0 0, .slice none 0 0, .int .u64 0, .slice none 0 0, .slice none 0 0, .slice none 0 0, .int .u64 0, .slice none 0 0, .int .i64 0, .int .i64 0, .slice none 0 0] 81 :: eo k1 pa.f p.funcs.length pa.fc pa.c p.dB.length pa.cc p.aC pa.k p.cases.length pa.kc :: L) M,
  ⟨_, 0, none, 0, [], rfl, rfl, by omega, yN.nil _, h0.sub bx⟩, ?_⟩
 clear h0 W
 rintro dd _ nn M ⟨j, B, d, rs, he, hd, hj, bu, h⟩
 simp only [List.cons.injEq, Value.int.injEq, and_true, true_and] at he
 subst he
 have hlen : rs.length = j := by rw [bu.1, List.length_map, List.length_take]; omega
 refine aH.2 ⟨fun hlt => ?_, fun hge => ?_⟩
 ·obtain ⟨v, hv⟩ := aL (l := p.dB) (i := j) (by omega)
  obtain ⟨b, o, hb⟩ := hc2.some (by omega) (by decide)
  rw [hb] at hc2
  refine ⟨by omega, hlt, bB hb ?_⟩
  refine aj (Src.at hc2.src h (i := j) (j := 0) hv rfl (by simp [bR])) ?_
  refine ⟨fun vs M => vs = [] ∧ ∃ (B : Option Addr) (d : Nat) (rs' : List RC), yN R2 rs' ((p.dB.take (j + 1)).map aQ.new) ∧
   Hp R2 (cu xQ 190 B d rs' :: pt gf [.slice pa.f p.funcs.length pa.fc, .slice pa.c p.dB.length pa.cc, .int .i64 p.aC, .slice pa.k p.cases.length pa.kc, .slice (some ⟨fQ, 0, none⟩) 1 1, .int .u64 0, .slice B (j + 1) d, .slice none 0 0, .slice none 0 0, .int .u64 0, .slice none 0 0, .int .i64 0, .int .i64 0, .slice none 0 0] 81 ::
   pt k3 [.slice none 0 0, .slice none 0 0, .int .i64 0, .slice none 0 0, .slice none 0 0, .int .u64 0, .slice none 0 0, .slice none 0 0, .slice none 0 0, .int .u64 0, .slice none 0 0, .int .i64 0, .int .i64 0, .slice none 0 0] 81 :: eo k1 pa.f p.funcs.length pa.fc pa.c p.dB.length pa.cc p.aC pa.k p.cases.length pa.kc :: L) M, ?_, ?_⟩
  ·have Ai : (p.dB.take (j + 1)).map aQ.new = (p.dB.take j).map aQ.new ++ [aQ.new v] := by rw [take_succ hv, List.map_append]; rfl
   rw [Ai]
   refine ⟨?_, ?_, trivial⟩
   ·refine ax h ?_
    refine D9 h ?_
    clear h; intro vs M h hr
    obtain ⟨r, rfl, hr⟩ := hr.rc
    refine ⟨_, _, _, _, _, _, _, _, _, _, _, rfl, ?_⟩
    refine ai h ?_
    clear h
    intro kz M h
    refine h.jT (A := B) Vg [r] rfl hlen.symm rfl (by simp; omega) ?_
    clear h; intro A3 c3 M h
    refine aU ?_
    refine ak h ?_
    clear h
    intro M h
    exact ⟨rfl, A3, c3, _, bu.snoc hr, h.sub bx⟩
   ·refine D9 h ?_
    clear h; intro vs M h hr
    obtain ⟨r, rfl, hr⟩ := hr.rc
    refine ⟨_, _, _, _, _, _, _, _, _, _, _, rfl, ax h ?_⟩
    refine ai h ?_
    clear h
    intro kz M h
    refine h.jT (A := B) Vg [r] rfl hlen.symm rfl (by simp; omega) ?_
    clear h; intro A3 c3 M h
    refine aU ?_
    refine ak h ?_
    clear h
    intro M h
    exact ⟨rfl, A3, c3, _, bu.snoc hr, h.sub bx⟩
  ·clear h
   rintro nn M ⟨_, B', d', rs', hrs', h⟩
   exact ⟨p.dB.length - (j + 1), by omega, j + 1, B', d', rs', by rw [aS (by omega)], rfl, by omega, hrs', h⟩
 ·have KF : j = p.dB.length := by omega
  subst KF
  rw [List.take_of_length_le (Nat.le_refl _)] at bu
  obtain ⟨R3, l3, r3, h3⟩ := h.bz B
  clear h
  obtain ⟨n, hn⟩ := Int.eq_ofNat_of_zero_le p2.1
  refine az h3 ?_
  rw [hn] at h3 ⊢
  refine h3.NK (E := sN) (a := (none, 0, 0)) Gw (by omega) ?_
  clear h3; intro q M h
  refine aU ?_
  refine ak h ?_
  clear h
  intro M h
  obtain ⟨R4, l4, r4, h4⟩ := h.bz (some ⟨q, 0, none⟩)
  clear h
  refine aI h4 rfl ?_
  refine bk h4 rfl rfl rfl ?_
  clear h4; intro M h
  refine aI h rfl ?_
  have Zy := Mem.le_trans l3 l4
  have l24 := Mem.le_trans l2 Zy
  have l14 := Mem.le_trans l1 l24
  have hw : eN R4 ⟨pa, some ⟨fQ, 0, none⟩, 1, B, d, some ⟨q, 0, none⟩, n, none, 0, none, 0, none, 0⟩ p (Wd.new p) := by
   refine ⟨hp.le l14, hc.le l14, ⟨_, r2.le Zy, ⟨rfl, fun i r a h1 h2 => ?_⟩⟩, ⟨rs, r3.le l4, bu.le Zy⟩, ⟨_, r4, ⟨by simp [Wd.new, hn], fun i r a h1 h2 => ?_⟩⟩, RS.nil _ _, RS.nil _ _, RS.nil _ _⟩
   ·match i, h1, h2 with
    | 0, h1, h2 =>
     cases h1
     have : a = ⟨1, [eJ.begin 0 0], .zero⟩ := by simpa [Wd.new] using h2.symm
     subst this
     exact ⟨rfl, rfl, r1.le l24, rfl⟩
    | i + 1, h1, h2 => simp at h1
   ·have e1 := List.eq_of_mem_replicate (List.mem_of_getElem? h1)
    have e2 := List.eq_of_mem_replicate (List.mem_of_getElem? h2)
    subst e1; subst e2
    exact ⟨rfl, RS.nil _ _⟩
  have hk := fun M' => k R4 _ M' l14 rfl hw
  have e1 : (Wd.new p).av.length = p.dB.length := by simp [Wd.new]
  have e2 : (Wd.new p).aC.length = n := by simp [Wd.new, hn]
  simp only [jZ, e1, e2, hn] at hk
  exact hk _ (h.sub bx)
end
section
variable {R : Mem} {L L' : List HP} {M : Mem} {K : Value → Mem → Prop} {Kp : List PanicEntry → Mem → Prop}
theorem MZ {fs : List eJ} {A : Option Addr} {n c : Nat} {fn v i : Int} (h : Hp R L M) (hf : RS fV R A c fs) (hn : n = fs.length) (hb : fs.length ≤ 1000000)
  (k0 : 16 ≤ fs.length → K (.tuple #[.slice A n c, .bool false]) M)
  (k1 : ¬ 16 ≤ fs.length → ∀ R' A' c' M', R.le R' → RS fV R' A' c' (fs ++ [⟨fn, 0, [v, 0, 0, 0, 0, 0, 0, 0], i⟩]) → Hp R' L M' → K (.tuple #[.slice A' (fs ++ [(⟨fn, 0, [v, 0, 0, 0, 0, 0, 0, 0], i⟩ : eJ)]).length c', .bool true]) M') :
  ae Tryz.prog 140 #[.slice A n c, .int .i64 fn, .int .i64 v, .int .i64 i] M K Kp := by
 refine su ?_
 refine aH.2 ⟨fun hgt => k0 (by omega), fun hle => ?_⟩
 refine sU h ?_
 clear h; intro R1 A1 c1 M l1 r1 h
 obtain ⟨b, o, kW⟩ := r1.some (by simp) (by decide)
 rw [kW] at r1
 refine aU ⟨by omega, by decide, bB kW ?_⟩
 refine aj (Src.at r1.src h (i := 0) (a := eJ.begin fn v) rfl (j := 0) rfl rfl) ?_
 refine aj (Src.at r1.src h (i := 0) (a := eJ.begin fn v) rfl (j := 1) rfl rfl) ?_
 refine aj (Src.at r1.src h (i := 0) (a := eJ.begin fn v) rfl (j := 2) rfl rfl) ?_
 refine aj (Src.at r1.src h (i := 0) (a := eJ.begin fn v) rfl (j := 3) rfl rfl) ?_
 refine aj (Src.at r1.src h (i := 0) (a := eJ.begin fn v) rfl (j := 4) rfl rfl) ?_
 refine aj (Src.at r1.src h (i := 0) (a := eJ.begin fn v) rfl (j := 5) rfl rfl) ?_
 refine aj (Src.at r1.src h (i := 0) (a := eJ.begin fn v) rfl (j := 6) rfl rfl) ?_
 refine aj (Src.at r1.src h (i := 0) (a := eJ.begin fn v) rfl (j := 7) rfl rfl) ?_
 refine aj (Src.at r1.src h (i := 0) (a := eJ.begin fn v) rfl (j := 8) rfl rfl) ?_
 refine aj (Src.at r1.src h (i := 0) (a := eJ.begin fn v) rfl (j := 9) rfl rfl) ?_
 refine aj (Src.at r1.src h (i := 0) (a := eJ.begin fn v) rfl (j := 10) rfl rfl) ?_
 repeat (first|(refine ai h ?_;clear h;intro kb M h)|(refine ak h ?_;clear h;intro M h)|refine St.to h ?_|(apply Exists.intro;(repeat apply Exists.intro);refine And.intro rfl ?_)|refine ay ?_|refine aq ?_|refine au ?_)
 refine h.b6 fV pP fs (hf.le l1).src hn (by omega) ?_
 clear h; intro A' c' M h
 repeat (first|(refine ai h ?_;clear h;intro kb M h)|(refine ak h ?_;clear h;intro M h)|refine St.to h ?_|(apply Exists.intro;(repeat apply Exists.intro);refine And.intro rfl ?_)|refine ay ?_|refine aq ?_|refine au ?_)
 refine h.aZ (A := A') pP [⟨fn, 0, [v, 0, 0, 0, 0, 0, 0, 0], i⟩] rfl rfl (by simp; omega) ?_
 clear h; intro A2 c2 M h
 repeat (first|(refine ai h ?_;clear h;intro kb M h)|(refine ak h ?_;clear h;intro M h)|refine St.to h ?_|(apply Exists.intro;(repeat apply Exists.intro);refine And.intro rfl ?_)|refine ay ?_|refine aq ?_|refine au ?_)
 obtain ⟨R2, l2, r2, h2⟩ := h.bz A2
 clear h
 exact k1 (by omega) _ _ _ _ (Mem.le_trans l1 l2) r2 (h2.sub bx)
theorem Na {l : Lk} {t : Option Addr × Nat × Nat} {g : Int} (h : Hp R L M) (ht : Qo R t l) (hb : (vY l).length ≤ 1000000)
  (k : ∀ R' A' c' M', R.le R' → RS bR R' A' c' (vY l ++ [g]) → Hp R' L M' → K (.tuple #[.agg #[.slice A' (vY l ++ [g]).length c'], .bool (((vY l).length : Int) == 0)]) M') :
  ae Tryz.prog 149 #[.agg #[.slice t.1 t.2.1 t.2.2], .int .i64 g] M K Kp := by
 obtain ⟨A, n, c⟩ := t
 obtain ⟨hn, hr⟩ := ht
 dsimp only at hn hr
 subst hn
 refine sv ?_
 repeat (first|(refine ai h ?_;clear h;intro kb M h)|(refine ak h ?_;clear h;intro M h)|refine St.to h ?_|(apply Exists.intro;(repeat apply Exists.intro);refine And.intro rfl ?_)|refine ay ?_|refine aq ?_|refine au ?_)
 refine h.b6 bR jP (vY l) hr.src rfl (by omega) ?_
 clear h; intro A' c' M h
 repeat (first|(refine ai h ?_;clear h;intro kb M h)|(refine ak h ?_;clear h;intro M h)|refine St.to h ?_|(apply Exists.intro;(repeat apply Exists.intro);refine And.intro rfl ?_)|refine ay ?_|refine aq ?_|refine au ?_)
 refine h.aZ (A := A') jP [g] rfl rfl (by simp; omega) ?_
 clear h; intro A2 c2 M h
 repeat (first|(refine ai h ?_;clear h;intro kb M h)|(refine ak h ?_;clear h;intro M h)|refine St.to h ?_|(apply Exists.intro;(repeat apply Exists.intro);refine And.intro rfl ?_)|refine ay ?_|refine aq ?_|refine au ?_)
 obtain ⟨R2, l2, r2, h2⟩ := h.bz A2
 clear h
 exact k _ _ _ _ l2 r2 (h2.sub bx)
theorem Nb {l : Lk} {t : Option Addr × Nat × Nat} {g : Int} (h : Hp R L M) (ht : Qo R t l) (hb : (vY l).length ≤ 1000000)
  (k0 : (∀ us, vY l ≠ g :: us) → ∀ M', Hp R L M' → K (.tuple #[.agg #[.slice t.1 t.2.1 t.2.2], .int .i64 (-1), .int .i64 5]) M')
  (k1 : vY l = [g] → ∀ M', Hp R L M' → K (.tuple #[.agg #[.slice none 0 0], .int .i64 (-1), .int .i64 0]) M')
  (k2 : ∀ u us, vY l = g :: u :: us → ∀ R' A' c' M', R.le R' → RS bR R' A' c' (u :: us) → Hp R' L M' → K (.tuple #[.agg #[.slice A' (u :: us).length c'], .int .i64 u, .int .i64 0]) M') :
  ae Tryz.prog 150 #[.agg #[.slice t.1 t.2.1 t.2.2], .int .i64 g] M K Kp := by
 obtain ⟨A, n, c⟩ := t
 obtain ⟨hn, hr⟩ := ht
 dsimp only at hn hr k0
 subst hn
 refine sw ?_
 generalize vY l = w at hb hr k0 k1 k2
 refine ai h ?_
 clear h
 intro q1 M h
 refine ai h ?_
 clear h
 intro q3 M h
 refine ax h ?_
 cases w with
 | nil =>
  refine bV rfl ?_
  repeat (first|(refine ai h ?_;clear h;intro kb M h)|(refine ak h ?_;clear h;intro M h)|refine St.to h ?_|(apply Exists.intro;(repeat apply Exists.intro);refine And.intro rfl ?_)|refine ay ?_|refine aq ?_|refine au ?_)
  exact k0 (fun us e => by cases e) _ (h.sub bx)
 | cons a w =>
  have hc := hr.2
  refine aD (by simp; omega) ?_
  obtain ⟨b, o, rfl⟩ := hr.some (by simp) (by decide)
  refine ax h ⟨by omega, by simp only [List.length_cons]; omega, aT ?_⟩
  refine aj (Src.at hr.src h (i := 0) (a := a) rfl (j := 0) rfl rfl) ?_
  refine dJ.2 ⟨fun hne => ?_, fun heq => ?_⟩
  ·repeat (first|(refine ai h ?_;clear h;intro kb M h)|(refine ak h ?_;clear h;intro M h)|refine St.to h ?_|(apply Exists.intro;(repeat apply Exists.intro);refine And.intro rfl ?_)|refine ay ?_|refine aq ?_|refine au ?_)
   exact k0 (fun us e => by cases e; exact hne rfl) _ (h.sub bx)
  ·subst heq
   refine ax h ?_
   cases w with
   | nil =>
    refine bV rfl ?_
    repeat (first|(refine ai h ?_;clear h;intro kb M h)|(refine ak h ?_;clear h;intro M h)|refine St.to h ?_|(apply Exists.intro;(repeat apply Exists.intro);refine And.intro rfl ?_)|refine ay ?_|refine aq ?_|refine au ?_)
    exact k1 rfl _ (h.sub bx)
   | cons u us =>
    simp only [List.length_cons] at hc hb
    refine aD (by simp; omega) ?_
    refine ax h ⟨by omega, by omega, by omega, by simp; omega, by omega, by simp; omega, ?_⟩
    refine ax h ⟨by omega, by simp; omega, aT ?_⟩
    refine aj (Src.at hr.src h (i := 1) (a := u) rfl (j := 0) rfl rfl) ?_
    refine ai h ?_
    clear h
    intro q44 M h
    refine h.b6 bR jP (u :: us) (B := iZ (some ⟨b, o, none⟩) 1 c 1) (hr.drop 1 (by omega)).src (by simp only [List.length_cons]; omega) (by simp; omega) ?_
    clear h; intro A2 c2 M h
    refine aU ⟨Src.at hr.src h (i := 1) (a := u) rfl (j := 0) rfl rfl, cw h, ?_⟩
    refine ak h ?_
    clear h
    intro M h
    refine ⟨Src.at hr.src h (i := 1) (a := u) rfl (j := 0) rfl rfl, cw h, ?_⟩
    refine ax h ?_
    obtain ⟨R2, l2, r2, h2⟩ := h.bz A2
    clear h
    exact k2 u us rfl _ _ _ _ l2 r2 (h2.sub bx)
def Dz (fs : List eJ) : eJ := fs.getD (fs.length - 1) ⟨0, 0, [], 0⟩
def Cy (fs : List eJ) (v : Int) : List eJ := (fs.take (fs.length - 1)).set (fs.length - 2) ((fs.getD (fs.length - 2) ⟨0, 0, [], 0⟩).set (Dz fs).mu v)
theorem Gy {fs : List eJ} {A : Option Addr} {n c : Nat} {v : Int} (h : Hp R L M) (hf : RS fV R A c fs) (hn : n = fs.length) (hb : fs.length ≤ 1000000) (hi : 2 ≤ fs.length → aR (Dz fs).mu)
  (k0 : ¬ 2 ≤ fs.length → K (.tuple #[.slice none 0 0, .bool false]) M)
  (k1 : 2 ≤ fs.length → ∀ R' A' c' M', R.le R' → RS fV R' A' c' (Cy fs v) → Hp R' L M' → K (.tuple #[.slice A' (Cy fs v).length c', .bool true]) M') :
  ae Tryz.prog 141 #[.slice A n c, .int .i64 v] M K Kp := by
 subst hn
 refine pG ?_
 have hc := hf.2
 refine aH.2 ⟨fun hlt => k0 (fun h2 => by rw [dD (by omega) (by omega)] at hlt; omega), fun hge => ?_⟩
 have h2 : 2 ≤ fs.length := by
  by_cases h1 : fs.length = 0
  ·exfalso; apply hge; rw [h1]; decide
  ·rw [dD (by omega) (by omega)] at hge; omega
 replace hi := hi h2
 replace k1 := k1 h2
 clear k0 hge
 have e1 : IntKind.wrap .i64 ((fs.length : Int) - 1) = ((fs.length - 1 : Nat) : Int) := by rw [dD (by omega) (by omega)]; omega
 have e2 : IntKind.wrap .i64 (((fs.length - 1 : Nat) : Int) - 1) = ((fs.length - 2 : Nat) : Int) := by rw [dD (by omega) (by omega)]; omega
 rw [e1, e2]
 obtain ⟨b, o, rfl⟩ := hf.some (by omega) (by decide)
 refine ai h ?_
 clear h
 intro q1 M h
 refine ⟨by omega, by omega, by omega, by omega, by omega, by omega, ?_⟩
 refine h.b6 fV pP (fs.take (fs.length - 1)) (B := iZ (some ⟨b, o, none⟩) 0 c 11) (RS.cut hf (fs.length - 1)).src (by rw [List.length_take]; simp <;> omega) (by rw [List.length_take]; omega) ?_
 clear h; intro A2 c2 M h
 have hl : (fs.take (fs.length - 1)).length = fs.length - 1 := by rw [List.length_take]; omega
 refine aU ⟨by omega, by omega, aT ⟨by omega, by rw [hl]; omega, ?_⟩⟩
 obtain ⟨q, rfl⟩ := h.bU (A := A2) (by rw [hl]; omega) (by decide)
 refine aT ?_
 have et : fs[fs.length - 1]? = some (Dz fs) := by
  unfold Dz
  rw [List.getD_eq_getElem?_getD, List.getElem?_eq_getElem (by omega)]; rfl
 refine aj (Src.at hf.src h et (j := 10) rfl (by show _ = o + ((fs.length - 1) * 11 + 10); omega)) ?_
 refine ⟨hi.1, hi.2, ?_⟩
 have ey : (fs.take (fs.length - 1))[fs.length - 2]? = some (fs.getD (fs.length - 2) ⟨0, 0, [], 0⟩) := by
  rw [List.getElem?_take_of_lt (by omega), List.getD_eq_getElem?_getD, List.getElem?_eq_getElem (by omega)]; rfl
 refine gK (fs.length - 2) (2 + (Dz fs).mu.toNat) h ey (by have := hi.1; have := hi.2; show 2 + (Dz fs).mu.toNat < 11; omega) (kH (v := v) hi.1 hi.2) (by show _ = (fs.length - 2) * 11 + (2 + (Dz fs).mu.toNat); omega) ?_
 clear h; intro M h
 obtain ⟨R2, l2, r2, h3⟩ := h.bz (some ⟨q, 0, none⟩)
 clear h
 have hk := k1 R2 (some ⟨q, 0, none⟩) c2 M l2 r2 (h3.sub bx)
 have e3 : (Cy fs v).length = (fs.take (fs.length - 1)).length := by unfold Cy; rw [List.length_set]
 rw [e3] at hk
 exact hk
end
theorem vZ : bE Tryz.prog 77 241 3 24 [.int .u64 0, .int .u64 0, .int .i64 0] := bE.mk' (zv := .agg #[.int .u64 0, .int .u64 0, .int .i64 0]) (by kernel_rfl) (by kernel_rfl) rfl (by omega)
def ia (x : aN) : List aN → List aN
 | [] => [x]
 | y :: l => if x.t < y.t then x :: y :: l else y :: ia x l
theorem EB (x : aN) : ∀ l, (ia x l).length = l.length + 1
 | [] => rfl
 | y :: l => by
  unfold ia; split
  ·rfl
  ·simp [EB x l]
theorem EC (x y : aN) : ∀ l : List aN, (l.any fun z => decide (x.t < z.t)) = true → ia x (l ++ [y]) = ia x l ++ [y]
 | [], h => by simp at h
 | z :: l, h => by
  show (if x.t < z.t then x :: z :: (l ++ [y]) else z :: ia x (l ++ [y])) = (if x.t < z.t then x :: z :: l else z :: ia x l) ++ [y]
  split
  ·rfl
  ·rename_i hz
   rw [EC x y l (by simpa [hz] using h)]; rfl
theorem ED (x : aN) : ∀ l : List aN, (l.any fun z => decide (x.t < z.t)) = false → ia x l = l ++ [x]
 | [], h => rfl
 | z :: l, h => by
  rw [List.any_cons, Bool.or_eq_false_iff] at h
  have hz := of_decide_eq_false h.1
  show (if x.t < z.t then x :: z :: l else z :: ia x l) = _
  rw [if_neg hz, ED x l h.2]; rfl
theorem Jx (x y : aN) (hy : x.t < y.t) : ∀ l : List aN, (l.any fun z => decide (x.t < z.t)) = false → ia x (l ++ [y]) = l ++ [x] ++ [y]
 | [], h => by show (if x.t < y.t then _ else _) = _; rw [if_pos hy]; rfl
 | z :: l, h => by
  rw [List.any_cons, Bool.or_eq_false_iff] at h
  have hz := of_decide_eq_false h.1
  show (if x.t < z.t then x :: z :: (l ++ [y]) else z :: ia x (l ++ [y])) = _
  rw [if_neg hz, Jx x y hy l h.2]; rfl
section
variable {R : Mem} {L L' : List HP} {M : Mem} {K : Value → Mem → Prop} {Kp : List PanicEntry → Mem → Prop}
theorem Nc {l : List aN} {A : Option Addr} {n c : Nat} {sq t id : Int} (h : Hp R L M) (hl : RS g6 R A c l) (hn : n = l.length) (hb : l.length ≤ 1000000)
  (k : ∀ R' A' c' M', R.le R' → RS g6 R' A' c' (ia ⟨t, sq, id⟩ l) → Hp R' L M' → K (.agg #[.slice A' (ia ⟨t, sq, id⟩ l).length c', .int .u64 (IntKind.wrap .u64 (sq + 1))]) M') :
  ae Tryz.prog 148 #[.agg #[.slice A n c, .int .u64 sq], .int .u64 t, .int .i64 id] M K Kp := by
 subst hn
 refine sB ?_
 refine ai h ?_
 clear h
 intro q1 M h
 refine ai h ?_
 clear h
 intro q3 M h
 refine ai h ?_
 clear h
 intro q5 M h
 refine az h ?_
 refine ai h ?_
 clear h
 intro q8 M h
 repeat (refine ak h ?_; clear h; intro M h)
 refine ax h ?_
 replace h := (h.pt q5).gY (E := g6) (l := []) rfl
 refine ⟨fun d ws M => ∃ (i : Nat) (X : Option Addr) (cx : Nat) (out : List aN) (dn : Bool), ws = [.slice X out.length cx, .bool dn, .int .i64 (i : Int)] ∧ d = l.length - i ∧ i ≤ l.length ∧ dn = ((l.take i).any fun z => decide (t < z.t)) ∧ out = (if dn then ia ⟨t, sq, id⟩ (l.take i) else l.take i) ∧ Hp R (cu g6 241 X cx out :: pt q8 [.int .u64 t, .int .u64 sq, .int .i64 id] 241 :: pt q1 [.slice A l.length c, .int .u64 sq] 79 :: pt q3 [.slice none 0 0, .int .u64 0] 79 :: L) M,
  ⟨_, 0, _, _, [], false, rfl, rfl, by omega, rfl, rfl, h.sub bx⟩, ?_⟩
 clear h
 rintro d _ X n1 cx dn ii M ⟨i, _, _, out, _, he, hd, hi, hdn, ho, h⟩
 simp only [List.cons.injEq, Value.int.injEq, Value.slice.injEq, Value.bool.injEq, and_true, true_and] at he
 obtain ⟨⟨rfl, rfl, rfl⟩, rfl, rfl⟩ := he
 have hol : out.length ≤ l.length + 1 := by
  rw [ho]; split
  ·rw [EB, List.length_take]; omega
  ·rw [List.length_take]; omega
 refine aH.2 ⟨fun hlt => ?_, fun hge => ?_⟩
 ·obtain ⟨y, hy⟩ := aL (l := l) (i := i) (by omega)
  obtain ⟨b, o, rfl⟩ := hl.some (by omega) (by decide)
  have tk := dw hy
  have ew : IntKind.wrap .i64 ((i : Int) + 1) = ((i + 1 : Nat) : Int) := aS (by omega)
  refine ⟨by omega, hlt, aT ?_⟩
  refine aj (Src.at hl.src h hy (j := 0) rfl (by show _ = o + (i * 3 + 0); simp)) ?_
  refine aj (Src.at hl.src h hy (j := 1) rfl (by show _ = o + (i * 3 + 1); simp; omega)) ?_
  refine aj (Src.at hl.src h hy (j := 2) rfl (by show _ = o + (i * 3 + 2); simp; omega)) ?_
  refine ai h ?_
  clear h
  intro q31 M h
  repeat (refine ak h ?_; clear h; intro M h)
  rw [ew]
  cases dn with
  | false =>
   simp only [Bool.false_eq_true, if_false] at ho
   refine bV rfl (az h ?_)
   refine aH.2 ⟨fun hgt => ?_, fun hle => ?_⟩
   ·refine az h (az h (az h ?_))
    refine ai h ?_
    clear h
    intro q40 M h
    refine h.aZ (A := X) vZ [(⟨t, sq, id⟩ : aN)] rfl rfl (by simp only [List.length_singleton]; omega) ?_
    clear h; intro A2 c2 M h
    refine aU (az h (az h (az h ?_)))
    refine ai h ?_
    clear h
    intro q50 M h
    refine h.aZ (A := A2) vZ [y] rfl rfl (by simp only [List.length_singleton, List.length_append]; omega) ?_
    clear h; intro A3 c3 M h
    refine aU ⟨l.length - (i + 1), by omega, i + 1, A3, c3, _, true, rfl, rfl, by omega, ?_, ?_, h.sub bx⟩
    ·rw [tk, List.any_append]; simp; exact Or.inr hgt
    ·rw [if_pos rfl, tk, Jx _ _ hgt _ hdn.symm, ho]
   ·refine az h (az h (az h ?_))
    refine ai h ?_
    clear h
    intro q40 M h
    refine h.aZ (A := X) vZ [y] rfl rfl (by simp only [List.length_singleton]; omega) ?_
    clear h; intro A2 c2 M h
    refine aU ⟨l.length - (i + 1), by omega, i + 1, A2, c2, _, false, rfl, rfl, by omega, ?_, ?_, h.sub bx⟩
    ·rw [tk, List.any_append, ← hdn]; simp; omega
    ·rw [tk, ho]; rfl
  | true =>
   rw [if_pos rfl] at ho
   refine aD rfl (az h (az h (az h ?_)))
   refine ai h ?_
   clear h
   intro q40 M h
   refine h.aZ (A := X) vZ [y] rfl rfl (by simp only [List.length_singleton]; omega) ?_
   clear h; intro A2 c2 M h
   refine aU ⟨l.length - (i + 1), by omega, i + 1, A2, c2, _, true, rfl, rfl, by omega, ?_, ?_, h.sub bx⟩
   ·rw [tk, List.any_append, ← hdn]; rfl
   ·rw [if_pos rfl, tk, EC _ _ _ hdn.symm, ho]
 ·have hil : i = l.length := by omega
  subst hil
  rw [List.take_length] at hdn ho
  cases dn with
  | false =>
   simp only [Bool.false_eq_true, if_false] at ho
   refine bV rfl (az h (az h (az h ?_)))
   refine ai h ?_
   clear h
   intro q40 M h
   refine h.aZ (A := X) vZ [(⟨t, sq, id⟩ : aN)] rfl rfl (by simp only [List.length_singleton]; omega) ?_
   clear h; intro A2 c2 M h
   refine aU (az h ?_)
   repeat (refine ak h ?_; clear h; intro M h)
   refine ax h (az h ?_)
   obtain ⟨R2, l2, r2, h3⟩ := h.bz A2
   clear h
   have e : out ++ [(⟨t, sq, id⟩ : aN)] = ia ⟨t, sq, id⟩ l := by rw [ED _ _ hdn.symm, ho]
   rw [e] at r2 ⊢
   exact k _ _ _ _ l2 r2 (h3.sub bx)
  | true =>
   rw [if_pos rfl] at ho
   refine aD rfl (az h ?_)
   repeat (refine ak h ?_; clear h; intro M h)
   refine ax h (az h ?_)
   obtain ⟨R2, l2, r2, h3⟩ := h.bz X
   clear h
   subst ho
   exact k _ _ _ _ l2 r2 (h3.sub bx)
end
theorem Vh {α : Type} (P : α → Bool) : ∀ (l : List α) (i : Nat), (∀ y ∈ l.take i, P y = true) → (∀ y, l[i]? = some y → P y = false) → l.takeWhile P = l.take i ∧ l.dropWhile P = l.drop i
 | [], i, _, _ => by simp
 | y :: l, 0, _, h2 => by
  have := h2 y rfl
  simp [List.takeWhile_cons, List.dropWhile_cons, this]
 | y :: l, i + 1, h1, h2 => by
  have hy : P y = true := h1 y (by simp)
  obtain ⟨a, b⟩ := Vh P l i (fun z hz => h1 z (by simp only [List.take_succ_cons, List.mem_cons]; exact Or.inr hz)) (fun z hz => h2 z (by simpa using hz))
  simp only [List.takeWhile_cons, List.dropWhile_cons, hy, if_true, a, b, List.take_succ_cons, List.drop_succ_cons, and_self]
section
variable {R : Mem} {L L' : List HP} {M : Mem} {K : Value → Mem → Prop} {Kp : List PanicEntry → Mem → Prop}
def pQ (now : Int) (y : aN) : Bool := decide (y.t ≤ now)
theorem Nd {l : List aN} {A : Option Addr} {n c : Nat} {sq now : Int} (h : Hp R L M) (hl : RS g6 R A c l) (hn : n = l.length) (hb : l.length ≤ 1000000)
  (k : ∀ R' A' c' B' d' M', R.le R' → RS g6 R' A' c' (l.dropWhile (pQ now)) → RS g6 R' B' d' (l.takeWhile (pQ now)) → Hp R' L M' →
   K (.tuple #[.agg #[.slice A' (l.dropWhile (pQ now)).length c', .int .u64 sq], .slice B' (l.takeWhile (pQ now)).length d']) M') :
  ae Tryz.prog 108 #[.agg #[.slice A n c, .int .u64 sq], .int .u64 now] M K Kp := by
 subst hn
 refine sA ?_
 have hc := hl.2
 refine ai h ?_
 clear h
 intro q1 M h
 refine ai h ?_
 clear h
 intro q3 M h
 refine ⟨fun d ws M => ∃ i : Nat, ws = [.int .i64 (i : Int)] ∧ d = l.length - i ∧ i ≤ l.length ∧ (∀ y ∈ l.take i, pQ now y = true) ∧ Hp R (pt q3 [.slice none 0 0, .int .u64 0] 79 :: pt q1 [.slice A l.length c, .int .u64 sq] 79 :: L) M,
  ⟨_, 0, rfl, rfl, by omega, by simp, h⟩, ?_⟩
 clear h
 rintro d _ ii M ⟨i, he, hd, hi, hdue, h⟩
 simp only [List.cons.injEq, Value.int.injEq, and_true, true_and] at he
 subst he
 refine ax h ?_
 refine aH.2 ⟨fun hlt => ?_, fun hge => ?_⟩
 ·obtain ⟨y, hy⟩ := aL (l := l) (i := i) (by omega)
  obtain ⟨b, o, hA⟩ := hl.some (by omega) (by decide)
  refine ax h ⟨by omega, hlt, bB hA ?_⟩
  refine aj (Src.at (hA ▸ hl.src) h hy (j := 0) rfl (by show _ = o + (i * 3 + 0); simp)) ?_
  refine aH.2 ⟨fun Jn => ?_, fun Jn => ?_⟩
  ·refine ⟨l.length - (i + 1), by omega, i + 1, by rw [aS (by omega)], rfl, by omega, ?_, h⟩
   intro z hz
   rw [dw hy, List.mem_append, List.mem_singleton] at hz
   rcases hz with hz | rfl
   ·exact hdue z hz
   ·exact decide_eq_true Jn
  ·obtain ⟨e1, e2⟩ := Vh (pQ now) l i hdue (fun z hz => by rw [hy] at hz; cases hz; exact decide_eq_false Jn)
   refine ax h ⟨by omega, by omega, by omega, by omega, by omega, by omega, ?_⟩
   refine az h (ax h ⟨by omega, by omega, by omega, by omega, by omega, by omega, ?_⟩)
   refine ai h ?_
   clear h
   intro q28 M h
   refine h.b6 g6 vZ (l.drop i) (B := iZ A i c 3) (hl.drop i (by omega)).src (by rw [List.length_drop]; omega) (by rw [List.length_drop]; omega) ?_
   clear h; intro A2 c2 M h
   refine aU ⟨cw h, cw h, ?_⟩
   repeat (refine ak h ?_; clear h; intro M h)
   refine ⟨cw h, cw h, ?_⟩
   refine ax h (az h ?_)
   obtain ⟨R2, l2, r2, h3⟩ := h.bz A2
   clear h
   have hk := k R2 A2 c2 (iZ A 0 c 3) (c - 0) M l2 (by rw [e2]; exact r2) (by rw [e1]; exact RS.cut (hl.le l2) i) (h3.sub bx)
   rw [e1, e2] at hk
   have e3 : (l.take i).length = i := by rw [List.length_take]; omega
   rw [e3] at hk
   exact hk
 ·have e := Vh (pQ now) l i hdue (fun z hz => by rw [List.getElem?_eq_none (by omega)] at hz; cases hz)
  obtain ⟨e1, e2⟩ := e
  refine ax h ⟨by omega, by omega, by omega, by omega, by omega, by omega, ?_⟩
  refine az h (ax h ⟨by omega, by omega, by omega, by omega, by omega, by omega, ?_⟩)
  refine ai h ?_
  clear h
  intro q28 M h
  refine h.b6 g6 vZ (l.drop i) (B := iZ A i c 3) (hl.drop i (by omega)).src (by rw [List.length_drop]; omega) (by rw [List.length_drop]; omega) ?_
  clear h; intro A2 c2 M h
  refine aU ⟨cw h, cw h, ?_⟩
  repeat (refine ak h ?_; clear h; intro M h)
  refine ⟨cw h, cw h, ?_⟩
  refine ax h (az h ?_)
  obtain ⟨R2, l2, r2, h3⟩ := h.bz A2
  clear h
  have hk := k R2 A2 c2 (iZ A 0 c 3) (c - 0) M l2 (by rw [e2]; exact r2) (by rw [e1]; exact RS.cut (hl.le l2) i) (h3.sub bx)
  rw [e1, e2] at hk
  have e3 : (l.take i).length = i := by rw [List.length_take]; omega
  rw [e3] at hk
  exact hk
end
theorem Cz {R : Mem} {L L' : List HP} {M : Mem} {b j T : Nat} {cs cs' : List Value} {v : Value} {G : Mem → Prop} (h : Hp R L M) [hp : nv b L cs T L'] (hj : j < cs.length) (hs : cs.set j v = cs')
  (k : ∀ M', Hp R (pt b cs' T :: L') M' → G M') : b7 M ⟨b, j, none⟩ v G := by
 subst hs
 have h2 := h.pick hp.pick
 haveI : KB cs j v (cs.set j v) := ⟨hj, rfl⟩
 exact ak h2 k
theorem bP {R : Mem} {L L' : List HP} {M : Mem} {b j T : Nat} {cs : List Value} {v : Value} (h : Hp R L M) [hp : nv b L cs T L'] (hv : cs[j]? = some v) : M.ld ⟨b, j, none⟩ = some v := by
 have h2 := h.pick hp.pick
 haveI : KC cs j v := ⟨hv⟩
 exact cw h2
section
variable {R : Mem} {L L' : List HP} {M : Mem} {K : Value → Mem → Prop} {Kp : List PanicEntry → Mem → Prop} {f : eJ} {x : bY}
abbrev frm0 : List Value := [.int .i64 0, .int .i64 0, .int .i64 0, .int .i64 0, .int .i64 0, .int .i64 0, .int .i64 0, .int .i64 0, .int .i64 0, .int .i64 0, .int .i64 0]
abbrev tF : Nat := 114
abbrev tI : Nat := 109
theorem fD {q1 q3 q5 : Nat} {t : Bool} (h : Hp R (pt q1 (gQ f) tF :: pt q3 (insC x) tI :: pt q5 frm0 tF :: L) M) (k : ∀ M', Hp R L M' → K (.tuple #[.agg (gQ f).toArray, .bool t]) M') :
 bF (Mem.ld M ⟨q1, 0, none⟩) .i64 fun dI =>
 bF (Mem.ld M ⟨q1, (0 + 1), none⟩) .i64 fun kY =>
 bF (Mem.ld M ⟨q1, (0 + 2), none⟩) .i64 fun gZ =>
 bF (Mem.ld M ⟨q1, (0 + 3), none⟩) .i64 fun mY =>
 bF (Mem.ld M ⟨q1, (0 + 4), none⟩) .i64 fun jA =>
 bF (Mem.ld M ⟨q1, (0 + 5), none⟩) .i64 fun kX =>
 bF (Mem.ld M ⟨q1, (0 + 6), none⟩) .i64 fun nZ =>
 bF (Mem.ld M ⟨q1, (0 + 7), none⟩) .i64 fun kN =>
 bF (Mem.ld M ⟨q1, (0 + 8), none⟩) .i64 fun kM =>
 bF (Mem.ld M ⟨q1, (0 + 9), none⟩) .i64 fun nN =>
 bF (Mem.ld M ⟨q1, (0 + 10), none⟩) .i64 fun gC =>
 b7 M ⟨q5, 0, none⟩ (.int .i64 dI) fun jD =>
 b7 jD ⟨q5, (0 + 1), none⟩ (.int .i64 kY) fun c9 =>
 b7 c9 ⟨q5, (0 + 2), none⟩ (.int .i64 gZ) fun mm =>
 b7 mm ⟨q5, (0 + 3), none⟩ (.int .i64 mY) fun ny =>
 b7 ny ⟨q5, (0 + 4), none⟩ (.int .i64 jA) fun qk =>
 b7 qk ⟨q5, (0 + 5), none⟩ (.int .i64 kX) fun xO =>
 b7 xO ⟨q5, (0 + 6), none⟩ (.int .i64 nZ) fun mZ =>
 b7 mZ ⟨q5, (0 + 7), none⟩ (.int .i64 kN) fun CV =>
 b7 CV ⟨q5, (0 + 8), none⟩ (.int .i64 kM) fun pz =>
 b7 pz ⟨q5, (0 + 9), none⟩ (.int .i64 nN) fun wj =>
 b7 wj ⟨q5, (0 + 10), none⟩ (.int .i64 gC) fun ud =>
 bF (Mem.ld ud ⟨q5, 0, none⟩) .i64 fun n32 =>
 bF (Mem.ld ud ⟨q5, (0 + 1), none⟩) .i64 fun kK =>
 bF (Mem.ld ud ⟨q5, (0 + 2), none⟩) .i64 fun u6 =>
 bF (Mem.ld ud ⟨q5, (0 + 3), none⟩) .i64 fun yz =>
 bF (Mem.ld ud ⟨q5, (0 + 4), none⟩) .i64 fun tC =>
 bF (Mem.ld ud ⟨q5, (0 + 5), none⟩) .i64 fun xK =>
 bF (Mem.ld ud ⟨q5, (0 + 6), none⟩) .i64 fun mo =>
 bF (Mem.ld ud ⟨q5, (0 + 7), none⟩) .i64 fun yl =>
 bF (Mem.ld ud ⟨q5, (0 + 8), none⟩) .i64 fun nQ =>
 bF (Mem.ld ud ⟨q5, (0 + 9), none⟩) .i64 fun zA =>
 bF (Mem.ld ud ⟨q5, (0 + 10), none⟩) .i64 fun BH =>
 K (.tuple #[(.agg #[(.int .i64 n32), (.int .i64 kK), (.int .i64 u6), (.int .i64 yz), (.int .i64 tC), (.int .i64 xK), (.int .i64 mo), (.int .i64 yl), (.int .i64 nQ), (.int .i64 zA), (.int .i64 BH)]), (.bool t)]) ud := by
 unfold gQ at h
 unfold gQ at k
 repeat (first|(refine ai h ?_;clear h;intro kb M h)|(refine ak h ?_;clear h;intro M h)|refine St.to h ?_|(apply Exists.intro;(repeat apply Exists.intro);refine And.intro rfl ?_)|refine ay ?_|refine aq ?_|refine au ?_)
 exact k _ (h.sub bx)
theorem CA (h : Hp R L M) (hx : x.cM) (h0 : 0 ≤ x.op) (hs : 0 ≤ f.pc ∧ f.pc < 1000000000)
  (k1 : x.op ≤ 8 → ∀ M', Hp R L M' → K (.tuple #[.agg (gQ (f.next.pure x)).toArray, .bool true]) M')
  (k2 : 8 < x.op → ∀ M', Hp R L M' → K (.tuple #[.agg (gQ f).toArray, .bool false]) M') :
  ae Tryz.prog 111 #[.agg (gQ f).toArray, .agg #[.int .i64 x.op, .int .i64 x.a, .int .i64 x.b, .int .i64 x.c]] M K Kp := by
 obtain ⟨o1, o2, o3⟩ := hx
 refine so ?_
 refine ai h ?_
 clear h
 intro q1 M h
 refine ai h ?_
 clear h
 intro q3 M h
 refine ai h ?_
 clear h
 intro q5 M h
 replace h : Hp R (pt q5 frm0 tF :: pt q3 (insC x) tI :: pt q1 (gQ f) tF :: L) M := h
 refine aj (bP h (j := 1) rfl) ?_
 rw [jg hs.1 (by omega)]
 refine Cz (j := 1) (cs' := gQ f.next) h (by show 1 < 11; omega) rfl ?_
 clear h; intro M h
 refine aj (bP h (j := 0) rfl) ?_
 refine bh.2 ⟨fun e => ?_, fun n0 => ?_⟩
 ·have ef : f.next.pure x = f.next := by unfold eJ.pure; rw [if_pos e]
  rw [ef] at k1
  exact fD (h.sub bx) (k1 (by omega))
 refine bh.2 ⟨fun e => ?_, fun n1 => ?_⟩
 ·have ra : aR x.a := o1 (by rw [e]; simp)
  have ef : f.next.pure x = f.next.set x.a x.b := by unfold eJ.pure; simp only [if_neg n0, if_pos e]
  rw [ef] at k1
  refine aj (bP h (j := 1) rfl) (aj (bP h (j := 2) rfl) ⟨ra.1, ra.2, ?_⟩)
  refine Cz (j := 2 + x.a.toNat) h (by have := ra.1; have := ra.2; show _ < 11; omega) (kH ra.1 ra.2) ?_
  clear h; intro M h
  exact fD (h.sub bx) (k1 (by omega))
 refine bh.2 ⟨fun e => ?_, fun n2 => ?_⟩
 ·obtain ⟨ra, rb⟩ := o2 e
  have ef : f.next.pure x = f.next.set x.a (f.next.bH x.b) := by unfold eJ.pure; simp only [if_neg n0, if_neg n1, if_pos e]
  rw [ef] at k1
  refine aj (bP h (j := 1) rfl) (aj (bP h (j := 2) rfl) ⟨rb.1, rb.2, ?_⟩)
  refine aj (bP (j := 2 + x.b.toNat) h (dL rb.1 rb.2)) ⟨ra.1, ra.2, ?_⟩
  refine Cz (j := 2 + x.a.toNat) h (by have := ra.1; have := ra.2; show _ < 11; omega) (kH ra.1 ra.2) ?_
  clear h; intro M h
  exact fD (h.sub bx) (k1 (by omega))
 refine bh.2 ⟨fun e => ?_, fun n3 => ?_⟩
 ·obtain ⟨ra, rb, rc⟩ := o3 (by rw [e]; simp)
  have ef : f.next.pure x = f.next.set x.a (IntKind.wrap .i64 (f.next.bH x.b + f.next.bH x.c)) := by unfold eJ.pure; simp only [if_neg n0, if_neg n1, if_neg n2, if_pos e]
  rw [ef] at k1
  refine aj (bP h (j := 1) rfl) (aj (bP h (j := 2) rfl) ⟨rb.1, rb.2, ?_⟩)
  refine aj (bP (j := 2 + x.b.toNat) h (dL rb.1 rb.2)) (aj (bP h (j := 3) rfl) ⟨rc.1, rc.2, ?_⟩)
  refine aj (bP (j := 2 + x.c.toNat) h (dL rc.1 rc.2)) ⟨ra.1, ra.2, ?_⟩
  refine Cz (j := 2 + x.a.toNat) h (by have := ra.1; have := ra.2; show _ < 11; omega) (kH ra.1 ra.2) ?_
  clear h; intro M h
  exact fD (h.sub bx) (k1 (by omega))
 refine bh.2 ⟨fun e => ?_, fun n4 => ?_⟩
 ·obtain ⟨ra, rb, rc⟩ := o3 (by rw [e]; simp)
  have ef : f.next.pure x = f.next.set x.a (IntKind.wrap .i64 (f.next.bH x.b - f.next.bH x.c)) := by unfold eJ.pure; simp only [if_neg n0, if_neg n1, if_neg n2, if_neg n3, if_pos e]
  rw [ef] at k1
  refine aj (bP h (j := 1) rfl) (aj (bP h (j := 2) rfl) ⟨rb.1, rb.2, ?_⟩)
  refine aj (bP (j := 2 + x.b.toNat) h (dL rb.1 rb.2)) (aj (bP h (j := 3) rfl) ⟨rc.1, rc.2, ?_⟩)
  refine aj (bP (j := 2 + x.c.toNat) h (dL rc.1 rc.2)) ⟨ra.1, ra.2, ?_⟩
  refine Cz (j := 2 + x.a.toNat) h (by have := ra.1; have := ra.2; show _ < 11; omega) (kH ra.1 ra.2) ?_
  clear h; intro M h
  exact fD (h.sub bx) (k1 (by omega))
 refine bh.2 ⟨fun e => ?_, fun n5 => ?_⟩
 ·obtain ⟨ra, rb, rc⟩ := o3 (by rw [e]; simp)
  have ef : f.next.pure x = f.next.set x.a (IntKind.wrap .i64 (f.next.bH x.b * f.next.bH x.c)) := by unfold eJ.pure; simp only [if_neg n0, if_neg n1, if_neg n2, if_neg n3, if_neg n4, if_pos e]
  rw [ef] at k1
  refine aj (bP h (j := 1) rfl) (aj (bP h (j := 2) rfl) ⟨rb.1, rb.2, ?_⟩)
  refine aj (bP (j := 2 + x.b.toNat) h (dL rb.1 rb.2)) (aj (bP h (j := 3) rfl) ⟨rc.1, rc.2, ?_⟩)
  refine aj (bP (j := 2 + x.c.toNat) h (dL rc.1 rc.2)) ⟨ra.1, ra.2, ?_⟩
  refine Cz (j := 2 + x.a.toNat) h (by have := ra.1; have := ra.2; show _ < 11; omega) (kH ra.1 ra.2) ?_
  clear h; intro M h
  exact fD (h.sub bx) (k1 (by omega))
 refine bh.2 ⟨fun e => ?_, fun n6 => ?_⟩
 ·obtain ⟨ra, rb, rc⟩ := o3 (by rw [e]; simp)
  have ef : f.next.pure x = f.next.set x.a (if f.next.bH x.b < f.next.bH x.c then 1 else 0) := by unfold eJ.pure; simp only [if_neg n0, if_neg n1, if_neg n2, if_neg n3, if_neg n4, if_neg n5, if_pos e]
  rw [ef] at k1
  refine aj (bP h (j := 2) rfl) ⟨rb.1, rb.2, ?_⟩
  refine aj (bP (j := 2 + x.b.toNat) h (dL rb.1 rb.2)) (aj (bP h (j := 3) rfl) ⟨rc.1, rc.2, ?_⟩)
  refine aj (bP (j := 2 + x.c.toNat) h (dL rc.1 rc.2)) ?_
  refine aH.2 ⟨fun hlt => ?_, fun hge => ?_⟩
  ·rw [if_pos hlt] at k1
   refine aj (bP h (j := 1) rfl) ⟨ra.1, ra.2, ?_⟩
   refine Cz (j := 2 + x.a.toNat) h (by have := ra.1; have := ra.2; show _ < 11; omega) (kH ra.1 ra.2) ?_
   clear h; intro M h
   exact fD (h.sub bx) (k1 (by omega))
  ·rw [if_neg hge] at k1
   refine aj (bP h (j := 1) rfl) ⟨ra.1, ra.2, ?_⟩
   refine Cz (j := 2 + x.a.toNat) h (by have := ra.1; have := ra.2; show _ < 11; omega) (kH ra.1 ra.2) ?_
   clear h; intro M h
   exact fD (h.sub bx) (k1 (by omega))
 refine bh.2 ⟨fun e => ?_, fun n7 => ?_⟩
 ·have ef : f.next.pure x = { f.next with pc := x.a } := by unfold eJ.pure; simp only [if_neg n0, if_neg n1, if_neg n2, if_neg n3, if_neg n4, if_neg n5, if_neg n6, if_pos e]
  rw [ef] at k1
  refine aj (bP h (j := 1) rfl) ?_
  refine Cz (j := 1) (cs' := gQ { f.next with pc := x.a }) h (by show 1 < 11; omega) rfl ?_
  clear h; intro M h
  exact fD (h.sub bx) (k1 (by omega))
 refine bh.2 ⟨fun e => ?_, fun n8 => ?_⟩
 ·have ra : aR x.a := o1 (by rw [e]; simp)
  have ef : f.next.pure x = if f.next.bH x.a ≠ 0 then { f.next with pc := x.b } else f.next := by unfold eJ.pure; simp only [if_neg n0, if_neg n1, if_neg n2, if_neg n3, if_neg n4, if_neg n5, if_neg n6, if_neg n7]
  rw [ef] at k1
  refine aj (bP h (j := 1) rfl) ⟨ra.1, ra.2, ?_⟩
  refine aj (bP (j := 2 + x.a.toNat) h (dL ra.1 ra.2)) ?_
  refine dJ.2 ⟨fun hl => ?_, fun hl => ?_⟩
  ·rw [if_pos hl] at k1
   refine aj (bP h (j := 2) rfl) ?_
   refine Cz (j := 1) (cs' := gQ { f.next with pc := x.b }) h (by show 1 < 11; omega) rfl ?_
   clear h; intro M h
   exact fD (h.sub bx) (k1 (by omega))
  ·rw [if_neg (by simpa using hl)] at k1
   exact fD (h.sub bx) (k1 (by omega))
 ·refine aj (bP h (j := 1) rfl) ?_
  have e1 : IntKind.wrap .i64 (f.next.pc - 1) = f.pc := by
   have : f.next.pc = f.pc + 1 := rfl
   rw [this, dD (by omega) (by omega)]; omega
  rw [e1]
  refine Cz (j := 1) (cs' := gQ f) h (by show 1 < 11; omega) rfl ?_
  clear h; intro M h
  exact fD (h.sub bx) (k2 (by omega))
end
abbrev tW : Nat := 81
def Wd.EE (x : Wd) : Wd := if x.end_ ≠ 0 then { x with ready := [] } else
 ((x.hl.takeWhile (pQ (IntKind.wrap .u64 (x.clock + 1)))).map (·.id)).foldl Wd.eX { x with clock := IntKind.wrap .u64 (x.clock + 1), hl := x.hl.dropWhile (pQ (IntKind.wrap .u64 (x.clock + 1))), ready := [] }
theorem Jy (x : Wd) (g : Int) : (x.eX g).gs.length = x.gs.length := by simp [Wd.eX, Wd.bp]
theorem y6 : ∀ (l : List Int) (x : Wd), (l.foldl Wd.eX x).gs.length = x.gs.length
 | [], x => rfl
 | g :: l, x => by rw [List.foldl_cons, y6 l, Jy]
theorem EF : ∀ (l : List Int) (x : Wd), (l.foldl Wd.eX x).ready.length = x.ready.length + l.length
 | [], x => rfl
 | g :: l, x => by rw [List.foldl_cons, EF l]; simp [Wd.eX]; omega
section
variable {R : Mem} {L L' : List HP} {M : Mem} {K : Value → Mem → Prop} {Kp : List PanicEntry → Mem → Prop} {a : Al} {p : cy} {x : Wd} {g : Int}
theorem Nf (h : Hp R L M) (hw : eN R a p x) (hs : x.Sm) (hid : ∀ y ∈ x.hl, 0 ≤ y.id ∧ y.id < x.gs.length)
  (k : ∀ R' a' M', R.le R' → eN R' a' p x.EE → Hp R' L M' → K (gD a' p x.EE) M') :
  ae Tryz.prog 76 #[gD a p x] M K Kp := by
 refine rZ ?_
 obtain ⟨s1, s2, s3, s4, s5, s6, s7, s8⟩ := hs
 unfold Wd.EE at k
 refine ai h ?_
 clear h
 intro q1 M h
 refine ai h ?_
 clear h
 intro q3 M h
 refine ak h ?_
 clear h
 intro M h
 refine az h ?_
 refine dJ.2 ⟨fun he => ?_, fun he => ?_⟩
 ·rw [if_pos he] at k
  refine aI h rfl ?_
  refine bk h rfl rfl rfl ?_
  clear h; intro M h
  refine aI h rfl ?_
  have hz : eN R { a with ar := none, cr := 0 } p { x with ready := [] } := ⟨hw.AO, hw.dB, hw.gs, hw.av, hw.aC, hw.hl, hw.out, RS.nil _ _⟩
  exact k _ _ _ (Mem.le_refl R) hz (h.sub bx)
 ·rw [if_neg (by simpa using he)] at k
  refine az h ?_
  refine ak h ?_
  clear h
  intro M h
  refine ax h (az h (az h ?_))
  generalize hc : IntKind.wrap .u64 (x.clock + 1) = cl at h k ⊢
  refine Nd h hw.hl rfl s8 ?_
  clear h; intro R1 A1 c1 B1 d1 M l1 r1 r2 h
  generalize hd : x.hl.dropWhile (pQ cl) = rest at r1 k ⊢
  have hdu : ∀ y ∈ x.hl.takeWhile (pQ cl), y ∈ x.hl := fun y hy => (List.takeWhile_subset _) hy
  have VL : (x.hl.takeWhile (pQ cl)).length ≤ x.hl.length := by
   have := congrArg List.length (List.takeWhile_append_dropWhile (p := pQ cl) (l := x.hl))
   rw [List.length_append] at this; omega
  generalize x.hl.takeWhile (pQ cl) = due at r2 hdu VL k ⊢
  refine ⟨_, _, _, _, _, _, _, rfl, ?_⟩
  refine ai h ?_
  clear h
  intro q26 M h
  repeat (refine ak h ?_; clear h; intro M h)
  refine ax h (az h ?_)
  repeat (refine ak h ?_; clear h; intro M h)
  generalize AH : ({ x with clock := cl, hl := rest, ready := [] } : Wd) = x1 at k
  have mM : eN R1 { a with ar := none, cr := 0, ah := A1, ch := c1 } p x1 := by
   subst AH
   have cv := hw.le l1
   exact ⟨cv.AO, cv.dB, cv.gs, cv.av, cv.aC, r1, cv.out, RS.nil _ _⟩
  have Oj : x1.gs.length = x.gs.length := by subst AH; rfl
  have mN : x1.ready.length = 0 := by subst AH; rfl
  have h0 : Hp R1 (pt q1 (jZ { a with ar := none, cr := 0, ah := A1, ch := c1 } p x1) tW :: pt q3 gz tW :: L) M := by subst AH; exact h.sub bx
  clear h
  refine ⟨fun d ws M => ∃ (j : Nat) (R' : Mem) (a' : Al), ws = [.int .i64 (j : Int)] ∧ d = due.length - j ∧ j ≤ due.length ∧ R1.le R' ∧ eN R' a' p (((due.take j).map (·.id)).foldl Wd.eX x1) ∧ Hp R' (pt q1 (jZ a' p (((due.take j).map (·.id)).foldl Wd.eX x1)) tW :: pt q3 gz tW :: L) M,
   ⟨_, 0, R1, _, rfl, rfl, by omega, Mem.le_refl R1, mM, h0⟩, ?_⟩
  clear h0
  rintro d _ jj M ⟨j, R2, a2, hj, Jn, KF, l2, cv, h⟩
  simp only [List.cons.injEq, Value.int.injEq, and_true, true_and] at hj
  subst hj
  refine aH.2 ⟨fun hlt => ?_, fun hge => ?_⟩
  ·obtain ⟨y, hy⟩ := aL (l := due) (i := j) (by omega)
   have hym := hid y (hdu y (List.mem_of_getElem? hy))
   obtain ⟨b, o, hb⟩ := r2.some (by omega) (by decide)
   rw [hb] at r2
   have r3 := r2.le l2
   refine ⟨by omega, hlt, bB hb ?_⟩
   refine aj (Src.at r3.src h hy (j := 0) rfl (by show _ = o + (j * 3 + 0); simp)) ?_
   refine aj (Src.at r3.src h hy (j := 1) rfl (by show _ = o + (j * 3 + 1); simp; omega)) ?_
   refine aj (Src.at r3.src h hy (j := 2) rfl (by show _ = o + (j * 3 + 2); simp; omega)) ?_
   refine ai h ?_
   clear h
   intro xR M h
   repeat (refine ak h ?_; clear h; intro M h)
   refine aI h rfl (az h ?_)
   refine jm h cv hym.1 (by rw [y6, Oj]; exact hym.2) (by rw [y6, Oj]; omega) (by rw [EF, mN, List.length_map, List.length_take]; omega) ?_
   clear h; intro R3 a3 M l3 nJ h
   refine ⟨_, _, _, _, _, _, _, _, _, _, _, _, _, _, rfl, ?_⟩
   refine bk h rfl rfl rfl ?_
   clear h; intro M h
   have e : (((due.take j).map (·.id)).foldl Wd.eX x1).eX y.id = ((due.take (j + 1)).map (·.id)).foldl Wd.eX x1 := by
    rw [dw hy, List.map_append, List.foldl_append]; rfl
   rw [e] at nJ h
   exact ⟨due.length - (j + 1), by omega, j + 1, R3, a3, by rw [aS (by omega)], rfl, by omega, Mem.le_trans l2 l3, nJ, h.sub bx⟩
  ·have KF : j = due.length := by omega
   subst KF
   rw [List.take_length] at cv h
   refine aI h rfl ?_
   refine bk h rfl rfl rfl ?_
   clear h; intro M h
   refine aI h rfl ?_
   exact k _ _ _ (Mem.le_trans l1 l2) cv (h.sub bx)
theorem Jz (h : Hp R L M) (hw : eN R a p x) (hn : x.gs.length ≤ 1000000)
  (k : ∀ M', Hp R L M' → K (.bool (decide (x.end_ = 0 ∧ ∀ y ∈ x.gs, y.st ≠ 1 ∧ y.st ≠ 3))) M') :
  ae Tryz.prog 82 #[gD a p x] M K Kp := by
 refine qC ?_
 obtain ⟨rs, bu, hl⟩ := hw.gs
 refine ai h ?_
 clear h
 intro q1 M h
 refine ax h ?_
 refine ⟨fun d ws M => ∃ i : Nat, ws = [.int .i64 (i : Int)] ∧ d = x.gs.length - i ∧ i ≤ x.gs.length ∧ (∀ y ∈ x.gs.take i, y.st ≠ 1 ∧ y.st ≠ 3) ∧ Hp R (pt q1 (jZ a p x) tW :: L) M,
  ⟨_, 0, rfl, rfl, by omega, by simp, h⟩, ?_⟩
 clear h
 rintro d _ ii M ⟨i, he, hd, hi, ig, h⟩
 simp only [List.cons.injEq, Value.int.injEq, and_true, true_and] at he
 subst he
 refine aH.2 ⟨fun hlt => ?_, fun hge => ?_⟩
 ·obtain ⟨y, hy⟩ := aL (l := x.gs) (i := i) (by omega)
  obtain ⟨⟨oZ, rA, rn, rc, Cw⟩, hr, e1, e2, e3, e4⟩ := hl.at hy
  dsimp only at e1 e2 e3 e4
  subst e1
  obtain ⟨b, o, hb⟩ := bu.some (by rw [hl.1]; omega) (by decide)
  rw [hb] at bu
  refine ⟨by omega, hlt, bB hb ?_⟩
  refine aj (Src.at bu.src h hr (j := 0) rfl (by simp [uU])) ?_
  refine br (Src.at bu.src h hr (j := 1) rfl rfl) ?_
  refine aj (Src.at bu.src h hr (j := 2) rfl rfl) ?_
  refine aj (Src.at bu.src h hr (j := 3) rfl rfl) ?_
  refine aj (Src.at bu.src h hr (j := 4) rfl rfl) ?_
  refine aj (Src.at bu.src h hr (j := 5) rfl rfl) ?_
  refine ai h ?_
  clear h
  intro q22 M h
  repeat (refine ak h ?_; clear h; intro M h)
  refine az h ?_
  refine bh.2 ⟨fun h1 => ?_, fun h1 => ?_⟩
  ·have := k M (h.sub bx)
   rw [decide_eq_false (fun hh => (hh.2 y (List.mem_of_getElem? hy)).1 h1)] at this
   exact this
  ·refine az h ?_
   refine bh.2 ⟨fun h3 => ?_, fun h3 => ?_⟩
   ·have := k M (h.sub bx)
    rw [decide_eq_false (fun hh => (hh.2 y (List.mem_of_getElem? hy)).2 h3)] at this
    exact this
   ·refine ⟨x.gs.length - (i + 1), by omega, i + 1, by rw [aS (by omega)], rfl, by omega, ?_, h.sub bx⟩
    intro z hz
    rw [dw hy, List.mem_append, List.mem_singleton] at hz
    rcases hz with hz | rfl
    ·exact ig z hz
    ·exact ⟨h1, h3⟩
 ·refine az h ?_
  have hil : i = x.gs.length := by omega
  subst hil
  rw [List.take_length] at ig
  have := k M (h.sub bx)
  have e : decide (x.end_ = 0 ∧ ∀ y ∈ x.gs, y.st ≠ 1 ∧ y.st ≠ 3) = (x.end_ == 0) := by
   rw [Bool.eq_iff_iff, decide_eq_true_iff, beq_iff_eq]
   exact ⟨fun hh => hh.1, fun hh => ⟨hh, ig⟩⟩
  rw [e] at this
  exact this
end
def dy (p : cy) (x : Wd) (v : Wt) : Wd := if (aa x v.g).st = 2 then x.dZ p { v with v := 0 } 0 else x
def Wd.zN (p : cy) (x : Wd) (j : Int) : Wd :=
 let s := (aX x.av j).close
 if s.2.2.2 ≠ 0 then x.iB (-2) else if 0 < s.2.2.1.length then (x.bg j s.1).iB (-1) else s.2.1.foldl (dy p) (x.bg j s.1)
def tP (p : cy) (x : Wd) : List Wt → Prop
 | [] => True
 | v :: l => x.Sm ∧ 0 ≤ v.g ∧ v.g < x.gs.length ∧ ((aa x v.g).st = 2 → lA p x { v with v := 0 }) ∧ tP p (dy p x v) l
section
variable {R : Mem} {L L' : List HP} {M : Mem} {K : Value → Mem → Prop} {Kp : List PanicEntry → Mem → Prop} {a : Al} {p : cy} {x : Wd} {g : Int}
theorem Ng {j : Int} (h : Hp R L M) (hw : eN R a p x) (j0 : 0 ≤ j) (j1 : j < x.av.length) (hs : x.Sm)
  (ho : (aX x.av j).close.2.2.2 = 0 → tP p (x.bg j (aX x.av j).close.1) (aX x.av j).close.2.1) (hb : (aX x.av j).close.2.1.length ≤ 1000000)
  (k : ∀ R' a' M', R.le R' → eN R' a' p (x.zN p j) → Hp R' L M' → K (gD a' p (x.zN p j)) M') :
  ae Tryz.prog 146 #[gD a p x, .int .i64 j] M K Kp := by
 refine sk ?_
 obtain ⟨rs, bu, hl⟩ := hw.av
 have hc := hU j0 j1
 have hn := hs.2.1
 unfold Wd.zN at k
 generalize P7 : aX x.av j = cc at hc ho hb k
 refine ai h ?_
 clear h
 intro q1 M h
 refine ai h ?_
 clear h
 intro q3 M h
 obtain ⟨r, hr, hrc⟩ := hl.at hc
 obtain ⟨b, o, kW⟩ := bu.some (by rw [hl.1]; omega) (by decide)
 rw [kW] at bu
 refine ax h ⟨j0, by omega, bB kW ?_⟩
 refine aj (Src.at bu.src h hr (j := 0) rfl (by simp [xQ])) ?_
 refine br (Src.at bu.src h hr (j := 1) rfl rfl) ?_
 refine br (Src.at bu.src h hr (j := 2) rfl rfl) ?_
 refine br (Src.at bu.src h hr (j := 3) rfl rfl) ?_
 refine uZ (Src.at bu.src h hr (j := 4) rfl rfl) ?_
 refine II h hrc ?_
 clear h; intro vs' A ca B cb M h wY rA rB
 generalize cc.close = s at wY ho hb k rA rB
 obtain ⟨c', rr, ss, e⟩ := s
 dsimp only at wY ho hb k rA rB
 obtain ⟨r', rfl, Hl⟩ := wY.rc
 apply Exists.intro; (repeat apply Exists.intro); refine And.intro rfl ?_
 refine ai h ?_
 clear h
 intro q41 M h
 repeat (refine ak h ?_; clear h; intro M h)
 refine dJ.2 ⟨fun he => ?_, fun he => ?_⟩
 ·rw [if_pos he] at k
  refine aI h rfl ?_
  refine gB h hw ?_
  intro M cv h
  refine ⟨_, _, _, _, _, _, _, _, _, _, _, _, _, _, rfl, ?_⟩
  refine bk h rfl rfl rfl ?_
  clear h; intro M h
  refine aI h rfl ?_
  exact k _ _ _ (Mem.le_refl R) cv (h.sub bx)
 ·rw [if_neg (by simpa using he)] at k
  replace ho := ho he
  refine aI h rfl (az h (ax h (ax h (ax h (me h ?_)))))
  refine iU h hw Hl j0 j1 (by omega) ?_
  clear h; intro R2 a2 M l2 cv h
  refine ⟨_, _, _, _, _, _, _, _, _, _, _, _, _, _, rfl, ?_⟩
  refine bk h rfl rfl rfl ?_
  clear h; intro M h
  refine aH.2 ⟨fun hp => ?_, fun hp => ?_⟩
  all_goals dsimp only at hp
  ·rw [if_pos (by omega)] at k
   refine aI h rfl ?_
   refine gB h cv ?_
   clear h; intro M nJ h
   refine ⟨_, _, _, _, _, _, _, _, _, _, _, _, _, _, rfl, ?_⟩
   refine bk h rfl rfl rfl ?_
   clear h; intro M h
   refine aI h rfl ?_
   exact k _ _ _ l2 nJ (h.sub bx)
  ·rw [if_neg (by omega)] at k
   generalize x.bg j c' = x1 at k ho cv h
   refine ⟨fun d ws M => ∃ (q : Nat) (R' : Mem) (a' : Al), ws = [.int .i64 (q : Int)] ∧ d = rr.length - q ∧ q ≤ rr.length ∧ R2.le R' ∧ eN R' a' p ((rr.take q).foldl (dy p) x1) ∧ tP p ((rr.take q).foldl (dy p) x1) (rr.drop q) ∧ Hp R' (pt q1 (jZ a' p ((rr.take q).foldl (dy p) x1)) tW :: pt q3 gz tW :: L) M,
    ⟨_, 0, R2, a2, rfl, rfl, by omega, Mem.le_refl R2, cv, ho, h.sub bx⟩, ?_⟩
   clear h ho
   rintro d _ qq M ⟨q, R3, a3, hq, hd, hql, l3, nJ, ho, h⟩
   simp only [List.cons.injEq, Value.int.injEq, and_true, true_and] at hq
   subst hq
   refine aH.2 ⟨fun hlt => ?_, fun hge => ?_⟩
   all_goals dsimp only at *
   ·obtain ⟨v, hv⟩ := aL (l := rr) (i := q) (by omega)
    obtain ⟨bA, oA, hbA⟩ := rA.some (by omega) (by decide)
    have r3 := rA.le (Mem.le_trans l2 l3)
    rw [hbA] at r3
    have tk := dw hv
    have J6 : rr.drop q = v :: rr.drop (q + 1) := by
     obtain ⟨Mx, rfl⟩ := List.getElem?_eq_some_iff.1 hv
     exact List.drop_eq_getElem_cons Mx
    rw [J6] at ho
    have ef : (rr.take (q + 1)).foldl (dy p) x1 = dy p ((rr.take q).foldl (dy p) x1) v := by rw [tk, List.foldl_append]; rfl
    generalize (rr.take q).foldl (dy p) x1 = x2 at nJ ho h ef
    obtain ⟨ry, v0, v1, hrv, ho⟩ := ho
    refine ⟨by omega, hlt, bB hbA ?_⟩
    refine aj (Src.at r3.src h hv (j := 0) rfl (by show _ = oA + (q * 3 + 0); simp)) ?_
    refine aj (Src.at r3.src h hv (j := 1) rfl (by show _ = oA + (q * 3 + 1); simp; omega)) ?_
    refine aj (Src.at r3.src h hv (j := 2) rfl (by show _ = oA + (q * 3 + 2); simp; omega)) ?_
    refine ai h ?_
    clear h
    intro q126 M h
    repeat (refine ak h ?_; clear h; intro M h)
    obtain ⟨gs2, hgs2, hgl2⟩ := nJ.gs
    obtain ⟨⟨oZ, rA', rn, rc, Cw⟩, QU, e1, e2, e3, e4⟩ := hgl2.at (bN v0 v1)
    dsimp only at e1 e2 e3 e4
    subst e1
    obtain ⟨b2, o2, Rn⟩ := hgs2.some (by rw [hgl2.1]; omega) (by decide)
    rw [Rn] at hgs2
    refine ax h (az h ⟨v0, v1, bB Rn ?_⟩)
    refine aj (Src.at hgs2.src h QU (j := 0) rfl (by simp [uU])) ?_
    refine bh.2 ⟨fun h2 => ?_, fun h2 => ?_⟩
    ·have es : dy p x2 v = x2.dZ p { v with v := 0 } 0 := by unfold dy; rw [if_pos h2]
     rw [es] at ef ho
     refine ak h ?_
     clear h
     intro M h
     refine aI h rfl (az h (az h (az h ?_)))
     refine sS (v := { v with v := 0 }) h nJ (hrv h2) ry ?_
     clear h; intro R4 a4 M l4 Qq h
     refine ⟨_, _, _, _, _, _, _, _, _, _, _, _, _, _, rfl, ?_⟩
     refine bk h rfl rfl rfl ?_
     clear h; intro M h
     refine ⟨rr.length - (q + 1), by omega, q + 1, R4, a4, by rw [aS (by omega)], rfl, by omega, Mem.le_trans l3 l4, ?_⟩
     rw [ef]
     exact ⟨Qq, ho, h.sub bx⟩
    ·have es : dy p x2 v = x2 := by unfold dy; rw [if_neg h2]
     rw [es] at ef ho
     refine ⟨rr.length - (q + 1), by omega, q + 1, R3, a3, by rw [aS (by omega)], rfl, by omega, l3, ?_⟩
     rw [ef]
     exact ⟨nJ, ho, h.sub bx⟩
   ·have hql2 : q = rr.length := by omega
    subst hql2
    rw [List.take_length] at nJ h
    refine aI h rfl ?_
    refine bk h rfl rfl rfl ?_
    clear h; intro M h
    refine aI h rfl ?_
    exact k _ _ _ (Mem.le_trans l2 l3) nJ (h.sub bx)
end
def bT (x y : Wd) : Prop := y.gs.length = x.gs.length ∧ ∀ g, (aa y g).fs.length = (aa x g).fs.length
section
variable {x y z : Wd} {p : cy} {g : Int}
theorem bT.refl (x : Wd) : bT x x := ⟨rfl, fun _ => rfl⟩
theorem bT.trans (h : bT x y) (h2 : bT y z) : bT x z := ⟨h2.1.trans h.1, fun g => (h2.2 g).trans (h.2 g)⟩
theorem bT.ok (h : bT x y) (hg : aW x g) : aW y g := ⟨hg.1, by rw [h.1]; exact hg.2.1, by rw [h.2 g]; exact hg.2.2.1, by rw [h.2 g]; exact hg.2.2.2⟩
theorem bT.bp {q : Int} {w : gG} (h : w.fs.length = (aa x q).fs.length) : bT x (x.bp q w) := by
 refine ⟨by simp [Wd.bp], fun g => ?_⟩
 unfold aa Wd.bp at *
 dsimp only
 by_cases e : q.toNat = g.toNat
 ·rw [← e]
  by_cases hl : q.toNat < x.gs.length
  ·rw [List.getD_eq_getElem?_getD, List.getElem?_set_self hl]; exact h
  ·rw [List.set_eq_of_length_le (by omega)]
 ·rw [List.getD_eq_getElem?_getD, List.getElem?_set_ne e, ← List.getD_eq_getElem?_getD]
theorem bT.bH {q v : Int} : bT x (x.aV g q v) := bT.bp (by simp [gG.bW])
theorem bT.leave : bT x (x.leave g) := ⟨rfl, fun _ => rfl⟩
theorem bT.cU {k : Int} : bT x (x.cU g k) := bT.trans bT.bH bT.leave
theorem bT.eX : bT x (x.eX g) := by
 have h : bT x (x.bp g { aa x g with st := 1, wt := .zero }) := bT.bp rfl
 exact ⟨h.1, h.2⟩
theorem bT.bg {k : Int} {c : aQ} : bT x (x.bg k c) := ⟨rfl, fun _ => rfl⟩
theorem bT.iB {n : Int} : bT x (x.iB n) := ⟨rfl, fun _ => rfl⟩
theorem bT.dZ {v : Wt} {s : Int} : bT x (x.dZ p v s) := by
 unfold Wd.dZ; dsimp only
 split
 ·exact (bT.bH.trans bT.cU).trans bT.eX
 ·exact (bT.bH.trans bT.bH).trans bT.eX
theorem bT.oO {v : Wt} : bT x (x.oO v) := by
 unfold Wd.oO
 split
 ·exact bT.cU.trans bT.eX
 ·exact bT.eX
theorem bT.nK {k v : Int} : bT x (x.nK p k v).1 := by
 unfold Wd.nK; dsimp only
 split
 ·exact bT.iB
 ·dsimp only; split
  ·exact bT.bg.trans bT.dZ
  ·exact bT.bg
theorem bT.jW {k : Int} : bT x (x.jW k).1 := by
 have h : bT x (if (aX x.av k).recv.2.2.2.2.1 then (x.bg k (aX x.av k).recv.1).oO (aX x.av k).recv.2.2.2.1 else x.bg k (aX x.av k).recv.1) := by
  split
  ·exact bT.bg.trans bT.oO
  ·exact bT.bg
 unfold Wd.jW; dsimp only
 split
 ·exact h
 ·exact h
end
def EG (p : cy) (x : Wd) (j v : Int) : Prop := (x.bg j ((aX x.av j).send v).1).Sm ∧ (((aX x.av j).send v).2.2.1 = true → lA p (x.bg j ((aX x.av j).send v).1) ((aX x.av j).send v).2.1)
def EH (x : Wd) (j : Int) : Prop := (x.bg j (aX x.av j).recv.1).Sm ∧ ((aX x.av j).recv.2.2.2.2.1 = true → u5 (x.bg j (aX x.av j).recv.1) (aX x.av j).recv.2.2.2.1)
def Wd.tQ (p : cy) (x : Wd) (g : Int) (i : bY) (k : Int) : Wd :=
 let c := (aB p i).getD k.toNat ⟨0, 0, 0⟩
 if c.way = 1 then (if (x.nK p c.ch (aJ x g c.bH)).1.end_ ≠ 0 then (x.nK p c.ch (aJ x g c.bH)).1 else (x.nK p c.ch (aJ x g c.bH)).1.aV g i.c k)
 else ((x.jW c.ch).1.aV g c.bH (x.jW c.ch).2.1).aV g i.c k
def Wd.nq (p : cy) (x : Wd) (g : Int) (i : bY) : Wd :=
 match els (aB p i) with
 | some k => x.aV g i.c (k : Int)
 | none => Wd.mE { x with av := dm g (sO (aa x g).top) (aB p i) x.av (aB p i).length } g 2 i
def Wd.nt (p : cy) (x : Wd) (g : Int) (i : bY) (d : Int) : Wd :=
 if enabled (aB p i) x.av = [] then x.nq p g i
 else x.tQ p g i ((enabled (aB p i) x.av).getD (d.tmod (enabled (aB p i) x.av).length).toNat 0)
theorem Ol {cs : List aQ} {c : m5} (h : can cs c = true) : c.way ≠ 2 := by
 unfold can at h
 intro e
 simp [e] at h
theorem en_mem {k : Int} {cases : List m5} {cs : List aQ} (h : k ∈ enabled cases cs) : ∃ (j : Nat) (c : m5), k = (j : Int) ∧ j < cases.length ∧ cases[j]? = some c ∧ can cs c = true := by
 unfold enabled z4 at h
 obtain ⟨j, hj, rfl⟩ := List.mem_map.1 h
 obtain ⟨h1, h2⟩ := List.mem_filter.1 hj
 rw [List.mem_range] at h1
 obtain ⟨c, hc⟩ := aL (l := cases) (i := j) (by omega)
 unfold NV at h2
 rw [hc] at h2
 exact ⟨j, c, rfl, h1, hc, h2⟩
section
variable {R : Mem} {L L' : List HP} {M : Mem} {K : Value → Mem → Prop} {Kp : List PanicEntry → Mem → Prop} {a : Al} {p : cy} {x : Wd} {g : Int} {i : bY}
theorem Gz {d : Int} (h : Hp R L M) (hw : eN R a p x) (hg : aW x g) (hs : x.Sm) (hk : ng p i) (hok : ∀ c ∈ aB p i, c.Ok x.av.length) (hc : aR i.c) (d0 : 0 ≤ d)
  (hput : ∀ c ∈ aB p i, c.way = 1 → EG p x c.ch (aJ x g c.bH)) (Du : ∀ c ∈ aB p i, c.way = 0 → EH x c.ch)
  (k : ∀ R' a' M', R.le R' → eN R' a' p (x.nt p g i d) → Hp R' L M' → K (gD a' p (x.nt p g i d)) M') :
  ae Tryz.prog 147 #[gD a p x, .int .i64 g, .agg #[.int .i64 i.op, .int .i64 i.a, .int .i64 i.b, .int .i64 i.c], .int .i64 d] M K Kp := by
 refine pE ?_
 obtain ⟨a0, b0, hab, hl⟩ := hk
 have hcap := hw.AO.cases.2
 obtain ⟨rs, bu, dU⟩ := hw.gs
 obtain ⟨cs, hcs, Gm⟩ := hw.av
 obtain ⟨g0, g1, g2, g3⟩ := id hg
 have hn := hs.2.2.1
 have td := hs.2.1
 have eC : (i.a + i.b).toNat - i.a.toNat = (aB p i).length := by
  unfold aB
  rw [List.length_take, List.length_drop]; omega
 have QY := (hw.AO.cases.drop i.a.toNat (by omega)).take i.b.toNat
 replace QY : RS gP R (iZ a.pa.k i.a.toNat a.pa.kc 3) (a.pa.kc - i.a.toNat) (aB p i) := QY
 have hcll : (aB p i).length ≤ 1000 := by rw [← eC]; omega
 refine ai h ?_
 clear h
 intro q1 M h
 refine ai h ?_
 clear h
 intro q3 M h
 refine ai h ?_
 clear h
 intro q5 M h
 refine ax h (az h (az h (az h ?_)))
 rw [dD (by omega) (by omega)]
 refine ⟨by omega, by omega, by omega, by omega, by omega, by omega, ?_⟩
 rw [eC]
 simp only [Int.toNat_natCast]
 generalize iZ a.pa.k i.a.toNat a.pa.kc 3 = C at QY ⊢
 obtain ⟨⟨oZ, rA, rn, rc, Cw⟩, hr, e1, e2, e3, e4⟩ := dU.at (bN g0 g1)
 dsimp only at e1 e2 e3 e4
 subst e2
 obtain ⟨b, o, hb⟩ := bu.some (by rw [dU.1]; omega) (by decide)
 rw [hb] at bu
 obtain ⟨bf, of, sV⟩ := e3.some (by omega) (by decide)
 subst sV
 refine ax h ⟨g0, g1, bB hb ?_⟩
 refine br (Src.at bu.src h hr (j := 1) rfl rfl) ?_
 refine ax h ⟨g0, g1, bB hb ?_⟩
 refine br (Src.at bu.src h hr (j := 1) rfl rfl) ?_
 dsimp only
 rw [cP g2 (by omega)]
 refine ⟨by omega, by omega, aT ?_⟩
 rw [Int.toNat_natCast]
 have ht := bS g2
 refine aj (Src.at e3.src h ht (j := 0) rfl rfl) ?_
 refine aj (Src.at e3.src h ht (j := 1) rfl rfl) ?_
 refine aj (Src.at e3.src h ht (j := 2) rfl rfl) ?_
 refine aj (Src.at e3.src h ht (j := 3) rfl rfl) ?_
 refine aj (Src.at e3.src h ht (j := 4) rfl rfl) ?_
 refine aj (Src.at e3.src h ht (j := 5) rfl rfl) ?_
 refine aj (Src.at e3.src h ht (j := 6) rfl rfl) ?_
 refine aj (Src.at e3.src h ht (j := 7) rfl rfl) ?_
 refine aj (Src.at e3.src h ht (j := 8) rfl rfl) ?_
 refine aj (Src.at e3.src h ht (j := 9) rfl rfl) ?_
 refine aj (Src.at e3.src h ht (j := 10) rfl rfl) ?_
 refine ai h ?_
 clear h
 intro q42 M h
 repeat (refine ak h ?_; clear h; intro M h)
 replace h : Hp R (pt q42 (gQ (aa x g).top) 114 :: pt q5 gz tW :: pt q3 [.int .i64 i.op, .int .i64 i.a, .int .i64 i.b, .int .i64 i.c] 109 :: pt q1 (jZ a p x) tW :: L) M := h.sub bx
 refine ax h ?_
 refine Dr (cases := aB p i) h QY.src hcs.src Gm rfl rfl (by omega) hok (Gx hs) ?_
 clear h; intro E cE M h
 refine aU ?_
 unfold Wd.nt at k
 by_cases he : enabled (aB p i) x.av = []
 ·rw [if_pos he] at k
  rw [he]
  refine bV rfl ?_
  refine LZ h QY.src rfl (by omega) ?_
  clear h; intro M h
  refine ff ?_
  unfold Wd.nq at k
  cases hels : els (aB p i) with
  | some q =>
   rw [hels] at k
   dsimp only at k ⊢
   refine bV (by simp) ?_
   refine aI h rfl (az h ?_)
   refine fC h hw hg (by omega) hc ?_
   clear h; intro R1 a1 M l1 mM h
   refine ⟨_, _, _, _, _, _, _, _, _, _, _, _, _, _, rfl, ?_⟩
   refine bk h rfl rfl rfl ?_
   clear h; intro M h
   refine aI h rfl ?_
   exact k _ _ _ l1 mM (h.sub bx)
  | none =>
   rw [hels] at k
   dsimp only at k ⊢
   refine aD (by decide) ?_
   refine aj (bP h (j := 2) rfl) (aj (bP h (j := 3) rfl) (aj (bP h (j := 4) rfl) (aj (bP h (j := 5) rfl) (aj (bP h (j := 6) rfl) (aj (bP h (j := 7) rfl) (aj (bP h (j := 8) rfl) (aj (bP h (j := 9) rfl) ?_)))))))
   refine ax h ?_
   refine Mb h QY hcs Gm rfl rfl (by omega) (by omega) hok (fun c hc => hs.1 c hc) ?_
   clear h; intro R1 X cx xs' M l1 h hx
   refine aU ?_
   replace h : Hp R1 (cu xQ 190 X cx xs' :: pt q1 (jZ a p x) tW :: pt q3 [.int .i64 i.op, .int .i64 i.a, .int .i64 i.b, .int .i64 i.c] 109 :: pt q5 gz tW :: L) M := h.sub bx
   refine ak h ?_
   clear h
   intro M h
   obtain ⟨R2, l2, r2, h2⟩ := h.bz X
   clear h
   have cv := hw.le (Mem.le_trans l1 l2)
   generalize AH : ({ x with av := dm g (sO (aa x g).top) (aB p i) x.av (aB p i).length } : Wd) = x1 at k
   have hz : eN R2 { a with ac := X, cc := cx } p x1 := by
    subst AH
    exact ⟨cv.AO, cv.dB, cv.gs, ⟨_, r2, hx.le l2⟩, cv.aC, cv.hl, cv.out, cv.ready⟩
   have h3 : Hp R2 (pt q1 (jZ { a with ac := X, cc := cx } p x1) tW :: pt q3 [.int .i64 i.op, .int .i64 i.a, .int .i64 i.b, .int .i64 i.c] 109 :: pt q5 gz tW :: L) M := by
    subst AH
    unfold jZ
    dsimp only
    rw [jd]
    exact h2.sub bx
   clear h2
   have Oj : x1.gs.length = x.gs.length := by subst AH; rfl
   refine aI h3 rfl ?_
   refine az h3 (az h3 (az h3 (az h3 ?_)))
   refine gA (i := i) (s := 2) h3 hz g0 (by rw [Oj]; exact g1) (by rw [Oj]; omega) ?_
   clear h3; intro R3 a3 M l3 nJ h
   refine ⟨_, _, _, _, _, _, _, _, _, _, _, _, _, _, rfl, ?_⟩
   refine bk h rfl rfl rfl ?_
   clear h; intro M h
   refine aI h rfl ?_
   exact k _ _ _ (Mem.le_trans l1 (Mem.le_trans l2 l3)) nJ (h.sub bx)
 ·rw [if_neg he] at k
  obtain ⟨d', rfl⟩ := Int.eq_ofNat_of_zero_le d0
  have hep : 0 < (enabled (aB p i) x.av).length := List.length_pos_iff.2 he
  generalize henE : enabled (aB p i) x.av = en at h k hep ⊢
  have hlm : d' % en.length < en.length := Nat.mod_lt _ hep
  have ed : Int.tmod (d' : Int) (en.length : Int) = ((d' % en.length : Nat) : Int) := rfl
  rw [ed] at k ⊢
  rw [Int.toNat_natCast] at k ⊢
  refine aD (by rw [beq_eq_false_iff_ne]; omega) ⟨by omega, by omega, by omega, ?_⟩
  obtain ⟨qe, rfl⟩ := h.bU (A := E) hep (by decide)
  refine aT ?_
  obtain ⟨kk, hkk⟩ := aL (l := en) (i := d' % en.length) hlm
  have ek : en.getD (d' % en.length) 0 = kk := by simp [hkk]
  rw [ek] at k
  refine aj (Src.at (h.src (A := some ⟨qe, 0, none⟩)) h hkk (j := 0) rfl (by show _ = 0 + (_ * 1 + 0); simp)) ?_
  obtain ⟨jn, c, rfl, hj, wH, hcan⟩ := en_mem (henE ▸ List.mem_of_getElem? hkk)
  have hcm := List.mem_of_getElem? wH
  obtain ⟨w0, w2, hw12⟩ := hok c hcm
  obtain ⟨c0, c1, r0, r8⟩ := hw12 (Ol hcan)
  have eg : (aB p i).getD (jn : Int).toNat ⟨0, 0, 0⟩ = c := by simp [wH]
  unfold Wd.tQ at k
  dsimp only at k
  rw [eg] at k
  rw [Int.toNat_natCast]
  obtain ⟨bC, oC, rfl⟩ := QY.some (by omega) (by decide)
  refine ⟨by omega, by omega, aT ?_⟩
  refine aj (Src.at QY.src h wH (j := 0) rfl (by show _ = oC + (jn * 3 + 0); omega)) ?_
  by_cases mM : c.way = 1
  ·simp only [if_pos mM] at k
   obtain ⟨p1, p2⟩ := hput c hcm mM
   refine bV (by simp [mM]) ⟨by omega, by omega, aT ⟨by omega, by omega, aT ?_⟩⟩
   refine aI h rfl ?_
   refine aj (Src.at QY.src h wH (j := 1) rfl (by show _ = oC + (jn * 3 + 1); omega)) ?_
   refine aj (Src.at QY.src h wH (j := 2) rfl (by show _ = oC + (jn * 3 + 2); omega)) ⟨r0, r8, ?_⟩
   refine aj (bP (j := 2 + c.bH.toNat) h (dL r0 r8)) ?_
   refine Ez (v := aJ x g c.bH) h hw c0 c1 hs p1 p2 ?_
   have Nh : bT x (x.nK p c.ch (aJ x g c.bH)).1 := bT.nK
   clear h; intro R1 a1 M l1 QZ h
   generalize (x.nK p c.ch (aJ x g c.bH)).2 = tb at h ⊢
   generalize (x.nK p c.ch (aJ x g c.bH)).1 = y at k QZ h Nh ⊢
   refine ⟨jZ a1 p y, rfl, tb, rfl, ?_⟩
   refine bk h rfl rfl rfl ?_
   clear h; intro M h
   refine az h ?_
   refine dJ.2 ⟨fun hen => ?_, fun hen => ?_⟩
   ·rw [if_pos hen] at k
    refine aI h rfl ?_
    refine bk h rfl rfl rfl ?_
    clear h; intro M h
    refine aI h rfl ?_
    exact k _ _ _ l1 QZ (h.sub bx)
   ·rw [if_neg (by simpa using hen)] at k
    refine aI h rfl (az h ?_)
    refine fC h QZ (Nh.ok hg) (by rw [Nh.1]; omega) hc ?_
    clear h; intro R2 a2 M l2 cv h
    refine ⟨_, _, _, _, _, _, _, _, _, _, _, _, _, _, rfl, ?_⟩
    refine bk h rfl rfl rfl ?_
    clear h; intro M h
    refine aI h rfl ?_
    exact k _ _ _ (Mem.le_trans l1 l2) cv (h.sub bx)
  ·simp only [if_neg mM] at k
   have IL : c.way = 0 := by have := Ol hcan; omega
   obtain ⟨p1, p2⟩ := Du c hcm IL
   refine aD (by simp [mM]) ⟨by omega, by omega, aT ?_⟩
   refine aI h rfl ?_
   refine aj (Src.at QY.src h wH (j := 1) rfl (by show _ = oC + (jn * 3 + 1); omega)) ?_
   refine EA h hw c0 c1 hs p1 p2 ?_
   have Nh : bT x (x.jW c.ch).1 := bT.jW
   clear h; intro R1 a1 M l1 QZ h
   generalize (x.jW c.ch).2.1 = n1 at k ⊢
   generalize (x.jW c.ch).2.2.1 = n2
   generalize (x.jW c.ch).2.2.2 = tb
   generalize (x.jW c.ch).1 = y at k QZ h Nh ⊢
   refine ⟨jZ a1 p y, rfl, n1, n2, tb, rfl, ?_⟩
   refine bk h rfl rfl rfl ?_
   clear h; intro M h
   refine ⟨by omega, by omega, aT ?_⟩
   refine aI h rfl ?_
   refine aj (Src.at (QY.le l1).src h wH (j := 2) rfl (by show _ = oC + (jn * 3 + 2); omega)) ?_
   refine fC h QZ (Nh.ok hg) (by rw [Nh.1]; omega) ⟨r0, r8⟩ ?_
   clear h; intro R2 a2 M l2 cv h
   refine ⟨_, _, _, _, _, _, _, _, _, _, _, _, _, _, rfl, ?_⟩
   refine bk h rfl rfl rfl ?_
   clear h; intro M h
   refine aI h rfl (az h ?_)
   refine fC h cv ((Nh.trans bT.bH).ok hg) (by rw [(Nh.trans bT.bH).1]; omega) hc ?_
   clear h; intro R3 a3 M l3 nJ h
   refine ⟨_, _, _, _, _, _, _, _, _, _, _, _, _, _, rfl, ?_⟩
   refine bk h rfl rfl rfl ?_
   clear h; intro M h
   refine aI h rfl ?_
   exact k _ _ _ (Mem.le_trans l1 (Mem.le_trans l2 l3)) nJ (h.sub bx)
end
abbrev tG : Nat := 111
section
variable {R : Mem} {L L' : List HP} {M : Mem} {K : Value → Mem → Prop} {Kp : List PanicEntry → Mem → Prop} {a : Al} {p : cy} {x : Wd} {g : Int} {i : bY} {d : Int}
def Wd.zO (x : Wd) (g : Int) (i : bY) : Wd := if 16 ≤ (aa x g).fs.length then x.iB (-4) else
 x.bp g { aa x g with fs := (aa x g).fs ++ [⟨i.a, 0, [aJ x g i.b, 0, 0, 0, 0, 0, 0, 0], i.c⟩] }
def Wd.EI (x : Wd) (g : Int) (i : bY) : Wd := if 2 ≤ (aa x g).fs.length then x.bp g { aa x g with fs := Cy (aa x g).fs (aJ x g i.a) }
 else if g = 0 then { x.mE g 4 .zero with end_ := 1 } else x.mE g 4 .zero
def Wd.y7 (x : Wd) (g : Int) (i : bY) : Wd :=
 if 0 < gx x g i then Wd.mE { x with hl := ia ⟨IntKind.wrap .u64 (x.clock + IntKind.wrap .u64 (gx x g i)), x.di, g⟩ x.hl, di := IntKind.wrap .u64 (x.di + 1) } g 3 .zero else x
def Wd.EJ (x : Wd) (g : Int) (i : bY) : Wd := if 1000 ≤ x.out.length then x.iB (-6) else { x with out := x.out ++ [aJ x g i.a] }
theorem JA (h : Hp R L M) (hw : eN R a p x) (hg : aW x g) (hs : x.Sm) (hop : i.op = 9) (hb : aR i.b)
  (k : ∀ R' a' M', R.le R' → eN R' a' p (x.zO g i) → Hp R' L M' → K (gD a' p (x.zO g i)) M') :
  ae Tryz.prog 113 #[gD a p x, .int .i64 g, .agg #[.int .i64 i.op, .int .i64 i.a, .int .i64 i.b, .int .i64 i.c], .int .i64 d] M K Kp := by
 refine bn ?_
 obtain ⟨rs, bu, dU⟩ := hw.gs
 obtain ⟨g0, g1, g2, g3⟩ := id hg
 have hn := hs.2.2.1
 have td := hs.2.1
 refine ai h ?_
 clear h
 intro q1 M h
 refine ai h ?_
 clear h
 intro q3 M h
 refine ai h ?_
 clear h
 intro q5 M h
 obtain ⟨⟨oZ, rA, rn, rc, Cw⟩, hr, e1, e2, e3, e4⟩ := dU.at (bN g0 g1)
 dsimp only at e1 e2 e3 e4
 subst e1; subst e2; subst e4
 obtain ⟨b, o, j5⟩ := bu.some (by rw [dU.1]; omega) (by decide)
 rw [j5] at bu
 obtain ⟨bf, of, sV⟩ := e3.some (by omega) (by decide)
 subst sV
 refine ax h ⟨g0, g1, bB j5 ?_⟩
 refine aj (Src.at bu.src h hr (j := 0) rfl (by simp [uU])) ?_
 refine br (Src.at bu.src h hr (j := 1) rfl rfl) ?_
 refine aj (Src.at bu.src h hr (j := 2) rfl rfl) ?_
 refine aj (Src.at bu.src h hr (j := 3) rfl rfl) ?_
 refine aj (Src.at bu.src h hr (j := 4) rfl rfl) ?_
 refine aj (Src.at bu.src h hr (j := 5) rfl rfl) ?_
 refine ai h ?_
 clear h
 intro y8 M h
 repeat (refine ak h ?_; clear h; intro M h)
 refine ax h (ax h ?_)
 dsimp only
 rw [cP g2 (by omega)]
 refine ⟨by omega, by omega, aT ?_⟩
 rw [Int.toNat_natCast]
 have ht := bS g2
 refine aj (Src.at e3.src h ht (j := 0) rfl rfl) ?_
 refine aj (Src.at e3.src h ht (j := 1) rfl rfl) ?_
 refine aj (Src.at e3.src h ht (j := 2) rfl rfl) ?_
 refine aj (Src.at e3.src h ht (j := 3) rfl rfl) ?_
 refine aj (Src.at e3.src h ht (j := 4) rfl rfl) ?_
 refine aj (Src.at e3.src h ht (j := 5) rfl rfl) ?_
 refine aj (Src.at e3.src h ht (j := 6) rfl rfl) ?_
 refine aj (Src.at e3.src h ht (j := 7) rfl rfl) ?_
 refine aj (Src.at e3.src h ht (j := 8) rfl rfl) ?_
 refine aj (Src.at e3.src h ht (j := 9) rfl rfl) ?_
 refine aj (Src.at e3.src h ht (j := 10) rfl rfl) ?_
 refine ai h ?_
 clear h
 intro xR M h
 repeat (refine ak h ?_; clear h; intro M h)
 replace h : Hp R (pt xR (gQ (aa x g).top) tF :: pt y8 [.int .i64 (aa x g).st, .slice (some ⟨bf, of, none⟩) (aa x g).fs.length rc, .int .i64 (aa x g).wt.op, .int .i64 (aa x g).wt.a, .int .i64 (aa x g).wt.b, .int .i64 (aa x g).wt.c] tG :: pt q5 gz tW :: pt q3 [.int .i64 i.op, .int .i64 i.a, .int .i64 i.b, .int .i64 i.c] tI :: pt q1 (jZ a p x) tW :: L) M := h.sub bx
 refine az h ?_
 refine bV (by simp [hop]) ?_
 refine ax h (az h (az h ⟨hb.1, hb.2, ?_⟩))
 refine aj (bP (j := 2 + i.b.toNat) h (dL hb.1 hb.2)) (az h ?_)
 unfold Wd.zO at k
 refine MZ (fs := (aa x g).fs) h e3 rfl (by omega) (fun hge => ?_) (fun hlt => ?_)
 ·rw [if_pos hge] at k
  refine ⟨_, _, _, _, rfl, bV rfl ?_⟩
  refine aI h rfl ?_
  refine gB h hw ?_
  clear h; intro M cv h
  refine ⟨_, _, _, _, _, _, _, _, _, _, _, _, _, _, rfl, ?_⟩
  refine bk h rfl rfl rfl ?_
  clear h; intro M h
  refine aI h rfl ?_
  exact k _ _ _ (Mem.le_refl R) cv (h.sub bx)
 ·rw [if_neg hlt] at k
  clear h; intro R1 A' c' M l1 r1 h
  refine ⟨_, _, _, _, rfl, aD rfl ?_⟩
  refine ak h ?_
  clear h
  intro M h
  refine aI h rfl (az h (ax h (az h (az h (az h (az h ?_))))))
  refine kC (r := ⟨(aa x g).st, A', _, c', (aa x g).wt⟩) (y := { aa x g with fs := (aa x g).fs ++ [⟨i.a, 0, [aJ x g i.b, 0, 0, 0, 0, 0, 0, 0], i.c⟩] }) h (hw.le l1) ⟨rfl, rfl, r1, rfl⟩ g0 g1 (by omega) ?_
  clear h; intro R2 a2 M l2 cv h
  refine ⟨_, _, _, _, _, _, _, _, _, _, _, _, _, _, rfl, ?_⟩
  refine bk h rfl rfl rfl ?_
  clear h; intro M h
  refine aI h rfl ?_
  exact k _ _ _ (Mem.le_trans l1 l2) cv (h.sub bx)
theorem GB (h : Hp R L M) (hw : eN R a p x) (hg : aW x g) (hs : x.Sm) (hop : i.op = 10) (hb : aR i.a) (hi : 2 ≤ (aa x g).fs.length → aR (Dz (aa x g).fs).mu)
  (k : ∀ R' a' M', R.le R' → eN R' a' p (x.EI g i) → Hp R' L M' → K (gD a' p (x.EI g i)) M') :
  ae Tryz.prog 113 #[gD a p x, .int .i64 g, .agg #[.int .i64 i.op, .int .i64 i.a, .int .i64 i.b, .int .i64 i.c], .int .i64 d] M K Kp := by
 refine bn ?_
 obtain ⟨rs, bu, dU⟩ := hw.gs
 obtain ⟨g0, g1, g2, g3⟩ := id hg
 have hn := hs.2.2.1
 have td := hs.2.1
 refine ai h ?_
 clear h
 intro q1 M h
 refine ai h ?_
 clear h
 intro q3 M h
 refine ai h ?_
 clear h
 intro q5 M h
 obtain ⟨⟨oZ, rA, rn, rc, Cw⟩, hr, e1, e2, e3, e4⟩ := dU.at (bN g0 g1)
 dsimp only at e1 e2 e3 e4
 subst e1; subst e2; subst e4
 obtain ⟨b, o, j5⟩ := bu.some (by rw [dU.1]; omega) (by decide)
 rw [j5] at bu
 obtain ⟨bf, of, sV⟩ := e3.some (by omega) (by decide)
 subst sV
 refine ax h ⟨g0, g1, bB j5 ?_⟩
 refine aj (Src.at bu.src h hr (j := 0) rfl (by simp [uU])) ?_
 refine br (Src.at bu.src h hr (j := 1) rfl rfl) ?_
 refine aj (Src.at bu.src h hr (j := 2) rfl rfl) ?_
 refine aj (Src.at bu.src h hr (j := 3) rfl rfl) ?_
 refine aj (Src.at bu.src h hr (j := 4) rfl rfl) ?_
 refine aj (Src.at bu.src h hr (j := 5) rfl rfl) ?_
 refine ai h ?_
 clear h
 intro y8 M h
 repeat (refine ak h ?_; clear h; intro M h)
 refine ax h (ax h ?_)
 dsimp only
 rw [cP g2 (by omega)]
 refine ⟨by omega, by omega, aT ?_⟩
 rw [Int.toNat_natCast]
 have ht := bS g2
 refine aj (Src.at e3.src h ht (j := 0) rfl rfl) ?_
 refine aj (Src.at e3.src h ht (j := 1) rfl rfl) ?_
 refine aj (Src.at e3.src h ht (j := 2) rfl rfl) ?_
 refine aj (Src.at e3.src h ht (j := 3) rfl rfl) ?_
 refine aj (Src.at e3.src h ht (j := 4) rfl rfl) ?_
 refine aj (Src.at e3.src h ht (j := 5) rfl rfl) ?_
 refine aj (Src.at e3.src h ht (j := 6) rfl rfl) ?_
 refine aj (Src.at e3.src h ht (j := 7) rfl rfl) ?_
 refine aj (Src.at e3.src h ht (j := 8) rfl rfl) ?_
 refine aj (Src.at e3.src h ht (j := 9) rfl rfl) ?_
 refine aj (Src.at e3.src h ht (j := 10) rfl rfl) ?_
 refine ai h ?_
 clear h
 intro xR M h
 repeat (refine ak h ?_; clear h; intro M h)
 replace h : Hp R (pt xR (gQ (aa x g).top) tF :: pt y8 [.int .i64 (aa x g).st, .slice (some ⟨bf, of, none⟩) (aa x g).fs.length rc, .int .i64 (aa x g).wt.op, .int .i64 (aa x g).wt.a, .int .i64 (aa x g).wt.b, .int .i64 (aa x g).wt.c] tG :: pt q5 gz tW :: pt q3 [.int .i64 i.op, .int .i64 i.a, .int .i64 i.b, .int .i64 i.c] tI :: pt q1 (jZ a p x) tW :: L) M := h.sub bx
 refine az h ?_
 refine aD (by simp [hop]) ?_
 refine bV (by simp [hop]) ?_
 refine ax h (az h ⟨hb.1, hb.2, ?_⟩)
 refine aj (bP (j := 2 + i.a.toNat) h (dL hb.1 hb.2)) ?_
 unfold Wd.EI at k
 refine Gy (fs := (aa x g).fs) h e3 rfl (by omega) hi (fun hlt => ?_) (fun hge => ?_)
 ·rw [if_neg hlt] at k
  refine ⟨_, _, _, _, rfl, aD rfl ?_⟩
  refine aI h rfl ?_
  refine gA (i := .zero) (s := 4) h hw g0 g1 (by omega) ?_
  clear h; intro R1 a1 M l1 mM h
  refine ⟨_, _, _, _, _, _, _, _, _, _, _, _, _, _, rfl, ?_⟩
  refine bk h rfl rfl rfl ?_
  clear h; intro M h
  refine bh.2 ⟨fun e0 => ?_, fun e0 => ?_⟩
  ·rw [if_pos e0] at k
   refine ak h ?_
   clear h
   intro M h
   refine aI h rfl ?_
   refine bk h rfl rfl rfl ?_
   clear h; intro M h
   refine aI h rfl ?_
   have hz : eN R1 a1 p { x.mE g 4 .zero with end_ := 1 } := ⟨mM.AO, mM.dB, mM.gs, mM.av, mM.aC, mM.hl, mM.out, mM.ready⟩
   exact k _ _ _ l1 hz (h.sub bx)
  ·rw [if_neg e0] at k
   refine aI h rfl ?_
   refine bk h rfl rfl rfl ?_
   clear h; intro M h
   refine aI h rfl ?_
   exact k _ _ _ l1 mM (h.sub bx)
 ·rw [if_pos hge] at k
  clear h; intro R1 A' c' M l1 r1 h
  refine ⟨_, _, _, _, rfl, bV rfl ?_⟩
  refine ak h ?_
  clear h
  intro M h
  refine aI h rfl (az h (ax h (az h (az h (az h (az h ?_))))))
  refine kC (r := ⟨(aa x g).st, A', _, c', (aa x g).wt⟩) (y := { aa x g with fs := Cy (aa x g).fs (aJ x g i.a) }) h (hw.le l1) ⟨rfl, rfl, r1, rfl⟩ g0 g1 (by omega) ?_
  clear h; intro R2 a2 M l2 cv h
  refine ⟨_, _, _, _, _, _, _, _, _, _, _, _, _, _, rfl, ?_⟩
  refine bk h rfl rfl rfl ?_
  clear h; intro M h
  refine aI h rfl ?_
  exact k _ _ _ (Mem.le_trans l1 l2) cv (h.sub bx)
theorem GC (h : Hp R L M) (hw : eN R a p x) (hg : aW x g) (hs : x.Sm) (hop : i.op = 15) (j0 : 0 ≤ i.a) (j1 : i.a < x.av.length)
  (ho : (aX x.av i.a).close.2.2.2 = 0 → tP p (x.bg i.a (aX x.av i.a).close.1) (aX x.av i.a).close.2.1) (hb : (aX x.av i.a).close.2.1.length ≤ 1000000)
  (k : ∀ R' a' M', R.le R' → eN R' a' p (x.zN p i.a) → Hp R' L M' → K (gD a' p (x.zN p i.a)) M') :
  ae Tryz.prog 113 #[gD a p x, .int .i64 g, .agg #[.int .i64 i.op, .int .i64 i.a, .int .i64 i.b, .int .i64 i.c], .int .i64 d] M K Kp := by
 refine bn ?_
 obtain ⟨rs, bu, dU⟩ := hw.gs
 obtain ⟨g0, g1, g2, g3⟩ := id hg
 have hn := hs.2.2.1
 have td := hs.2.1
 refine ai h ?_
 clear h
 intro q1 M h
 refine ai h ?_
 clear h
 intro q3 M h
 refine ai h ?_
 clear h
 intro q5 M h
 obtain ⟨⟨oZ, rA, rn, rc, Cw⟩, hr, e1, e2, e3, e4⟩ := dU.at (bN g0 g1)
 dsimp only at e1 e2 e3 e4
 subst e1; subst e2; subst e4
 obtain ⟨b, o, j5⟩ := bu.some (by rw [dU.1]; omega) (by decide)
 rw [j5] at bu
 obtain ⟨bf, of, sV⟩ := e3.some (by omega) (by decide)
 subst sV
 refine ax h ⟨g0, g1, bB j5 ?_⟩
 refine aj (Src.at bu.src h hr (j := 0) rfl (by simp [uU])) ?_
 refine br (Src.at bu.src h hr (j := 1) rfl rfl) ?_
 refine aj (Src.at bu.src h hr (j := 2) rfl rfl) ?_
 refine aj (Src.at bu.src h hr (j := 3) rfl rfl) ?_
 refine aj (Src.at bu.src h hr (j := 4) rfl rfl) ?_
 refine aj (Src.at bu.src h hr (j := 5) rfl rfl) ?_
 refine ai h ?_
 clear h
 intro y8 M h
 repeat (refine ak h ?_; clear h; intro M h)
 refine ax h (ax h ?_)
 dsimp only
 rw [cP g2 (by omega)]
 refine ⟨by omega, by omega, aT ?_⟩
 rw [Int.toNat_natCast]
 have ht := bS g2
 refine aj (Src.at e3.src h ht (j := 0) rfl rfl) ?_
 refine aj (Src.at e3.src h ht (j := 1) rfl rfl) ?_
 refine aj (Src.at e3.src h ht (j := 2) rfl rfl) ?_
 refine aj (Src.at e3.src h ht (j := 3) rfl rfl) ?_
 refine aj (Src.at e3.src h ht (j := 4) rfl rfl) ?_
 refine aj (Src.at e3.src h ht (j := 5) rfl rfl) ?_
 refine aj (Src.at e3.src h ht (j := 6) rfl rfl) ?_
 refine aj (Src.at e3.src h ht (j := 7) rfl rfl) ?_
 refine aj (Src.at e3.src h ht (j := 8) rfl rfl) ?_
 refine aj (Src.at e3.src h ht (j := 9) rfl rfl) ?_
 refine aj (Src.at e3.src h ht (j := 10) rfl rfl) ?_
 refine ai h ?_
 clear h
 intro xR M h
 repeat (refine ak h ?_; clear h; intro M h)
 replace h : Hp R (pt xR (gQ (aa x g).top) tF :: pt y8 [.int .i64 (aa x g).st, .slice (some ⟨bf, of, none⟩) (aa x g).fs.length rc, .int .i64 (aa x g).wt.op, .int .i64 (aa x g).wt.a, .int .i64 (aa x g).wt.b, .int .i64 (aa x g).wt.c] tG :: pt q5 gz tW :: pt q3 [.int .i64 i.op, .int .i64 i.a, .int .i64 i.b, .int .i64 i.c] tI :: pt q1 (jZ a p x) tW :: L) M := h.sub bx
 refine az h ?_
 refine aD (by simp [hop]) ?_
 refine aD (by simp [hop]) ?_
 refine aD (by simp [hop]) ?_
 refine aD (by simp [hop]) ?_
 refine aD (by simp [hop]) ?_
 refine bV (by simp [hop]) ?_
 refine aI h rfl (az h ?_)
 refine Ng h hw j0 j1 hs ho hb ?_
 clear h; intro R1 a1 M l1 mM h
 refine ⟨_, _, _, _, _, _, _, _, _, _, _, _, _, _, rfl, ?_⟩
 refine bk h rfl rfl rfl ?_
 clear h; intro M h
 refine aI h rfl ?_
 exact k _ _ _ l1 mM (h.sub bx)
theorem GD (h : Hp R L M) (hw : eN R a p x) (hg : aW x g) (hs : x.Sm) (hop : i.op = 16) (hk : ng p i) (hok : ∀ c ∈ aB p i, c.Ok x.av.length) (hc : aR i.c) (d0 : 0 ≤ d)
  (hput : ∀ c ∈ aB p i, c.way = 1 → EG p x c.ch (aJ x g c.bH)) (Du : ∀ c ∈ aB p i, c.way = 0 → EH x c.ch)
  (k : ∀ R' a' M', R.le R' → eN R' a' p (x.nt p g i d) → Hp R' L M' → K (gD a' p (x.nt p g i d)) M') :
  ae Tryz.prog 113 #[gD a p x, .int .i64 g, .agg #[.int .i64 i.op, .int .i64 i.a, .int .i64 i.b, .int .i64 i.c], .int .i64 d] M K Kp := by
 refine bn ?_
 obtain ⟨rs, bu, dU⟩ := hw.gs
 obtain ⟨g0, g1, g2, g3⟩ := id hg
 have hn := hs.2.2.1
 have td := hs.2.1
 refine ai h ?_
 clear h
 intro q1 M h
 refine ai h ?_
 clear h
 intro q3 M h
 refine ai h ?_
 clear h
 intro q5 M h
 obtain ⟨⟨oZ, rA, rn, rc, Cw⟩, hr, e1, e2, e3, e4⟩ := dU.at (bN g0 g1)
 dsimp only at e1 e2 e3 e4
 subst e1; subst e2; subst e4
 obtain ⟨b, o, j5⟩ := bu.some (by rw [dU.1]; omega) (by decide)
 rw [j5] at bu
 obtain ⟨bf, of, sV⟩ := e3.some (by omega) (by decide)
 subst sV
 refine ax h ⟨g0, g1, bB j5 ?_⟩
 refine aj (Src.at bu.src h hr (j := 0) rfl (by simp [uU])) ?_
 refine br (Src.at bu.src h hr (j := 1) rfl rfl) ?_
 refine aj (Src.at bu.src h hr (j := 2) rfl rfl) ?_
 refine aj (Src.at bu.src h hr (j := 3) rfl rfl) ?_
 refine aj (Src.at bu.src h hr (j := 4) rfl rfl) ?_
 refine aj (Src.at bu.src h hr (j := 5) rfl rfl) ?_
 refine ai h ?_
 clear h
 intro y8 M h
 repeat (refine ak h ?_; clear h; intro M h)
 refine ax h (ax h ?_)
 dsimp only
 rw [cP g2 (by omega)]
 refine ⟨by omega, by omega, aT ?_⟩
 rw [Int.toNat_natCast]
 have ht := bS g2
 refine aj (Src.at e3.src h ht (j := 0) rfl rfl) ?_
 refine aj (Src.at e3.src h ht (j := 1) rfl rfl) ?_
 refine aj (Src.at e3.src h ht (j := 2) rfl rfl) ?_
 refine aj (Src.at e3.src h ht (j := 3) rfl rfl) ?_
 refine aj (Src.at e3.src h ht (j := 4) rfl rfl) ?_
 refine aj (Src.at e3.src h ht (j := 5) rfl rfl) ?_
 refine aj (Src.at e3.src h ht (j := 6) rfl rfl) ?_
 refine aj (Src.at e3.src h ht (j := 7) rfl rfl) ?_
 refine aj (Src.at e3.src h ht (j := 8) rfl rfl) ?_
 refine aj (Src.at e3.src h ht (j := 9) rfl rfl) ?_
 refine aj (Src.at e3.src h ht (j := 10) rfl rfl) ?_
 refine ai h ?_
 clear h
 intro xR M h
 repeat (refine ak h ?_; clear h; intro M h)
 replace h : Hp R (pt xR (gQ (aa x g).top) tF :: pt y8 [.int .i64 (aa x g).st, .slice (some ⟨bf, of, none⟩) (aa x g).fs.length rc, .int .i64 (aa x g).wt.op, .int .i64 (aa x g).wt.a, .int .i64 (aa x g).wt.b, .int .i64 (aa x g).wt.c] tG :: pt q5 gz tW :: pt q3 [.int .i64 i.op, .int .i64 i.a, .int .i64 i.b, .int .i64 i.c] tI :: pt q1 (jZ a p x) tW :: L) M := h.sub bx
 refine az h ?_
 refine aD (by simp [hop]) ?_
 refine aD (by simp [hop]) ?_
 refine aD (by simp [hop]) ?_
 refine aD (by simp [hop]) ?_
 refine aD (by simp [hop]) ?_
 refine aD (by simp [hop]) ?_
 refine bV (by simp [hop]) ?_
 refine aI h rfl (az h (az h (az h (az h ?_))))
 refine Gz (i := i) h hw hg hs hk hok hc d0 hput Du ?_
 clear h; intro R1 a1 M l1 mM h
 refine ⟨_, _, _, _, _, _, _, _, _, _, _, _, _, _, rfl, ?_⟩
 refine bk h rfl rfl rfl ?_
 clear h; intro M h
 refine aI h rfl ?_
 exact k _ _ _ l1 mM (h.sub bx)
theorem GF (h : Hp R L M) (hw : eN R a p x) (hg : aW x g) (hs : x.Sm) (hop : i.op = 17) (hb : aR i.a)
  (k : ∀ R' a' M', R.le R' → eN R' a' p (x.y7 g i) → Hp R' L M' → K (gD a' p (x.y7 g i)) M') :
  ae Tryz.prog 113 #[gD a p x, .int .i64 g, .agg #[.int .i64 i.op, .int .i64 i.a, .int .i64 i.b, .int .i64 i.c], .int .i64 d] M K Kp := by
 refine bn ?_
 obtain ⟨rs, bu, dU⟩ := hw.gs
 obtain ⟨g0, g1, g2, g3⟩ := id hg
 have hn := hs.2.2.1
 have td := hs.2.1
 refine ai h ?_
 clear h
 intro q1 M h
 refine ai h ?_
 clear h
 intro q3 M h
 refine ai h ?_
 clear h
 intro q5 M h
 obtain ⟨⟨oZ, rA, rn, rc, Cw⟩, hr, e1, e2, e3, e4⟩ := dU.at (bN g0 g1)
 dsimp only at e1 e2 e3 e4
 subst e1; subst e2; subst e4
 obtain ⟨b, o, j5⟩ := bu.some (by rw [dU.1]; omega) (by decide)
 rw [j5] at bu
 obtain ⟨bf, of, sV⟩ := e3.some (by omega) (by decide)
 subst sV
 refine ax h ⟨g0, g1, bB j5 ?_⟩
 refine aj (Src.at bu.src h hr (j := 0) rfl (by simp [uU])) ?_
 refine br (Src.at bu.src h hr (j := 1) rfl rfl) ?_
 refine aj (Src.at bu.src h hr (j := 2) rfl rfl) ?_
 refine aj (Src.at bu.src h hr (j := 3) rfl rfl) ?_
 refine aj (Src.at bu.src h hr (j := 4) rfl rfl) ?_
 refine aj (Src.at bu.src h hr (j := 5) rfl rfl) ?_
 refine ai h ?_
 clear h
 intro y8 M h
 repeat (refine ak h ?_; clear h; intro M h)
 refine ax h (ax h ?_)
 dsimp only
 rw [cP g2 (by omega)]
 refine ⟨by omega, by omega, aT ?_⟩
 rw [Int.toNat_natCast]
 have ht := bS g2
 refine aj (Src.at e3.src h ht (j := 0) rfl rfl) ?_
 refine aj (Src.at e3.src h ht (j := 1) rfl rfl) ?_
 refine aj (Src.at e3.src h ht (j := 2) rfl rfl) ?_
 refine aj (Src.at e3.src h ht (j := 3) rfl rfl) ?_
 refine aj (Src.at e3.src h ht (j := 4) rfl rfl) ?_
 refine aj (Src.at e3.src h ht (j := 5) rfl rfl) ?_
 refine aj (Src.at e3.src h ht (j := 6) rfl rfl) ?_
 refine aj (Src.at e3.src h ht (j := 7) rfl rfl) ?_
 refine aj (Src.at e3.src h ht (j := 8) rfl rfl) ?_
 refine aj (Src.at e3.src h ht (j := 9) rfl rfl) ?_
 refine aj (Src.at e3.src h ht (j := 10) rfl rfl) ?_
 refine ai h ?_
 clear h
 intro xR M h
 repeat (refine ak h ?_; clear h; intro M h)
 replace h : Hp R (pt xR (gQ (aa x g).top) tF :: pt y8 [.int .i64 (aa x g).st, .slice (some ⟨bf, of, none⟩) (aa x g).fs.length rc, .int .i64 (aa x g).wt.op, .int .i64 (aa x g).wt.a, .int .i64 (aa x g).wt.b, .int .i64 (aa x g).wt.c] tG :: pt q5 gz tW :: pt q3 [.int .i64 i.op, .int .i64 i.a, .int .i64 i.b, .int .i64 i.c] tI :: pt q1 (jZ a p x) tW :: L) M := h.sub bx
 refine az h ?_
 refine aD (by simp [hop]) ?_
 refine aD (by simp [hop]) ?_
 refine aD (by simp [hop]) ?_
 refine aD (by simp [hop]) ?_
 refine aD (by simp [hop]) ?_
 refine aD (by simp [hop]) ?_
 refine aD (by simp [hop]) ?_
 refine bV (by simp [hop]) ?_
 refine az h ⟨hb.1, hb.2, ?_⟩
 refine aj (bP (j := 2 + i.a.toNat) h (dL hb.1 hb.2)) ?_
 unfold Wd.y7 at k
 have es : (if (1048576 : Int) < (aa x g).top.bH i.a then 1048576 else (aa x g).top.bH i.a) = gx x g i := rfl
 rw [es]
 refine aH.2 ⟨fun hp => ?_, fun hp => ?_⟩
 ·rw [if_pos hp] at k
  refine ax h (az h (az h ?_))
  refine Nc h hw.hl rfl (by have := hs.2.2.2.2.2.2.2; omega) ?_
  clear h; intro R1 A' c' M l1 r1 h
  refine ⟨_, _, _, _, rfl, ?_⟩
  repeat (refine ak h ?_; clear h; intro M h)
  generalize AH : ({ x with hl := ia ⟨IntKind.wrap .u64 (x.clock + IntKind.wrap .u64 (gx x g i)), x.di, g⟩ x.hl, di := IntKind.wrap .u64 (x.di + 1) } : Wd) = x1 at k
  have mM : eN R1 { a with ah := A', ch := c' } p x1 := by
   subst AH
   have cv := hw.le l1
   exact ⟨cv.AO, cv.dB, cv.gs, cv.av, cv.aC, r1, cv.out, cv.ready⟩
  have h2 : Hp R1 (pt q1 (jZ { a with ah := A', ch := c' } p x1) tW :: pt q5 gz tW :: L) M := by subst AH; exact h.sub bx
  have Oj : x1.gs.length = x.gs.length := by subst AH; rfl
  clear h
  refine aI h2 rfl ?_
  refine gA (i := .zero) (s := 3) h2 mM g0 (by rw [Oj]; exact g1) (by rw [Oj]; omega) ?_
  clear h2; intro R2 a2 M l2 cv h
  refine ⟨_, _, _, _, _, _, _, _, _, _, _, _, _, _, rfl, ?_⟩
  refine bk h rfl rfl rfl ?_
  clear h; intro M h
  refine aI h rfl ?_
  exact k _ _ _ (Mem.le_trans l1 l2) cv (h.sub bx)
 ·rw [if_neg hp] at k
  refine aI h rfl ?_
  refine bk h rfl rfl rfl ?_
  clear h; intro M h
  refine aI h rfl ?_
  exact k _ _ _ (Mem.le_refl R) hw (h.sub bx)
theorem GG (h : Hp R L M) (hw : eN R a p x) (hg : aW x g) (hs : x.Sm) (hop : i.op = 20) (hb : aR i.a)
  (k : ∀ R' a' M', R.le R' → eN R' a' p (x.EJ g i) → Hp R' L M' → K (gD a' p (x.EJ g i)) M') :
  ae Tryz.prog 113 #[gD a p x, .int .i64 g, .agg #[.int .i64 i.op, .int .i64 i.a, .int .i64 i.b, .int .i64 i.c], .int .i64 d] M K Kp := by
 refine bn ?_
 obtain ⟨rs, bu, dU⟩ := hw.gs
 obtain ⟨g0, g1, g2, g3⟩ := id hg
 have hn := hs.2.2.1
 have td := hs.2.1
 refine ai h ?_
 clear h
 intro q1 M h
 refine ai h ?_
 clear h
 intro q3 M h
 refine ai h ?_
 clear h
 intro q5 M h
 obtain ⟨⟨oZ, rA, rn, rc, Cw⟩, hr, e1, e2, e3, e4⟩ := dU.at (bN g0 g1)
 dsimp only at e1 e2 e3 e4
 subst e1; subst e2; subst e4
 obtain ⟨b, o, j5⟩ := bu.some (by rw [dU.1]; omega) (by decide)
 rw [j5] at bu
 obtain ⟨bf, of, sV⟩ := e3.some (by omega) (by decide)
 subst sV
 refine ax h ⟨g0, g1, bB j5 ?_⟩
 refine aj (Src.at bu.src h hr (j := 0) rfl (by simp [uU])) ?_
 refine br (Src.at bu.src h hr (j := 1) rfl rfl) ?_
 refine aj (Src.at bu.src h hr (j := 2) rfl rfl) ?_
 refine aj (Src.at bu.src h hr (j := 3) rfl rfl) ?_
 refine aj (Src.at bu.src h hr (j := 4) rfl rfl) ?_
 refine aj (Src.at bu.src h hr (j := 5) rfl rfl) ?_
 refine ai h ?_
 clear h
 intro y8 M h
 repeat (refine ak h ?_; clear h; intro M h)
 refine ax h (ax h ?_)
 dsimp only
 rw [cP g2 (by omega)]
 refine ⟨by omega, by omega, aT ?_⟩
 rw [Int.toNat_natCast]
 have ht := bS g2
 refine aj (Src.at e3.src h ht (j := 0) rfl rfl) ?_
 refine aj (Src.at e3.src h ht (j := 1) rfl rfl) ?_
 refine aj (Src.at e3.src h ht (j := 2) rfl rfl) ?_
 refine aj (Src.at e3.src h ht (j := 3) rfl rfl) ?_
 refine aj (Src.at e3.src h ht (j := 4) rfl rfl) ?_
 refine aj (Src.at e3.src h ht (j := 5) rfl rfl) ?_
 refine aj (Src.at e3.src h ht (j := 6) rfl rfl) ?_
 refine aj (Src.at e3.src h ht (j := 7) rfl rfl) ?_
 refine aj (Src.at e3.src h ht (j := 8) rfl rfl) ?_
 refine aj (Src.at e3.src h ht (j := 9) rfl rfl) ?_
 refine aj (Src.at e3.src h ht (j := 10) rfl rfl) ?_
 refine ai h ?_
 clear h
 intro xR M h
 repeat (refine ak h ?_; clear h; intro M h)
 replace h : Hp R (pt xR (gQ (aa x g).top) tF :: pt y8 [.int .i64 (aa x g).st, .slice (some ⟨bf, of, none⟩) (aa x g).fs.length rc, .int .i64 (aa x g).wt.op, .int .i64 (aa x g).wt.a, .int .i64 (aa x g).wt.b, .int .i64 (aa x g).wt.c] tG :: pt q5 gz tW :: pt q3 [.int .i64 i.op, .int .i64 i.a, .int .i64 i.b, .int .i64 i.c] tI :: pt q1 (jZ a p x) tW :: L) M := h.sub bx
 refine az h ?_
 refine aD (by simp [hop]) ?_
 refine aD (by simp [hop]) ?_
 refine aD (by simp [hop]) ?_
 refine aD (by simp [hop]) ?_
 refine aD (by simp [hop]) ?_
 refine aD (by simp [hop]) ?_
 refine aD (by simp [hop]) ?_
 refine aD (by simp [hop]) ?_
 refine aD (by simp [hop]) ?_
 refine aD (by simp [hop]) ?_
 refine bV (by simp [hop]) ?_
 unfold Wd.EJ at k
 refine ax h ?_
 refine aH.2 ⟨fun hp => ?_, fun hp => ?_⟩
 ·rw [if_pos (by omega)] at k
  refine aI h rfl ?_
  refine gB h hw ?_
  clear h; intro M cv h
  refine ⟨_, _, _, _, _, _, _, _, _, _, _, _, _, _, rfl, ?_⟩
  refine bk h rfl rfl rfl ?_
  clear h; intro M h
  refine aI h rfl ?_
  exact k _ _ _ (Mem.le_refl R) cv (h.sub bx)
 ·rw [if_neg (by omega)] at k
  refine ax h (az h ⟨hb.1, hb.2, ?_⟩)
  refine aj (bP (j := 2 + i.a.toNat) h (dL hb.1 hb.2)) ?_
  refine ai h ?_
  clear h
  intro q75 M h
  refine ⟨trivial, ?_⟩
  refine h.b6 bR lp x.out hw.out.src rfl (by omega) ?_
  clear h; intro A' c' M h
  refine aU ⟨bP (j := 2 + i.a.toNat) h (dL hb.1 hb.2), cw h, ?_⟩
  refine ai h ?_
  clear h
  intro q82 M h
  refine h.aZ (A := A') lp [aJ x g i.a] rfl rfl (by simp; omega) ?_
  clear h; intro A2 c2 M h
  refine aU ⟨bP (j := 2 + i.a.toNat) h (dL hb.1 hb.2), cw h, ?_⟩
  refine ak h ?_
  clear h
  intro M h
  refine ⟨bP (j := 2 + i.a.toNat) h (dL hb.1 hb.2), cw h, ?_⟩
  obtain ⟨R2, l2, r2, h2⟩ := h.bz A2
  clear h
  refine aI h2 rfl ?_
  refine bk h2 rfl rfl rfl ?_
  clear h2; intro M h
  refine aI h rfl ?_
  have cv := hw.le l2
  have hz : eN R2 { a with ao := A2, co := c2 } p { x with out := x.out ++ [aJ x g i.a] } := ⟨cv.AO, cv.dB, cv.gs, cv.av, cv.aC, cv.hl, r2, cv.ready⟩
  exact k _ _ _ l2 hz (h.sub bx)
theorem GH (h : Hp R L M) (hw : eN R a p x) (hg : aW x g) (hs : x.Sm) (hop : i.op = 21) (hb : aR i.a) (hn0 : i.b ≠ 0)
  (k : ∀ R' a' M', R.le R' → eN R' a' p (x.aV g i.a (d.tmod i.b)) → Hp R' L M' → K (gD a' p (x.aV g i.a (d.tmod i.b))) M') :
  ae Tryz.prog 113 #[gD a p x, .int .i64 g, .agg #[.int .i64 i.op, .int .i64 i.a, .int .i64 i.b, .int .i64 i.c], .int .i64 d] M K Kp := by
 refine bn ?_
 obtain ⟨rs, bu, dU⟩ := hw.gs
 obtain ⟨g0, g1, g2, g3⟩ := id hg
 have hn := hs.2.2.1
 have td := hs.2.1
 refine ai h ?_
 clear h
 intro q1 M h
 refine ai h ?_
 clear h
 intro q3 M h
 refine ai h ?_
 clear h
 intro q5 M h
 obtain ⟨⟨oZ, rA, rn, rc, Cw⟩, hr, e1, e2, e3, e4⟩ := dU.at (bN g0 g1)
 dsimp only at e1 e2 e3 e4
 subst e1; subst e2; subst e4
 obtain ⟨b, o, j5⟩ := bu.some (by rw [dU.1]; omega) (by decide)
 rw [j5] at bu
 obtain ⟨bf, of, sV⟩ := e3.some (by omega) (by decide)
 subst sV
 refine ax h ⟨g0, g1, bB j5 ?_⟩
 refine aj (Src.at bu.src h hr (j := 0) rfl (by simp [uU])) ?_
 refine br (Src.at bu.src h hr (j := 1) rfl rfl) ?_
 refine aj (Src.at bu.src h hr (j := 2) rfl rfl) ?_
 refine aj (Src.at bu.src h hr (j := 3) rfl rfl) ?_
 refine aj (Src.at bu.src h hr (j := 4) rfl rfl) ?_
 refine aj (Src.at bu.src h hr (j := 5) rfl rfl) ?_
 refine ai h ?_
 clear h
 intro y8 M h
 repeat (refine ak h ?_; clear h; intro M h)
 refine ax h (ax h ?_)
 dsimp only
 rw [cP g2 (by omega)]
 refine ⟨by omega, by omega, aT ?_⟩
 rw [Int.toNat_natCast]
 have ht := bS g2
 refine aj (Src.at e3.src h ht (j := 0) rfl rfl) ?_
 refine aj (Src.at e3.src h ht (j := 1) rfl rfl) ?_
 refine aj (Src.at e3.src h ht (j := 2) rfl rfl) ?_
 refine aj (Src.at e3.src h ht (j := 3) rfl rfl) ?_
 refine aj (Src.at e3.src h ht (j := 4) rfl rfl) ?_
 refine aj (Src.at e3.src h ht (j := 5) rfl rfl) ?_
 refine aj (Src.at e3.src h ht (j := 6) rfl rfl) ?_
 refine aj (Src.at e3.src h ht (j := 7) rfl rfl) ?_
 refine aj (Src.at e3.src h ht (j := 8) rfl rfl) ?_
 refine aj (Src.at e3.src h ht (j := 9) rfl rfl) ?_
 refine aj (Src.at e3.src h ht (j := 10) rfl rfl) ?_
 refine ai h ?_
 clear h
 intro xR M h
 repeat (refine ak h ?_; clear h; intro M h)
 replace h : Hp R (pt xR (gQ (aa x g).top) tF :: pt y8 [.int .i64 (aa x g).st, .slice (some ⟨bf, of, none⟩) (aa x g).fs.length rc, .int .i64 (aa x g).wt.op, .int .i64 (aa x g).wt.a, .int .i64 (aa x g).wt.b, .int .i64 (aa x g).wt.c] tG :: pt q5 gz tW :: pt q3 [.int .i64 i.op, .int .i64 i.a, .int .i64 i.b, .int .i64 i.c] tI :: pt q1 (jZ a p x) tW :: L) M := h.sub bx
 refine az h ?_
 refine aD (by simp [hop]) ?_
 refine aD (by simp [hop]) ?_
 refine aD (by simp [hop]) ?_
 refine aD (by simp [hop]) ?_
 refine aD (by simp [hop]) ?_
 refine aD (by simp [hop]) ?_
 refine aD (by simp [hop]) ?_
 refine aD (by simp [hop]) ?_
 refine aD (by simp [hop]) ?_
 refine aD (by simp [hop]) ?_
 refine aD (by simp [hop]) ?_
 refine bV (by simp [hop]) ?_
 refine aI h rfl (az h (az h ⟨hn0, ?_⟩))
 refine fC h hw hg (by omega) hb ?_
 clear h; intro R1 a1 M l1 mM h
 refine ⟨_, _, _, _, _, _, _, _, _, _, _, _, _, _, rfl, ?_⟩
 refine bk h rfl rfl rfl ?_
 clear h; intro M h
 refine aI h rfl ?_
 exact k _ _ _ l1 mM (h.sub bx)
theorem GI (h : Hp R L M) (hw : eN R a p x) (hg : aW x g) (hs : x.Sm) (hop : i.op = 22)
  (k : ∀ R' a' M', R.le R' → eN R' a' p (x.iB i.a) → Hp R' L M' → K (gD a' p (x.iB i.a)) M') :
  ae Tryz.prog 113 #[gD a p x, .int .i64 g, .agg #[.int .i64 i.op, .int .i64 i.a, .int .i64 i.b, .int .i64 i.c], .int .i64 d] M K Kp := by
 refine bn ?_
 obtain ⟨rs, bu, dU⟩ := hw.gs
 obtain ⟨g0, g1, g2, g3⟩ := id hg
 have hn := hs.2.2.1
 have td := hs.2.1
 refine ai h ?_
 clear h
 intro q1 M h
 refine ai h ?_
 clear h
 intro q3 M h
 refine ai h ?_
 clear h
 intro q5 M h
 obtain ⟨⟨oZ, rA, rn, rc, Cw⟩, hr, e1, e2, e3, e4⟩ := dU.at (bN g0 g1)
 dsimp only at e1 e2 e3 e4
 subst e1; subst e2; subst e4
 obtain ⟨b, o, j5⟩ := bu.some (by rw [dU.1]; omega) (by decide)
 rw [j5] at bu
 obtain ⟨bf, of, sV⟩ := e3.some (by omega) (by decide)
 subst sV
 refine ax h ⟨g0, g1, bB j5 ?_⟩
 refine aj (Src.at bu.src h hr (j := 0) rfl (by simp [uU])) ?_
 refine br (Src.at bu.src h hr (j := 1) rfl rfl) ?_
 refine aj (Src.at bu.src h hr (j := 2) rfl rfl) ?_
 refine aj (Src.at bu.src h hr (j := 3) rfl rfl) ?_
 refine aj (Src.at bu.src h hr (j := 4) rfl rfl) ?_
 refine aj (Src.at bu.src h hr (j := 5) rfl rfl) ?_
 refine ai h ?_
 clear h
 intro y8 M h
 repeat (refine ak h ?_; clear h; intro M h)
 refine ax h (ax h ?_)
 dsimp only
 rw [cP g2 (by omega)]
 refine ⟨by omega, by omega, aT ?_⟩
 rw [Int.toNat_natCast]
 have ht := bS g2
 refine aj (Src.at e3.src h ht (j := 0) rfl rfl) ?_
 refine aj (Src.at e3.src h ht (j := 1) rfl rfl) ?_
 refine aj (Src.at e3.src h ht (j := 2) rfl rfl) ?_
 refine aj (Src.at e3.src h ht (j := 3) rfl rfl) ?_
 refine aj (Src.at e3.src h ht (j := 4) rfl rfl) ?_
 refine aj (Src.at e3.src h ht (j := 5) rfl rfl) ?_
 refine aj (Src.at e3.src h ht (j := 6) rfl rfl) ?_
 refine aj (Src.at e3.src h ht (j := 7) rfl rfl) ?_
 refine aj (Src.at e3.src h ht (j := 8) rfl rfl) ?_
 refine aj (Src.at e3.src h ht (j := 9) rfl rfl) ?_
 refine aj (Src.at e3.src h ht (j := 10) rfl rfl) ?_
 refine ai h ?_
 clear h
 intro xR M h
 repeat (refine ak h ?_; clear h; intro M h)
 replace h : Hp R (pt xR (gQ (aa x g).top) tF :: pt y8 [.int .i64 (aa x g).st, .slice (some ⟨bf, of, none⟩) (aa x g).fs.length rc, .int .i64 (aa x g).wt.op, .int .i64 (aa x g).wt.a, .int .i64 (aa x g).wt.b, .int .i64 (aa x g).wt.c] tG :: pt q5 gz tW :: pt q3 [.int .i64 i.op, .int .i64 i.a, .int .i64 i.b, .int .i64 i.c] tI :: pt q1 (jZ a p x) tW :: L) M := h.sub bx
 refine az h ?_
 refine aD (by simp [hop]) ?_
 refine aD (by simp [hop]) ?_
 refine aD (by simp [hop]) ?_
 refine aD (by simp [hop]) ?_
 refine aD (by simp [hop]) ?_
 refine aD (by simp [hop]) ?_
 refine aD (by simp [hop]) ?_
 refine aD (by simp [hop]) ?_
 refine aD (by simp [hop]) ?_
 refine aD (by simp [hop]) ?_
 refine aD (by simp [hop]) ?_
 refine aD (by simp [hop]) ?_
 refine bV (by simp [hop]) ?_
 refine aI h rfl (az h ?_)
 refine gB h hw ?_
 clear h; intro M mM h
 refine ⟨_, _, _, _, _, _, _, _, _, _, _, _, _, _, rfl, ?_⟩
 refine bk h rfl rfl rfl ?_
 clear h; intro M h
 refine aI h rfl ?_
 exact k _ _ _ (Mem.le_refl R) mM (h.sub bx)
theorem JB (h : Hp R L M) (hw : eN R a p x) (hg : aW x g) (hs : x.Sm) (hop : i.op < 9 ∨ i.op = 12 ∨ 22 < i.op)
  (k : ∀ R' a' M', R.le R' → eN R' a' p x → Hp R' L M' → K (gD a' p x) M') :
  ae Tryz.prog 113 #[gD a p x, .int .i64 g, .agg #[.int .i64 i.op, .int .i64 i.a, .int .i64 i.b, .int .i64 i.c], .int .i64 d] M K Kp := by
 refine bn ?_
 obtain ⟨rs, bu, dU⟩ := hw.gs
 obtain ⟨g0, g1, g2, g3⟩ := id hg
 have hn := hs.2.2.1
 have td := hs.2.1
 refine ai h ?_
 clear h
 intro q1 M h
 refine ai h ?_
 clear h
 intro q3 M h
 refine ai h ?_
 clear h
 intro q5 M h
 obtain ⟨⟨oZ, rA, rn, rc, Cw⟩, hr, e1, e2, e3, e4⟩ := dU.at (bN g0 g1)
 dsimp only at e1 e2 e3 e4
 subst e1; subst e2; subst e4
 obtain ⟨b, o, j5⟩ := bu.some (by rw [dU.1]; omega) (by decide)
 rw [j5] at bu
 obtain ⟨bf, of, sV⟩ := e3.some (by omega) (by decide)
 subst sV
 refine ax h ⟨g0, g1, bB j5 ?_⟩
 refine aj (Src.at bu.src h hr (j := 0) rfl (by simp [uU])) ?_
 refine br (Src.at bu.src h hr (j := 1) rfl rfl) ?_
 refine aj (Src.at bu.src h hr (j := 2) rfl rfl) ?_
 refine aj (Src.at bu.src h hr (j := 3) rfl rfl) ?_
 refine aj (Src.at bu.src h hr (j := 4) rfl rfl) ?_
 refine aj (Src.at bu.src h hr (j := 5) rfl rfl) ?_
 refine ai h ?_
 clear h
 intro y8 M h
 repeat (refine ak h ?_; clear h; intro M h)
 refine ax h (ax h ?_)
 dsimp only
 rw [cP g2 (by omega)]
 refine ⟨by omega, by omega, aT ?_⟩
 rw [Int.toNat_natCast]
 have ht := bS g2
 refine aj (Src.at e3.src h ht (j := 0) rfl rfl) ?_
 refine aj (Src.at e3.src h ht (j := 1) rfl rfl) ?_
 refine aj (Src.at e3.src h ht (j := 2) rfl rfl) ?_
 refine aj (Src.at e3.src h ht (j := 3) rfl rfl) ?_
 refine aj (Src.at e3.src h ht (j := 4) rfl rfl) ?_
 refine aj (Src.at e3.src h ht (j := 5) rfl rfl) ?_
 refine aj (Src.at e3.src h ht (j := 6) rfl rfl) ?_
 refine aj (Src.at e3.src h ht (j := 7) rfl rfl) ?_
 refine aj (Src.at e3.src h ht (j := 8) rfl rfl) ?_
 refine aj (Src.at e3.src h ht (j := 9) rfl rfl) ?_
 refine aj (Src.at e3.src h ht (j := 10) rfl rfl) ?_
 refine ai h ?_
 clear h
 intro xR M h
 repeat (refine ak h ?_; clear h; intro M h)
 replace h : Hp R (pt xR (gQ (aa x g).top) tF :: pt y8 [.int .i64 (aa x g).st, .slice (some ⟨bf, of, none⟩) (aa x g).fs.length rc, .int .i64 (aa x g).wt.op, .int .i64 (aa x g).wt.a, .int .i64 (aa x g).wt.b, .int .i64 (aa x g).wt.c] tG :: pt q5 gz tW :: pt q3 [.int .i64 i.op, .int .i64 i.a, .int .i64 i.b, .int .i64 i.c] tI :: pt q1 (jZ a p x) tW :: L) M := h.sub bx
 refine az h ?_
 refine aD (by simp; omega) ?_
 refine aD (by simp; omega) ?_
 refine aD (by simp; omega) ?_
 refine aD (by simp; omega) ?_
 refine aD (by simp; omega) ?_
 refine aD (by simp; omega) ?_
 refine aD (by simp; omega) ?_
 refine aD (by simp; omega) ?_
 refine aD (by simp; omega) ?_
 refine aD (by simp; omega) ?_
 refine aD (by simp; omega) ?_
 refine aD (by simp; omega) ?_
 refine aD (by simp; omega) ?_
 refine aI h rfl ?_
 refine bk h rfl rfl rfl ?_
 clear h; intro M h
 refine aI h rfl ?_
 exact k _ _ _ (Mem.le_refl R) hw (h.sub bx)
end
end Go.Proofs
