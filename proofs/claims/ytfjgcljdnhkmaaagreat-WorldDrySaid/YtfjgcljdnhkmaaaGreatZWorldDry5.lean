/- A part of proofs about one program. -/
import Derived.Test.YtfjgcljdnhkmaaaGreatZWorldDry4
set_option linter.unusedVariables false
namespace Go.Proofs
open Go.AF
set_option maxRecDepth 100000
set_option maxHeartbeats 1000000
attribute [local irreducible] bG dF ff dP aF fa aE b7 aO bk bJ aM
structure Prc where
 q : Loc
 turns : Int
 by_ : Int
structure Mch where
 p : Int
 g : Int
 left : Int
 deriving DecidableEq
structure Cfg where
 P : Int
 M : Int
 R : Int
 S : Int
structure Sc where
 w : Wd
 c : Cfg
 ps : List Prc
 ms : List Mch
 gl : List Int
 d : VL
 steps : Int
structure Ev where
 kind : Int
 m : Int
 g : Int
 ready : List Int
def procE : jP (Nat × Int × Int) := ⟨3, fun w => [.pointer (some ⟨w.1, 0, none⟩), .int .i64 w.2.1, .int .i64 w.2.2], fun _ => rfl, fun w v hv => by
 simp only [List.mem_cons, List.not_mem_nil, or_false] at hv; obtain rfl | rfl | rfl := hv <;> rfl⟩
def machE : jP Mch := ⟨3, fun w => [.int .i64 w.p, .int .i64 w.g, .int .i64 w.left], fun _ => rfl, fun w v hv => by
 simp only [List.mem_cons, List.not_mem_nil, or_false] at hv; obtain rfl | rfl | rfl := hv <;> rfl⟩
def prow (bs : List Nat) (ps : List Prc) : List (Nat × Int × Int) := List.zipWith (fun b (p : Prc) => (b, p.turns, p.by_)) bs ps
def jF (x : Sc) (m : Int) : Mch := x.ms.getD m.toNat ⟨-1, -1, 0⟩
def mL (x : Sc) (i : Int) : Prc := x.ps.getD i.toNat ⟨⟨-1, 0, []⟩, 0, -1⟩
def Sc.Q1 (x : Sc) (m : Int) (y : Mch) : Sc := { x with ms := x.ms.set m.toNat y }
def Sc.JS (x : Sc) (i : Int) (y : Prc) : Sc := { x with ps := x.ps.set i.toNat y }
structure SA where
 ap : Option Addr
 cp : Nat
 lb : List Nat
 am : Option Addr
 cm : Nat
abbrev rowPr (A : Option Addr) (c : Nat) (l : List (Nat × Int × Int)) : HP := cw procE 141 A c l
abbrev rowMc (A : Option Addr) (c : Nat) (l : List Mch) : HP := cw machE 143 A c l
abbrev YU (wb db : Nat) (a : SA) (x : Sc) (A : Option Addr) (n c : Nat) : List Value :=
 [.pointer (some ⟨wb, 0, none⟩), .int .i64 x.c.P, .int .i64 x.c.M, .int .i64 x.c.R, .int .i64 x.c.S, .slice a.ap x.ps.length a.cp, .slice a.am x.ms.length a.cm, .slice A n c, .pointer (some ⟨db, 0, none⟩), .int .i64 x.steps]
abbrev scG (b wb db : Nat) (a : SA) (x : Sc) : Option Addr → Nat → Nat → HP := fun A n c => pt b (YU wb db a x A n c) 137
abbrev scRest (a : SA) (x : Sc) (L : List HP) : List HP := rowPr a.ap a.cp (prow a.lb x.ps) :: cN locR a.lb (x.ps.map Prc.q) :: rowMc a.am a.cm x.ms :: L
def schR (pa : PA) (p : cy) (wb db : Nat) : xT Sc := ⟨fun b x => exs fun a : SA =>
 sep (glP (scG b wb db a x) x.gl :: bj (cq pa p) wb x.w :: bj (souR .nilFunc) db x.d :: fact (a.lb.length = x.ps.length) :: scRest a x [])⟩
class VN (b : Nat) (L : List HP) (pa : outParam PA) (p : outParam cy) (wb db : outParam Nat) (x : outParam Sc) (L' : outParam (List HP)) : Prop where
 pick : eA L (bj (schR pa p wb db) b x) L'
instance VN.here {pa : PA} {p : cy} {wb db b : Nat} {x : Sc} {L : List HP} : VN b (bj (schR pa p wb db) b x :: L) pa p wb db x L := ⟨.here⟩
instance (priority := low) VN.there {pa : PA} {p : cy} {wb db b : Nat} {x : Sc} {Q : HP} {L L' : List HP} [h : VN b L pa p wb db x L'] : VN b (Q :: L) pa p wb db x (Q :: L') := ⟨.there h.pick⟩
section
variable {R : Mem} {L L' L2 : List HP} {M : Mem} {K : Value → Mem → Prop} {Kp : List PanicEntry → Mem → Prop} {pa : PA} {p : cy} {b wb db : Nat} {x : Sc} {m i : Int}
def Sc.status (x : Sc) : Int := if x.w.end_ = 1 then 1 else if x.w.end_ = 2 then 2 else if x.w.stuck then 3 else 0
def Sc.tick (x : Sc) : Sc × Ev := ({ x with w := x.w.tick, gl := x.gl ++ x.w.tick.ready }, ⟨1, -1, -1, x.w.tick.ready⟩)
def NA (x : Sc) : Prop := x.w.hl.length ≤ 1000000 ∧ (∀ y ∈ (dM x.w.hl.length x.w.hl (IntKind.wrap .u64 (x.w.clock + 1))).2, 0 ≤ y.id ∧ y.id < x.w.gs.length) ∧ x.gl.length + x.w.tick.ready.length ≤ 1000000
instance (x : Sc) : Decidable (NA x) := by unfold NA; infer_instance
end
def ownHas (q : Loc) : Bool := q.next != -1 || !q.l.isEmpty
def ownL (q : Loc) (turns : Int) (gl : List Int) : Loc × List Int × Int × Bool :=
 let a := q.turn gl
 if Int.tmod turns 7 = 6 ∧ 0 < a.2.1.length then (a.1, a.2.1.drop 1, a.2.1.headD 0, true)
 else if ownHas a.1 then (a.1.get.1, a.2.1, a.1.get.2, true)
 else ((a.1.get.1.Vo a.2.1 0).1, (a.1.get.1.Vo a.2.1 0).2.1, (a.1.get.1.Vo a.2.1 0).2.2, !a.2.1.isEmpty)
def JT (f : Loc) (v : Int) : Bool := v != -1 || !f.l.isEmpty
section
variable {R : Mem} {L L' L2 : List HP} {M : Mem} {K : Value → Mem → Prop} {Kp : List PanicEntry → Mem → Prop} {pa : PA} {p : cy} {b wb db : Nat} {x : Sc} {m i : Int}
def Sc.hold (x : Sc) (m : Int) : Sc × Ev := match x.ps.findIdx? (fun pr => pr.by_ == -1) with
 | some i => (((x.JS (i : Int) { mL x (i : Int) with by_ := m }).Q1 m { jF x m with p := (i : Int) }), ⟨2, m, -1, []⟩)
 | none => (x, ⟨3, m, -1, []⟩)
def Sc.own (x : Sc) (i : Int) : Sc × Int × Bool :=
 let r := ownL (mL x i).q (mL x i).turns x.gl
 ({ x.JS i { mL x i with q := r.1 } with gl := r.2.1 }, r.2.2.1, r.2.2.2)
end
inductive NB where
 | ev (e : Ev)
 | fF (l : List PanicEntry)
def Sc.tR (x : Sc) (m i kind g : Int) (ok : Bool) : Sc × Ev :=
 if ok then ((x.JS i { mL x i with turns := (mL x i).turns + 1 }).Q1 m ⟨(jF x m).p, g, x.c.S⟩, ⟨kind, m, g, []⟩)
 else ((x.JS i { mL x i with by_ := -1 }).Q1 m ⟨-1, -1, 0⟩, ⟨6, m, -1, []⟩)
def Sc.find (x : Sc) (m : Int) : Sc × NB :=
 let i := (jF x m).p
 if 0 < (jF x m).left ∧ (mL x i).q.next ≠ -1 then
  ((x.JS i { mL x i with q := (mL x i).q.get.1 }).Q1 m { jF x m with g := (mL x i).q.get.2 }, .ev ⟨4, m, (mL x i).q.get.2, []⟩)
 else
  let y := (x.own i).1
  if (x.own i).2.2 = false ∧ 1 < x.c.P then match y.d.draw 2 x.c.P with
   | (d', .fF l) => ({ y with d := d' }, .fF l)
   | (d', .num v) =>
    let y := { y with d := d' }
    if v = i then ((y.tR m i 5 (-1) false).1, .ev (y.tR m i 5 (-1) false).2)
    else
     let s := (mL y i).q.steal (mL y v).q
     let z := (y.JS i { mL y i with q := s.1 }).JS v { mL y v with q := s.2.1 }
     ((z.tR m i 5 s.2.2 (JT (mL y v).q s.2.2)).1, .ev (z.tR m i 5 s.2.2 (JT (mL y v).q s.2.2)).2)
  else ((y.tR m i 4 (x.own i).2.1 (x.own i).2.2).1, .ev (y.tR m i 4 (x.own i).2.1 (x.own i).2.2).2)
section
variable {R : Mem} {L L' L2 : List HP} {M : Mem} {K : Value → Mem → Prop} {Kp : List PanicEntry → Mem → Prop} {pa : PA} {p : cy} {b wb db : Nat} {x : Sc} {m i : Int}
def NC (x : Sc) (m : Int) : Prop := 0 ≤ m ∧ m < x.ms.length ∧ 0 ≤ (jF x m).p ∧ (jF x m).p < x.ps.length ∧ x.gl.length ≤ 1000000 ∧ 0 ≤ (mL x (jF x m).p).turns ∧ (mL x (jF x m).p).turns < 1000000000 ∧ x.d.taken.length < 100000000 ∧ x.c.P ≤ x.ps.length ∧ x.c.P < 1000000
instance (x : Sc) (m : Int) : Decidable (NC x m) := by unfold NC; infer_instance
end
def dry2 (l : List PanicEntry) : List PanicEntry := l ++ l.map fun e => { e with recovered := true }
def EP (m : Int) (x : Sc) (r : Int) : Sc :=
 let i := (jF x m).p
 { x.JS i { mL x i with q := ((mL x i).q.ready r x.gl).1 } with gl := ((mL x i).q.ready r x.gl).2.1 }
def Sc.VO (x : Sc) (m g : Int) (keep : Bool) (ready : List Int) : Sc × Ev :=
 if keep = true ∧ (jF x m).left - 1 ≠ 0 then (x.Q1 m { jF x m with left := (jF x m).left - 1 }, ⟨7, m, g, ready⟩)
 else ({ x.Q1 m { jF x m with left := (jF x m).left - 1, g := -1 } with gl := if (aa x.w g).st = 1 then x.gl ++ [g] else x.gl }, ⟨7, m, g, ready⟩)
def ND (p : cy) (x : Sc) (m : Int) : Prop := 0 ≤ m ∧ m < x.ms.length ∧ 0 ≤ (jF x m).p ∧ (jF x m).p < x.ps.length ∧ x.gl.length ≤ 1000000 ∧ x.d.taken.length < 100000000 ∧ 1 ≤ (jF x m).left ∧ (jF x m).left < 1000000000 ∧ 0 ≤ (jF x m).g
instance (p : cy) (x : Sc) (m : Int) : Decidable (ND p x m) := by unfold ND; infer_instance
def askOk : Option (Int × Int) → Bool
 | none => true
 | some (_, n) => decide (n < 9223372036854775808)
def aaa (x : Sc) (m g : Int) (d : VL) (y : Wd) (rest : Bool) : Option (Sc × NB) :=
 if y.ready.length ≤ 10000 ∧ g < y.gs.length then
  some (((y.ready.foldl (EP m) { x with w := y, d := d }).VO m g (mJ y g rest) y.ready).1, .ev ((y.ready.foldl (EP m) { x with w := y, d := d }).VO m g (mJ y g rest) y.ready).2)
 else none
def AS (d : VL) : Option (Int × Int) → VL × iZ
 | none => (d, .num 0)
 | some (k, n) => d.draw k n
def Sc.run (p : cy) (x : Sc) (m : Int) : Option (Sc × NB) :=
 if ND p x m then
  if askOk (asks p { x.w with ready := [] } (jF x m).g) then
   match lK p x.w (jF x m).g (AS x.d (asks p { x.w with ready := [] } (jF x m).g)).2 with
   | none => none
   | some (.fF l y, _) => some ({ x with w := y, d := (AS x.d (asks p { x.w with ready := [] } (jF x m).g)).1 }, .fF (dry2 l))
   | some (.on y, rest) => aaa x m (jF x m).g (AS x.d (asks p { x.w with ready := [] } (jF x m).g)).1 y rest
   | some (.dg n y, rest) => aaa x m (jF x m).g (AS x.d (asks p { x.w with ready := [] } (jF x m).g)).1 { y with end_ := 2, code := n } rest
  else none
 else none
def incS : Sc × NB → Sc × NB
 | (x, .ev e) => ({ x with steps := x.steps + 1 }, .ev e)
 | (x, .fF l) => (x, .fF l)
def GY (x : Sc) : Prop := x.w.gs.length ≤ 1000000 ∧ x.c.M = x.ms.length ∧ x.ps.length ≤ 1000000 ∧ x.ms.length ≤ 1000000 ∧ x.d.taken.length < 10000000 ∧ 0 ≤ x.steps ∧ x.steps < 1000000000
instance (x : Sc) : Decidable (GY x) := by unfold GY; infer_instance
def Sc.act (p : cy) (x : Sc) (m : Int) : Option (Sc × NB) :=
 if m = x.c.M then (if NA x then some (x.tick.1, .ev x.tick.2) else none)
 else if (jF x m).p = -1 then some ((x.hold m).1, .ev (x.hold m).2)
 else if (jF x m).g = -1 then (if NC x m then some (x.find m) else none)
 else x.run p m
def Sc.step (p : cy) (x : Sc) : Option (Sc × NB) :=
 if GY x then
  if x.status ≠ 0 then some (x, .ev ⟨0, 0, 0, []⟩)
  else match x.d.draw 1 (x.c.M + 1) with
   | (d', .fF l) => some ({ x with d := d' }, .fF l)
   | (d', .num m) => (Sc.act p { x with d := d' } m).map incS
 else none
def Sc.new (p : cy) (c : Cfg) (d : VL) : Sc := ⟨Wd.new p, c, List.replicate c.P.toNat ⟨⟨-1, capR c.R, []⟩, 0, -1⟩, List.replicate c.M.toNat ⟨-1, -1, 0⟩, [0], d, 0⟩
def aG (n m : Int) : Int := if m < 1 then 0 else Int.tmod (IntKind.wrap .i64 (Int.tmod n m + m)) m
theorem dN {n m : Int} (hm : 1 ≤ m) (hb : m < 4611686018427387904) : 0 ≤ aG n m ∧ aG n m < m := by
 have h1 := Int.tmod_lt_of_pos n (show 0 < m by omega)
 have h2 := Int.lt_tmod_of_pos n (show 0 < m by omega)
 unfold aG
 rw [if_neg (by omega), dD (by omega) (by omega)]
 have h3 : 0 ≤ Int.tmod n m + m := by omega
 exact ⟨Int.tmod_nonneg m h3, Int.tmod_lt_of_pos _ (by omega)⟩
def zR (nf nc jo lk lf : Int) (x : bZ) : bZ :=
 if aG x.op 23 = 1 then ⟨1, aG x.a 8, x.b, 0⟩
 else if aG x.op 23 = 2 then ⟨2, aG x.a 8, aG x.b 8, 0⟩
 else if aG x.op 23 = 3 then ⟨aG x.op 23, aG x.a 8, aG x.b 8, aG x.c 8⟩
 else if aG x.op 23 = 4 then ⟨aG x.op 23, aG x.a 8, aG x.b 8, aG x.c 8⟩
 else if aG x.op 23 = 5 then ⟨aG x.op 23, aG x.a 8, aG x.b 8, aG x.c 8⟩
 else if aG x.op 23 = 6 then ⟨aG x.op 23, aG x.a 8, aG x.b 8, aG x.c 8⟩
 else if aG x.op 23 = 7 then ⟨7, aG x.a lf, 0, 0⟩
 else if aG x.op 23 = 8 then ⟨8, aG x.a 8, aG x.b lf, 0⟩
 else if aG x.op 23 = 9 then ⟨aG x.op 23, aG x.a nf, aG x.b 8, aG x.c 8⟩
 else if aG x.op 23 = 11 then ⟨aG x.op 23, aG x.a nf, aG x.b 8, aG x.c 8⟩
 else if aG x.op 23 = 10 then ⟨aG x.op 23, aG x.a 8, 0, 0⟩
 else if aG x.op 23 = 17 then ⟨aG x.op 23, aG x.a 8, 0, 0⟩
 else if aG x.op 23 = 20 then ⟨aG x.op 23, aG x.a 8, 0, 0⟩
 else if aG x.op 23 = 13 then (if nc = 0 then .zero else ⟨aG x.op 23, aG x.a nc, aG x.b 8, 0⟩)
 else if aG x.op 23 = 14 then (if nc = 0 then .zero else ⟨aG x.op 23, aG x.a nc, aG x.b 8, aG x.c 8⟩)
 else if aG x.op 23 = 15 then (if nc = 0 then .zero else ⟨aG x.op 23, aG x.a nc, 0, 0⟩)
 else if aG x.op 23 = 16 then (if jo = 0 then .zero else ⟨16, aG x.a jo, 1 + aG x.b (jo - aG x.a jo), aG x.c 8⟩)
 else if aG x.op 23 = 18 then (if lk = 0 then .zero else ⟨aG x.op 23, aG x.a lk, 0, 0⟩)
 else if aG x.op 23 = 19 then (if lk = 0 then .zero else ⟨aG x.op 23, aG x.a lk, 0, 0⟩)
 else if aG x.op 23 = 21 then ⟨21, aG x.a 8, 1 + aG x.b 1000, 0⟩
 else if aG x.op 23 = 22 then ⟨22, aG x.a 1000, 0, 0⟩
 else ⟨aG x.op 23, 0, 0, 0⟩
def dH (nf nc jo lk lf : Int) (i : bZ) : Prop := 0 ≤ i.op ∧ i.op < 23 ∧ i.cO ∧ (i.op = 7 → 0 ≤ i.a ∧ i.a < lf) ∧ (i.op = 8 → 0 ≤ i.b ∧ i.b < lf) ∧
 (i.op = 9 ∨ i.op = 11 → 0 ≤ i.a ∧ i.a < nf ∧ aR i.b ∧ aR i.c) ∧ (i.op = 10 ∨ i.op = 17 ∨ i.op = 20 ∨ i.op = 21 → aR i.a) ∧
 (i.op = 13 ∨ i.op = 14 ∨ i.op = 15 → 0 ≤ i.a ∧ i.a < nc) ∧ (i.op = 13 ∨ i.op = 14 → aR i.b) ∧ (i.op = 14 ∨ i.op = 16 → aR i.c) ∧
 (i.op = 16 → 0 ≤ i.a ∧ 1 ≤ i.b ∧ i.a + i.b ≤ jo) ∧ (i.op = 18 ∨ i.op = 19 → 0 ≤ i.a ∧ i.a < lk) ∧ (i.op = 21 → 1 ≤ i.b ∧ i.b < 1099511627776)
theorem dH.ok {p : cy} {f : List bZ} {i : bZ} (h : dH p.funcs.length p.dB.length p.cases.length p.aC f.length i) : jY p f i := h
theorem dH.zero {nf nc jo lk lf : Int} : dH nf nc jo lk lf .zero := by
 simp [dH, bZ.cO, bZ.zero]
theorem kH {nf nc jo lk lf : Int} {p : Prop} [Decidable p] {x y : bZ} (h1 : p → dH nf nc jo lk lf x) (h2 : ¬ p → dH nf nc jo lk lf y) : dH nf nc jo lk lf (if p then x else y) := by
 split
 ·exact h1 ‹_›
 ·exact h2 ‹_›
theorem VP {nf nc jo lk lf : Int} {x : bZ} (hf : 1 ≤ nf ∧ nf ≤ 5) (hc : 0 ≤ nc ∧ nc ≤ 4) (hcs : 0 ≤ jo ∧ jo ≤ 8) (hl : 0 ≤ lk ∧ lk ≤ 3) (hlf : 1 ≤ lf ∧ lf ≤ 20) : dH nf nc jo lk lf (zR nf nc jo lk lf x) := by
 have a8 := dN (n := x.a) (m := 8) (by omega) (by omega)
 have b8 := dN (n := x.b) (m := 8) (by omega) (by omega)
 have c8 := dN (n := x.c) (m := 8) (by omega) (by omega)
 have o23 := dN (n := x.op) (m := 23) (by omega) (by omega)
 have af := dN (n := x.a) (m := lf) (by omega) (by omega)
 have bf := dN (n := x.b) (m := lf) (by omega) (by omega)
 have an := dN (n := x.a) (m := nf) (by omega) (by omega)
 have b1000 := dN (n := x.b) (m := 1000) (by omega) (by omega)
 have ac : nc ≠ 0 → _ := fun e => dN (n := x.a) (m := nc) (by omega) (by omega)
 have al : lk ≠ 0 → _ := fun e => dN (n := x.a) (m := lk) (by omega) (by omega)
 have Aq : jo ≠ 0 → _ := fun e => dN (n := x.a) (m := jo) (by omega) (by omega)
 have CG : jo ≠ 0 → _ := fun e => dN (n := x.b) (m := jo - aG x.a jo) (by have := Aq e; omega) (by have := Aq e; omega)
 have p1 : dH nf nc jo lk lf ⟨1, aG x.a 8, x.b, 0⟩ := by clear ac al Aq CG; simp [dH, bZ.cO, aR] <;> omega
 have p2 : dH nf nc jo lk lf ⟨2, aG x.a 8, aG x.b 8, 0⟩ := by clear ac al Aq CG; simp [dH, bZ.cO, aR] <;> omega
 have p3 : dH nf nc jo lk lf ⟨3, aG x.a 8, aG x.b 8, aG x.c 8⟩ := by clear ac al Aq CG; simp [dH, bZ.cO, aR] <;> omega
 have p4 : dH nf nc jo lk lf ⟨4, aG x.a 8, aG x.b 8, aG x.c 8⟩ := by clear ac al Aq CG; simp [dH, bZ.cO, aR] <;> omega
 have p5 : dH nf nc jo lk lf ⟨5, aG x.a 8, aG x.b 8, aG x.c 8⟩ := by clear ac al Aq CG; simp [dH, bZ.cO, aR] <;> omega
 have p6 : dH nf nc jo lk lf ⟨6, aG x.a 8, aG x.b 8, aG x.c 8⟩ := by clear ac al Aq CG; simp [dH, bZ.cO, aR] <;> omega
 have p7 : dH nf nc jo lk lf ⟨7, aG x.a lf, 0, 0⟩ := by clear ac al Aq CG; simp [dH, bZ.cO, aR] <;> omega
 have p8 : dH nf nc jo lk lf ⟨8, aG x.a 8, aG x.b lf, 0⟩ := by clear ac al Aq CG; simp [dH, bZ.cO, aR] <;> omega
 have p9 : dH nf nc jo lk lf ⟨9, aG x.a nf, aG x.b 8, aG x.c 8⟩ := by clear ac al Aq CG; simp [dH, bZ.cO, aR] <;> omega
 have p11 : dH nf nc jo lk lf ⟨11, aG x.a nf, aG x.b 8, aG x.c 8⟩ := by clear ac al Aq CG; simp [dH, bZ.cO, aR] <;> omega
 have p10 : dH nf nc jo lk lf ⟨10, aG x.a 8, 0, 0⟩ := by clear ac al Aq CG; simp [dH, bZ.cO, aR] <;> omega
 have p17 : dH nf nc jo lk lf ⟨17, aG x.a 8, 0, 0⟩ := by clear ac al Aq CG; simp [dH, bZ.cO, aR] <;> omega
 have p20 : dH nf nc jo lk lf ⟨20, aG x.a 8, 0, 0⟩ := by clear ac al Aq CG; simp [dH, bZ.cO, aR] <;> omega
 have p13 : nc ≠ 0 → dH nf nc jo lk lf ⟨13, aG x.a nc, aG x.b 8, 0⟩ := fun z => by have := ac z; clear ac al Aq CG; simp [dH, bZ.cO, aR] <;> omega
 have p14 : nc ≠ 0 → dH nf nc jo lk lf ⟨14, aG x.a nc, aG x.b 8, aG x.c 8⟩ := fun z => by have := ac z; clear ac al Aq CG; simp [dH, bZ.cO, aR] <;> omega
 have p15 : nc ≠ 0 → dH nf nc jo lk lf ⟨15, aG x.a nc, 0, 0⟩ := fun z => by have := ac z; clear ac al Aq CG; simp [dH, bZ.cO, aR] <;> omega
 have p16 : jo ≠ 0 → dH nf nc jo lk lf ⟨16, aG x.a jo, 1 + aG x.b (jo - aG x.a jo), aG x.c 8⟩ := fun z => by have := Aq z; have := CG z; clear ac al Aq CG; simp [dH, bZ.cO, aR] <;> omega
 have p18 : lk ≠ 0 → dH nf nc jo lk lf ⟨18, aG x.a lk, 0, 0⟩ := fun z => by have := al z; clear ac al Aq CG; simp [dH, bZ.cO, aR] <;> omega
 have p19 : lk ≠ 0 → dH nf nc jo lk lf ⟨19, aG x.a lk, 0, 0⟩ := fun z => by have := al z; clear ac al Aq CG; simp [dH, bZ.cO, aR] <;> omega
 have p21 : dH nf nc jo lk lf ⟨21, aG x.a 8, 1 + aG x.b 1000, 0⟩ := by clear ac al Aq CG; simp [dH, bZ.cO, aR] <;> omega
 have p22 : dH nf nc jo lk lf ⟨22, aG x.a 1000, 0, 0⟩ := by clear ac al Aq CG; simp [dH, bZ.cO, aR] <;> omega
 clear a8 b8 c8 af bf an b1000 ac al Aq CG
 unfold zR
 refine kH (fun e => p1) fun n1 => ?_
 refine kH (fun e => p2) fun n2 => ?_
 refine kH (fun e => e ▸ p3) fun n3 => ?_
 refine kH (fun e => e ▸ p4) fun n4 => ?_
 refine kH (fun e => e ▸ p5) fun n5 => ?_
 refine kH (fun e => e ▸ p6) fun n6 => ?_
 refine kH (fun e => p7) fun n7 => ?_
 refine kH (fun e => p8) fun n8 => ?_
 refine kH (fun e => e ▸ p9) fun n9 => ?_
 refine kH (fun e => e ▸ p11) fun lp => ?_
 refine kH (fun e => e ▸ p10) fun dI => ?_
 refine kH (fun e => e ▸ p17) fun kS => ?_
 refine kH (fun e => e ▸ p20) fun gF => ?_
 refine kH (fun e => kH (fun _ => dH.zero) fun z => e ▸ p13 z) fun m9 => ?_
 refine kH (fun e => kH (fun _ => dH.zero) fun z => e ▸ p14 z) fun jD => ?_
 refine kH (fun e => kH (fun _ => dH.zero) fun z => e ▸ p15 z) fun lj => ?_
 refine kH (fun e => kH (fun _ => dH.zero) fun z => p16 z) fun nI => ?_
 refine kH (fun e => kH (fun _ => dH.zero) fun z => e ▸ p18 z) fun kQ => ?_
 refine kH (fun e => kH (fun _ => dH.zero) fun z => e ▸ p19 z) fun nX => ?_
 refine kH (fun e => p21) fun vb => ?_
 refine kH (fun e => p22) fun w5 => ?_
 generalize aG x.op 23 = o at *
 have : o = 0 ∨ o = 12 := by omega
 rcases this with rfl | rfl <;> simp [dH, bZ.cO]
section
variable {M : Mem} {K : Value → Mem → Prop} {Kp : List PanicEntry → Mem → Prop}
theorem bK {n m : Int} (k : K (.int .i64 (aG n m)) M) : ae Tryz.prog 69 #[.int .i64 n, .int .i64 m] M K Kp := by
 refine uP ?_
 unfold aG at k
 exact aH.2 ⟨fun h => by rw [if_pos h] at k; exact k, fun h => ⟨by omega, by omega, by rw [if_neg h] at k; exact k⟩⟩
variable {R : Mem} {L : List HP}
abbrev insV (i : bZ) : Value := .agg #[.int .i64 i.op, .int .i64 i.a, .int .i64 i.b, .int .i64 i.c]
theorem YV {A B C F : Option Addr} {nf cf nc cc jo ccs lf cl : Nat} {lk o a b c : Int} (h : Hp R L M) (hcs : jo ≤ 8)
  (k : ∀ M', Hp R L M' → K (insV (zR nf nc jo lk lf ⟨o, a, b, c⟩)) M') :
  ae Tryz.prog 70 #[.agg #[.slice A nf cf, .slice B nc cc, .int .i64 lk, .slice C jo ccs], .slice F lf cl, .agg #[.int .i64 o, .int .i64 a, .int .i64 b, .int .i64 c]] M K Kp := by
 refine uQ ?_
 have w1000 : IntKind.wrap .i64 (1 + aG b 1000) = 1 + aG b 1000 := by
  have := dN (n := b) (m := 1000) (by omega) (by omega)
  exact dD (by omega) (by omega)
 have as_ : (jo : Int) ≠ 0 → IntKind.wrap .i64 ((jo : Int) - aG a jo) = jo - aG a jo ∧ IntKind.wrap .i64 (1 + aG b (jo - aG a jo)) = 1 + aG b (jo - aG a jo) := fun e => by
  have h1 := dN (n := a) (m := (jo : Int)) (by omega) (by omega)
  have h2 := dN (n := b) (m := (jo : Int) - aG a jo) (by omega) (by omega)
  exact ⟨dD (by omega) (by omega), dD (by omega) (by omega)⟩
 unfold zR at k
 dsimp only at k
 repeat (first|refine bK ?_|(refine ai h ?_;clear h;intro kb M h)|(refine ak h ?_;clear h;intro M h)|refine St.to h ?_|(apply Exists.intro;(repeat apply Exists.intro);refine And.intro rfl ?_)|refine ay ?_|refine aq ?_|refine au ?_)
 refine bh.2 ⟨fun e => ?_, fun e => ?_⟩
 ·rw [if_pos e] at k
  repeat (first|refine bK ?_|(refine ai h ?_;clear h;intro kb M h)|(refine ak h ?_;clear h;intro M h)|refine St.to h ?_|(apply Exists.intro;(repeat apply Exists.intro);refine And.intro rfl ?_)|refine ay ?_|refine aq ?_|refine au ?_)
  exact k _ (h.sub bz)
 rw [if_neg e] at k
 clear e
 refine bh.2 ⟨fun e => ?_, fun e => ?_⟩
 ·rw [if_pos e] at k
  repeat (first|refine bK ?_|(refine ai h ?_;clear h;intro kb M h)|(refine ak h ?_;clear h;intro M h)|refine St.to h ?_|(apply Exists.intro;(repeat apply Exists.intro);refine And.intro rfl ?_)|refine ay ?_|refine aq ?_|refine au ?_)
  exact k _ (h.sub bz)
 rw [if_neg e] at k
 clear e
 refine bh.2 ⟨fun e => ?_, fun e => ?_⟩
 ·rw [if_pos e] at k
  repeat (first|refine bK ?_|(refine ai h ?_;clear h;intro kb M h)|(refine ak h ?_;clear h;intro M h)|refine St.to h ?_|(apply Exists.intro;(repeat apply Exists.intro);refine And.intro rfl ?_)|refine ay ?_|refine aq ?_|refine au ?_)
  exact k _ (h.sub bz)
 rw [if_neg e] at k
 clear e
 refine bh.2 ⟨fun e => ?_, fun e => ?_⟩
 ·rw [if_pos e] at k
  repeat (first|refine bK ?_|(refine ai h ?_;clear h;intro kb M h)|(refine ak h ?_;clear h;intro M h)|refine St.to h ?_|(apply Exists.intro;(repeat apply Exists.intro);refine And.intro rfl ?_)|refine ay ?_|refine aq ?_|refine au ?_)
  exact k _ (h.sub bz)
 rw [if_neg e] at k
 clear e
 refine bh.2 ⟨fun e => ?_, fun e => ?_⟩
 ·rw [if_pos e] at k
  repeat (first|refine bK ?_|(refine ai h ?_;clear h;intro kb M h)|(refine ak h ?_;clear h;intro M h)|refine St.to h ?_|(apply Exists.intro;(repeat apply Exists.intro);refine And.intro rfl ?_)|refine ay ?_|refine aq ?_|refine au ?_)
  exact k _ (h.sub bz)
 rw [if_neg e] at k
 clear e
 refine bh.2 ⟨fun e => ?_, fun e => ?_⟩
 ·rw [if_pos e] at k
  repeat (first|refine bK ?_|(refine ai h ?_;clear h;intro kb M h)|(refine ak h ?_;clear h;intro M h)|refine St.to h ?_|(apply Exists.intro;(repeat apply Exists.intro);refine And.intro rfl ?_)|refine ay ?_|refine aq ?_|refine au ?_)
  exact k _ (h.sub bz)
 rw [if_neg e] at k
 clear e
 refine bh.2 ⟨fun e => ?_, fun e => ?_⟩
 ·rw [if_pos e] at k
  repeat (first|refine bK ?_|(refine ai h ?_;clear h;intro kb M h)|(refine ak h ?_;clear h;intro M h)|refine St.to h ?_|(apply Exists.intro;(repeat apply Exists.intro);refine And.intro rfl ?_)|refine ay ?_|refine aq ?_|refine au ?_)
  exact k _ (h.sub bz)
 rw [if_neg e] at k
 clear e
 refine bh.2 ⟨fun e => ?_, fun e => ?_⟩
 ·rw [if_pos e] at k
  repeat (first|refine bK ?_|(refine ai h ?_;clear h;intro kb M h)|(refine ak h ?_;clear h;intro M h)|refine St.to h ?_|(apply Exists.intro;(repeat apply Exists.intro);refine And.intro rfl ?_)|refine ay ?_|refine aq ?_|refine au ?_)
  exact k _ (h.sub bz)
 rw [if_neg e] at k
 clear e
 refine bh.2 ⟨fun e => ?_, fun e => ?_⟩
 ·rw [if_pos e] at k
  repeat (first|refine bK ?_|(refine ai h ?_;clear h;intro kb M h)|(refine ak h ?_;clear h;intro M h)|refine St.to h ?_|(apply Exists.intro;(repeat apply Exists.intro);refine And.intro rfl ?_)|refine ay ?_|refine aq ?_|refine au ?_)
  exact k _ (h.sub bz)
 rw [if_neg e] at k
 clear e
 refine bh.2 ⟨fun e => ?_, fun e => ?_⟩
 ·rw [if_pos e] at k
  repeat (first|refine bK ?_|(refine ai h ?_;clear h;intro kb M h)|(refine ak h ?_;clear h;intro M h)|refine St.to h ?_|(apply Exists.intro;(repeat apply Exists.intro);refine And.intro rfl ?_)|refine ay ?_|refine aq ?_|refine au ?_)
  exact k _ (h.sub bz)
 rw [if_neg e] at k
 clear e
 refine bh.2 ⟨fun e => ?_, fun e => ?_⟩
 ·rw [if_pos e] at k
  repeat (first|refine bK ?_|(refine ai h ?_;clear h;intro kb M h)|(refine ak h ?_;clear h;intro M h)|refine St.to h ?_|(apply Exists.intro;(repeat apply Exists.intro);refine And.intro rfl ?_)|refine ay ?_|refine aq ?_|refine au ?_)
  exact k _ (h.sub bz)
 rw [if_neg e] at k
 clear e
 refine bh.2 ⟨fun e => ?_, fun e => ?_⟩
 ·rw [if_pos e] at k
  repeat (first|refine bK ?_|(refine ai h ?_;clear h;intro kb M h)|(refine ak h ?_;clear h;intro M h)|refine St.to h ?_|(apply Exists.intro;(repeat apply Exists.intro);refine And.intro rfl ?_)|refine ay ?_|refine aq ?_|refine au ?_)
  exact k _ (h.sub bz)
 rw [if_neg e] at k
 clear e
 refine bh.2 ⟨fun e => ?_, fun e => ?_⟩
 ·rw [if_pos e] at k
  repeat (first|refine bK ?_|(refine ai h ?_;clear h;intro kb M h)|(refine ak h ?_;clear h;intro M h)|refine St.to h ?_|(apply Exists.intro;(repeat apply Exists.intro);refine And.intro rfl ?_)|refine ay ?_|refine aq ?_|refine au ?_)
  exact k _ (h.sub bz)
 rw [if_neg e] at k
 clear e
 refine bh.2 ⟨fun e => ?_, fun e => ?_⟩
 ·rw [if_pos e] at k
  refine bh.2 ⟨fun z => ?_, fun z => ?_⟩
  ·rw [if_pos z] at k
   repeat (first|refine bK ?_|(refine ai h ?_;clear h;intro kb M h)|(refine ak h ?_;clear h;intro M h)|refine St.to h ?_|(apply Exists.intro;(repeat apply Exists.intro);refine And.intro rfl ?_)|refine ay ?_|refine aq ?_|refine au ?_)
   exact k _ (h.sub bz)
  rw [if_neg z] at k
  repeat (first|refine bK ?_|(refine ai h ?_;clear h;intro kb M h)|(refine ak h ?_;clear h;intro M h)|refine St.to h ?_|(apply Exists.intro;(repeat apply Exists.intro);refine And.intro rfl ?_)|refine ay ?_|refine aq ?_|refine au ?_)
  refine aH.2 ⟨fun _ => ?_, fun e2 => absurd (show aG o 23 < 15 by omega) e2⟩
  repeat (first|refine bK ?_|(refine ai h ?_;clear h;intro kb M h)|(refine ak h ?_;clear h;intro M h)|refine St.to h ?_|(apply Exists.intro;(repeat apply Exists.intro);refine And.intro rfl ?_)|refine ay ?_|refine aq ?_|refine au ?_)
  refine bh.2 ⟨fun e2 => absurd e2 (by omega), fun _ => ?_⟩
  repeat (first|refine bK ?_|(refine ai h ?_;clear h;intro kb M h)|(refine ak h ?_;clear h;intro M h)|refine St.to h ?_|(apply Exists.intro;(repeat apply Exists.intro);refine And.intro rfl ?_)|refine ay ?_|refine aq ?_|refine au ?_)
  exact k _ (h.sub bz)
 rw [if_neg e] at k
 clear e
 refine bh.2 ⟨fun e => ?_, fun e => ?_⟩
 ·rw [if_pos e] at k
  refine bh.2 ⟨fun z => ?_, fun z => ?_⟩
  ·rw [if_pos z] at k
   repeat (first|refine bK ?_|(refine ai h ?_;clear h;intro kb M h)|(refine ak h ?_;clear h;intro M h)|refine St.to h ?_|(apply Exists.intro;(repeat apply Exists.intro);refine And.intro rfl ?_)|refine ay ?_|refine aq ?_|refine au ?_)
   exact k _ (h.sub bz)
  rw [if_neg z] at k
  repeat (first|refine bK ?_|(refine ai h ?_;clear h;intro kb M h)|(refine ak h ?_;clear h;intro M h)|refine St.to h ?_|(apply Exists.intro;(repeat apply Exists.intro);refine And.intro rfl ?_)|refine ay ?_|refine aq ?_|refine au ?_)
  refine aH.2 ⟨fun _ => ?_, fun e2 => absurd (show aG o 23 < 15 by omega) e2⟩
  repeat (first|refine bK ?_|(refine ai h ?_;clear h;intro kb M h)|(refine ak h ?_;clear h;intro M h)|refine St.to h ?_|(apply Exists.intro;(repeat apply Exists.intro);refine And.intro rfl ?_)|refine ay ?_|refine aq ?_|refine au ?_)
  refine bh.2 ⟨fun _ => ?_, fun e2 => absurd e e2⟩
  repeat (first|refine bK ?_|(refine ai h ?_;clear h;intro kb M h)|(refine ak h ?_;clear h;intro M h)|refine St.to h ?_|(apply Exists.intro;(repeat apply Exists.intro);refine And.intro rfl ?_)|refine ay ?_|refine aq ?_|refine au ?_)
  exact k _ (h.sub bz)
 rw [if_neg e] at k
 clear e
 refine bh.2 ⟨fun e => ?_, fun e => ?_⟩
 ·rw [if_pos e] at k
  refine bh.2 ⟨fun z => ?_, fun z => ?_⟩
  ·rw [if_pos z] at k
   repeat (first|refine bK ?_|(refine ai h ?_;clear h;intro kb M h)|(refine ak h ?_;clear h;intro M h)|refine St.to h ?_|(apply Exists.intro;(repeat apply Exists.intro);refine And.intro rfl ?_)|refine ay ?_|refine aq ?_|refine au ?_)
   exact k _ (h.sub bz)
  rw [if_neg z] at k
  repeat (first|refine bK ?_|(refine ai h ?_;clear h;intro kb M h)|(refine ak h ?_;clear h;intro M h)|refine St.to h ?_|(apply Exists.intro;(repeat apply Exists.intro);refine And.intro rfl ?_)|refine ay ?_|refine aq ?_|refine au ?_)
  refine aH.2 ⟨fun e2 => absurd e2 (by omega), fun _ => ?_⟩
  repeat (first|refine bK ?_|(refine ai h ?_;clear h;intro kb M h)|(refine ak h ?_;clear h;intro M h)|refine St.to h ?_|(apply Exists.intro;(repeat apply Exists.intro);refine And.intro rfl ?_)|refine ay ?_|refine aq ?_|refine au ?_)
  refine bh.2 ⟨fun e2 => absurd e2 (by omega), fun _ => ?_⟩
  repeat (first|refine bK ?_|(refine ai h ?_;clear h;intro kb M h)|(refine ak h ?_;clear h;intro M h)|refine St.to h ?_|(apply Exists.intro;(repeat apply Exists.intro);refine And.intro rfl ?_)|refine ay ?_|refine aq ?_|refine au ?_)
  exact k _ (h.sub bz)
 rw [if_neg e] at k
 clear e
 refine bh.2 ⟨fun e => ?_, fun e => ?_⟩
 ·rw [if_pos e] at k
  refine bh.2 ⟨fun z => ?_, fun z => ?_⟩
  ·rw [if_pos z] at k
   repeat (first|refine bK ?_|(refine ai h ?_;clear h;intro kb M h)|(refine ak h ?_;clear h;intro M h)|refine St.to h ?_|(apply Exists.intro;(repeat apply Exists.intro);refine And.intro rfl ?_)|refine ay ?_|refine aq ?_|refine au ?_)
   exact k _ (h.sub bz)
  rw [if_neg z] at k
  obtain ⟨e1, e2⟩ := as_ z
  repeat (first|refine bK ?_|(refine ai h ?_;clear h;intro kb M h)|(refine ak h ?_;clear h;intro M h)|refine St.to h ?_|(apply Exists.intro;(repeat apply Exists.intro);refine And.intro rfl ?_)|refine ay ?_|refine aq ?_|refine au ?_)
  rw [e1]
  repeat (first|refine bK ?_|(refine ai h ?_;clear h;intro kb M h)|(refine ak h ?_;clear h;intro M h)|refine St.to h ?_|(apply Exists.intro;(repeat apply Exists.intro);refine And.intro rfl ?_)|refine ay ?_|refine aq ?_|refine au ?_)
  rw [e2]
  repeat (first|refine bK ?_|(refine ai h ?_;clear h;intro kb M h)|(refine ak h ?_;clear h;intro M h)|refine St.to h ?_|(apply Exists.intro;(repeat apply Exists.intro);refine And.intro rfl ?_)|refine ay ?_|refine aq ?_|refine au ?_)
  exact k _ (h.sub bz)
 rw [if_neg e] at k
 clear e
 refine bh.2 ⟨fun e => ?_, fun e => ?_⟩
 ·rw [if_pos e] at k
  repeat (first|refine bK ?_|(refine ai h ?_;clear h;intro kb M h)|(refine ak h ?_;clear h;intro M h)|refine St.to h ?_|(apply Exists.intro;(repeat apply Exists.intro);refine And.intro rfl ?_)|refine ay ?_|refine aq ?_|refine au ?_)
  refine bh.2 ⟨fun z => ?_, fun z => ?_⟩
  ·rw [if_pos z] at k
   repeat (first|refine bK ?_|(refine ai h ?_;clear h;intro kb M h)|(refine ak h ?_;clear h;intro M h)|refine St.to h ?_|(apply Exists.intro;(repeat apply Exists.intro);refine And.intro rfl ?_)|refine ay ?_|refine aq ?_|refine au ?_)
   exact k _ (h.sub bz)
  rw [if_neg z] at k
  repeat (first|refine bK ?_|(refine ai h ?_;clear h;intro kb M h)|(refine ak h ?_;clear h;intro M h)|refine St.to h ?_|(apply Exists.intro;(repeat apply Exists.intro);refine And.intro rfl ?_)|refine ay ?_|refine aq ?_|refine au ?_)
  exact k _ (h.sub bz)
 rw [if_neg e] at k
 clear e
 refine bh.2 ⟨fun e => ?_, fun e => ?_⟩
 ·rw [if_pos e] at k
  repeat (first|refine bK ?_|(refine ai h ?_;clear h;intro kb M h)|(refine ak h ?_;clear h;intro M h)|refine St.to h ?_|(apply Exists.intro;(repeat apply Exists.intro);refine And.intro rfl ?_)|refine ay ?_|refine aq ?_|refine au ?_)
  refine bh.2 ⟨fun z => ?_, fun z => ?_⟩
  ·rw [if_pos z] at k
   repeat (first|refine bK ?_|(refine ai h ?_;clear h;intro kb M h)|(refine ak h ?_;clear h;intro M h)|refine St.to h ?_|(apply Exists.intro;(repeat apply Exists.intro);refine And.intro rfl ?_)|refine ay ?_|refine aq ?_|refine au ?_)
   exact k _ (h.sub bz)
  rw [if_neg z] at k
  repeat (first|refine bK ?_|(refine ai h ?_;clear h;intro kb M h)|(refine ak h ?_;clear h;intro M h)|refine St.to h ?_|(apply Exists.intro;(repeat apply Exists.intro);refine And.intro rfl ?_)|refine ay ?_|refine aq ?_|refine au ?_)
  exact k _ (h.sub bz)
 rw [if_neg e] at k
 clear e
 refine bh.2 ⟨fun e => ?_, fun e => ?_⟩
 ·rw [if_pos e] at k
  repeat (first|refine bK ?_|(refine ai h ?_;clear h;intro kb M h)|(refine ak h ?_;clear h;intro M h)|refine St.to h ?_|(apply Exists.intro;(repeat apply Exists.intro);refine And.intro rfl ?_)|refine ay ?_|refine aq ?_|refine au ?_)
  rw [w1000]
  exact k _ (h.sub bz)
 rw [if_neg e] at k
 clear e
 refine bh.2 ⟨fun e => ?_, fun e => ?_⟩
 ·rw [if_pos e] at k
  repeat (first|refine bK ?_|(refine ai h ?_;clear h;intro kb M h)|(refine ak h ?_;clear h;intro M h)|refine St.to h ?_|(apply Exists.intro;(repeat apply Exists.intro);refine And.intro rfl ?_)|refine ay ?_|refine aq ?_|refine au ?_)
  exact k _ (h.sub bz)
 rw [if_neg e] at k
 clear e
 repeat (first|refine bK ?_|(refine ai h ?_;clear h;intro kb M h)|(refine ak h ?_;clear h;intro M h)|refine St.to h ?_|(apply Exists.intro;(repeat apply Exists.intro);refine And.intro rfl ?_)|refine ay ?_|refine aq ?_|refine au ?_)
 exact k _ (h.sub bz)
end
end Go.Proofs
namespace Go.Proofs
open Go.AF Go.Deep
def JU : List IntKind := [.i64, .i64, .i64, .i64]
def aab : List IntKind := [.i64, .i64, .i64]
def aac (g : Nat → Int) : bZ := ⟨g 0, g 1, g 2, g 3⟩
def aad (g : Nat → Int) : nh := ⟨g 0, g 1, g 2⟩
theorem Q2 (l : List (Nat → Int)) : (kE JU).cells l = jE.cells (l.map aac) := by
 induction l with
 | nil => rfl
 | cons g l ih => rw [jP.cT, List.map_cons, jP.cT, ih]; rfl
theorem Q3 (l : List (Nat → Int)) : (kE aab).cells l = gT.cells (l.map aad) := by
 induction l with
 | nil => rfl
 | cons g l ih => rw [jP.cT, List.map_cons, jP.cT, ih]; rfl
theorem Q4 (l : List (Nat → Int)) : (kE [.i64]).cells l = bS.cells (l.map (· 0)) := by
 induction l with
 | nil => rfl
 | cons g l ih => rw [jP.cT, List.map_cons, jP.cT, ih]; rfl
structure wA (M : Mem) (pa : PA) (p : cy) : Prop where
 n1 : p.funcs.length ≤ 9223372036854775807
 n2 : p.dB.length ≤ 9223372036854775807
 n3 : p.cases.length ≤ 9223372036854775807
 le1 : p.funcs.length ≤ pa.fc
 funcs : 0 < p.funcs.length → ∃ ts : List (Option Addr × Nat × Nat), RS tL M pa.f pa.fc ts ∧ ts.length = p.funcs.length ∧ ∀ (i : Nat) t f, ts[i]? = some t → p.funcs[i]? = some f → t.2.1 = f.length ∧ f.length ≤ 9223372036854775807 ∧ f.length ≤ t.2.2 ∧ (0 < f.length → RS jE M t.1 t.2.2 f)
 dB : 0 < p.dB.length → RS bS M pa.c pa.cc p.dB
 cases : 0 < p.cases.length → RS gT M pa.k pa.kc p.cases
theorem wA.le {M M' : Mem} {pa : PA} {p : cy} (h : wA M pa p) (hle : M.le M') : wA M' pa p := by
 obtain ⟨a1, a2, a3, a4, a5, a6, a7⟩ := h
 refine ⟨a1, a2, a3, a4, fun h0 => ?_, fun h0 => (a6 h0).le hle, fun h0 => (a7 h0).le hle⟩
 obtain ⟨ts, t1, t2, t3⟩ := a5 h0
 exact ⟨ts, t1.le hle, t2, fun i t f a b => ⟨(t3 i t f a b).1, (t3 i t f a b).2.1, (t3 i t f a b).2.2.1, fun h => ((t3 i t f a b).2.2.2 h).le hle⟩⟩
theorem ru.rs {α : Type} {E : jP α} {M : Mem} {A : Option Addr} {n c : Nat} {ks : List IntKind} (h : ru M A n c ks) (f : (Nat → Int) → α) (hc : ∀ l, (kE ks).cells l = E.cells (l.map f)) : ∃ l : List α, l.length = n ∧ n ≤ c ∧ n ≤ 9223372036854775807 ∧ (0 < n → RS E M A c l) := by
 obtain ⟨l, rfl, h1, h2, h3, _⟩ := h
 refine ⟨l.map f, by simp, h1, Nat.le_trans h2 (by decide), fun h0 => ⟨?_, by simpa using h1⟩⟩
 rw [← hc]
 exact h3 h0
section
variable {H : Type} {enc : TypeId × Value → H} {P : Program} {w : World} {base : Nat} {spare : Nat → Bool} {held : Bool}
theorem DT {t e e2 : TypeId} {A : Option Addr} {n c fuel : Nat} {x : DataW H × List MemPlace} (ht : P.underlying t = some (.slice e)) (he : P.underlying e = some (.slice e2)) (hc1 : P.cellsOf e = 1) (hk : kJ P 8 e2 = some JU) (hc : P.cellsOf e2 = JU.length ∧ 0 < JU.length)
  (h : DataW.trod enc P w base spare held fuel t [.slice A n c] = some x) : ∃ fs : List (List bZ), fs.length = n ∧ n ≤ c ∧ n ≤ 9223372036854775807 ∧ (0 < n → ∃ ts : List (Option Addr × Nat × Nat), RS tL (kf w) A c ts ∧ ts.length = n ∧ ∀ (i : Nat) t f, ts[i]? = some t → fs[i]? = some f → t.2.1 = f.length ∧ f.length ≤ 9223372036854775807 ∧ f.length ≤ t.2.2 ∧ (0 < f.length → RS jE (kf w) t.1 t.2.2 f)) := by
 rcases open_slice1 ht hc1 h with ⟨h0, _⟩ | ⟨a, len, cap, m, n', V, D, Pl, hcs, hb, hl, hm, hmm, hx, hel⟩
 ·cases h0
  exact ⟨[], rfl, Nat.le_refl _, by omega, fun h => absurd h (by omega)⟩
 ·cases hcs
  have hlm : n ≤ m := by rw [hmm]; split <;> omega
  have each : ∀ i, i < n → ∃ q : (Option Addr × Nat × Nat) × List bZ, w.cell? (a.add i) = some (.slice q.1.1 q.1.2.1 q.1.2.2) ∧ q.1.2.1 = q.2.length ∧ q.2.length ≤ 9223372036854775807 ∧ q.2.length ≤ q.1.2.2 ∧ (0 < q.2.length → RS jE (kf w) q.1.1 q.1.2.2 q.2) := by
   intro i hi
   obtain ⟨h1, h2⟩ := hel i (by omega)
   rcases Go.Deep.open_slice he h2 with ⟨h0, _⟩ | ⟨a', len', cap', _, _, _, _, K7, _, _, _, _, _, _⟩
   ·refine ⟨((none, 0, 0), []), ?_, rfl, by simp, by simp, fun h => by simp at h⟩
    rw [h1]; simpa using h0
   ·have hv : V i = .slice (some a') len' cap' := by simpa using K7
    rw [hv] at h2 h1
    obtain ⟨l, l1, l2, l3, l4⟩ := ru.rs (E := jE) (ru.tx he hk hc ⟨n', h2⟩) aac Q2
    subst l1
    exact ⟨((some a', l.length, cap'), l), h1, rfl, l3, l2, l4⟩
  obtain ⟨q, hq⟩ := Go.Deep.choose_lt each
  refine ⟨(List.range n).map fun i => (q i).2, by simp, hl, Nat.le_trans hl (Nat.le_trans hm (by decide)), fun hn => ⟨(List.range n).map fun i => (q i).1, ⟨?_, by simpa using hl⟩, by simp, fun i t f h1 h2 => ?_⟩⟩
  ·have hs := World.cell?_spot (hq 0 hn).1
   obtain ⟨b, o, sp⟩ := a
   have hsp : sp = none := by simpa [Addr.add] using hs
   subst hsp
   intro i hi
   rw [jP.dW, List.length_map, List.length_range] at hi
   have hi' : i < n := by simpa [tL] using hi
   have h3 := (hq i hi').1
   rw [add_eq] at h3
   show (kf w).ld ⟨b, o + i, none⟩ = _
   have h4 := jP.wU (E := tL) (l := (List.range n).map fun i => (q i).1) (i := i) (j := 0) (a := (q i).1) (by rw [List.getElem?_map, List.getElem?_range hi']; rfl) rfl
   have e : i * tL.z + 0 = i := by simp [tL]
   rw [e] at h4
   rw [h4]
   exact h3
  ·rw [List.getElem?_map] at h1 h2
   obtain ⟨j, hj, rfl⟩ := Option.map_eq_some_iff.1 h1
   obtain ⟨j', hj', rfl⟩ := Option.map_eq_some_iff.1 h2
   obtain ⟨hl1, e1⟩ := List.getElem?_eq_some_iff.1 hj
   rw [hj] at hj'
   cases hj'
   have hjn : j < n := by rw [← e1]; simpa using hl1
   exact (hq j hjn).2
theorem JV {t t1 t2 t3 t4 e1 e11 e2 e4 : TypeId} {fs : Array Field} {v : Value} {d : DataW H} {ps : List MemPlace} (hu : P.underlying t = some (.struct fs)) (hf : fs.toList.map (fun (f : Field) => (f.offset, f.type)) = [(0, t1), (1, t2), (2, t3), (3, t4)])
  (u1 : P.underlying t1 = some (.slice e1)) (u11 : P.underlying e1 = some (.slice e11)) (u2 : P.underlying t2 = some (.slice e2)) (u3 : P.underlying t3 = some (.int .i64)) (u4 : P.underlying t4 = some (.slice e4))
  (c1 : P.cellsOf t1 = 1) (c2 : P.cellsOf t2 = 1) (c3 : P.cellsOf t3 = 1) (c4 : P.cellsOf t4 = 1) (c11 : P.cellsOf e1 = 1) (k1 : kJ P 8 e11 = some JU) (k2 : kJ P 8 e2 = some [.i64]) (k4 : kJ P 8 e4 = some aab)
  (d1 : P.cellsOf e11 = 4) (d2 : P.cellsOf e2 = 1) (d4 : P.cellsOf e4 = 3) (ct : P.cellsOf t = 4)
  (hs : ∃ cs, v = .agg cs ∧ cs.size = P.cellsOf t)
  (h : DataW.Trod enc P w base spare held t v d ps) : ∃ (pa : PA) (p : cy), v = .agg #[.slice pa.f p.funcs.length pa.fc, .slice pa.c p.dB.length pa.cc, .int .i64 p.aC, .slice pa.k p.cases.length pa.kc] ∧ wA (kf w) pa p := by
 obtain ⟨cs, rfl, hsz⟩ := hs
 obtain ⟨fuel, hh⟩ := h
 obtain ⟨xs, m, _, _, hl, Wu, Rn⟩ := DataW.trod_struct hu hh
 have e0 : (Value.agg cs).cells = cs := rfl
 rw [e0] at Rn hl
 rw [ct] at hsz
 obtain ⟨cl⟩ := cs
 simp only [List.size_toArray] at hsz
 have hfl : fs.size = 4 := by have := congrArg List.length hf; simpa using this
 have fld : ∀ (i o : Nat) (ty : TypeId), ([(0, t1), (1, t2), (2, t3), (3, t4)] : List (Nat × TypeId))[i]? = some (o, ty) → ∃ (f : Field) (x : DataW H × List MemPlace), fs[i]? = some f ∧ f.offset = o ∧ f.type = ty ∧ DataW.trod enc P w base spare held m ty ((cl.drop o).take (P.cellsOf ty)) = some x := by
  intro i o ty hi
  rw [← hf, List.getElem?_map] at hi
  obtain ⟨f, Ps, HZ⟩ := Option.map_eq_some_iff.1 hi
  cases HZ
  have hf3 : fs[i]? = some f := by simpa using Ps
  have := Rn i f hf3
  have hi4 : i < xs.length := by rw [Wu]; exact (Array.getElem?_eq_some_iff.1 hf3).1
  rw [List.getElem?_eq_getElem hi4] at this
  exact ⟨f, _, hf3, rfl, rfl, this⟩
 match cl, hsz with
 | [w0, w1, w2, w3], _ =>
  obtain ⟨_, x1, _, _, _, a1⟩ := fld 0 0 t1 rfl
  obtain ⟨_, x2, _, _, _, a2⟩ := fld 1 1 t2 rfl
  obtain ⟨_, x3, _, _, _, a3⟩ := fld 2 2 t3 rfl
  obtain ⟨_, x4, _, _, _, a4⟩ := fld 3 3 t4 rfl
  rw [c1] at a1
  rw [c2] at a2
  rw [c3] at a3
  rw [c4] at a4
  have sl : ∀ {ty e : TypeId} {u : Value} {x : DataW H × List MemPlace}, P.underlying ty = some (.slice e) → DataW.trod enc P w base spare held m ty [u] = some x → ∃ A n c, u = .slice A n c := by
   intro ty e u x hu h
   rcases Go.Deep.open_slice hu h with ⟨h0, _⟩ | ⟨a, len, cap, _, _, _, _, h0, _⟩
   ·cases h0; exact ⟨_, _, _, rfl⟩
   ·cases h0; exact ⟨_, _, _, rfl⟩
  obtain ⟨A1, n1, q1, rfl⟩ := sl u1 a1
  obtain ⟨A2, n2, q2, rfl⟩ := sl u2 a2
  obtain ⟨A4, n4, q4, rfl⟩ := sl u4 a4
  obtain ⟨lk, b3, _⟩ := DataW.trod_int u3 a3
  have b3' : w2 = .int .i64 lk := by simpa using b3
  subst b3'
  obtain ⟨fs', f1, f2, f3, f4⟩ := DT u1 u11 c11 k1 ⟨d1, by decide⟩ a1
  obtain ⟨l2, g1, g2, g3, g4⟩ := ru.rs (E := bS) (ru.tx u2 k2 ⟨d2, by decide⟩ ⟨m, a2⟩) (· 0) Q4
  obtain ⟨l4, j1, j2, j3, j4⟩ := ru.rs (E := gT) (ru.tx u4 k4 ⟨d4, by decide⟩ ⟨m, a4⟩) aad Q3
  subst f1; subst g1; subst j1
  exact ⟨⟨A1, q1, A2, q2, A4, q4⟩, ⟨fs', l2, lk, l4⟩, rfl, ⟨f3, g3, j3, f2, f4, g4, j4⟩⟩
end
end Go.Proofs
namespace Go.Proofs
open Go.AF
set_option maxRecDepth 100000
set_option maxHeartbeats 1000000
attribute [local irreducible] bG dF ff dP aF fa aE b7 aO bk bJ aM
def dc (p : cy) : List Int := (p.dB.take 4).map (aG · 4)
def lN (nc : Nat) (c : nh) : nh := if nc = 0 then ⟨2, 0, 0⟩ else ⟨aG c.way 3, aG c.ch nc, aG c.bH 8⟩
def gB (p : cy) : List nh := (p.cases.take 8).map (lN (dc p).length)
def dV (p : cy) : List (List bZ) := if (p.funcs.take 5).length = 0 then [[.zero]] else p.funcs.take 5
def iq (f : List bZ) : List bZ := if (f.take 20).length = 0 then [.zero] else f.take 20
def wB (p : cy) (f : List bZ) : List bZ := (iq f).map (zR (dV p).length (dc p).length (gB p).length (aG p.aC 4) (iq f).length)
def ir (p : cy) : cy := ⟨(dV p).map (wB p), dc p, aG p.aC 4, gB p⟩
theorem zd (p : cy) : 1 ≤ (dV p).length ∧ (dV p).length ≤ 5 := by
 unfold dV
 split
 ·simp
 ·rename_i h; rw [List.length_take] at h ⊢; omega
theorem ER (f : List bZ) : 1 ≤ (iq f).length ∧ (iq f).length ≤ 20 := by
 unfold iq
 split
 ·simp
 ·rename_i h; rw [List.length_take] at h ⊢; omega
theorem ES (p : cy) : (dc p).length ≤ 4 := by unfold dc; rw [List.length_map, List.length_take]; omega
theorem ET (p : cy) : (gB p).length ≤ 8 := by unfold gB; rw [List.length_map, List.length_take]; omega
theorem lk10 (p : cy) : 0 ≤ aG p.aC 4 ∧ aG p.aC 4 ≤ 3 := by have := dN (n := p.aC) (m := 4) (by omega) (by omega); omega
theorem Q5 (p : cy) : eJ (ir p) := by
 have h1 := zd p
 have h2 := ES p
 have h3 := ET p
 have h4 := lk10 p
 refine ⟨by simp [ir]; omega, by show (dc p).length ≤ 8; omega, by show 0 ≤ aG p.aC 4 ∧ aG p.aC 4 ≤ 8; omega, by show (gB p).length ≤ 32; omega, fun c hc => ?_, fun f hf => ?_⟩
 ·obtain ⟨c0, _, rfl⟩ := List.mem_map.1 hc
  have a3 := dN (n := c0.way) (m := 3) (by omega) (by omega)
  have a8 := dN (n := c0.bH) (m := 8) (by omega) (by omega)
  unfold lN
  split
  ·exact ⟨⟨by decide, by decide, fun h => absurd rfl h⟩, by decide, by decide⟩
  ·rename_i hn
   have ac := dN (n := c0.ch) (m := ((dc p).length : Int)) (by omega) (by omega)
   exact ⟨⟨by dsimp only; omega, by dsimp only; omega, fun _ => ⟨ac.1, ac.2, a8.1, a8.2⟩⟩, a8.1, a8.2⟩
 ·obtain ⟨f0, _, rfl⟩ := List.mem_map.1 hf
  have h5 := ER f0
  have hl : (wB p f0).length = (iq f0).length := by simp [wB]
  refine ⟨by omega, by omega, fun i hi => ?_⟩
  obtain ⟨i0, _, rfl⟩ := List.mem_map.1 hi
  refine dH.ok ?_
  have e1 : (ir p).funcs.length = (dV p).length := by simp [ir]
  rw [e1, hl]
  show dH _ ((dc p).length : Nat) ((gB p).length : Nat) (aG p.aC 4) _ _
  exact VP (by omega) (by omega) (by omega) h4 (by omega)
theorem YW : bF Tryz.prog 115 109 4 32 [.int .i64 0, .int .i64 0, .int .i64 0, .int .i64 0] := bF.mk' (zv := .agg #[.int .i64 0, .int .i64 0, .int .i64 0, .int .i64 0]) (by kernel_rfl) (by kernel_rfl) rfl (by omega)
theorem YX : bF Tryz.prog 71 171 3 24 [.int .i64 0, .int .i64 0, .int .i64 0] := bF.mk' (zv := .agg #[.int .i64 0, .int .i64 0, .int .i64 0]) (by kernel_rfl) (by kernel_rfl) rfl (by omega)
theorem el_slT : bF Tryz.prog 70 115 1 24 [.slice none 0 0] := bF.mk' (zv := .slice none 0 0) (by kernel_rfl) (by kernel_rfl) rfl (by omega)
abbrev GZ (pa : PA) (p : cy) : Value := .agg #[.slice pa.f p.funcs.length pa.fc, .slice pa.c p.dB.length pa.cc, .int .i64 p.aC, .slice pa.k p.cases.length pa.kc]
abbrev prgC (A : Option Addr) (n c : Nat) (B : Option Addr) (m d : Nat) (lk : Int) (C : Option Addr) (q e : Nat) : List Value := [.slice A n c, .slice B m d, .int .i64 lk, .slice C q e]
section
variable {R : Mem} {L L' : List HP} {M : Mem} {K : Value → Mem → Prop} {Kp : List PanicEntry → Mem → Prop} {pa : PA} {p : cy}
theorem take_succ {α : Type} {l : List α} {j : Nat} {v : α} (h : l[j]? = some v) : l.take (j + 1) = l.take j ++ [v] := by
 obtain ⟨hj, rfl⟩ := List.getElem?_eq_some_iff.1 h
 rw [List.take_add_one, List.getElem?_eq_getElem hj]; rfl
def zS (R : Mem) (A : Option Addr) (c : Nat) (fs : List (List bZ)) : Prop := ∃ ts : List (Option Addr × Nat × Nat), RS tL R A c ts ∧ ts.length = fs.length ∧ ∀ (i : Nat) t f, ts[i]? = some t → fs[i]? = some f → t.2.1 = f.length ∧ f.length ≤ 9223372036854775807 ∧ f.length ≤ t.2.2 ∧ (0 < f.length → RS jE R t.1 t.2.2 f)
theorem zS.le {R R' : Mem} {A : Option Addr} {c : Nat} {fs : List (List bZ)} (h : zS R A c fs) (hle : R.le R') : zS R' A c fs := by
 obtain ⟨ts, h1, h2, h3⟩ := h
 exact ⟨ts, h1.le hle, h2, fun i t f a b => ⟨(h3 i t f a b).1, (h3 i t f a b).2.1, (h3 i t f a b).2.2.1, fun h => ((h3 i t f a b).2.2.2 h).le hle⟩⟩
theorem zS.cut {R : Mem} {A : Option Addr} {c : Nat} {fs : List (List bZ)} (h : zS R A c fs) (q : Nat) : zS R (jt A 0 c 1) (c - 0) (fs.take q) := by
 obtain ⟨ts, h1, h2, h3⟩ := h
 have h4 := (h1.drop 0 (Nat.zero_le _)).take q
 rw [List.drop_zero] at h4
 refine ⟨ts.take q, h4, by rw [List.length_take, List.length_take, h2], fun i t f a b => ?_⟩
 rw [List.getElem?_take] at a b
 split at a
 ·rename_i hi
  rw [if_pos hi] at b
  exact h3 i t f a b
 ·cases a
theorem RS.cut {α : Type} {E : jP α} {R : Mem} {A : Option Addr} {c : Nat} {l : List α} (h : RS E R A c l) (q : Nat) : RS E R (jt A 0 c E.z) (c - 0) (l.take q) := by
 have h4 := (h.drop 0 (Nat.zero_le _)).take q
 rwa [List.drop_zero] at h4
abbrev ej (k : Nat) (A : Option Addr) (n c : Nat) (B : Option Addr) (m d : Nat) (lk : Int) (C : Option Addr) (q e : Nat) : HP := pt k (prgC A n c B m d lk C q e) 73
theorem Q6 (h : Hp R L M) (ha : wA R pa p) (k : ∀ R' JW q us M', R.le R' → JW.f = some ⟨q, 0, none⟩ → us.length = (ir p).funcs.length → (∀ (i : Nat) t f, us[i]? = some t → (ir p).funcs[i]? = some f → RS jE R' t.1 t.2.2 f ∧ t.2.1 = f.length) → RS gT R' JW.k JW.kc (ir p).cases → RS bS R' JW.c JW.cc (ir p).dB →
  Hp R' (cw tL 115 (some ⟨q, 0, none⟩) JW.fc us :: L) M' → K (GZ JW (ir p)) M') :
  ae Tryz.prog 35 #[GZ pa p] M K Kp := by
 refine rY ?_
 have GQ := ES p
 have hkl := ET p
 have n1 := ha.n1
 have n2 := ha.n2
 have n3 := ha.n3
 have le1 := ha.le1
 refine ai h ?_
 clear h
 intro k1 M h
 refine ai h ?_
 clear h
 intro k3 M h
 refine az h (bK (eY ?_))
 refine ai h ?_
 clear h
 intro k9 M h
 repeat (refine ak h ?_; clear h; intro M h)
 generalize hlk : aG p.aC 4 = lk at h
 have h0 : Hp R (cw bS 3 none 0 [] :: ej k9 none 0 0 none 0 0 lk none 0 0 :: ej k3 none 0 0 none 0 0 0 none 0 0 :: ej k1 pa.f p.funcs.length pa.fc pa.c p.dB.length pa.cc p.aC pa.k p.cases.length pa.kc :: L) M := h.dz bS 3
 clear h
 refine ⟨fun vs M => vs = [] ∧ ∃ B c, Hp R (cw bS 3 B c (dc p) :: ej k9 none 0 0 B (dc p).length c lk none 0 0 :: ej k3 none 0 0 none 0 0 0 none 0 0 :: ej k1 pa.f p.funcs.length pa.fc pa.c p.dB.length pa.cc p.aC pa.k p.cases.length pa.kc :: L) M,
  ⟨fun dd vs M => ∃ (j : Nat) (B : Option Addr) (c : Nat), vs = [.int .i64 (j : Int)] ∧ dd = 4 - j ∧ j ≤ 4 ∧ j ≤ p.dB.length ∧ Hp R (cw bS 3 B c ((p.dB.take j).map (aG · 4)) :: ej k9 none 0 0 B j c lk none 0 0 :: ej k3 none 0 0 none 0 0 0 none 0 0 :: ej k1 pa.f p.funcs.length pa.fc pa.c p.dB.length pa.cc p.aC pa.k p.cases.length pa.kc :: L) M, ⟨_, 0, none, 0, rfl, rfl, by omega, by omega, h0⟩, ?_⟩, ?_⟩
 ·clear h0
  rintro dd _ nn M ⟨j, B, c, he, hd, hj, ZH, h⟩
  simp only [List.cons.injEq, Value.int.injEq, and_true, true_and] at he
  subst he
  have hlen : ((p.dB.take j).map (aG · 4)).length = j := by rw [List.length_map, List.length_take]; omega
  have hout : ¬ (j < p.dB.length ∧ j < 4) → (p.dB.take j).map (aG · 4) = dc p ∧ j = (dc p).length := fun hn => by
   have e : p.dB.take j = p.dB.take 4 := by
    rcases Nat.lt_or_ge j 4 with h4 | h4
    ·rw [List.take_of_length_le (by omega), List.take_of_length_le (by omega)]
    ·rw [show j = 4 from by omega]
   refine ⟨by rw [dc, e], ?_⟩
   rw [← hlen, e]; rfl
  refine ax h ?_
  by_cases hc : j < p.dB.length ∧ j < 4
  ·obtain ⟨c1, c2⟩ := hc
   refine bY (by simp; omega) (bY (by simp; omega) ?_)
   have hr := ha.dB (by omega)
   obtain ⟨b, o, hb⟩ := hr.some (by omega) (by decide)
   rw [hb] at hr h
   obtain ⟨v, hv⟩ := aJ c1
   have YY : (p.dB.take (j + 1)).map (aG · 4) = (p.dB.take j).map (aG · 4) ++ [aG v 4] := by rw [take_succ hv, List.map_append]; rfl
   have hstep : ∀ M B c, Hp R (cw bS 3 B c ((p.dB.take j).map (aG · 4) ++ [aG v 4]) :: ej k9 none 0 0 B (j + 1) c lk none 0 0 :: ej k3 none 0 0 none 0 0 0 none 0 0 :: ej k1 pa.f p.funcs.length pa.fc (some ⟨b, o, none⟩) p.dB.length pa.cc p.aC pa.k p.cases.length pa.kc :: L) M →
     ∃ (j' : Nat) (B : Option Addr) (c : Nat), [Value.int .i64 (IntKind.wrap .i64 ((j : Int) + 1))] = [.int .i64 (j' : Int)] ∧ 4 - (j + 1) = 4 - j' ∧ j' ≤ 4 ∧ j' ≤ p.dB.length ∧ Hp R (cw bS 3 B c ((p.dB.take j').map (aG · 4)) :: ej k9 none 0 0 B j' c lk none 0 0 :: ej k3 none 0 0 none 0 0 0 none 0 0 :: ej k1 pa.f p.funcs.length pa.fc pa.c p.dB.length pa.cc p.aC pa.k p.cases.length pa.kc :: L) M := by
    intro M B c h
    refine ⟨j + 1, B, c, by rw [aS (by omega)], rfl, by omega, by omega, ?_⟩
    rw [YY, hb]
    exact h
   refine ⟨fun vs M => vs = [] ∧ ∃ B c, Hp R (cw bS 3 B c ((p.dB.take j).map (aG · 4) ++ [aG v 4]) :: ej k9 none 0 0 B (j + 1) c lk none 0 0 :: ej k3 none 0 0 none 0 0 0 none 0 0 :: ej k1 pa.f p.funcs.length pa.fc (some ⟨b, o, none⟩) p.dB.length pa.cc p.aC pa.k p.cases.length pa.kc :: L) M, ?_, ?_⟩
   ·refine ax h ⟨by omega, by omega, aV ?_⟩
    refine aj (Src.at hr.src h (i := j) (j := 0) hv rfl (by simp [bS])) ?_
    refine ⟨?_, ?_, trivial⟩
    ·refine ax h (bK (eY ?_))
     refine ai h ?_
     clear h
     intro qt M h
     refine h.jV (A := B) jR [aG v 4] rfl hlen.symm rfl (by simp; omega) ?_
     clear h; intro A' c' M h
     refine aY ?_
     refine ak h ?_
     clear h
     intro M h
     exact ⟨rfl, _, _, h.sub bz⟩
    ·refine bK (eY (ax h ?_))
     refine ai h ?_
     clear h
     intro qt M h
     refine h.jV (A := B) jR [aG v 4] rfl hlen.symm rfl (by simp; omega) ?_
     clear h; intro A' c' M h
     refine aY ?_
     refine ak h ?_
     clear h
     intro M h
     exact ⟨rfl, _, _, h.sub bz⟩
   ·clear h
    rintro nn M ⟨_, B', c', h⟩
    exact ⟨4 - (j + 1), by omega, hstep M B' c' h⟩
  ·have ho := hout hc
   obtain ⟨e1, e2⟩ := ho
   rw [e1] at h
   refine OI ⟨rfl, B, c, ?_⟩ fun h1 h2 => absurd ⟨by omega, by omega⟩ hc
   rw [← e2]; exact h
 clear h0
 rintro nn M ⟨_, B, c, h⟩
 clear nn
 have h0 : Hp R (cw gT 171 none 0 [] :: cw bS 3 B c (dc p) :: ej k9 none 0 0 B (dc p).length c lk none 0 0 :: ej k3 none 0 0 none 0 0 0 none 0 0 :: ej k1 pa.f p.funcs.length pa.fc pa.c p.dB.length pa.cc p.aC pa.k p.cases.length pa.kc :: L) M := h.dz gT _
 clear h
 refine ⟨fun vs M => vs = [] ∧ ∃ C d, Hp R (cw gT 171 C d (gB p) :: cw bS 3 B c (dc p) :: ej k9 none 0 0 B (dc p).length c lk C (gB p).length d :: ej k3 none 0 0 none 0 0 0 none 0 0 :: ej k1 pa.f p.funcs.length pa.fc pa.c p.dB.length pa.cc p.aC pa.k p.cases.length pa.kc :: L) M,
  ⟨fun dd vs M => ∃ (j : Nat) (C : Option Addr) (d : Nat), vs = [.int .i64 (j : Int)] ∧ dd = 8 - j ∧ j ≤ 8 ∧ j ≤ p.cases.length ∧ Hp R (cw gT 171 C d ((p.cases.take j).map (lN (dc p).length)) :: cw bS 3 B c (dc p) :: ej k9 none 0 0 B (dc p).length c lk C j d :: ej k3 none 0 0 none 0 0 0 none 0 0 :: ej k1 pa.f p.funcs.length pa.fc pa.c p.dB.length pa.cc p.aC pa.k p.cases.length pa.kc :: L) M, ⟨_, 0, none, 0, rfl, rfl, by omega, by omega, h0⟩, ?_⟩, ?_⟩
 ·clear h0
  rintro dd _ nn M ⟨j, C, d, he, hd, hj, ZH, h⟩
  simp only [List.cons.injEq, Value.int.injEq, and_true, true_and] at he
  subst he
  have hlen : ((p.cases.take j).map (lN (dc p).length)).length = j := by rw [List.length_map, List.length_take]; omega
  have hout : ¬ (j < p.cases.length ∧ j < 8) → (p.cases.take j).map (lN (dc p).length) = gB p ∧ j = (gB p).length := fun hn => by
   have e : p.cases.take j = p.cases.take 8 := by
    rcases Nat.lt_or_ge j 8 with h4 | h4
    ·rw [List.take_of_length_le (by omega), List.take_of_length_le (by omega)]
    ·rw [show j = 8 from by omega]
   refine ⟨by rw [gB, e], ?_⟩
   rw [← hlen, e]; rfl
  refine ax h ?_
  by_cases hc : j < p.cases.length ∧ j < 8
  ·obtain ⟨c1, c2⟩ := hc
   refine bY (by simp; omega) (bY (by simp; omega) ?_)
   have hr := ha.cases (by omega)
   obtain ⟨b, o, hb⟩ := hr.some (by omega) (by decide)
   rw [hb] at hr h
   obtain ⟨v, hv⟩ := aJ c1
   have YY : (p.cases.take (j + 1)).map (lN (dc p).length) = (p.cases.take j).map (lN (dc p).length) ++ [lN (dc p).length v] := by rw [take_succ hv, List.map_append]; rfl
   refine ax h ⟨by omega, by omega, aV ?_⟩
   refine aj (Src.at hr.src h (i := j) (j := 0) hv rfl (by simp [gT])) ?_
   refine aj (Src.at hr.src h (i := j) (j := 1) hv rfl (by simp [gT]; omega)) ?_
   refine aj (Src.at hr.src h (i := j) (j := 2) hv rfl (by simp [gT]; omega)) ?_
   refine ai h ?_
   clear h
   intro BG M h
   repeat (first|refine bK ?_|(refine ai h ?_;clear h;intro kb M h)|(refine ak h ?_;clear h;intro M h)|refine St.to h ?_|(apply Exists.intro;(repeat apply Exists.intro);refine And.intro rfl ?_)|refine ay ?_|refine aq ?_|refine au ?_)
   refine ⟨fun vs M => vs = [] ∧ Hp R (pt kb (gT.f (lN (dc p).length v)) 171 :: cw gT 171 C d ((p.cases.take j).map (lN (dc p).length)) :: cw bS 3 B c (dc p) :: ej k9 none 0 0 B (dc p).length c lk C j d :: ej k3 none 0 0 none 0 0 0 none 0 0 :: ej k1 pa.f p.funcs.length pa.fc pa.c p.dB.length pa.cc p.aC (some ⟨b, o, none⟩) p.cases.length pa.kc :: L) M, ?_, ?_⟩
   ·refine bh.2 ⟨fun hz => ?_, fun hz => ?_⟩
    ·have ez : lN (dc p).length v = ⟨2, 0, 0⟩ := by unfold lN; rw [if_pos (by omega)]
     rw [ez]
     repeat (first|(refine ai h ?_;clear h;intro kb M h)|(refine ak h ?_;clear h;intro M h)|refine St.to h ?_|(apply Exists.intro;(repeat apply Exists.intro);refine And.intro rfl ?_)|refine ay ?_|refine aq ?_|refine au ?_)
     exact h.sub bz
    ·have ez : lN (dc p).length v = ⟨aG v.way 3, aG v.ch (dc p).length, aG v.bH 8⟩ := by unfold lN; rw [if_neg (by omega)]
     rw [ez]
     exact ⟨rfl, h.sub bz⟩
   ·clear h
    rintro nn M ⟨_, h⟩
    generalize lN (dc p).length v = w at h YY
    have h : Hp R (pt kb [.int .i64 w.way, .int .i64 w.ch, .int .i64 w.bH] 171 :: cw gT 171 C d ((p.cases.take j).map (lN (dc p).length)) :: cw bS 3 B c (dc p) :: ej k9 none 0 0 B (dc p).length c lk C j d :: ej k3 none 0 0 none 0 0 0 none 0 0 :: ej k1 pa.f p.funcs.length pa.fc pa.c p.dB.length pa.cc p.aC (some ⟨b, o, none⟩) p.cases.length pa.kc :: L) M := h
    refine ax h (az h (az h (az h ?_)))
    refine ai h ?_
    clear h
    intro Rw M h
    refine h.jV (A := C) YX [w] rfl hlen.symm rfl (by simp; omega) ?_
    clear h; intro C' d' M h
    refine aY ?_
    refine ak h ?_
    clear h
    intro M h
    refine ⟨8 - (j + 1), by omega, j + 1, C', d', by rw [aS (by omega)], rfl, by omega, by omega, ?_⟩
    rw [YY, hb]
    exact h.sub bz
  ·have ho := hout hc
   obtain ⟨e1, e2⟩ := ho
   rw [e1] at h
   refine OI ⟨rfl, C, d, ?_⟩ fun h1 h2 => absurd ⟨by omega, by omega⟩ hc
   rw [← e2]; exact h
 clear h0
 rintro nn M ⟨_, C, d, h⟩
 clear nn
 obtain ⟨R1, l1, rC, h1⟩ := h.bB C
 obtain ⟨R2, l2, rB, h2⟩ := h1.bB B
 clear h h1
 replace rC := rC.le l2
 have dQ : R.le R2 := Mem.le_trans l1 l2
 replace h := h2
 clear h2 l1 l2
 have e5 : Int.toNat (if (5 : Int) < ((p.funcs.length : Nat) : Int) then 5 else ((p.funcs.length : Nat) : Int)) - 0 = min 5 p.funcs.length := by split <;> omega
 refine ax h (ax h ⟨by omega, by omega, by split <;> omega, by split <;> omega, by omega, by split <;> omega, ?_⟩)
 simp only [e5, Int.toNat_natCast]
 refine ⟨fun vs M => ∃ R' A c', vs = [.slice A (dV p).length c'] ∧ R2.le R' ∧ zS R' A c' (dV p) ∧ Hp R' (ej k9 none 0 0 B (dc p).length c lk C (gB p).length d :: ej k3 none 0 0 none 0 0 0 none 0 0 :: ej k1 pa.f p.funcs.length pa.fc pa.c p.dB.length pa.cc p.aC pa.k p.cases.length pa.kc :: L) M, ?_, ?_⟩
 ·refine bh.2 ⟨fun hz => ?_, fun hz => ?_⟩
  ·have ez : dV p = [[.zero]] := by unfold dV; rw [if_pos (by rw [List.length_take]; omega)]
   rw [ez]
   refine ai h ?_
   clear h
   intro ka M h
   obtain ⟨R3, l3, r3, h3⟩ := ((h.pt ka).g8 (E := jE) (l := [.zero]) rfl).bB (some ⟨ka, 0, none⟩)
   clear h
   refine ai h3 ?_
   clear h3; intro kb M h
   obtain ⟨R4, l4, r4, h4⟩ := ((h.pt kb).g8 (E := tL) (l := [(some ⟨ka, 0, none⟩, 1, 1)]) rfl).bB (some ⟨kb, 0, none⟩)
   clear h
   refine ⟨R4, _, _, rfl, Mem.le_trans l3 l4, ⟨_, r4, rfl, fun i t f a b => ?_⟩, h4⟩
   match i, a, b with
   | 0, a, b => cases a; cases b; exact ⟨rfl, by simp, by simp, fun _ => r3.le l4⟩
   | i + 1, a, b => simp at a
  ·have ez : dV p = p.funcs.take 5 := by unfold dV; rw [if_neg (by rw [List.length_take]; omega)]
   have hf : zS R pa.f pa.fc p.funcs := ha.funcs (by omega)
   rw [ez]
   refine ⟨R2, _, _, by rw [List.length_take], Mem.le_refl _, (hf.cut 5).le dQ, h⟩
 clear h
 rintro nn A' n' c' M ⟨R3, A, cA, he, l3, hrows, h⟩
 simp only [List.cons.injEq, Value.slice.injEq, and_true] at he
 obtain ⟨rfl, rfl, rfl⟩ := he
 clear nn e5
 replace rC := rC.le l3
 replace rB := rB.le l3
 have hl3 : R.le R3 := Mem.le_trans dQ l3
 clear l3 dQ
 have hfl := zd p
 refine h.Oh (E := tL) (a := (none, 0, 0)) el_slT (by omega) ?_
 clear h; intro q M h
 refine aY ?_
 refine ak h ?_
 clear h
 intro M h
 obtain ⟨ts, hts1, hts2, hts3⟩ := hrows
 refine ⟨fun dd vs M => ∃ (j : Nat) (R4 : Mem) (us : List (Option Addr × Nat × Nat)), vs = [.int .i64 (j : Int)] ∧ dd = (dV p).length - j ∧ j ≤ (dV p).length ∧ R3.le R4 ∧ us.length = (dV p).length ∧ (∀ (i : Nat) t f, i < j → us[i]? = some t → (dV p)[i]? = some f → RS jE R4 t.1 t.2.2 (wB p f) ∧ t.2.1 = (wB p f).length) ∧
  Hp R4 (cw tL 115 (some ⟨q, 0, none⟩) (dV p).length us :: ej k9 (some ⟨q, 0, none⟩) (dV p).length (dV p).length B (dc p).length c lk C (gB p).length d :: ej k3 none 0 0 none 0 0 0 none 0 0 :: ej k1 pa.f p.funcs.length pa.fc pa.c p.dB.length pa.cc p.aC pa.k p.cases.length pa.kc :: L) M,
  ⟨_, 0, R3, List.replicate (dV p).length (none, 0, 0), rfl, rfl, by omega, Mem.le_refl _, by simp, fun i t f hi => absurd hi (by omega), h.sub bz⟩, ?_⟩
 clear h
 rintro dd _ nn M ⟨j, R4, us, he, hd, hj, l4, hus, JX, h⟩
 simp only [List.cons.injEq, Value.int.injEq, and_true, true_and] at he
 subst he
 refine aH.2 ⟨fun hlt => ?_, fun hge => ?_⟩
 ·obtain ⟨t, ht⟩ := aJ (l := ts) (i := j) (by omega)
  obtain ⟨f, hf⟩ := aJ (l := dV p) (i := j) (by omega)
  obtain ⟨u1, u2, u3, u4⟩ := hts3 j t f ht hf
  obtain ⟨tA, tn, tc⟩ := t
  dsimp only at u1 u3 u4
  subst u1
  have NF := hts1.le l4
  obtain ⟨b, o, hb⟩ := NF.some (by omega) (by decide)
  rw [hb] at NF
  rw [hb]
  refine ⟨by omega, hlt, aV ?_⟩
  refine bu (Src.at NF.src h (i := j) (j := 0) ht rfl (by simp [tL])) ?_
  dsimp only
  have e20 : Int.toNat (if (20 : Int) < ((f.length : Nat) : Int) then 20 else ((f.length : Nat) : Int)) - 0 = min 20 f.length := by split <;> omega
  refine ⟨by omega, by omega, by split <;> omega, by split <;> omega, by omega, by split <;> omega, ?_⟩
  simp only [e20, Int.toNat_natCast]
  refine ⟨fun vs M => ∃ R' A c', vs = [.slice A (iq f).length c'] ∧ R4.le R' ∧ RS jE R' A c' (iq f) ∧ Hp R' (cw tL 115 (some ⟨q, 0, none⟩) (dV p).length us :: ej k9 (some ⟨q, 0, none⟩) (dV p).length (dV p).length B (dc p).length c lk C (gB p).length d :: ej k3 none 0 0 none 0 0 0 none 0 0 :: ej k1 pa.f p.funcs.length pa.fc pa.c p.dB.length pa.cc p.aC pa.k p.cases.length pa.kc :: L) M, ?_, ?_⟩
  ·refine bh.2 ⟨fun hz => ?_, fun hz => ?_⟩
   ·have ez : iq f = [.zero] := by unfold iq; rw [if_pos (by rw [List.length_take]; omega)]
    rw [ez]
    refine ai h ?_
    clear h
    intro ka M h
    obtain ⟨R5, l5, r5, h5⟩ := ((h.pt ka).g8 (E := jE) (l := [.zero]) rfl).bB (some ⟨ka, 0, none⟩)
    clear h
    exact ⟨R5, _, _, rfl, l5, r5, h5⟩
   ·have ez : iq f = f.take 20 := by unfold iq; rw [if_neg (by rw [List.length_take]; omega)]
    rw [ez]
    refine ⟨R4, _, _, by rw [List.length_take]; rfl, Mem.le_refl _, RS.le (RS.cut (E := jE) (u4 (by omega)) 20) l4, h⟩
  clear h
  rintro nn YZ C6 c'' M ⟨R5, F, cF, he, l5, hF, h⟩
  simp only [List.cons.injEq, Value.slice.injEq, and_true] at he
  obtain ⟨rfl, rfl, rfl⟩ := he
  clear nn e20
  have h5 := ER f
  refine ai h ?_
  clear h
  intro kr M h
  have h0 := (h.pt kr).g8 (E := jE) (l := []) rfl
  clear h
  refine ⟨fun dd vs M => ∃ (i : Nat) (A : Option Addr) (c' : Nat), vs = [.slice A i c', .int .i64 (i : Int)] ∧ dd = (iq f).length - i ∧ i ≤ (iq f).length ∧ Hp R5 (cw jE 109 A c' (((iq f).take i).map (zR (dV p).length (dc p).length (gB p).length lk (iq f).length)) :: cw tL 115 (some ⟨q, 0, none⟩) (dV p).length us :: ej k9 (some ⟨q, 0, none⟩) (dV p).length (dV p).length B (dc p).length c lk C (gB p).length d :: ej k3 none 0 0 none 0 0 0 none 0 0 :: ej k1 pa.f p.funcs.length pa.fc pa.c p.dB.length pa.cc p.aC pa.k p.cases.length pa.kc :: L) M,
   ⟨_, 0, _, _, rfl, rfl, by omega, h0⟩, ?_⟩
  clear h0
  rintro dd _ YZ C6 c'' nn M ⟨i, A2, c2, he, JM, hi, h⟩
  simp only [List.cons.injEq, Value.int.injEq, Value.slice.injEq, and_true, true_and] at he
  obtain ⟨⟨rfl, rfl, rfl⟩, rfl⟩ := he
  have hlen : (((iq f).take C6).map (zR (dV p).length (dc p).length (gB p).length lk (iq f).length)).length = C6 := by rw [List.length_map, List.length_take]; omega
  refine aH.2 ⟨fun VQ => ?_, fun hge2 => ?_⟩
  ·obtain ⟨x, hx⟩ := aJ (l := iq f) (i := C6) (by omega)
   obtain ⟨b', o', hb'⟩ := hF.some (by omega) (by decide)
   rw [hb'] at hF
   rw [hb']
   refine ⟨by omega, VQ, aV ?_⟩
   refine aj (Src.at hF.src h (i := C6) (j := 0) hx rfl (by simp [jE])) ?_
   refine aj (Src.at hF.src h (i := C6) (j := 1) hx rfl (by simp [jE]; omega)) ?_
   refine aj (Src.at hF.src h (i := C6) (j := 2) hx rfl (by simp [jE]; omega)) ?_
   refine aj (Src.at hF.src h (i := C6) (j := 3) hx rfl (by simp [jE]; omega)) ?_
   repeat (first|(refine ai h ?_;clear h;intro kb M h)|(refine ak h ?_;clear h;intro M h)|refine St.to h ?_|(apply Exists.intro;(repeat apply Exists.intro);refine And.intro rfl ?_)|refine ay ?_|refine aq ?_|refine au ?_)
   refine YV h (by omega) ?_
   clear h; intro M h
   refine ⟨_, _, _, _, rfl, ?_⟩
   refine ai h ?_
   clear h
   intro kz M h
   refine h.jV (A := YZ) YW [zR (dV p).length (dc p).length (gB p).length lk (iq f).length x] rfl hlen.symm rfl (by simp; omega) ?_
   clear h; intro A3 c3 M h
   refine aY ⟨(iq f).length - (C6 + 1), by omega, C6 + 1, A3, c3, ?_, rfl, by omega, ?_⟩
   ·rw [aS (by omega)]
   ·rw [take_succ hx, List.map_append]
    exact h.sub bz
  ·have hin : C6 = (iq f).length := by omega
   subst hin
   rw [List.take_of_length_le (Nat.le_refl _)] at h
   obtain ⟨R6, l6, r6, h6⟩ := h.bB YZ
   clear h
   refine ax h6 ⟨by omega, by omega, aV ?_⟩
   obtain ⟨u, hu⟩ := aJ (l := us) (i := j) (by omega)
   refine g9 (a' := (YZ, (iq f).length, c'')) j 0 h6 hu (by decide) rfl (by simp [tL]) ?_
   clear h6; intro M h
   refine ⟨(dV p).length - (j + 1), by omega, j + 1, R6, _, by rw [aS (by omega)], rfl, by omega, Mem.le_trans l4 (Mem.le_trans l5 l6), ?_, ?_, h.sub bz⟩
   ·simp [hus]
   ·intro i t' f' hi' ht' KM
    by_cases hij : i = j
    ·subst hij
     rw [List.getElem?_set_self (by omega)] at ht'
     cases ht'
     rw [hf] at KM
     cases KM
     subst hlk
     exact ⟨r6, by simp [wB]⟩
    ·rw [List.getElem?_set_ne (by omega)] at ht'
     obtain ⟨g1, g2⟩ := JX i t' f' (by omega) ht' KM
     exact ⟨g1.le (Mem.le_trans l5 l6), g2⟩
 ·have h5 : Hp R4 (ej k9 (some ⟨q, 0, none⟩) (dV p).length (dV p).length B (dc p).length c lk C (gB p).length d :: ej k3 none 0 0 none 0 0 0 none 0 0 :: cw tL 115 (some ⟨q, 0, none⟩) (dV p).length us :: L) M := h.sub bz
  clear h
  replace h := h5
  clear h5
  repeat (first|(refine ai h ?_;clear h;intro kb M h)|(refine ak h ?_;clear h;intro M h)|refine St.to h ?_|(apply Exists.intro;(repeat apply Exists.intro);refine And.intro rfl ?_)|refine ay ?_|refine aq ?_|refine au ?_)
  subst hlk
  have ef : (ir p).funcs.length = (dV p).length := by simp [ir]
  have hk := k R4 ⟨some ⟨q, 0, none⟩, (dV p).length, B, c, C, d⟩ q us M (Mem.le_trans hl3 l4) rfl (by rw [hus, ef]) (fun i t f a b => ?_) (rC.le l4) (rB.le l4) (h.sub bz)
  ·rw [GZ, ef] at hk
   exact hk
  ·have b' : ((dV p).map (wB p))[i]? = some f := b
   rw [List.getElem?_map] at b'
   obtain ⟨f0, b1, rfl⟩ := Option.map_eq_some_iff.1 b'
   exact JX i t f0 (by have := (List.getElem?_eq_some_iff.1 b1).1; omega) a b1
theorem VR (h : Hp R L M) (ha : wA R pa p) (k : ∀ R' JW M', R.le R' → nQ R' JW (ir p) → RS bS R' JW.c JW.cc (ir p).dB → Hp R' L M' → K (GZ JW (ir p)) M') :
  ae Tryz.prog 35 #[GZ pa p] M K Kp := by
 refine Q6 h ha ?_
 clear h; intro R1 C7 q us M l1 e hus hd rC rB h
 obtain ⟨R2, l2, r2, h2⟩ := h.bB (some ⟨q, 0, none⟩)
 refine k R2 C7 M (Mem.le_trans l1 l2) ⟨⟨us, by rw [e]; exact r2, hus, fun i t f a b => ?_⟩, rC.le l2⟩ (rB.le l2) h2
 obtain ⟨g1, g2⟩ := hd i t f a b
 exact ⟨g1.le l2, g2⟩
end
theorem Y0 : bF Tryz.prog 31 34 4 32 [.int .i64 0, .int .i64 0, .int .i64 0, .int .i64 0] := bF.mk' (zv := .agg #[.int .i64 0, .int .i64 0, .int .i64 0, .int .i64 0]) (by kernel_rfl) (by kernel_rfl) rfl (by omega)
theorem Y1 : bF Tryz.prog 39 172 3 24 [.int .i64 0, .int .i64 0, .int .i64 0] := bF.mk' (zv := .agg #[.int .i64 0, .int .i64 0, .int .i64 0]) (by kernel_rfl) (by kernel_rfl) rfl (by omega)
theorem el_slP : bF Tryz.prog 37 31 1 24 [.slice none 0 0] := bF.mk' (zv := .slice none 0 0) (by kernel_rfl) (by kernel_rfl) rfl (by omega)
theorem bq {A : Option Addr} {b o : Nat} {G : Nat → Nat → Prop} (e : A = some ⟨b, o, none⟩) (g : G b o) : aE A G := by subst e; exact aV g
abbrev DU (k : Nat) (A : Option Addr) (n c : Nat) (B : Option Addr) (m d : Nat) (lk : Int) (C : Option Addr) (q e : Nat) : HP := pt k (prgC A n c B m d lk C q e) 41
section
variable {R : Mem} {L L' : List HP} {M : Mem} {K : Value → Mem → Prop} {Kp : List PanicEntry → Mem → Prop} {pa : PA} {p : cy}
theorem Y2 (h : Hp R L M) (ha : nQ R pa p) (hc : RS bS R pa.c pa.cc p.dB) (hp : eJ p) (hfn : p.funcs.length ≤ 1000000) (k : ∀ R' JW M', R.le R' → nQ R' JW p → RS bS R' JW.c JW.cc p.dB → Hp R' L M' → K (GZ JW p) M') :
  ae Tryz.prog 29 #[GZ pa p] M K Kp := by
 refine uM ?_
 have p1 := hp.ch
 have p2 := hp.cs
 obtain ⟨ts, t1, t2, t3⟩ := ha.funcs
 have t4 := t1.2
 refine ai h ?_
 clear h
 intro k1 M h
 refine ai h ?_
 clear h
 intro k3 M h
 refine ax h (az h ?_)
 refine ai h ?_
 clear h
 intro k9 M h
 refine ⟨trivial, ?_⟩
 refine h.b6 bS jR p.dB hc.src rfl (by omega) ?_
 clear h; intro B c M h
 refine aY ⟨cv h, ?_⟩
 refine ai h ?_
 clear h
 intro fx M h
 repeat (refine ak h ?_; clear h; intro M h)
 refine ⟨cv h, ax h ?_⟩
 obtain ⟨R1, l1, rB, h1⟩ := h.bB B
 clear h
 have h0 : Hp R1 (cw tL 31 none 0 [] :: DU fx none 0 0 B p.dB.length c p.aC none 0 0 :: DU k3 none 0 0 none 0 0 0 none 0 0 :: ej k1 pa.f p.funcs.length pa.fc pa.c p.dB.length pa.cc p.aC pa.k p.cases.length pa.kc :: L) M := (h1.dz tL _).sub bz
 clear h1
 refine ⟨fun dd vs M => ∃ (j : Nat) (R2 : Mem) (A : Option Addr) (cA : Nat) (us : List (Option Addr × Nat × Nat)), vs = [.int .i64 (j : Int)] ∧ dd = p.funcs.length - j ∧ j ≤ p.funcs.length ∧ R1.le R2 ∧ us.length = j ∧ (∀ (i : Nat) t f, us[i]? = some t → p.funcs[i]? = some f → RS jE R2 t.1 t.2.2 f ∧ t.2.1 = f.length) ∧
  Hp R2 (cw tL 31 A cA us :: DU fx A j cA B p.dB.length c p.aC none 0 0 :: DU k3 none 0 0 none 0 0 0 none 0 0 :: ej k1 pa.f p.funcs.length pa.fc pa.c p.dB.length pa.cc p.aC pa.k p.cases.length pa.kc :: L) M,
  ⟨_, 0, R1, none, 0, [], rfl, rfl, by omega, Mem.le_refl _, rfl, fun i t f a => by simp at a, h0⟩, ?_⟩
 clear h0
 rintro dd _ nn M ⟨j, R2, A, cA, us, he, hd, hj, l2, hus, JX, h⟩
 simp only [List.cons.injEq, Value.int.injEq, and_true, true_and] at he
 subst he
 refine aH.2 ⟨fun hlt => ?_, fun hge => ?_⟩
 ·obtain ⟨t, ht⟩ := aJ (l := ts) (i := j) (by omega)
  obtain ⟨f, hf⟩ := aJ (l := p.funcs) (i := j) (by omega)
  obtain ⟨u1, u2⟩ := t3 j t f ht hf
  have hfl := (hp.code f (List.mem_of_getElem? hf)).2.1
  obtain ⟨tA, tn, tc⟩ := t
  dsimp only at u1 u2
  subst u2
  have NF := t1.le (Mem.le_trans l1 l2)
  obtain ⟨b, o, hb⟩ := NF.some (by omega) (by decide)
  rw [hb] at NF
  refine ⟨by omega, hlt, bq hb ?_⟩
  refine bu (Src.at NF.src h (i := j) (j := 0) ht rfl (by simp [tL])) ?_
  dsimp only
  have hF := u1.le (Mem.le_trans l1 l2)
  refine ai h ?_
  clear h
  intro kr M h
  have h0 := (h.pt kr).g8 (E := jE) (l := []) rfl
  clear h
  refine ⟨fun dd vs M => ∃ (i : Nat) (A2 : Option Addr) (c' : Nat), vs = [.slice A2 i c', .int .i64 (i : Int)] ∧ dd = f.length - i ∧ i ≤ f.length ∧ Hp R2 (cw jE 34 A2 c' (f.take i) :: cw tL 31 A cA us :: DU fx A j cA B p.dB.length c p.aC none 0 0 :: DU k3 none 0 0 none 0 0 0 none 0 0 :: ej k1 pa.f p.funcs.length pa.fc pa.c p.dB.length pa.cc p.aC pa.k p.cases.length pa.kc :: L) M,
   ⟨_, 0, _, _, rfl, rfl, by omega, h0⟩, ?_⟩
  clear h0
  rintro dd _ YZ C6 c'' nn M ⟨i, A2, c2, he, JM, hi, h⟩
  simp only [List.cons.injEq, Value.int.injEq, Value.slice.injEq, and_true, true_and] at he
  obtain ⟨⟨rfl, rfl, rfl⟩, rfl⟩ := he
  have hlen : (f.take C6).length = C6 := by rw [List.length_take]; omega
  refine aH.2 ⟨fun VQ => ?_, fun hge2 => ?_⟩
  ·obtain ⟨x, hx⟩ := aJ (l := f) (i := C6) (by omega)
   obtain ⟨b', o', hb'⟩ := hF.some (by omega) (by decide)
   rw [hb'] at hF
   refine ⟨by omega, VQ, bq hb' ?_⟩
   refine aj (Src.at hF.src h (i := C6) (j := 0) hx rfl (by simp [jE])) ?_
   refine aj (Src.at hF.src h (i := C6) (j := 1) hx rfl (by simp [jE]; omega)) ?_
   refine aj (Src.at hF.src h (i := C6) (j := 2) hx rfl (by simp [jE]; omega)) ?_
   refine aj (Src.at hF.src h (i := C6) (j := 3) hx rfl (by simp [jE]; omega)) ?_
   repeat (first|(refine ai h ?_;clear h;intro kb M h)|(refine ak h ?_;clear h;intro M h)|refine St.to h ?_|(apply Exists.intro;(repeat apply Exists.intro);refine And.intro rfl ?_)|refine ay ?_|refine aq ?_|refine au ?_)
   refine h.jV (A := YZ) Y0 [x] rfl hlen.symm rfl (by simp; omega) ?_
   clear h; intro A3 c3 M h
   refine aY ⟨f.length - (C6 + 1), by omega, C6 + 1, A3, c3, ?_, rfl, by omega, ?_⟩
   ·rw [aS (by omega)]
   ·rw [take_succ hx]
    exact h.sub bz
  ·have hin : C6 = f.length := by omega
   subst hin
   rw [List.take_of_length_le (Nat.le_refl _)] at h
   obtain ⟨R6, l6, r6, h6⟩ := h.bB YZ
   clear h
   refine ax h6 ?_
   refine ai h6 ?_
   clear h6; intro kz M h
   refine h.jV (A := A) el_slP [(YZ, f.length, c'')] rfl hus.symm rfl (by simp; omega) ?_
   clear h; intro A3 c3 M h
   refine aY ?_
   refine ak h ?_
   clear h
   intro M h
   refine ⟨p.funcs.length - (j + 1), by omega, j + 1, R6, A3, c3, us ++ [(YZ, f.length, c'')], by rw [aS (by omega)], rfl, by omega, Mem.le_trans l2 l6, by simp [hus], ?_, h.sub bz⟩
   intro i t' f' ht' KM
   rcases Nat.lt_or_ge i us.length with hi' | hi'
   ·rw [List.getElem?_append_left hi'] at ht'
    obtain ⟨g1, g2⟩ := JX i t' f' ht' KM
    exact ⟨g1.le l6, g2⟩
   ·rw [List.getElem?_append_right hi'] at ht'
    have hi0 : i - us.length = 0 := by
     rcases Nat.eq_zero_or_pos (i - us.length) with e | e
     ·exact e
     ·rw [List.getElem?_eq_none (by simp; omega)] at ht'; cases ht'
    rw [hi0] at ht'
    cases ht'
    have : i = j := by omega
    subst this
    rw [hf] at KM
    cases KM
    exact ⟨r6, rfl⟩
 ·have K8 : j = p.funcs.length := by omega
  subst K8
  obtain ⟨R3, l3, rA, h3⟩ := h.bB A
  clear h
  refine ax h3 ?_
  have h0 : Hp R3 (cw gT 172 none 0 [] :: DU fx A p.funcs.length cA B p.dB.length c p.aC none 0 0 :: DU k3 none 0 0 none 0 0 0 none 0 0 :: ej k1 pa.f p.funcs.length pa.fc pa.c p.dB.length pa.cc p.aC pa.k p.cases.length pa.kc :: L) M := h3.dz gT _
  clear h3
  have Yl := Mem.le_trans l1 (Mem.le_trans l2 l3)
  have hk := ha.cases.le Yl
  refine ⟨fun dd vs M => ∃ (i : Nat) (A2 : Option Addr) (c' : Nat), vs = [.int .i64 (i : Int)] ∧ dd = p.cases.length - i ∧ i ≤ p.cases.length ∧ Hp R3 (cw gT 172 A2 c' (p.cases.take i) :: DU fx A p.funcs.length cA B p.dB.length c p.aC A2 i c' :: DU k3 none 0 0 none 0 0 0 none 0 0 :: ej k1 pa.f p.funcs.length pa.fc pa.c p.dB.length pa.cc p.aC pa.k p.cases.length pa.kc :: L) M,
   ⟨_, 0, none, 0, rfl, rfl, by omega, h0⟩, ?_⟩
  clear h0
  rintro dd _ nn M ⟨i, A2, c2, he, JM, hi, h⟩
  simp only [List.cons.injEq, Value.int.injEq, and_true, true_and] at he
  subst he
  have hlen : (p.cases.take i).length = i := by rw [List.length_take]; omega
  refine aH.2 ⟨fun VQ => ?_, fun hge2 => ?_⟩
  ·obtain ⟨x, hx⟩ := aJ (l := p.cases) (i := i) (by omega)
   obtain ⟨b', o', hb'⟩ := hk.some (by omega) (by decide)
   rw [hb'] at hk
   refine ⟨by omega, VQ, bq hb' ?_⟩
   refine aj (Src.at hk.src h (i := i) (j := 0) hx rfl (by simp [gT])) ?_
   refine aj (Src.at hk.src h (i := i) (j := 1) hx rfl (by simp [gT]; omega)) ?_
   refine aj (Src.at hk.src h (i := i) (j := 2) hx rfl (by simp [gT]; omega)) ?_
   repeat (first|(refine ai h ?_;clear h;intro kb M h)|(refine ak h ?_;clear h;intro M h)|refine St.to h ?_|(apply Exists.intro;(repeat apply Exists.intro);refine And.intro rfl ?_)|refine ay ?_|refine aq ?_|refine au ?_)
   refine h.jV (A := A2) Y1 [x] rfl hlen.symm rfl (by simp; omega) ?_
   clear h; intro A3 c3 M h
   refine aY ?_
   refine ak h ?_
   clear h
   intro M h
   refine ⟨p.cases.length - (i + 1), by omega, i + 1, A3, c3, ?_, rfl, by omega, ?_⟩
   ·rw [aS (by omega)]
   ·rw [take_succ hx]
    exact h.sub bz
  ·have hin : i = p.cases.length := by omega
   subst hin
   rw [List.take_of_length_le (Nat.le_refl _)] at h
   obtain ⟨R6, l6, r6, h6⟩ := h.bB A2
   clear h
   replace h := h6
   clear h6
   repeat (first|(refine ai h ?_;clear h;intro kb M h)|(refine ak h ?_;clear h;intro M h)|refine St.to h ?_|(apply Exists.intro;(repeat apply Exists.intro);refine And.intro rfl ?_)|refine ay ?_|refine aq ?_|refine au ?_)
   have l16 := Mem.le_trans Yl l6
   refine k R6 ⟨A, cA, B, c, A2, c2⟩ _ l16 ⟨⟨us, rA.le l6, hus, fun i t f a b => ?_⟩, r6⟩ (rB.le (Mem.le_trans l2 (Mem.le_trans l3 l6))) (h.sub bz)
   obtain ⟨g1, g2⟩ := JX i t f a b
   exact ⟨g1.le (Mem.le_trans l3 l6), g2⟩
end
def JY {ρ α : Type} (P : Mem → ρ → α → Prop) (R : Mem) (xs : List ρ) (ys : List α) : Prop := xs.length = ys.length ∧ ∀ (i : Nat) (r : ρ) (a : α), xs[i]? = some r → ys[i]? = some a → P R r a
section
variable {ρ α : Type} {P : Mem → ρ → α → Prop} {R R' : Mem} {xs : List ρ} {ys : List α}
theorem JY.nil (P : Mem → ρ → α → Prop) (R : Mem) : JY P R [] [] := ⟨rfl, fun i r c h => by simp at h⟩
theorem JY.le (hm : ∀ R R' r a, R.le R' → P R r a → P R' r a) (h : JY P R xs ys) (hle : R.le R') : JY P R' xs ys := ⟨h.1, fun i r c h1 h2 => hm _ _ _ _ hle (h.2 i r c h1 h2)⟩
theorem JY.snoc {r : ρ} {c : α} (h : JY P R xs ys) (hr : P R r c) : JY P R (xs ++ [r]) (ys ++ [c]) := by
 refine ⟨by simp [h.1], fun i r' c' h1 h2 => ?_⟩
 rcases Nat.lt_or_ge i xs.length with hl | hl
 ·rw [List.getElem?_append_left hl] at h1; rw [List.getElem?_append_left (by rw [← h.1]; exact hl)] at h2; exact h.2 i _ _ h1 h2
 ·rw [List.getElem?_append_right hl] at h1; rw [List.getElem?_append_right (by rw [← h.1]; exact hl)] at h2
  have : i - xs.length = 0 := by
   obtain ⟨hh, _⟩ := List.getElem?_eq_some_iff.1 h1; simp at hh; omega
  rw [this] at h1; rw [← h.1, this] at h2
  cases h1; cases h2; exact hr
theorem JY.set {r : ρ} {c : α} (h : JY P R xs ys) (i : Nat) (hr : P R r c) : JY P R (xs.set i r) (ys.set i c) := by
 refine ⟨by simp [h.1], fun j r' c' h1 h2 => ?_⟩
 rw [List.getElem?_set] at h1 h2
 split at h1
 ·rename_i e; rw [if_pos e] at h2
  split at h1
  ·split at h2
   ·cases h1; cases h2; exact hr
   ·cases h2
  ·cases h1
 ·rename_i e; rw [if_neg e] at h2; exact h.2 j _ _ h1 h2
theorem JY.at {i : Nat} {a : α} (h : JY P R xs ys) (ha : ys[i]? = some a) : ∃ r, xs[i]? = some r ∧ P R r a := by
 have hi : i < xs.length := by rw [h.1]; exact (List.getElem?_eq_some_iff.1 ha).1
 exact ⟨xs[i], List.getElem?_eq_getElem hi, h.2 i _ _ (List.getElem?_eq_getElem hi) ha⟩
end
structure RG where
 st : Int
 A : Option Addr
 n : Nat
 c : Nat
 wt : bZ
def tS : jP RG := ⟨6, fun g => [.int .i64 g.st, .slice g.A g.n g.c, .int .i64 g.wt.op, .int .i64 g.wt.a, .int .i64 g.wt.b, .int .i64 g.wt.c], fun _ => rfl, fun w v hv => by
 simp only [List.mem_cons, List.not_mem_nil, or_false] at hv; obtain rfl | rfl | rfl | rfl | rfl | rfl := hv <;> rfl⟩
def Au (R : Mem) (r : RG) (y : gK) : Prop := r.st = y.st ∧ r.n = y.fs.length ∧ RS fZ R r.A r.c y.fs ∧ r.wt = y.wt
theorem Au.le (R R' : Mem) (r : RG) (y : gK) (hle : R.le R') (h : Au R r y) : Au R' r y := ⟨h.1, h.2.1, h.2.2.1.le hle, h.2.2.2⟩
def wC (l : Lk) : List Int := if l.owner = -1 then [] else l.owner :: l.waits
def Q7 (R : Mem) (t : Option Addr × Nat × Nat) (l : Lk) : Prop := t.2.1 = (wC l).length ∧ RS bS R t.1 t.2.2 (wC l)
theorem Q7.le (R R' : Mem) (r : Option Addr × Nat × Nat) (y : Lk) (hle : R.le R') (h : Q7 R r y) : Q7 R' r y := ⟨h.1, h.2.le hle⟩
structure Av where
 pa : PA
 ag : Option Addr
 cg : Nat
 ac : Option Addr
 cc : Nat
 al : Option Addr
 cl : Nat
 ah : Option Addr
 ch : Nat
 ao : Option Addr
 co : Nat
 ar : Option Addr
 cr : Nat
abbrev ke (a : Av) (p : cy) (x : Wd) : List Value :=
 [.slice a.pa.f p.funcs.length a.pa.fc, .slice a.pa.c p.dB.length a.pa.cc, .int .i64 p.aC, .slice a.pa.k p.cases.length a.pa.kc, .slice a.ag x.gs.length a.cg, .int .u64 x.clock, .slice a.ac x.av.length a.cc, .slice a.al x.aC.length a.cl, .slice a.ah x.hl.length a.ch, .int .u64 x.dk, .slice a.ao x.out.length a.co, .int .i64 x.end_, .int .i64 x.code, .slice a.ar x.ready.length a.cr]
structure eM (R : Mem) (a : Av) (p : cy) (x : Wd) : Prop where
 AT : nQ R a.pa p
 dB : RS bS R a.pa.c a.pa.cc p.dB
 gs : ∃ rs, RS tS R a.ag a.cg rs ∧ JY Au R rs x.gs
 av : ∃ rs, RS yb R a.ac a.cc rs ∧ yZ R rs x.av
 aC : ∃ rs, RS tL R a.al a.cl rs ∧ JY Q7 R rs x.aC
 hl : RS hH R a.ah a.ch x.hl
 out : RS bS R a.ao a.co x.out
 ready : RS bS R a.ar a.cr x.ready
theorem eM.le {R R' : Mem} {a : Av} {p : cy} {x : Wd} (h : eM R a p x) (hle : R.le R') : eM R' a p x := by
 obtain ⟨h1, h2, ⟨r3, a3, b3⟩, ⟨r4, a4, b4⟩, ⟨r5, a5, b5⟩, h6, h7, h8⟩ := h
 exact ⟨h1.le hle, h2.le hle, ⟨r3, a3.le hle, b3.le Au.le hle⟩, ⟨r4, a4.le hle, b4.le hle⟩, ⟨r5, a5.le hle, b5.le Q7.le hle⟩, h6.le hle, h7.le hle, h8.le hle⟩
theorem VS : bF Tryz.prog 74 111 6 64 [.int .i64 0, .slice none 0 0, .int .i64 0, .int .i64 0, .int .i64 0, .int .i64 0] := bF.mk' (zv := .agg #[.int .i64 0, .slice none 0 0, .int .i64 0, .int .i64 0, .int .i64 0, .int .i64 0]) (by kernel_rfl) (by kernel_rfl) rfl (by omega)
theorem pX : bF Tryz.prog 107 114 11 88 (List.replicate 11 (.int .i64 0)) := bF.mk' (zv := .agg (List.replicate 11 (.int .i64 0)).toArray) (by kernel_rfl) (by kernel_rfl) rfl (by omega)
theorem VT : bF Tryz.prog 75 190 5 88 [.int .i64 0, .slice none 0 0, .slice none 0 0, .slice none 0 0, .bool false] := bF.mk' (zv := .agg #[.int .i64 0, .slice none 0 0, .slice none 0 0, .slice none 0 0, .bool false]) (by kernel_rfl) (by kernel_rfl) rfl (by omega)
theorem G0 : bF Tryz.prog 76 251 1 24 [.slice none 0 0] := bF.mk' (zv := .agg #[.slice none 0 0]) (by kernel_rfl) (by kernel_rfl) rfl (by omega)
end Go.Proofs
namespace Go.Proofs
open Go.AF
set_option maxRecDepth 100000
set_option maxHeartbeats 1000000
attribute [local irreducible] bG dF ff dP aF fa aE b7 aO bk bJ aM
attribute [local irreducible] zm dO
abbrev gC : List Value := [.slice none 0 0, .slice none 0 0, .int .i64 0, .slice none 0 0, .slice none 0 0, .int .u64 0, .slice none 0 0, .slice none 0 0, .slice none 0 0, .int .u64 0, .slice none 0 0, .int .i64 0, .int .i64 0, .slice none 0 0]
abbrev gG (a : Av) (p : cy) (x : Wd) : Value := .agg (ke a p x).toArray
abbrev rgV (r : RG) : Value := .agg #[.int .i64 r.st, .slice r.A r.n r.c, .int .i64 r.wt.op, .int .i64 r.wt.a, .int .i64 r.wt.b, .int .i64 r.wt.c]
def Wd.eZ (x : Wd) (g : Int) : Wd := { x.bp g { aa x g with st := 1, wt := .zero } with ready := x.ready ++ [g] }
def Wd.iJ (x : Wd) (n : Int) : Wd := { x with end_ := 2, code := n }
def Wd.mM (x : Wd) (g s : Int) (i : bZ) : Wd := x.bp g { aa x g with st := s, wt := i }
section
variable {R : Mem} {L L' : List HP} {M : Mem} {K : Value → Mem → Prop} {Kp : List PanicEntry → Mem → Prop} {a : Av} {p : cy} {x : Wd} {g : Int}
theorem s_rg {b o T c q : Nat} {xs : List RG} {r r' : RG} {G : Mem → Prop} (h : Hp R L M) [hp : dG (some ⟨b, 0, none⟩) L RG tS T c xs L'] (hi : xs[q]? = some r) (e : o = q * 6)
  (k : ∀ M', Hp R (cw tS T (some ⟨b, 0, none⟩) c (xs.set q r') :: L') M' → G M') :
  b7 M ⟨b, o, none⟩ (.int .i64 r'.st) fun M => b7 M ⟨b, o + 1, none⟩ (.slice r'.A r'.n r'.c) fun M => b7 M ⟨b, o + 2, none⟩ (.int .i64 r'.wt.op) fun M =>
  b7 M ⟨b, o + 3, none⟩ (.int .i64 r'.wt.a) fun M => b7 M ⟨b, o + 4, none⟩ (.int .i64 r'.wt.b) fun M => b7 M ⟨b, o + 5, none⟩ (.int .i64 r'.wt.c) fun M => G M := by
 subst e
 have hl := (List.getElem?_eq_some_iff.1 hi).1
 refine g9 q 0 h hi (by decide) (a' := { r with st := r'.st }) rfl rfl fun M1 h1 => ?_
 refine g9 q 1 h1 (a := { r with st := r'.st }) (by simp [hl]) (by decide) (a' := { r' with wt := r.wt }) rfl rfl fun M2 h2 => ?_
 refine g9 q 2 h2 (a := { r' with wt := r.wt }) (by simp [hl]) (by decide) (a' := { r' with wt := { r.wt with op := r'.wt.op } }) rfl rfl fun M3 h3 => ?_
 refine g9 q 3 h3 (a := { r' with wt := { r.wt with op := r'.wt.op } }) (by simp [hl]) (by decide) (a' := { r' with wt := { r.wt with op := r'.wt.op, a := r'.wt.a } }) rfl rfl fun M4 h4 => ?_
 refine g9 q 4 h4 (a := { r' with wt := { r.wt with op := r'.wt.op, a := r'.wt.a } }) (by simp [hl]) (by decide) (a' := { r' with wt := { r'.wt with c := r.wt.c } }) rfl rfl fun M5 h5 => ?_
 refine g9 q 5 h5 (a := { r' with wt := { r'.wt with c := r.wt.c } }) (by simp [hl]) (by decide) (a' := r') rfl rfl fun M6 h6 => ?_
 simp only [List.set_set] at h6
 exact k _ h6
theorem kI {y : gK} {r : RG} (h : Hp R L M) (hw : eM R a p x) (hr : Au R r y) (g0 : 0 ≤ g) (g1 : g < x.gs.length) (hn : x.gs.length ≤ 1000000)
  (k : ∀ R' a' M', R.le R' → eM R' a' p (x.bp g y) → Hp R' L M' → K (gG a' p (x.bp g y)) M') :
  ae Tryz.prog 112 #[gG a p x, .int .i64 g, rgV r] M K Kp := by
 refine sv ?_
 obtain ⟨rs, bx, hl⟩ := hw.gs
 refine ai h ?_
 clear h
 intro k1 M h
 refine ai h ?_
 clear h
 intro k3 M h
 refine ai h ?_
 clear h
 intro k5 M h
 refine ai h ?_
 clear h
 intro k7 M h
 refine ax h ?_
 refine h.b6 tS VS rs bx.src hl.1.symm (by rw [hl.1]; omega) ?_
 clear h; intro A' c' M h
 refine aY ?_
 obtain ⟨q, hq⟩ := h.bU (A := A') (l := rs) (by rw [hl.1]; omega) (by decide)
 subst hq
 refine ak h ?_
 clear h
 intro M h
 refine ax h (az h (ax h (az h (az h (az h (az h ⟨g0, by rw [hl.1]; exact g1, aV ?_⟩))))))
 obtain ⟨j, rfl⟩ := Int.eq_ofNat_of_zero_le g0
 obtain ⟨r0, CV⟩ := aJ (l := rs) (i := j) (by rw [hl.1]; omega)
 refine s_rg (q := j) (r' := r) h CV (by omega) ?_
 clear h; intro M h
 obtain ⟨R2, l2, r2, h2⟩ := h.bB (some ⟨q, 0, none⟩)
 clear h
 refine aI h2 rfl ?_
 refine bl h2 rfl rfl rfl ?_
 clear h2; intro M h
 refine aI h rfl ?_
 have cu := hw.le l2
 have dQ : JY Au R2 (rs.set j r) (x.gs.set j y) := (hl.le Au.le l2).set j (Au.le _ _ _ _ l2 hr)
 have hx : eM R2 { a with ag := some ⟨q, 0, none⟩, cg := c' } p (x.bp j y) := ⟨cu.AT, cu.dB, ⟨_, r2, by unfold Wd.bp; exact dQ⟩, cu.av, cu.aC, cu.hl, cu.out, cu.ready⟩
 have hk := fun M' => k R2 _ M' l2 hx
 have e : (x.bp j y).gs.length = rs.length := by simp [Wd.bp, hl.1]
 simp only [gG, ke, e] at hk
 exact hk _ (h.sub bz)
theorem bM (g0 : 0 ≤ g) (g1 : g < x.gs.length) : x.gs[g.toNat]? = some (aa x g) := by
 unfold aa
 rw [List.getD_eq_getElem?_getD, List.getElem?_eq_getElem (by omega)]; rfl
theorem cK {n : Nat} (h : 0 < n) (hb : n < 9223372036854775808) : IntKind.wrap .i64 ((n : Int) - 1) = ((n - 1 : Nat) : Int) := by rw [dD (by omega) (by omega)]; omega
theorem fG {q v : Int} (h : Hp R L M) (hw : eM R a p x) (hg : aT x g) (hn : x.gs.length ≤ 1000000) (hq : aR q)
  (k : ∀ R' a' M', R.le R' → eM R' a' p (x.aW g q v) → Hp R' L M' → K (gG a' p (x.aW g q v)) M') :
  ae Tryz.prog 142 #[gG a p x, .int .i64 g, .int .i64 q, .int .i64 v] M K Kp := by
 refine uV ?_
 obtain ⟨rs, bx, hl⟩ := hw.gs
 obtain ⟨g0, g1, g2, g3⟩ := hg
 refine ai h ?_
 clear h
 intro k1 M h
 refine ai h ?_
 clear h
 intro k3 M h
 obtain ⟨r, hr, e1, e2, e3, e4⟩ := hl.at (bM g0 g1)
 obtain ⟨b, o, hb⟩ := bx.some (by rw [hl.1]; omega) (by decide)
 rw [hb] at bx
 refine ax h ⟨g0, by omega, bq hb ?_⟩
 refine aj (Src.at bx.src h hr (j := 0) rfl (by simp [tS])) ?_
 refine bu (Src.at bx.src h hr (j := 1) rfl rfl) ?_
 refine aj (Src.at bx.src h hr (j := 2) rfl rfl) ?_
 refine aj (Src.at bx.src h hr (j := 3) rfl rfl) ?_
 refine aj (Src.at bx.src h hr (j := 4) rfl rfl) ?_
 refine aj (Src.at bx.src h hr (j := 5) rfl rfl) ?_
 refine ai h ?_
 clear h
 intro fq M h
 repeat (refine ak h ?_; clear h; intro M h)
 refine ai h ?_
 clear h
 intro gM M h
 refine ax h ?_
 refine h.b6 fZ pX (aa x g).fs e3.src e2 (by omega) ?_
 clear h; intro A' c' M h
 refine aY ?_
 refine ak h ?_
 clear h
 intro M h
 obtain ⟨qb, hqb⟩ := h.bU (A := A') (l := (aa x g).fs) g2 (by decide)
 subst hqb
 have ew : IntKind.wrap .i64 (((aa x g).fs.length : Int) - 1) = (((aa x g).fs.length - 1 : Nat) : Int) := cK g2 (by omega)
 refine ax h (ax h ?_)
 rw [ew]
 refine ⟨by omega, by omega, aV ⟨hq.1, hq.2, ?_⟩⟩
 refine g9 ((aa x g).fs.length - 1) (2 + q.toNat) h (bR g2) (by have := hq.1; have := hq.2; show 2 + q.toNat < 11; omega) (kM (v := v) hq.1 hq.2) (by show _ = ((aa x g).fs.length - 1) * 11 + (2 + q.toNat); omega) ?_
 clear h; intro M h
 obtain ⟨R2, l2, r2, h2⟩ := h.bB (some ⟨qb, 0, none⟩)
 clear h
 refine aI h2 rfl (az h2 (ax h2 (az h2 (az h2 (az h2 (az h2 ?_))))))
 have NG : Au R2 ⟨r.st, some ⟨qb, 0, none⟩, (aa x g).fs.length, c', r.wt⟩ ((aa x g).bW ((aa x g).top.set q v)) := ⟨e1, by simp [gK.bW], r2, e4⟩
 refine kI (r := ⟨r.st, some ⟨qb, 0, none⟩, (aa x g).fs.length, c', r.wt⟩) h2 (hw.le l2) NG g0 g1 hn ?_
 clear h2; intro R3 a' M l3 nT h
 refine ⟨_, _, _, _, _, _, _, _, _, _, _, _, _, _, rfl, ?_⟩
 refine bl h rfl rfl rfl ?_
 clear h; intro M h
 refine aI h rfl ?_
 exact k R3 a' M (Mem.le_trans l2 l3) nT (h.sub bz)
theorem NH (h : Hp R L M) (hw : eM R a p x) (hg : aT x g) (hn : x.gs.length ≤ 1000000) (sS : 0 ≤ (aa x g).top.pc ∧ (aa x g).top.pc < 1000000000)
  (k : ∀ R' a' M', R.le R' → eM R' a' p (x.next g) → Hp R' L M' → K (gG a' p (x.next g)) M') :
  ae Tryz.prog 114 #[gG a p x, .int .i64 g] M K Kp := by
 refine sw ?_
 obtain ⟨rs, bx, hl⟩ := hw.gs
 obtain ⟨g0, g1, g2, g3⟩ := hg
 refine ai h ?_
 clear h
 intro k1 M h
 refine ai h ?_
 clear h
 intro k3 M h
 obtain ⟨r, hr, e1, e2, e3, e4⟩ := hl.at (bM g0 g1)
 obtain ⟨b, o, hb⟩ := bx.some (by rw [hl.1]; omega) (by decide)
 rw [hb] at bx
 refine ax h ⟨g0, by omega, bq hb ?_⟩
 refine aj (Src.at bx.src h hr (j := 0) rfl (by simp [tS])) ?_
 refine bu (Src.at bx.src h hr (j := 1) rfl rfl) ?_
 refine aj (Src.at bx.src h hr (j := 2) rfl rfl) ?_
 refine aj (Src.at bx.src h hr (j := 3) rfl rfl) ?_
 refine aj (Src.at bx.src h hr (j := 4) rfl rfl) ?_
 refine aj (Src.at bx.src h hr (j := 5) rfl rfl) ?_
 refine ai h ?_
 clear h
 intro fq M h
 repeat (refine ak h ?_; clear h; intro M h)
 refine ai h ?_
 clear h
 intro gM M h
 refine ax h ?_
 refine h.b6 fZ pX (aa x g).fs e3.src e2 (by omega) ?_
 clear h; intro A' c' M h
 refine aY ?_
 refine ak h ?_
 clear h
 intro M h
 obtain ⟨qb, hqb⟩ := h.bU (A := A') (l := (aa x g).fs) g2 (by decide)
 subst hqb
 have ew : IntKind.wrap .i64 (((aa x g).fs.length : Int) - 1) = (((aa x g).fs.length - 1 : Nat) : Int) := cK g2 (by omega)
 refine ax h (ax h ?_)
 rw [ew]
 refine ⟨by omega, by omega, aV ?_⟩
 refine aj (Src.at (h.src (A := some ⟨qb, 0, none⟩)) h (bR g2) (j := 1) rfl (by show _ = 0 + (((aa x g).fs.length - 1) * 11 + 1); omega)) ?_
 refine ⟨by omega, by omega, aV ?_⟩
 rw [ji sS.1 (by omega)]
 refine g9 ((aa x g).fs.length - 1) 1 h (bR g2) (by decide) (S7 (v := (aa x g).top.pc + 1)) (by show _ = ((aa x g).fs.length - 1) * 11 + 1; omega) ?_
 clear h; intro M h
 obtain ⟨R2, l2, r2, h2⟩ := h.bB (some ⟨qb, 0, none⟩)
 clear h
 refine aI h2 rfl (az h2 (ax h2 (az h2 (az h2 (az h2 (az h2 ?_))))))
 have NG : Au R2 ⟨r.st, some ⟨qb, 0, none⟩, (aa x g).fs.length, c', r.wt⟩ ((aa x g).bW (aa x g).top.next) := ⟨e1, by simp [gK.bW], r2, e4⟩
 refine kI (r := ⟨r.st, some ⟨qb, 0, none⟩, (aa x g).fs.length, c', r.wt⟩) h2 (hw.le l2) NG g0 g1 hn ?_
 clear h2; intro R3 a' M l3 nT h
 refine ⟨_, _, _, _, _, _, _, _, _, _, _, _, _, _, rfl, ?_⟩
 refine bl h rfl rfl rfl ?_
 clear h; intro M h
 refine aI h rfl ?_
 exact k R3 a' M (Mem.le_trans l2 l3) nT (h.sub bz)
theorem gD {s : Int} {i : bZ} (h : Hp R L M) (hw : eM R a p x) (g0 : 0 ≤ g) (g1 : g < x.gs.length) (hn : x.gs.length ≤ 1000000)
  (k : ∀ R' a' M', R.le R' → eM R' a' p (x.mM g s i) → Hp R' L M' → K (gG a' p (x.mM g s i)) M') :
  ae Tryz.prog 139 #[gG a p x, .int .i64 g, .int .i64 s, insV i] M K Kp := by
 refine pK ?_
 obtain ⟨rs, bx, hl⟩ := hw.gs
 refine ai h ?_
 clear h
 intro k1 M h
 refine ai h ?_
 clear h
 intro k3 M h
 refine ai h ?_
 clear h
 intro k5 M h
 obtain ⟨r, hr, e1, e2, e3, e4⟩ := hl.at (bM g0 g1)
 obtain ⟨b, o, hb⟩ := bx.some (by rw [hl.1]; omega) (by decide)
 rw [hb] at bx
 refine ax h ⟨g0, by omega, bq hb ?_⟩
 refine aj (Src.at bx.src h hr (j := 0) rfl (by simp [tS])) ?_
 refine bu (Src.at bx.src h hr (j := 1) rfl rfl) ?_
 refine aj (Src.at bx.src h hr (j := 2) rfl rfl) ?_
 refine aj (Src.at bx.src h hr (j := 3) rfl rfl) ?_
 refine aj (Src.at bx.src h hr (j := 4) rfl rfl) ?_
 refine aj (Src.at bx.src h hr (j := 5) rfl rfl) ?_
 refine ai h ?_
 clear h
 intro fV M h
 repeat (refine ak h ?_; clear h; intro M h)
 refine az h (az h (az h (az h ?_)))
 repeat (refine ak h ?_; clear h; intro M h)
 refine aI h rfl (az h (ax h (az h (az h (az h (az h ?_))))))
 refine kI (r := ⟨s, r.A, r.n, r.c, i⟩) (y := { aa x g with st := s, wt := i }) h hw ⟨rfl, e2, e3, rfl⟩ g0 g1 hn ?_
 clear h; intro R3 a' M l3 nT h
 refine ⟨_, _, _, _, _, _, _, _, _, _, _, _, _, _, rfl, ?_⟩
 refine bl h rfl rfl rfl ?_
 clear h; intro M h
 refine aI h rfl ?_
 exact k R3 a' M l3 nT (h.sub bz)
theorem gE {n : Int} (h : Hp R L M) (hw : eM R a p x) (k : ∀ M', eM R a p (x.iJ n) → Hp R L M' → K (gG a p (x.iJ n)) M') :
  ae Tryz.prog 110 #[gG a p x, .int .i64 n] M K Kp := by
 refine su ?_
 refine ai h ?_
 clear h
 intro k1 M h
 refine ai h ?_
 clear h
 intro k3 M h
 repeat (refine ak h ?_; clear h; intro M h)
 refine aI h rfl ?_
 refine bl h rfl rfl rfl ?_
 clear h; intro M h
 refine aI h rfl ?_
 exact k M ⟨hw.AT, hw.dB, hw.gs, hw.av, hw.aC, hw.hl, hw.out, hw.ready⟩ (h.sub bz)
theorem jq (h : Hp R L M) (hw : eM R a p x) (g0 : 0 ≤ g) (g1 : g < x.gs.length) (hn : x.gs.length ≤ 1000000) (hr : x.ready.length ≤ 1000000)
  (k : ∀ R' a' M', R.le R' → eM R' a' p (x.eZ g) → Hp R' L M' → K (gG a' p (x.eZ g)) M') :
  ae Tryz.prog 109 #[gG a p x, .int .i64 g] M K Kp := by
 refine so ?_
 refine ai h ?_
 clear h
 intro k1 M h
 refine ai h ?_
 clear h
 intro k3 M h
 refine aI h rfl ?_
 refine gD (i := .zero) (s := 1) h hw g0 g1 hn ?_
 clear h; intro R1 a1 M l1 mT h
 refine ⟨_, _, _, _, _, _, _, _, _, _, _, _, _, _, rfl, ?_⟩
 refine bl h rfl rfl rfl ?_
 clear h; intro M h
 refine ai h ?_
 clear h
 intro gN M h
 refine ax h ?_
 refine h.b6 bS jR x.ready mT.ready.src rfl (by omega) ?_
 clear h; intro A c M h
 refine aY ?_
 refine ai h ?_
 clear h
 intro lz M h
 refine h.be (A := A) jR [g] rfl rfl (by simp; omega) ?_
 clear h; intro A2 c2 M h
 refine aY ?_
 refine ak h ?_
 clear h
 intro M h
 obtain ⟨R2, l2, r2, h2⟩ := h.bB A2
 clear h
 refine aI h2 rfl ?_
 refine bl h2 rfl rfl rfl ?_
 clear h2; intro M h
 refine aI h rfl ?_
 have cu := mT.le l2
 have hx : eM R2 { a1 with ar := A2, cr := c2 } p (x.eZ g) := ⟨cu.AT, cu.dB, cu.gs, cu.av, cu.aC, cu.hl, cu.out, r2⟩
 exact k R2 _ M (Mem.le_trans l1 l2) hx (h.sub bz)
theorem ja {j : Int} {c : aQ} {r : RC} (h : Hp R L M) (hw : eM R a p x) (hr : T9 R r c) (j0 : 0 ≤ j) (j1 : j < x.av.length) (hn : x.av.length ≤ 1000000)
  (k : ∀ R' a' M', R.le R' → eM R' a' p (x.bg j c) → Hp R' L M' → K (gG a' p (x.bg j c)) M') :
  ae Tryz.prog 144 #[gG a p x, .int .i64 j, .agg (yb.f r).toArray] M K Kp := by
 refine oJ ?_
 obtain ⟨rs, bx, hl⟩ := hw.av
 refine ai h ?_
 clear h
 intro k1 M h
 refine ai h ?_
 clear h
 intro k3 M h
 refine ai h ?_
 clear h
 intro k5 M h
 refine ai h ?_
 clear h
 intro k7 M h
 refine ax h ?_
 refine h.b6 yb MC rs bx.src hl.1.symm (by rw [hl.1]; omega) ?_
 clear h; intro A' c' M h
 refine aY ?_
 obtain ⟨q, hq⟩ := h.bU (A := A') (l := rs) (by rw [hl.1]; omega) (by decide)
 subst hq
 refine ak h ?_
 clear h
 intro M h
 refine ax h (az h (ax h (ax h (ax h (m6 h ⟨j0, by rw [hl.1]; exact j1, aV ?_⟩)))))
 obtain ⟨j, rfl⟩ := Int.eq_ofNat_of_zero_le j0
 obtain ⟨r0, CV⟩ := aJ (l := rs) (i := j) (by rw [hl.1]; omega)
 refine s_rc (q := j) (r' := r) h CV (by omega) ?_
 clear h; intro M h
 obtain ⟨R2, l2, r2, h2⟩ := h.bB (some ⟨q, 0, none⟩)
 clear h
 refine aI h2 rfl ?_
 refine bl h2 rfl rfl rfl ?_
 clear h2; intro M h
 refine aI h rfl ?_
 have cu := hw.le l2
 have dQ : yZ R2 (rs.set j r) (x.av.set j c) := (hl.le l2).set j (hr.le l2)
 have hx : eM R2 { a with ac := some ⟨q, 0, none⟩, cc := c' } p (x.bg j c) := ⟨cu.AT, cu.dB, cu.gs, ⟨_, r2, by unfold Wd.bg; exact dQ⟩, cu.aC, cu.hl, cu.out, cu.ready⟩
 have hk := fun M' => k R2 _ M' l2 hx
 have e : (x.bg j c).av.length = rs.length := by simp [Wd.bg, hl.1]
 simp only [gG, ke, e] at hk
 exact hk _ (h.sub bz)
end
def Wd.dY (p : cy) (x : Wd) (v : Wt) (some : Int) : Wd :=
 let i := (aa x v.g).wt
 (if i.op = 16 then ((x.aW v.g (mG p (i.a + v.cs)).bH v.v).cU v.g v.cs)
  else (x.aW v.g i.b v.v).aW v.g i.c some).eZ v.g
def Wd.oT (x : Wd) (v : Wt) : Wd := (if (aa x v.g).wt.op = 16 then x.cU v.g v.cs else x).eZ v.g
section
variable {R : Mem} {L L' : List HP} {M : Mem} {K : Value → Mem → Prop} {Kp : List PanicEntry → Mem → Prop} {a : Av} {p : cy} {x : Wd} {g : Int}
theorem NI {q n : Int} : (x.aW g q n).gs.length = x.gs.length := by simp [Wd.aW, Wd.bp]
theorem Y3 {q : Int} : (x.cU g q).gs.length = x.gs.length := by simp [Wd.cU, Wd.leave, Wd.aW, Wd.bp]
theorem G1 (hs : x.Sm) : ∀ c ∈ x.av, c.Small 1000000000 := fun c hc => (hs.1 c hc).mono (by omega)
theorem xQ {pl : Int} (h : Hp R L M) (hw : eM R a p x) (hg : aT x g) (hs : x.Sm) (hq : aR (aa x g).wt.c)
  (k : ∀ R' a' M', R.le R' → eM R' a' p (x.cU g pl) → Hp R' L M' → K (gG a' p (x.cU g pl)) M') :
  ae Tryz.prog 190 #[gG a p x, .int .i64 g, .int .i64 pl] M K Kp := by
 refine pM ?_
 obtain ⟨rs, bx, hl⟩ := hw.gs
 obtain ⟨g0, g1, g2, g3⟩ := id hg
 have hn := hs.2.2.1
 refine ai h ?_
 clear h
 intro k1 M h
 refine ai h ?_
 clear h
 intro k3 M h
 obtain ⟨⟨oV, rA, rn, rc, AU⟩, hr, e1, e2, e3, e4⟩ := hl.at (bM g0 g1)
 dsimp only at e1 e2 e3 e4
 subst e4
 obtain ⟨b, o, hb⟩ := bx.some (by rw [hl.1]; omega) (by decide)
 rw [hb] at bx
 refine aI h rfl ?_
 refine ax h ⟨g0, by omega, bq hb ?_⟩
 refine aj (Src.at bx.src h hr (j := 5) rfl rfl) ?_
 refine fG h hw hg (by omega) hq ?_
 clear h; intro R1 a1 M l1 mT h
 refine ⟨_, _, _, _, _, _, _, _, _, _, _, _, _, _, rfl, ?_⟩
 refine bl h rfl rfl rfl ?_
 clear h; intro M h
 obtain ⟨ys, hys, hyl⟩ := mT.av
 have qM : (x.aW g (aa x g).wt.c pl).Sm := AM hs
 refine ax h ?_
 refine Jh h hys hyl rfl (Nat.le_trans qM.2.1 (by decide)) (G1 qM) ?_
 clear h; intro R2 X cx xs' M l2 h hx
 refine aY ?_
 refine ak h ?_
 clear h
 intro M h
 obtain ⟨R3, l3, r3, h3⟩ := h.bB X
 clear h
 refine aI h3 rfl ?_
 refine bl h3 rfl rfl rfl ?_
 clear h3; intro M h
 refine aI h rfl ?_
 have cu := mT.le (Mem.le_trans l2 l3)
 have hz : eM R3 { a1 with ac := X, cc := cx } p (x.cU g pl) := ⟨cu.AT, cu.dB, cu.gs, ⟨_, r3, hx.le l3⟩, cu.aC, cu.hl, cu.out, cu.ready⟩
 have hk := fun M' => k R3 _ M' (Mem.le_trans l1 (Mem.le_trans l2 l3)) hz
 have e : (x.cU g pl).av.length = (x.aW g (aa x g).wt.c pl).av.length := by simp [Wd.cU, Wd.leave]
 simp only [gG, ke, e] at hk
 exact hk _ (h.sub bz)
theorem Q8 {j : Int} (h0 : 0 ≤ j) (h1 : j < p.cases.length) : p.cases[j.toNat]? = some (mG p j) := by
 unfold mG
 rw [List.getD_eq_getElem?_getD, List.getElem?_eq_getElem (by omega)]; rfl
theorem sX {v : Wt} {s : Int} (h : Hp R L M) (hw : eM R a p x) (hv : lI p x v) (hs : x.Sm)
  (k : ∀ R' a' M', R.le R' → eM R' a' p (x.dY p v s) → Hp R' L M' → K (gG a' p (x.dY p v s)) M') :
  ae Tryz.prog 188 #[gG a p x, .agg #[.int .i64 v.g, .int .i64 v.cs, .int .i64 v.v], .int .i64 s] M K Kp := by
 refine nM ?_
 obtain ⟨hg, hv⟩ := hv
 obtain ⟨rs, bx, hl⟩ := hw.gs
 obtain ⟨g0, g1, g2, g3⟩ := id hg
 have hn := hs.2.2.1
 have hrd := hs.2.2.2.1
 refine ai h ?_
 clear h
 intro k1 M h
 refine ai h ?_
 clear h
 intro k3 M h
 refine ai h ?_
 clear h
 intro k5 M h
 obtain ⟨⟨oV, rA, rn, rc, AU⟩, hr, e1, e2, e3, e4⟩ := hl.at (bM g0 g1)
 dsimp only at e1 e2 e3 e4
 subst e4
 obtain ⟨b, o, hb⟩ := bx.some (by rw [hl.1]; omega) (by decide)
 rw [hb] at bx
 refine ax h (az h ⟨g0, by omega, bq hb ?_⟩)
 refine aj (Src.at bx.src h hr (j := 2) rfl rfl) ?_
 refine aj (Src.at bx.src h hr (j := 3) rfl rfl) ?_
 refine aj (Src.at bx.src h hr (j := 4) rfl rfl) ?_
 refine aj (Src.at bx.src h hr (j := 5) rfl rfl) ?_
 refine ai h ?_
 clear h
 intro fT M h
 repeat (refine ak h ?_; clear h; intro M h)
 refine az h ?_
 by_cases mh : (aa x v.g).wt.op = 16
 ·rw [if_pos mh] at hv
  obtain ⟨c0, c1, c2, c3, c4⟩ := hv
  have hk : x.dY p v s = (((x.aW v.g (mG p ((aa x v.g).wt.a + v.cs)).bH v.v).cU v.g v.cs).eZ v.g) := by
   unfold Wd.dY; simp only [if_pos mh]
  rw [hk] at k
  refine bY (by simp [mh]) ?_
  refine aI h rfl (az h (ax h (az h (az h ?_))))
  rw [dD c0 (by omega)]
  obtain ⟨b', o', hb'⟩ := hw.AT.cases.some (by omega) (by decide)
  have hcs := hw.AT.cases
  rw [hb'] at hcs
  refine ⟨c0, c1, bq hb' ?_⟩
  refine aj (Src.at hcs.src h (Q8 c0 c1) (j := 2) rfl rfl) ?_
  refine az h ?_
  refine fG h hw hg (by omega) c3 ?_
  clear h; intro R1 a1 M l1 mT h
  refine ⟨_, _, _, _, _, _, _, _, _, _, _, _, _, _, rfl, ?_⟩
  refine bl h rfl rfl rfl ?_
  clear h; intro M h
  refine aI h rfl (az h (az h ?_))
  refine xQ h mT (gz hg) (AM hs) (by rw [EC hg]; exact c4) ?_
  clear h; intro R2 a2 M l2 cu h
  refine ⟨_, _, _, _, _, _, _, _, _, _, _, _, _, _, rfl, ?_⟩
  refine bl h rfl rfl rfl ?_
  clear h; intro M h
  refine aI h rfl (az h ?_)
  refine jq h cu g0 (by rw [Y3, NI]; exact g1) (by rw [Y3, NI]; omega) (by show x.ready.length ≤ _; omega) ?_
  clear h; intro R3 a3 M l3 nT h
  refine ⟨_, _, _, _, _, _, _, _, _, _, _, _, _, _, rfl, ?_⟩
  refine bl h rfl rfl rfl ?_
  clear h; intro M h
  refine aI h rfl ?_
  exact k _ _ _ (Mem.le_trans l1 (Mem.le_trans l2 l3)) nT (h.sub bz)
 ·rw [if_neg mh] at hv
  obtain ⟨c3, c4⟩ := hv
  have hk : x.dY p v s = ((x.aW v.g (aa x v.g).wt.b v.v).aW v.g (aa x v.g).wt.c s).eZ v.g := by
   unfold Wd.dY; simp only [if_neg mh]
  rw [hk] at k
  refine aD (by simp [mh]) ?_
  refine aI h rfl (az h (az h (az h ?_)))
  refine fG h hw hg (by omega) c3 ?_
  clear h; intro R1 a1 M l1 mT h
  refine ⟨_, _, _, _, _, _, _, _, _, _, _, _, _, _, rfl, ?_⟩
  refine bl h rfl rfl rfl ?_
  clear h; intro M h
  refine aI h rfl (az h (az h ?_))
  refine fG h mT (gz hg) (by rw [NI]; omega) c4 ?_
  clear h; intro R2 a2 M l2 cu h
  refine ⟨_, _, _, _, _, _, _, _, _, _, _, _, _, _, rfl, ?_⟩
  refine bl h rfl rfl rfl ?_
  clear h; intro M h
  refine aI h rfl (az h ?_)
  refine jq h cu g0 (by rw [NI, NI]; exact g1) (by rw [NI, NI]; omega) (by show x.ready.length ≤ _; omega) ?_
  clear h; intro R3 a3 M l3 nT h
  refine ⟨_, _, _, _, _, _, _, _, _, _, _, _, _, _, rfl, ?_⟩
  refine bl h rfl rfl rfl ?_
  clear h; intro M h
  refine aI h rfl ?_
  exact k _ _ _ (Mem.le_trans l1 (Mem.le_trans l2 l3)) nT (h.sub bz)
def Wd.nU (p : cy) (x : Wd) (k v : Int) : Wd × Bool :=
 let s := (aX x.av k).send v
 if s.2.2.2 = 10 then (x.iJ (-1), true) else ((if s.2.2.1 then (x.bg k s.1).dY p s.2.1 1 else x.bg k s.1), s.2.2.2 == 0)
def Wd.jZ (x : Wd) (k : Int) : Wd × Int × Int × Bool :=
 let s := (aX x.av k).recv
 let y := if s.2.2.2.2.1 then (x.bg k s.1).oT s.2.2.2.1 else x.bg k s.1
 if s.2.2.1 then (y, s.2.1, 1, true) else (y, 0, 0, s.2.2.2.2.2 == 0)
theorem yZ.at {xs : List RC} {cs : List aQ} {i : Nat} {c : aQ} (h : yZ R xs cs) (hc : cs[i]? = some c) : ∃ r, xs[i]? = some r ∧ T9 R r c := by
 have hi : i < xs.length := by rw [h.1]; exact (List.getElem?_eq_some_iff.1 hc).1
 exact ⟨xs[i], List.getElem?_eq_getElem hi, h.2 i _ _ (List.getElem?_eq_getElem hi) hc⟩
theorem iu {cs : List aQ} {k : Int} (h0 : 0 ≤ k) (h : k < cs.length) : cs[k.toNat]? = some (aX cs k) := by
 unfold aX
 rw [List.getD_eq_getElem?_getD, List.getElem?_eq_getElem (by omega)]; rfl
theorem EU {j v : Int} (h : Hp R L M) (hw : eM R a p x) (j0 : 0 ≤ j) (j1 : j < x.av.length) (hs : x.Sm)
  (hs' : (x.bg j ((aX x.av j).send v).1).Sm) (hv : ((aX x.av j).send v).2.2.1 = true → lI p (x.bg j ((aX x.av j).send v).1) ((aX x.av j).send v).2.1)
  (k : ∀ R' a' M', R.le R' → eM R' a' p (x.nU p j v).1 → Hp R' L M' → K (.tuple #[gG a' p (x.nU p j v).1, .bool (x.nU p j v).2]) M') :
  ae Tryz.prog 143 #[gG a p x, .int .i64 j, .int .i64 v] M K Kp := by
 refine uW ?_
 obtain ⟨rs, bx, hl⟩ := hw.av
 have hc := iu j0 j1
 have rK := G1 hs _ (List.mem_of_getElem? hc)
 have hn := hs.2.1
 unfold Wd.nU at k
 generalize QK : aX x.av j = cc at hc rK hs' hv k
 refine ai h ?_
 clear h
 intro k1 M h
 refine ai h ?_
 clear h
 intro k3 M h
 obtain ⟨r, hr, hrc⟩ := hl.at hc
 obtain ⟨b, o, hb⟩ := bx.some (by rw [hl.1]; omega) (by decide)
 rw [hb] at bx
 refine ax h ⟨j0, by omega, bq hb ?_⟩
 refine aj (Src.at bx.src h hr (j := 0) rfl (by simp [yb])) ?_
 refine bu (Src.at bx.src h hr (j := 1) rfl rfl) ?_
 refine bu (Src.at bx.src h hr (j := 2) rfl rfl) ?_
 refine bu (Src.at bx.src h hr (j := 3) rfl rfl) ?_
 refine u9 (Src.at bx.src h hr (j := 4) rfl rfl) ?_
 refine Mx h hrc rK ?_
 clear h; intro R1 vs' M l1 h xh
 generalize cc.send v = s at xh hs' hv k
 obtain ⟨c', w, ok, e⟩ := s
 dsimp only at xh hs' hv k
 obtain ⟨r', rfl, HL⟩ := xh.rc
 apply Exists.intro; (repeat apply Exists.intro); refine And.intro rfl ?_
 refine ai h ?_
 clear h
 intro lA M h
 refine ai h ?_
 clear h
 intro nH M h
 repeat (refine ak h ?_; clear h; intro M h)
 by_cases KC : e = 10
 ·subst KC
  refine bY (by simp) ?_
  simp only [if_true] at k
  refine aI h rfl ?_
  refine gE h (hw.le l1) ?_
  intro M cu h
  refine ⟨_, _, _, _, _, _, _, _, _, _, _, _, _, _, rfl, ?_⟩
  refine bl h rfl rfl rfl ?_
  clear h; intro M h
  refine aI h rfl ?_
  exact k _ _ _ l1 cu (h.sub bz)
 ·refine aD (by simp [KC]) ?_
  simp only [if_neg KC] at k
  refine aI h rfl (az h (ax h (ax h (ax h (m6 h ?_)))))
  refine ja h (hw.le l1) HL j0 j1 (by omega) ?_
  clear h; intro R2 a2 M l2 cu h
  refine ⟨_, _, _, _, _, _, _, _, _, _, _, _, _, _, rfl, ?_⟩
  refine bl h rfl rfl rfl ?_
  clear h; intro M h
  cases ok with
  | true =>
   refine bY rfl ?_
   simp only [if_true] at k
   refine aI h rfl (az h (az h (az h ?_)))
   refine sX h cu (hv rfl) hs' ?_
   clear h; intro R3 a3 M l3 nT h
   refine ⟨_, _, _, _, _, _, _, _, _, _, _, _, _, _, rfl, ?_⟩
   refine bl h rfl rfl rfl ?_
   clear h; intro M h
   refine aI h rfl ?_
   refine bl h rfl rfl rfl ?_
   clear h; intro M h
   refine aI h rfl ?_
   exact k _ _ _ (Mem.le_trans l1 (Mem.le_trans l2 l3)) nT (h.sub bz)
  | false =>
   refine aD rfl ?_
   simp only [Bool.false_eq_true, if_false] at k
   refine aI h rfl ?_
   refine bl h rfl rfl rfl ?_
   clear h; intro M h
   refine aI h rfl ?_
   exact k _ _ _ (Mem.le_trans l1 l2) cu (h.sub bz)
theorem EV {j : Int} (h : Hp R L M) (hw : eM R a p x) (j0 : 0 ≤ j) (j1 : j < x.av.length) (hs : x.Sm)
  (hs' : (x.bg j (aX x.av j).recv.1).Sm) (hv : (aX x.av j).recv.2.2.2.2.1 = true → vf (x.bg j (aX x.av j).recv.1) (aX x.av j).recv.2.2.2.1)
  (k : ∀ R' a' M', R.le R' → eM R' a' p (x.jZ j).1 → Hp R' L M' → K (.tuple #[gG a' p (x.jZ j).1, .int .i64 (x.jZ j).2.1, .int .i64 (x.jZ j).2.2.1, .bool (x.jZ j).2.2.2]) M') :
  ae Tryz.prog 145 #[gG a p x, .int .i64 j] M K Kp := by
 refine uX ?_
 obtain ⟨rs, bx, hl⟩ := hw.av
 have hc := iu j0 j1
 have rK := G1 hs _ (List.mem_of_getElem? hc)
 have hn := hs.2.1
 unfold Wd.jZ at k
 generalize QK : aX x.av j = cc at hc rK hs' hv k
 refine ai h ?_
 clear h
 intro k1 M h
 refine ai h ?_
 clear h
 intro k3 M h
 obtain ⟨r, hr, hrc⟩ := hl.at hc
 obtain ⟨b, o, hb⟩ := bx.some (by rw [hl.1]; omega) (by decide)
 rw [hb] at bx
 refine ax h ⟨j0, by omega, bq hb ?_⟩
 refine aj (Src.at bx.src h hr (j := 0) rfl (by simp [yb])) ?_
 refine bu (Src.at bx.src h hr (j := 1) rfl rfl) ?_
 refine bu (Src.at bx.src h hr (j := 2) rfl rfl) ?_
 refine bu (Src.at bx.src h hr (j := 3) rfl rfl) ?_
 refine u9 (Src.at bx.src h hr (j := 4) rfl rfl) ?_
 refine My h hrc rK ?_
 clear h; intro R1 vs' M l1 h xh
 generalize cc.recv = s at xh hs' hv k
 obtain ⟨c', n, sm, w, wk, e⟩ := s
 dsimp only at xh hs' hv k
 obtain ⟨r', rfl, HL⟩ := xh.rc
 apply Exists.intro; (repeat apply Exists.intro); refine And.intro rfl ?_
 refine ai h ?_
 clear h
 intro nH M h
 refine ai h ?_
 clear h
 intro jK M h
 repeat (refine ak h ?_; clear h; intro M h)
 refine aI h rfl (az h (ax h (ax h (ax h (m6 h ?_)))))
 refine ja h (hw.le l1) HL j0 j1 (by omega) ?_
 clear h; intro R2 a2 M l2 cu h
 refine ⟨_, _, _, _, _, _, _, _, _, _, _, _, _, _, rfl, ?_⟩
 refine bl h rfl rfl rfl ?_
 clear h; intro M h
 cases wk with
 | true =>
  refine bY rfl ?_
  simp only [if_true] at k
  obtain ⟨hg, mh⟩ := hv rfl
  obtain ⟨g0, g1, g2, g3⟩ := id hg
  obtain ⟨rs2, Y4, dQ⟩ := cu.gs
  obtain ⟨⟨oV, rA, rn, rc, AU⟩, Ey, e1, e2, e3, e4⟩ := dQ.at (bM g0 g1)
  dsimp only at e1 e2 e3 e4
  subst e4
  obtain ⟨b2, o2, Sd⟩ := Y4.some (by rw [dQ.1]; omega) (by decide)
  rw [Sd] at Y4
  have qZ := hs'.2.2.1
  have hrd := hs'.2.2.2.1
  refine ax h (az h ⟨g0, g1, bq Sd ?_⟩)
  refine aj (Src.at Y4.src h Ey (j := 2) rfl rfl) ?_
  by_cases hop : (aa (x.bg j c') w.g).wt.op = 16
  ·have hk : (x.bg j c').oT w = ((x.bg j c').cU w.g w.cs).eZ w.g := by unfold Wd.oT; rw [if_pos hop]
   rw [hk] at k
   refine bY (by simp [hop]) ?_
   refine aI h rfl (az h (az h ?_))
   refine xQ h cu hg hs' (mh hop) ?_
   clear h; intro R3 a3 M l3 nT h
   refine ⟨_, _, _, _, _, _, _, _, _, _, _, _, _, _, rfl, ?_⟩
   refine bl h rfl rfl rfl ?_
   clear h; intro M h
   refine aI h rfl (az h ?_)
   refine jq h nT g0 (by rw [Y3]; exact g1) (by rw [Y3]; omega) (by show x.ready.length ≤ _; exact hrd) ?_
   clear h; intro R4 a4 M l4 Q9 h
   refine ⟨_, _, _, _, _, _, _, _, _, _, _, _, _, _, rfl, ?_⟩
   refine bl h rfl rfl rfl ?_
   clear h; intro M h
   cases sm with
   | true =>
    refine bY rfl ?_
    simp only [if_true] at k
    refine aI h rfl ?_
    refine bl h rfl rfl rfl ?_
    clear h; intro M h
    refine aI h rfl ?_
    exact k _ _ _ (Mem.le_trans l1 (Mem.le_trans l2 (Mem.le_trans l3 l4))) Q9 (h.sub bz)
   | false =>
    refine aD rfl ?_
    simp only [Bool.false_eq_true, if_false] at k
    refine aI h rfl ?_
    refine bl h rfl rfl rfl ?_
    clear h; intro M h
    refine aI h rfl ?_
    exact k _ _ _ (Mem.le_trans l1 (Mem.le_trans l2 (Mem.le_trans l3 l4))) Q9 (h.sub bz)
  ·have hk : (x.bg j c').oT w = (x.bg j c').eZ w.g := by unfold Wd.oT; rw [if_neg hop]
   rw [hk] at k
   refine aD (by simp [hop]) ?_
   refine aI h rfl (az h ?_)
   refine jq h cu g0 g1 (by omega) hrd ?_
   clear h; intro R4 a4 M l4 Q9 h
   refine ⟨_, _, _, _, _, _, _, _, _, _, _, _, _, _, rfl, ?_⟩
   refine bl h rfl rfl rfl ?_
   clear h; intro M h
   cases sm with
   | true =>
    refine bY rfl ?_
    simp only [if_true] at k
    refine aI h rfl ?_
    refine bl h rfl rfl rfl ?_
    clear h; intro M h
    refine aI h rfl ?_
    exact k _ _ _ (Mem.le_trans l1 (Mem.le_trans l2 l4)) Q9 (h.sub bz)
   | false =>
    refine aD rfl ?_
    simp only [Bool.false_eq_true, if_false] at k
    refine aI h rfl ?_
    refine bl h rfl rfl rfl ?_
    clear h; intro M h
    refine aI h rfl ?_
    exact k _ _ _ (Mem.le_trans l1 (Mem.le_trans l2 l4)) Q9 (h.sub bz)
 | false =>
  refine aD rfl ?_
  simp only [Bool.false_eq_true, if_false] at k
  cases sm with
  | true =>
   refine bY rfl ?_
   simp only [if_true] at k
   refine aI h rfl ?_
   refine bl h rfl rfl rfl ?_
   clear h; intro M h
   refine aI h rfl ?_
   exact k _ _ _ (Mem.le_trans l1 l2) cu (h.sub bz)
  | false =>
   refine aD rfl ?_
   simp only [Bool.false_eq_true, if_false] at k
   refine aI h rfl ?_
   refine bl h rfl rfl rfl ?_
   clear h; intro M h
   refine aI h rfl ?_
   exact k _ _ _ (Mem.le_trans l1 l2) cu (h.sub bz)
end
section
variable {R : Mem} {L L' : List HP} {M : Mem} {K : Value → Mem → Prop} {Kp : List PanicEntry → Mem → Prop} {pa : PA} {p : cy}
theorem sY {fn v : Int} (h : Hp R L M) (k : ∀ R' A c M', R.le R' → RS fZ R' A c [eH.begin fn v] → Hp R' L M' → K (.slice A 1 c) M') : ae Tryz.prog 74 #[.int .i64 fn, .int .i64 v] M K Kp := by
 refine qG ?_
 repeat (first|(refine ai h ?_;clear h;intro kb M h)|(refine ak h ?_;clear h;intro M h)|refine St.to h ?_|(apply Exists.intro;(repeat apply Exists.intro);refine And.intro rfl ?_)|refine ay ?_|refine aq ?_|refine au ?_)
 obtain ⟨R2, l2, r2, h2⟩ := ((h.pt kb).g8 (E := fZ) (l := [eH.begin fn v]) rfl).bB (some ⟨kb, 0, none⟩)
 clear h
 exact k R2 _ _ _ l2 r2 (h2.sub bz)
theorem Ra (h : Hp R L M) (hp : nQ R pa p) (hc : RS bS R pa.c pa.cc p.dB) (hok : eJ p) (k : ∀ R' a M', R.le R' → a.pa = pa → eM R' a p (Wd.new p) → Hp R' L M' → K (.agg (ke a p (Wd.new p)).toArray) M') :
  ae Tryz.prog 37 #[GZ pa p] M K Kp := by
 refine uY ?_
 have p1 := hok.ch
 have p2 := hok.lk
 refine ai h ?_
 clear h
 intro k1 M h
 refine ai h ?_
 clear h
 intro k3 M h
 refine ax h (ax h (az h (ax h ⟨trivial, ?_⟩)))
 refine sY h ?_
 clear h; intro R1 A c M l1 r1 h
 refine aY ⟨fA h rfl, ?_⟩
 refine ai h ?_
 clear h
 intro fV M h
 obtain ⟨R2, l2, r2, h2⟩ := ((h.pt fV).g8 (E := tS) (l := [⟨1, A, 1, c, .zero⟩]) rfl).bB (some ⟨fV, 0, none⟩)
 clear h
 refine ai h2 ?_
 clear h2; intro gi M h
 refine bl h rfl rfl rfl ?_
 clear h; intro M h
 refine ⟨fA h rfl, ax h ?_⟩
 have l12 := Mem.le_trans l1 l2
 have hc2 := hc.le l12
 have W : Option Addr → Nat → Nat → List Value := fun B m d => []
 have h0 := h.dz yb 190
 clear h
 refine ⟨fun dd vs M => ∃ (j : Nat) (B : Option Addr) (d : Nat) (rs : List RC), vs = [.int .i64 (j : Int)] ∧ dd = p.dB.length - j ∧ j ≤ p.dB.length ∧ yZ R2 rs ((p.dB.take j).map aQ.new) ∧
  Hp R2 (cw yb 190 B d rs :: pt gi [.slice pa.f p.funcs.length pa.fc, .slice pa.c p.dB.length pa.cc, .int .i64 p.aC, .slice pa.k p.cases.length pa.kc, .slice (some ⟨fV, 0, none⟩) 1 1, .int .u64 0, .slice B j d, .slice none 0 0, .slice none 0 0, .int .u64 0, .slice none 0 0, .int .i64 0, .int .i64 0, .slice none 0 0] 81 ::
   pt k3 [.slice none 0 0, .slice none 0 0, .int .i64 0, .slice none 0 0, .slice none 0 0, .int .u64 0, .slice none 0 0, .slice none 0 0, .slice none 0 0, .int .u64 0, .slice none 0 0, .int .i64 0, .int .i64 0, .slice none 0 0] 81 :: ej k1 pa.f p.funcs.length pa.fc pa.c p.dB.length pa.cc p.aC pa.k p.cases.length pa.kc :: L) M,
  ⟨_, 0, none, 0, [], rfl, rfl, by omega, yZ.nil _, h0.sub bz⟩, ?_⟩
 clear h0 W
 rintro dd _ nn M ⟨j, B, d, rs, he, hd, hj, bx, h⟩
 simp only [List.cons.injEq, Value.int.injEq, and_true, true_and] at he
 subst he
 have hlen : rs.length = j := by rw [bx.1, List.length_map, List.length_take]; omega
 refine aH.2 ⟨fun hlt => ?_, fun hge => ?_⟩
 ·obtain ⟨v, hv⟩ := aJ (l := p.dB) (i := j) (by omega)
  obtain ⟨b, o, hb⟩ := hc2.some (by omega) (by decide)
  rw [hb] at hc2
  refine ⟨by omega, hlt, bq hb ?_⟩
  refine aj (Src.at hc2.src h (i := j) (j := 0) hv rfl (by simp [bS])) ?_
  refine ⟨fun vs M => vs = [] ∧ ∃ (B : Option Addr) (d : Nat) (rs' : List RC), yZ R2 rs' ((p.dB.take (j + 1)).map aQ.new) ∧
   Hp R2 (cw yb 190 B d rs' :: pt gi [.slice pa.f p.funcs.length pa.fc, .slice pa.c p.dB.length pa.cc, .int .i64 p.aC, .slice pa.k p.cases.length pa.kc, .slice (some ⟨fV, 0, none⟩) 1 1, .int .u64 0, .slice B (j + 1) d, .slice none 0 0, .slice none 0 0, .int .u64 0, .slice none 0 0, .int .i64 0, .int .i64 0, .slice none 0 0] 81 ::
   pt k3 [.slice none 0 0, .slice none 0 0, .int .i64 0, .slice none 0 0, .slice none 0 0, .int .u64 0, .slice none 0 0, .slice none 0 0, .slice none 0 0, .int .u64 0, .slice none 0 0, .int .i64 0, .int .i64 0, .slice none 0 0] 81 :: ej k1 pa.f p.funcs.length pa.fc pa.c p.dB.length pa.cc p.aC pa.k p.cases.length pa.kc :: L) M, ?_, ?_⟩
  ·have Ao : (p.dB.take (j + 1)).map aQ.new = (p.dB.take j).map aQ.new ++ [aQ.new v] := by rw [take_succ hv, List.map_append]; rfl
   rw [Ao]
   refine ⟨?_, ?_, trivial⟩
   ·refine ax h ?_
    refine Ew h ?_
    clear h; intro vs M h hr
    obtain ⟨r, rfl, hr⟩ := hr.rc
    refine ⟨_, _, _, _, _, _, _, _, _, _, _, rfl, ?_⟩
    refine ai h ?_
    clear h
    intro kz M h
    refine h.jV (A := B) VT [r] rfl hlen.symm rfl (by simp; omega) ?_
    clear h; intro A3 c3 M h
    refine aY ?_
    refine ak h ?_
    clear h
    intro M h
    exact ⟨rfl, A3, c3, _, bx.snoc hr, h.sub bz⟩
   ·refine Ew h ?_
    clear h; intro vs M h hr
    obtain ⟨r, rfl, hr⟩ := hr.rc
    refine ⟨_, _, _, _, _, _, _, _, _, _, _, rfl, ax h ?_⟩
    refine ai h ?_
    clear h
    intro kz M h
    refine h.jV (A := B) VT [r] rfl hlen.symm rfl (by simp; omega) ?_
    clear h; intro A3 c3 M h
    refine aY ?_
    refine ak h ?_
    clear h
    intro M h
    exact ⟨rfl, A3, c3, _, bx.snoc hr, h.sub bz⟩
  ·clear h
   rintro nn M ⟨_, B', d', rs', hrs', h⟩
   exact ⟨p.dB.length - (j + 1), by omega, j + 1, B', d', rs', by rw [aS (by omega)], rfl, by omega, hrs', h⟩
 ·have K8 : j = p.dB.length := by omega
  subst K8
  rw [List.take_of_length_le (Nat.le_refl _)] at bx
  obtain ⟨R3, l3, r3, h3⟩ := h.bB B
  clear h
  obtain ⟨n, hn⟩ := Int.eq_ofNat_of_zero_le p2.1
  refine az h3 ?_
  rw [hn] at h3 ⊢
  refine h3.Oh (E := tL) (a := (none, 0, 0)) G0 (by omega) ?_
  clear h3; intro q M h
  refine aY ?_
  refine ak h ?_
  clear h
  intro M h
  obtain ⟨R4, l4, r4, h4⟩ := h.bB (some ⟨q, 0, none⟩)
  clear h
  refine aI h4 rfl ?_
  refine bl h4 rfl rfl rfl ?_
  clear h4; intro M h
  refine aI h rfl ?_
  have l34 := Mem.le_trans l3 l4
  have l24 := Mem.le_trans l2 l34
  have l14 := Mem.le_trans l1 l24
  have hw : eM R4 ⟨pa, some ⟨fV, 0, none⟩, 1, B, d, some ⟨q, 0, none⟩, n, none, 0, none, 0, none, 0⟩ p (Wd.new p) := by
   refine ⟨hp.le l14, hc.le l14, ⟨_, r2.le l34, ⟨rfl, fun i r a h1 h2 => ?_⟩⟩, ⟨rs, r3.le l4, bx.le l34⟩, ⟨_, r4, ⟨by simp [Wd.new, hn], fun i r a h1 h2 => ?_⟩⟩, RS.nil _ _, RS.nil _ _, RS.nil _ _⟩
   ·match i, h1, h2 with
    | 0, h1, h2 =>
     cases h1
     have : a = ⟨1, [eH.begin 0 0], .zero⟩ := by simpa [Wd.new] using h2.symm
     subst this
     exact ⟨rfl, rfl, r1.le l24, rfl⟩
    | i + 1, h1, h2 => simp at h1
   ·have e1 := List.eq_of_mem_replicate (List.mem_of_getElem? h1)
    have e2 := List.eq_of_mem_replicate (List.mem_of_getElem? h2)
    subst e1; subst e2
    exact ⟨rfl, RS.nil _ _⟩
  have hk := fun M' => k R4 _ M' l14 rfl hw
  have e1 : (Wd.new p).av.length = p.dB.length := by simp [Wd.new]
  have e2 : (Wd.new p).aC.length = n := by simp [Wd.new, hn]
  simp only [ke, e1, e2, hn] at hk
  exact hk _ (h.sub bz)
end
section
variable {R : Mem} {L L' : List HP} {M : Mem} {K : Value → Mem → Prop} {Kp : List PanicEntry → Mem → Prop}
theorem NJ {fs : List eH} {A : Option Addr} {n c : Nat} {fn v i : Int} (h : Hp R L M) (hf : RS fZ R A c fs) (hn : n = fs.length) (hb : fs.length ≤ 1000000)
  (k0 : 16 ≤ fs.length → K (.tuple #[.slice A n c, .bool false]) M)
  (k1 : ¬ 16 ≤ fs.length → ∀ R' A' c' M', R.le R' → RS fZ R' A' c' (fs ++ [⟨fn, 0, [v, 0, 0, 0, 0, 0, 0, 0], i⟩]) → Hp R' L M' → K (.tuple #[.slice A' (fs ++ [(⟨fn, 0, [v, 0, 0, 0, 0, 0, 0, 0], i⟩ : eH)]).length c', .bool true]) M') :
  ae Tryz.prog 140 #[.slice A n c, .int .i64 fn, .int .i64 v, .int .i64 i] M K Kp := by
 refine sC ?_
 refine aH.2 ⟨fun hgt => k0 (by omega), fun hle => ?_⟩
 refine sY h ?_
 clear h; intro R1 A1 c1 M l1 r1 h
 obtain ⟨b, o, lg⟩ := r1.some (by simp) (by decide)
 rw [lg] at r1
 refine aY ⟨by omega, by decide, bq lg ?_⟩
 refine aj (Src.at r1.src h (i := 0) (a := eH.begin fn v) rfl (j := 0) rfl rfl) ?_
 refine aj (Src.at r1.src h (i := 0) (a := eH.begin fn v) rfl (j := 1) rfl rfl) ?_
 refine aj (Src.at r1.src h (i := 0) (a := eH.begin fn v) rfl (j := 2) rfl rfl) ?_
 refine aj (Src.at r1.src h (i := 0) (a := eH.begin fn v) rfl (j := 3) rfl rfl) ?_
 refine aj (Src.at r1.src h (i := 0) (a := eH.begin fn v) rfl (j := 4) rfl rfl) ?_
 refine aj (Src.at r1.src h (i := 0) (a := eH.begin fn v) rfl (j := 5) rfl rfl) ?_
 refine aj (Src.at r1.src h (i := 0) (a := eH.begin fn v) rfl (j := 6) rfl rfl) ?_
 refine aj (Src.at r1.src h (i := 0) (a := eH.begin fn v) rfl (j := 7) rfl rfl) ?_
 refine aj (Src.at r1.src h (i := 0) (a := eH.begin fn v) rfl (j := 8) rfl rfl) ?_
 refine aj (Src.at r1.src h (i := 0) (a := eH.begin fn v) rfl (j := 9) rfl rfl) ?_
 refine aj (Src.at r1.src h (i := 0) (a := eH.begin fn v) rfl (j := 10) rfl rfl) ?_
 repeat (first|(refine ai h ?_;clear h;intro kb M h)|(refine ak h ?_;clear h;intro M h)|refine St.to h ?_|(apply Exists.intro;(repeat apply Exists.intro);refine And.intro rfl ?_)|refine ay ?_|refine aq ?_|refine au ?_)
 refine h.b6 fZ pX fs (hf.le l1).src hn (by omega) ?_
 clear h; intro A' c' M h
 repeat (first|(refine ai h ?_;clear h;intro kb M h)|(refine ak h ?_;clear h;intro M h)|refine St.to h ?_|(apply Exists.intro;(repeat apply Exists.intro);refine And.intro rfl ?_)|refine ay ?_|refine aq ?_|refine au ?_)
 refine h.be (A := A') pX [⟨fn, 0, [v, 0, 0, 0, 0, 0, 0, 0], i⟩] rfl rfl (by simp; omega) ?_
 clear h; intro A2 c2 M h
 repeat (first|(refine ai h ?_;clear h;intro kb M h)|(refine ak h ?_;clear h;intro M h)|refine St.to h ?_|(apply Exists.intro;(repeat apply Exists.intro);refine And.intro rfl ?_)|refine ay ?_|refine aq ?_|refine au ?_)
 obtain ⟨R2, l2, r2, h2⟩ := h.bB A2
 clear h
 exact k1 (by omega) _ _ _ _ (Mem.le_trans l1 l2) r2 (h2.sub bz)
theorem NK {l : Lk} {t : Option Addr × Nat × Nat} {g : Int} (h : Hp R L M) (ht : Q7 R t l) (hb : (wC l).length ≤ 1000000)
  (k : ∀ R' A' c' M', R.le R' → RS bS R' A' c' (wC l ++ [g]) → Hp R' L M' → K (.tuple #[.agg #[.slice A' (wC l ++ [g]).length c'], .bool (((wC l).length : Int) == 0)]) M') :
  ae Tryz.prog 149 #[.agg #[.slice t.1 t.2.1 t.2.2], .int .i64 g] M K Kp := by
 obtain ⟨A, n, c⟩ := t
 obtain ⟨hn, hr⟩ := ht
 dsimp only at hn hr
 subst hn
 refine sD ?_
 repeat (first|(refine ai h ?_;clear h;intro kb M h)|(refine ak h ?_;clear h;intro M h)|refine St.to h ?_|(apply Exists.intro;(repeat apply Exists.intro);refine And.intro rfl ?_)|refine ay ?_|refine aq ?_|refine au ?_)
 refine h.b6 bS jR (wC l) hr.src rfl (by omega) ?_
 clear h; intro A' c' M h
 repeat (first|(refine ai h ?_;clear h;intro kb M h)|(refine ak h ?_;clear h;intro M h)|refine St.to h ?_|(apply Exists.intro;(repeat apply Exists.intro);refine And.intro rfl ?_)|refine ay ?_|refine aq ?_|refine au ?_)
 refine h.be (A := A') jR [g] rfl rfl (by simp; omega) ?_
 clear h; intro A2 c2 M h
 repeat (first|(refine ai h ?_;clear h;intro kb M h)|(refine ak h ?_;clear h;intro M h)|refine St.to h ?_|(apply Exists.intro;(repeat apply Exists.intro);refine And.intro rfl ?_)|refine ay ?_|refine aq ?_|refine au ?_)
 obtain ⟨R2, l2, r2, h2⟩ := h.bB A2
 clear h
 exact k _ _ _ _ l2 r2 (h2.sub bz)
theorem NL {l : Lk} {t : Option Addr × Nat × Nat} {g : Int} (h : Hp R L M) (ht : Q7 R t l) (hb : (wC l).length ≤ 1000000)
  (k0 : (∀ us, wC l ≠ g :: us) → ∀ M', Hp R L M' → K (.tuple #[.agg #[.slice t.1 t.2.1 t.2.2], .int .i64 (-1), .int .i64 5]) M')
  (k1 : wC l = [g] → ∀ M', Hp R L M' → K (.tuple #[.agg #[.slice none 0 0], .int .i64 (-1), .int .i64 0]) M')
  (k2 : ∀ u us, wC l = g :: u :: us → ∀ R' A' c' M', R.le R' → RS bS R' A' c' (u :: us) → Hp R' L M' → K (.tuple #[.agg #[.slice A' (u :: us).length c'], .int .i64 u, .int .i64 0]) M') :
  ae Tryz.prog 150 #[.agg #[.slice t.1 t.2.1 t.2.2], .int .i64 g] M K Kp := by
 obtain ⟨A, n, c⟩ := t
 obtain ⟨hn, hr⟩ := ht
 dsimp only at hn hr k0
 subst hn
 refine sE ?_
 generalize wC l = w at hb hr k0 k1 k2
 refine ai h ?_
 clear h
 intro q1 M h
 refine ai h ?_
 clear h
 intro q3 M h
 refine ax h ?_
 cases w with
 | nil =>
  refine bY rfl ?_
  repeat (first|(refine ai h ?_;clear h;intro kb M h)|(refine ak h ?_;clear h;intro M h)|refine St.to h ?_|(apply Exists.intro;(repeat apply Exists.intro);refine And.intro rfl ?_)|refine ay ?_|refine aq ?_|refine au ?_)
  exact k0 (fun us e => by cases e) _ (h.sub bz)
 | cons a w =>
  have hc := hr.2
  refine aD (by simp; omega) ?_
  obtain ⟨b, o, rfl⟩ := hr.some (by simp) (by decide)
  refine ax h ⟨by omega, by simp only [List.length_cons]; omega, aV ?_⟩
  refine aj (Src.at hr.src h (i := 0) (a := a) rfl (j := 0) rfl rfl) ?_
  refine cY.2 ⟨fun hne => ?_, fun heq => ?_⟩
  ·repeat (first|(refine ai h ?_;clear h;intro kb M h)|(refine ak h ?_;clear h;intro M h)|refine St.to h ?_|(apply Exists.intro;(repeat apply Exists.intro);refine And.intro rfl ?_)|refine ay ?_|refine aq ?_|refine au ?_)
   exact k0 (fun us e => by cases e; exact hne rfl) _ (h.sub bz)
  ·subst heq
   refine ax h ?_
   cases w with
   | nil =>
    refine bY rfl ?_
    repeat (first|(refine ai h ?_;clear h;intro kb M h)|(refine ak h ?_;clear h;intro M h)|refine St.to h ?_|(apply Exists.intro;(repeat apply Exists.intro);refine And.intro rfl ?_)|refine ay ?_|refine aq ?_|refine au ?_)
    exact k1 rfl _ (h.sub bz)
   | cons u us =>
    simp only [List.length_cons] at hc hb
    refine aD (by simp; omega) ?_
    refine ax h ⟨by omega, by omega, by omega, by simp; omega, by omega, by simp; omega, ?_⟩
    refine ax h ⟨by omega, by simp; omega, aV ?_⟩
    refine aj (Src.at hr.src h (i := 1) (a := u) rfl (j := 0) rfl rfl) ?_
    refine ai h ?_
    clear h
    intro q44 M h
    refine h.b6 bS jR (u :: us) (B := jt (some ⟨b, o, none⟩) 1 c 1) (hr.drop 1 (by omega)).src (by simp only [List.length_cons]; omega) (by simp; omega) ?_
    clear h; intro A2 c2 M h
    refine aY ⟨Src.at hr.src h (i := 1) (a := u) rfl (j := 0) rfl rfl, cv h, ?_⟩
    refine ak h ?_
    clear h
    intro M h
    refine ⟨Src.at hr.src h (i := 1) (a := u) rfl (j := 0) rfl rfl, cv h, ?_⟩
    refine ax h ?_
    obtain ⟨R2, l2, r2, h2⟩ := h.bB A2
    clear h
    exact k2 u us rfl _ _ _ _ l2 r2 (h2.sub bz)
def DV (fs : List eH) : eH := fs.getD (fs.length - 1) ⟨0, 0, [], 0⟩
def CH (fs : List eH) (v : Int) : List eH := (fs.take (fs.length - 1)).set (fs.length - 2) ((fs.getD (fs.length - 2) ⟨0, 0, [], 0⟩).set (DV fs).mF v)
theorem G2 {fs : List eH} {A : Option Addr} {n c : Nat} {v : Int} (h : Hp R L M) (hf : RS fZ R A c fs) (hn : n = fs.length) (hb : fs.length ≤ 1000000) (hi : 2 ≤ fs.length → aR (DV fs).mF)
  (k0 : ¬ 2 ≤ fs.length → K (.tuple #[.slice none 0 0, .bool false]) M)
  (k1 : 2 ≤ fs.length → ∀ R' A' c' M', R.le R' → RS fZ R' A' c' (CH fs v) → Hp R' L M' → K (.tuple #[.slice A' (CH fs v).length c', .bool true]) M') :
  ae Tryz.prog 141 #[.slice A n c, .int .i64 v] M K Kp := by
 subst hn
 refine pN ?_
 have hc := hf.2
 refine aH.2 ⟨fun hlt => k0 (fun h2 => by rw [dD (by omega) (by omega)] at hlt; omega), fun hge => ?_⟩
 have h2 : 2 ≤ fs.length := by
  by_cases h1 : fs.length = 0
  ·exfalso; apply hge; rw [h1]; decide
  ·rw [dD (by omega) (by omega)] at hge; omega
 replace hi := hi h2
 replace k1 := k1 h2
 clear k0 hge
 have e1 : IntKind.wrap .i64 ((fs.length : Int) - 1) = ((fs.length - 1 : Nat) : Int) := by rw [dD (by omega) (by omega)]; omega
 have e2 : IntKind.wrap .i64 (((fs.length - 1 : Nat) : Int) - 1) = ((fs.length - 2 : Nat) : Int) := by rw [dD (by omega) (by omega)]; omega
 rw [e1, e2]
 obtain ⟨b, o, rfl⟩ := hf.some (by omega) (by decide)
 refine ai h ?_
 clear h
 intro q1 M h
 refine ⟨by omega, by omega, by omega, by omega, by omega, by omega, ?_⟩
 refine h.b6 fZ pX (fs.take (fs.length - 1)) (B := jt (some ⟨b, o, none⟩) 0 c 11) (RS.cut hf (fs.length - 1)).src (by rw [List.length_take]; simp <;> omega) (by rw [List.length_take]; omega) ?_
 clear h; intro A2 c2 M h
 have hl : (fs.take (fs.length - 1)).length = fs.length - 1 := by rw [List.length_take]; omega
 refine aY ⟨by omega, by omega, aV ⟨by omega, by rw [hl]; omega, ?_⟩⟩
 obtain ⟨q, rfl⟩ := h.bU (A := A2) (by rw [hl]; omega) (by decide)
 refine aV ?_
 have et : fs[fs.length - 1]? = some (DV fs) := by
  unfold DV
  rw [List.getD_eq_getElem?_getD, List.getElem?_eq_getElem (by omega)]; rfl
 refine aj (Src.at hf.src h et (j := 10) rfl (by show _ = o + ((fs.length - 1) * 11 + 10); omega)) ?_
 refine ⟨hi.1, hi.2, ?_⟩
 have ey : (fs.take (fs.length - 1))[fs.length - 2]? = some (fs.getD (fs.length - 2) ⟨0, 0, [], 0⟩) := by
  rw [List.getElem?_take_of_lt (by omega), List.getD_eq_getElem?_getD, List.getElem?_eq_getElem (by omega)]; rfl
 refine g9 (fs.length - 2) (2 + (DV fs).mF.toNat) h ey (by have := hi.1; have := hi.2; show 2 + (DV fs).mF.toNat < 11; omega) (kM (v := v) hi.1 hi.2) (by show _ = (fs.length - 2) * 11 + (2 + (DV fs).mF.toNat); omega) ?_
 clear h; intro M h
 obtain ⟨R2, l2, r2, h3⟩ := h.bB (some ⟨q, 0, none⟩)
 clear h
 have hk := k1 R2 (some ⟨q, 0, none⟩) c2 M l2 r2 (h3.sub bz)
 have e3 : (CH fs v).length = (fs.take (fs.length - 1)).length := by unfold CH; rw [List.length_set]
 rw [e3] at hk
 exact hk
end
theorem wD : bF Tryz.prog 77 241 3 24 [.int .u64 0, .int .u64 0, .int .i64 0] := bF.mk' (zv := .agg #[.int .u64 0, .int .u64 0, .int .i64 0]) (by kernel_rfl) (by kernel_rfl) rfl (by omega)
def iw (x : aN) : List aN → List aN
 | [] => [x]
 | y :: l => if x.t < y.t then x :: y :: l else y :: iw x l
theorem EW (x : aN) : ∀ l, (iw x l).length = l.length + 1
 | [] => rfl
 | y :: l => by
  unfold iw; split
  ·rfl
  ·simp [EW x l]
theorem EX (x y : aN) : ∀ l : List aN, (l.any fun z => decide (x.t < z.t)) = true → iw x (l ++ [y]) = iw x l ++ [y]
 | [], h => by simp at h
 | z :: l, h => by
  show (if x.t < z.t then x :: z :: (l ++ [y]) else z :: iw x (l ++ [y])) = (if x.t < z.t then x :: z :: l else z :: iw x l) ++ [y]
  split
  ·rfl
  ·rename_i hz
   rw [EX x y l (by simpa [hz] using h)]; rfl
theorem EY (x : aN) : ∀ l : List aN, (l.any fun z => decide (x.t < z.t)) = false → iw x l = l ++ [x]
 | [], h => rfl
 | z :: l, h => by
  rw [List.any_cons, Bool.or_eq_false_iff] at h
  have hz := of_decide_eq_false h.1
  show (if x.t < z.t then x :: z :: l else z :: iw x l) = _
  rw [if_neg hz, EY x l h.2]; rfl
theorem JZ (x y : aN) (hy : x.t < y.t) : ∀ l : List aN, (l.any fun z => decide (x.t < z.t)) = false → iw x (l ++ [y]) = l ++ [x] ++ [y]
 | [], h => by show (if x.t < y.t then _ else _) = _; rw [if_pos hy]; rfl
 | z :: l, h => by
  rw [List.any_cons, Bool.or_eq_false_iff] at h
  have hz := of_decide_eq_false h.1
  show (if x.t < z.t then x :: z :: (l ++ [y]) else z :: iw x (l ++ [y])) = _
  rw [if_neg hz, JZ x y hy l h.2]; rfl
section
variable {R : Mem} {L L' : List HP} {M : Mem} {K : Value → Mem → Prop} {Kp : List PanicEntry → Mem → Prop}
theorem NM {l : List aN} {A : Option Addr} {n c : Nat} {sq t id : Int} (h : Hp R L M) (hl : RS hH R A c l) (hn : n = l.length) (hb : l.length ≤ 1000000)
  (k : ∀ R' A' c' M', R.le R' → RS hH R' A' c' (iw ⟨t, sq, id⟩ l) → Hp R' L M' → K (.agg #[.slice A' (iw ⟨t, sq, id⟩ l).length c', .int .u64 (IntKind.wrap .u64 (sq + 1))]) M') :
  ae Tryz.prog 148 #[.agg #[.slice A n c, .int .u64 sq], .int .u64 t, .int .i64 id] M K Kp := by
 subst hn
 refine sG ?_
 refine ai h ?_
 clear h
 intro q1 M h
 refine ai h ?_
 clear h
 intro q3 M h
 refine ai h ?_
 clear h
 intro q5 M h
 refine az h ?_
 refine ai h ?_
 clear h
 intro q8 M h
 repeat (refine ak h ?_; clear h; intro M h)
 refine ax h ?_
 replace h := (h.pt q5).g8 (E := hH) (l := []) rfl
 refine ⟨fun d ws M => ∃ (i : Nat) (X : Option Addr) (cx : Nat) (out : List aN) (dn : Bool), ws = [.slice X out.length cx, .bool dn, .int .i64 (i : Int)] ∧ d = l.length - i ∧ i ≤ l.length ∧ dn = ((l.take i).any fun z => decide (t < z.t)) ∧ out = (if dn then iw ⟨t, sq, id⟩ (l.take i) else l.take i) ∧ Hp R (cw hH 241 X cx out :: pt q8 [.int .u64 t, .int .u64 sq, .int .i64 id] 241 :: pt q1 [.slice A l.length c, .int .u64 sq] 79 :: pt q3 [.slice none 0 0, .int .u64 0] 79 :: L) M,
  ⟨_, 0, _, _, [], false, rfl, rfl, by omega, rfl, rfl, h.sub bz⟩, ?_⟩
 clear h
 rintro d _ X n1 cx dn ii M ⟨i, _, _, out, _, he, hd, hi, hdn, ho, h⟩
 simp only [List.cons.injEq, Value.int.injEq, Value.slice.injEq, Value.bool.injEq, and_true, true_and] at he
 obtain ⟨⟨rfl, rfl, rfl⟩, rfl, rfl⟩ := he
 have hol : out.length ≤ l.length + 1 := by
  rw [ho]; split
  ·rw [EW, List.length_take]; omega
  ·rw [List.length_take]; omega
 refine aH.2 ⟨fun hlt => ?_, fun hge => ?_⟩
 ·obtain ⟨y, hy⟩ := aJ (l := l) (i := i) (by omega)
  obtain ⟨b, o, rfl⟩ := hl.some (by omega) (by decide)
  have tk := dw hy
  have ew : IntKind.wrap .i64 ((i : Int) + 1) = ((i + 1 : Nat) : Int) := aS (by omega)
  refine ⟨by omega, hlt, aV ?_⟩
  refine aj (Src.at hl.src h hy (j := 0) rfl (by show _ = o + (i * 3 + 0); simp)) ?_
  refine aj (Src.at hl.src h hy (j := 1) rfl (by show _ = o + (i * 3 + 1); simp; omega)) ?_
  refine aj (Src.at hl.src h hy (j := 2) rfl (by show _ = o + (i * 3 + 2); simp; omega)) ?_
  refine ai h ?_
  clear h
  intro q31 M h
  repeat (refine ak h ?_; clear h; intro M h)
  rw [ew]
  cases dn with
  | false =>
   simp only [Bool.false_eq_true, if_false] at ho
   refine bY rfl (az h ?_)
   refine aH.2 ⟨fun hgt => ?_, fun hle => ?_⟩
   ·refine az h (az h (az h ?_))
    refine ai h ?_
    clear h
    intro q40 M h
    refine h.be (A := X) wD [(⟨t, sq, id⟩ : aN)] rfl rfl (by simp only [List.length_singleton]; omega) ?_
    clear h; intro A2 c2 M h
    refine aY (az h (az h (az h ?_)))
    refine ai h ?_
    clear h
    intro q50 M h
    refine h.be (A := A2) wD [y] rfl rfl (by simp only [List.length_singleton, List.length_append]; omega) ?_
    clear h; intro A3 c3 M h
    refine aY ⟨l.length - (i + 1), by omega, i + 1, A3, c3, _, true, rfl, rfl, by omega, ?_, ?_, h.sub bz⟩
    ·rw [tk, List.any_append]; simp; exact Or.inr hgt
    ·rw [if_pos rfl, tk, JZ _ _ hgt _ hdn.symm, ho]
   ·refine az h (az h (az h ?_))
    refine ai h ?_
    clear h
    intro q40 M h
    refine h.be (A := X) wD [y] rfl rfl (by simp only [List.length_singleton]; omega) ?_
    clear h; intro A2 c2 M h
    refine aY ⟨l.length - (i + 1), by omega, i + 1, A2, c2, _, false, rfl, rfl, by omega, ?_, ?_, h.sub bz⟩
    ·rw [tk, List.any_append, ← hdn]; simp; omega
    ·rw [tk, ho]; rfl
  | true =>
   rw [if_pos rfl] at ho
   refine aD rfl (az h (az h (az h ?_)))
   refine ai h ?_
   clear h
   intro q40 M h
   refine h.be (A := X) wD [y] rfl rfl (by simp only [List.length_singleton]; omega) ?_
   clear h; intro A2 c2 M h
   refine aY ⟨l.length - (i + 1), by omega, i + 1, A2, c2, _, true, rfl, rfl, by omega, ?_, ?_, h.sub bz⟩
   ·rw [tk, List.any_append, ← hdn]; rfl
   ·rw [if_pos rfl, tk, EX _ _ _ hdn.symm, ho]
 ·have hil : i = l.length := by omega
  subst hil
  rw [List.take_length] at hdn ho
  cases dn with
  | false =>
   simp only [Bool.false_eq_true, if_false] at ho
   refine bY rfl (az h (az h (az h ?_)))
   refine ai h ?_
   clear h
   intro q40 M h
   refine h.be (A := X) wD [(⟨t, sq, id⟩ : aN)] rfl rfl (by simp only [List.length_singleton]; omega) ?_
   clear h; intro A2 c2 M h
   refine aY (az h ?_)
   repeat (refine ak h ?_; clear h; intro M h)
   refine ax h (az h ?_)
   obtain ⟨R2, l2, r2, h3⟩ := h.bB A2
   clear h
   have e : out ++ [(⟨t, sq, id⟩ : aN)] = iw ⟨t, sq, id⟩ l := by rw [EY _ _ hdn.symm, ho]
   rw [e] at r2 ⊢
   exact k _ _ _ _ l2 r2 (h3.sub bz)
  | true =>
   rw [if_pos rfl] at ho
   refine aD rfl (az h ?_)
   repeat (refine ak h ?_; clear h; intro M h)
   refine ax h (az h ?_)
   obtain ⟨R2, l2, r2, h3⟩ := h.bB X
   clear h
   subst ho
   exact k _ _ _ _ l2 r2 (h3.sub bz)
end
theorem VU {α : Type} (P : α → Bool) : ∀ (l : List α) (i : Nat), (∀ y ∈ l.take i, P y = true) → (∀ y, l[i]? = some y → P y = false) → l.takeWhile P = l.take i ∧ l.dropWhile P = l.drop i
 | [], i, _, _ => by simp
 | y :: l, 0, _, h2 => by
  have := h2 y rfl
  simp [List.takeWhile_cons, List.dropWhile_cons, this]
 | y :: l, i + 1, h1, h2 => by
  have hy : P y = true := h1 y (by simp)
  obtain ⟨a, b⟩ := VU P l i (fun z hz => h1 z (by simp only [List.take_succ_cons, List.mem_cons]; exact Or.inr hz)) (fun z hz => h2 z (by simpa using hz))
  simp only [List.takeWhile_cons, List.dropWhile_cons, hy, if_true, a, b, List.take_succ_cons, List.drop_succ_cons, and_self]
section
variable {R : Mem} {L L' : List HP} {M : Mem} {K : Value → Mem → Prop} {Kp : List PanicEntry → Mem → Prop}
def pY (now : Int) (y : aN) : Bool := decide (y.t ≤ now)
theorem NN {l : List aN} {A : Option Addr} {n c : Nat} {sq now : Int} (h : Hp R L M) (hl : RS hH R A c l) (hn : n = l.length) (hb : l.length ≤ 1000000)
  (k : ∀ R' A' c' B' d' M', R.le R' → RS hH R' A' c' (l.dropWhile (pY now)) → RS hH R' B' d' (l.takeWhile (pY now)) → Hp R' L M' →
   K (.tuple #[.agg #[.slice A' (l.dropWhile (pY now)).length c', .int .u64 sq], .slice B' (l.takeWhile (pY now)).length d']) M') :
  ae Tryz.prog 108 #[.agg #[.slice A n c, .int .u64 sq], .int .u64 now] M K Kp := by
 subst hn
 refine sF ?_
 have hc := hl.2
 refine ai h ?_
 clear h
 intro q1 M h
 refine ai h ?_
 clear h
 intro q3 M h
 refine ⟨fun d ws M => ∃ i : Nat, ws = [.int .i64 (i : Int)] ∧ d = l.length - i ∧ i ≤ l.length ∧ (∀ y ∈ l.take i, pY now y = true) ∧ Hp R (pt q3 [.slice none 0 0, .int .u64 0] 79 :: pt q1 [.slice A l.length c, .int .u64 sq] 79 :: L) M,
  ⟨_, 0, rfl, rfl, by omega, by simp, h⟩, ?_⟩
 clear h
 rintro d _ ii M ⟨i, he, hd, hi, hdue, h⟩
 simp only [List.cons.injEq, Value.int.injEq, and_true, true_and] at he
 subst he
 refine ax h ?_
 refine aH.2 ⟨fun hlt => ?_, fun hge => ?_⟩
 ·obtain ⟨y, hy⟩ := aJ (l := l) (i := i) (by omega)
  obtain ⟨b, o, hA⟩ := hl.some (by omega) (by decide)
  refine ax h ⟨by omega, hlt, bq hA ?_⟩
  refine aj (Src.at (hA ▸ hl.src) h hy (j := 0) rfl (by show _ = o + (i * 3 + 0); simp)) ?_
  refine aH.2 ⟨fun JM => ?_, fun JM => ?_⟩
  ·refine ⟨l.length - (i + 1), by omega, i + 1, by rw [aS (by omega)], rfl, by omega, ?_, h⟩
   intro z hz
   rw [dw hy, List.mem_append, List.mem_singleton] at hz
   rcases hz with hz | rfl
   ·exact hdue z hz
   ·exact decide_eq_true JM
  ·obtain ⟨e1, e2⟩ := VU (pY now) l i hdue (fun z hz => by rw [hy] at hz; cases hz; exact decide_eq_false JM)
   refine ax h ⟨by omega, by omega, by omega, by omega, by omega, by omega, ?_⟩
   refine az h (ax h ⟨by omega, by omega, by omega, by omega, by omega, by omega, ?_⟩)
   refine ai h ?_
   clear h
   intro q28 M h
   refine h.b6 hH wD (l.drop i) (B := jt A i c 3) (hl.drop i (by omega)).src (by rw [List.length_drop]; omega) (by rw [List.length_drop]; omega) ?_
   clear h; intro A2 c2 M h
   refine aY ⟨cv h, cv h, ?_⟩
   repeat (refine ak h ?_; clear h; intro M h)
   refine ⟨cv h, cv h, ?_⟩
   refine ax h (az h ?_)
   obtain ⟨R2, l2, r2, h3⟩ := h.bB A2
   clear h
   have hk := k R2 A2 c2 (jt A 0 c 3) (c - 0) M l2 (by rw [e2]; exact r2) (by rw [e1]; exact RS.cut (hl.le l2) i) (h3.sub bz)
   rw [e1, e2] at hk
   have e3 : (l.take i).length = i := by rw [List.length_take]; omega
   rw [e3] at hk
   exact hk
 ·have e := VU (pY now) l i hdue (fun z hz => by rw [List.getElem?_eq_none (by omega)] at hz; cases hz)
  obtain ⟨e1, e2⟩ := e
  refine ax h ⟨by omega, by omega, by omega, by omega, by omega, by omega, ?_⟩
  refine az h (ax h ⟨by omega, by omega, by omega, by omega, by omega, by omega, ?_⟩)
  refine ai h ?_
  clear h
  intro q28 M h
  refine h.b6 hH wD (l.drop i) (B := jt A i c 3) (hl.drop i (by omega)).src (by rw [List.length_drop]; omega) (by rw [List.length_drop]; omega) ?_
  clear h; intro A2 c2 M h
  refine aY ⟨cv h, cv h, ?_⟩
  repeat (refine ak h ?_; clear h; intro M h)
  refine ⟨cv h, cv h, ?_⟩
  refine ax h (az h ?_)
  obtain ⟨R2, l2, r2, h3⟩ := h.bB A2
  clear h
  have hk := k R2 A2 c2 (jt A 0 c 3) (c - 0) M l2 (by rw [e2]; exact r2) (by rw [e1]; exact RS.cut (hl.le l2) i) (h3.sub bz)
  rw [e1, e2] at hk
  have e3 : (l.take i).length = i := by rw [List.length_take]; omega
  rw [e3] at hk
  exact hk
end
theorem CI {R : Mem} {L L' : List HP} {M : Mem} {b j T : Nat} {cs cs' : List Value} {v : Value} {G : Mem → Prop} (h : Hp R L M) [hp : nE b L cs T L'] (hj : j < cs.length) (hs : cs.set j v = cs')
  (k : ∀ M', Hp R (pt b cs' T :: L') M' → G M') : b7 M ⟨b, j, none⟩ v G := by
 subst hs
 have h2 := h.pick hp.pick
 haveI : K4 cs j v (cs.set j v) := ⟨hj, rfl⟩
 exact ak h2 k
theorem bQ {R : Mem} {L L' : List HP} {M : Mem} {b j T : Nat} {cs : List Value} {v : Value} (h : Hp R L M) [hp : nE b L cs T L'] (hv : cs[j]? = some v) : M.ld ⟨b, j, none⟩ = some v := by
 have h2 := h.pick hp.pick
 haveI : K5 cs j v := ⟨hv⟩
 exact cv h2
section
variable {R : Mem} {L L' : List HP} {M : Mem} {K : Value → Mem → Prop} {Kp : List PanicEntry → Mem → Prop} {f : eH} {x : bZ}
abbrev frm0 : List Value := [.int .i64 0, .int .i64 0, .int .i64 0, .int .i64 0, .int .i64 0, .int .i64 0, .int .i64 0, .int .i64 0, .int .i64 0, .int .i64 0, .int .i64 0]
abbrev tF : Nat := 114
abbrev tI : Nat := 109
theorem fH {q1 q3 q5 : Nat} {t : Bool} (h : Hp R (pt q1 (gJ f) tF :: pt q3 (insC x) tI :: pt q5 frm0 tF :: L) M) (k : ∀ M', Hp R L M' → K (.tuple #[.agg (gJ f).toArray, .bool t]) M') :
 bG (Mem.ld M ⟨q1, 0, none⟩) .i64 fun dI =>
 bG (Mem.ld M ⟨q1, (0 + 1), none⟩) .i64 fun lp =>
 bG (Mem.ld M ⟨q1, (0 + 2), none⟩) .i64 fun hG =>
 bG (Mem.ld M ⟨q1, (0 + 3), none⟩) .i64 fun m9 =>
 bG (Mem.ld M ⟨q1, (0 + 4), none⟩) .i64 fun jD =>
 bG (Mem.ld M ⟨q1, (0 + 5), none⟩) .i64 fun lj =>
 bG (Mem.ld M ⟨q1, (0 + 6), none⟩) .i64 fun nI =>
 bG (Mem.ld M ⟨q1, (0 + 7), none⟩) .i64 fun kS =>
 bG (Mem.ld M ⟨q1, (0 + 8), none⟩) .i64 fun kQ =>
 bG (Mem.ld M ⟨q1, (0 + 9), none⟩) .i64 fun nX =>
 bG (Mem.ld M ⟨q1, (0 + 10), none⟩) .i64 fun gF =>
 b7 M ⟨q5, 0, none⟩ (.int .i64 dI) fun jI =>
 b7 jI ⟨q5, (0 + 1), none⟩ (.int .i64 lp) fun c9 =>
 b7 c9 ⟨q5, (0 + 2), none⟩ (.int .i64 hG) fun mD =>
 b7 mD ⟨q5, (0 + 3), none⟩ (.int .i64 m9) fun nJ =>
 b7 nJ ⟨q5, (0 + 4), none⟩ (.int .i64 jD) fun qo =>
 b7 qo ⟨q5, (0 + 5), none⟩ (.int .i64 lj) fun xY =>
 b7 xY ⟨q5, (0 + 6), none⟩ (.int .i64 nI) fun ng =>
 b7 ng ⟨q5, (0 + 7), none⟩ (.int .i64 kS) fun Df =>
 b7 Df ⟨q5, (0 + 8), none⟩ (.int .i64 kQ) fun pG =>
 b7 pG ⟨q5, (0 + 9), none⟩ (.int .i64 nX) fun wH =>
 b7 wH ⟨q5, (0 + 10), none⟩ (.int .i64 gF) fun uj =>
 bG (Mem.ld uj ⟨q5, 0, none⟩) .i64 fun n32 =>
 bG (Mem.ld uj ⟨q5, (0 + 1), none⟩) .i64 fun kP =>
 bG (Mem.ld uj ⟨q5, (0 + 2), none⟩) .i64 fun vg =>
 bG (Mem.ld uj ⟨q5, (0 + 3), none⟩) .i64 fun yK =>
 bG (Mem.ld uj ⟨q5, (0 + 4), none⟩) .i64 fun tH =>
 bG (Mem.ld uj ⟨q5, (0 + 5), none⟩) .i64 fun xU =>
 bG (Mem.ld uj ⟨q5, (0 + 6), none⟩) .i64 fun mE =>
 bG (Mem.ld uj ⟨q5, (0 + 7), none⟩) .i64 fun yC =>
 bG (Mem.ld uj ⟨q5, (0 + 8), none⟩) .i64 fun ni =>
 bG (Mem.ld uj ⟨q5, (0 + 9), none⟩) .i64 fun zG =>
 bG (Mem.ld uj ⟨q5, (0 + 10), none⟩) .i64 fun BL =>
 K (.tuple #[(.agg #[(.int .i64 n32), (.int .i64 kP), (.int .i64 vg), (.int .i64 yK), (.int .i64 tH), (.int .i64 xU), (.int .i64 mE), (.int .i64 yC), (.int .i64 ni), (.int .i64 zG), (.int .i64 BL)]), (.bool t)]) uj := by
 unfold gJ at h
 unfold gJ at k
 repeat (first|(refine ai h ?_;clear h;intro kb M h)|(refine ak h ?_;clear h;intro M h)|refine St.to h ?_|(apply Exists.intro;(repeat apply Exists.intro);refine And.intro rfl ?_)|refine ay ?_|refine aq ?_|refine au ?_)
 exact k _ (h.sub bz)
theorem CJ (h : Hp R L M) (hx : x.cO) (h0 : 0 ≤ x.op) (hs : 0 ≤ f.pc ∧ f.pc < 1000000000)
  (k1 : x.op ≤ 8 → ∀ M', Hp R L M' → K (.tuple #[.agg (gJ (f.next.pure x)).toArray, .bool true]) M')
  (k2 : 8 < x.op → ∀ M', Hp R L M' → K (.tuple #[.agg (gJ f).toArray, .bool false]) M') :
  ae Tryz.prog 111 #[.agg (gJ f).toArray, .agg #[.int .i64 x.op, .int .i64 x.a, .int .i64 x.b, .int .i64 x.c]] M K Kp := by
 obtain ⟨o1, o2, o3⟩ := hx
 refine sB ?_
 refine ai h ?_
 clear h
 intro q1 M h
 refine ai h ?_
 clear h
 intro q3 M h
 refine ai h ?_
 clear h
 intro q5 M h
 replace h : Hp R (pt q5 frm0 tF :: pt q3 (insC x) tI :: pt q1 (gJ f) tF :: L) M := h
 refine aj (bQ h (j := 1) rfl) ?_
 rw [ji hs.1 (by omega)]
 refine CI (j := 1) (cs' := gJ f.next) h (by show 1 < 11; omega) rfl ?_
 clear h; intro M h
 refine aj (bQ h (j := 0) rfl) ?_
 refine bh.2 ⟨fun e => ?_, fun n0 => ?_⟩
 ·have ef : f.next.pure x = f.next := by unfold eH.pure; rw [if_pos e]
  rw [ef] at k1
  exact fH (h.sub bz) (k1 (by omega))
 refine bh.2 ⟨fun e => ?_, fun n1 => ?_⟩
 ·have ra : aR x.a := o1 (by rw [e]; simp)
  have ef : f.next.pure x = f.next.set x.a x.b := by unfold eH.pure; simp only [if_neg n0, if_pos e]
  rw [ef] at k1
  refine aj (bQ h (j := 1) rfl) (aj (bQ h (j := 2) rfl) ⟨ra.1, ra.2, ?_⟩)
  refine CI (j := 2 + x.a.toNat) h (by have := ra.1; have := ra.2; show _ < 11; omega) (kM ra.1 ra.2) ?_
  clear h; intro M h
  exact fH (h.sub bz) (k1 (by omega))
 refine bh.2 ⟨fun e => ?_, fun n2 => ?_⟩
 ·obtain ⟨ra, rb⟩ := o2 e
  have ef : f.next.pure x = f.next.set x.a (f.next.bH x.b) := by unfold eH.pure; simp only [if_neg n0, if_neg n1, if_pos e]
  rw [ef] at k1
  refine aj (bQ h (j := 1) rfl) (aj (bQ h (j := 2) rfl) ⟨rb.1, rb.2, ?_⟩)
  refine aj (bQ (j := 2 + x.b.toNat) h (dL rb.1 rb.2)) ⟨ra.1, ra.2, ?_⟩
  refine CI (j := 2 + x.a.toNat) h (by have := ra.1; have := ra.2; show _ < 11; omega) (kM ra.1 ra.2) ?_
  clear h; intro M h
  exact fH (h.sub bz) (k1 (by omega))
 refine bh.2 ⟨fun e => ?_, fun n3 => ?_⟩
 ·obtain ⟨ra, rb, rc⟩ := o3 (by rw [e]; simp)
  have ef : f.next.pure x = f.next.set x.a (IntKind.wrap .i64 (f.next.bH x.b + f.next.bH x.c)) := by unfold eH.pure; simp only [if_neg n0, if_neg n1, if_neg n2, if_pos e]
  rw [ef] at k1
  refine aj (bQ h (j := 1) rfl) (aj (bQ h (j := 2) rfl) ⟨rb.1, rb.2, ?_⟩)
  refine aj (bQ (j := 2 + x.b.toNat) h (dL rb.1 rb.2)) (aj (bQ h (j := 3) rfl) ⟨rc.1, rc.2, ?_⟩)
  refine aj (bQ (j := 2 + x.c.toNat) h (dL rc.1 rc.2)) ⟨ra.1, ra.2, ?_⟩
  refine CI (j := 2 + x.a.toNat) h (by have := ra.1; have := ra.2; show _ < 11; omega) (kM ra.1 ra.2) ?_
  clear h; intro M h
  exact fH (h.sub bz) (k1 (by omega))
 refine bh.2 ⟨fun e => ?_, fun n4 => ?_⟩
 ·obtain ⟨ra, rb, rc⟩ := o3 (by rw [e]; simp)
  have ef : f.next.pure x = f.next.set x.a (IntKind.wrap .i64 (f.next.bH x.b - f.next.bH x.c)) := by unfold eH.pure; simp only [if_neg n0, if_neg n1, if_neg n2, if_neg n3, if_pos e]
  rw [ef] at k1
  refine aj (bQ h (j := 1) rfl) (aj (bQ h (j := 2) rfl) ⟨rb.1, rb.2, ?_⟩)
  refine aj (bQ (j := 2 + x.b.toNat) h (dL rb.1 rb.2)) (aj (bQ h (j := 3) rfl) ⟨rc.1, rc.2, ?_⟩)
  refine aj (bQ (j := 2 + x.c.toNat) h (dL rc.1 rc.2)) ⟨ra.1, ra.2, ?_⟩
  refine CI (j := 2 + x.a.toNat) h (by have := ra.1; have := ra.2; show _ < 11; omega) (kM ra.1 ra.2) ?_
  clear h; intro M h
  exact fH (h.sub bz) (k1 (by omega))
 refine bh.2 ⟨fun e => ?_, fun n5 => ?_⟩
 ·obtain ⟨ra, rb, rc⟩ := o3 (by rw [e]; simp)
  have ef : f.next.pure x = f.next.set x.a (IntKind.wrap .i64 (f.next.bH x.b * f.next.bH x.c)) := by unfold eH.pure; simp only [if_neg n0, if_neg n1, if_neg n2, if_neg n3, if_neg n4, if_pos e]
  rw [ef] at k1
  refine aj (bQ h (j := 1) rfl) (aj (bQ h (j := 2) rfl) ⟨rb.1, rb.2, ?_⟩)
  refine aj (bQ (j := 2 + x.b.toNat) h (dL rb.1 rb.2)) (aj (bQ h (j := 3) rfl) ⟨rc.1, rc.2, ?_⟩)
  refine aj (bQ (j := 2 + x.c.toNat) h (dL rc.1 rc.2)) ⟨ra.1, ra.2, ?_⟩
  refine CI (j := 2 + x.a.toNat) h (by have := ra.1; have := ra.2; show _ < 11; omega) (kM ra.1 ra.2) ?_
  clear h; intro M h
  exact fH (h.sub bz) (k1 (by omega))
 refine bh.2 ⟨fun e => ?_, fun n6 => ?_⟩
 ·obtain ⟨ra, rb, rc⟩ := o3 (by rw [e]; simp)
  have ef : f.next.pure x = f.next.set x.a (if f.next.bH x.b < f.next.bH x.c then 1 else 0) := by unfold eH.pure; simp only [if_neg n0, if_neg n1, if_neg n2, if_neg n3, if_neg n4, if_neg n5, if_pos e]
  rw [ef] at k1
  refine aj (bQ h (j := 2) rfl) ⟨rb.1, rb.2, ?_⟩
  refine aj (bQ (j := 2 + x.b.toNat) h (dL rb.1 rb.2)) (aj (bQ h (j := 3) rfl) ⟨rc.1, rc.2, ?_⟩)
  refine aj (bQ (j := 2 + x.c.toNat) h (dL rc.1 rc.2)) ?_
  refine aH.2 ⟨fun hlt => ?_, fun hge => ?_⟩
  ·rw [if_pos hlt] at k1
   refine aj (bQ h (j := 1) rfl) ⟨ra.1, ra.2, ?_⟩
   refine CI (j := 2 + x.a.toNat) h (by have := ra.1; have := ra.2; show _ < 11; omega) (kM ra.1 ra.2) ?_
   clear h; intro M h
   exact fH (h.sub bz) (k1 (by omega))
  ·rw [if_neg hge] at k1
   refine aj (bQ h (j := 1) rfl) ⟨ra.1, ra.2, ?_⟩
   refine CI (j := 2 + x.a.toNat) h (by have := ra.1; have := ra.2; show _ < 11; omega) (kM ra.1 ra.2) ?_
   clear h; intro M h
   exact fH (h.sub bz) (k1 (by omega))
 refine bh.2 ⟨fun e => ?_, fun n7 => ?_⟩
 ·have ef : f.next.pure x = { f.next with pc := x.a } := by unfold eH.pure; simp only [if_neg n0, if_neg n1, if_neg n2, if_neg n3, if_neg n4, if_neg n5, if_neg n6, if_pos e]
  rw [ef] at k1
  refine aj (bQ h (j := 1) rfl) ?_
  refine CI (j := 1) (cs' := gJ { f.next with pc := x.a }) h (by show 1 < 11; omega) rfl ?_
  clear h; intro M h
  exact fH (h.sub bz) (k1 (by omega))
 refine bh.2 ⟨fun e => ?_, fun n8 => ?_⟩
 ·have ra : aR x.a := o1 (by rw [e]; simp)
  have ef : f.next.pure x = if f.next.bH x.a ≠ 0 then { f.next with pc := x.b } else f.next := by unfold eH.pure; simp only [if_neg n0, if_neg n1, if_neg n2, if_neg n3, if_neg n4, if_neg n5, if_neg n6, if_neg n7]
  rw [ef] at k1
  refine aj (bQ h (j := 1) rfl) ⟨ra.1, ra.2, ?_⟩
  refine aj (bQ (j := 2 + x.a.toNat) h (dL ra.1 ra.2)) ?_
  refine cY.2 ⟨fun hl => ?_, fun hl => ?_⟩
  ·rw [if_pos hl] at k1
   refine aj (bQ h (j := 2) rfl) ?_
   refine CI (j := 1) (cs' := gJ { f.next with pc := x.b }) h (by show 1 < 11; omega) rfl ?_
   clear h; intro M h
   exact fH (h.sub bz) (k1 (by omega))
  ·rw [if_neg (by simpa using hl)] at k1
   exact fH (h.sub bz) (k1 (by omega))
 ·refine aj (bQ h (j := 1) rfl) ?_
  have e1 : IntKind.wrap .i64 (f.next.pc - 1) = f.pc := by
   have : f.next.pc = f.pc + 1 := rfl
   rw [this, dD (by omega) (by omega)]; omega
  rw [e1]
  refine CI (j := 1) (cs' := gJ f) h (by show 1 < 11; omega) rfl ?_
  clear h; intro M h
  exact fH (h.sub bz) (k2 (by omega))
end
abbrev tW : Nat := 81
def Wd.EZ (x : Wd) : Wd := if x.end_ ≠ 0 then { x with ready := [] } else
 ((x.hl.takeWhile (pY (IntKind.wrap .u64 (x.clock + 1)))).map (·.id)).foldl Wd.eZ { x with clock := IntKind.wrap .u64 (x.clock + 1), hl := x.hl.dropWhile (pY (IntKind.wrap .u64 (x.clock + 1))), ready := [] }
theorem J0 (x : Wd) (g : Int) : (x.eZ g).gs.length = x.gs.length := by simp [Wd.eZ, Wd.bp]
theorem ze : ∀ (l : List Int) (x : Wd), (l.foldl Wd.eZ x).gs.length = x.gs.length
 | [], x => rfl
 | g :: l, x => by rw [List.foldl_cons, ze l, J0]
theorem E0 : ∀ (l : List Int) (x : Wd), (l.foldl Wd.eZ x).ready.length = x.ready.length + l.length
 | [], x => rfl
 | g :: l, x => by rw [List.foldl_cons, E0 l]; simp [Wd.eZ]; omega
section
variable {R : Mem} {L L' : List HP} {M : Mem} {K : Value → Mem → Prop} {Kp : List PanicEntry → Mem → Prop} {a : Av} {p : cy} {x : Wd} {g : Int}
theorem NO (h : Hp R L M) (hw : eM R a p x) (hs : x.Sm) (hid : ∀ y ∈ x.hl, 0 ≤ y.id ∧ y.id < x.gs.length)
  (k : ∀ R' a' M', R.le R' → eM R' a' p x.EZ → Hp R' L M' → K (gG a' p x.EZ) M') :
  ae Tryz.prog 76 #[gG a p x] M K Kp := by
 refine sk ?_
 obtain ⟨s1, s2, s3, s4, s5, s6, s7, s8⟩ := hs
 unfold Wd.EZ at k
 refine ai h ?_
 clear h
 intro q1 M h
 refine ai h ?_
 clear h
 intro q3 M h
 refine ak h ?_
 clear h
 intro M h
 refine az h ?_
 refine cY.2 ⟨fun he => ?_, fun he => ?_⟩
 ·rw [if_pos he] at k
  refine aI h rfl ?_
  refine bl h rfl rfl rfl ?_
  clear h; intro M h
  refine aI h rfl ?_
  have hz : eM R { a with ar := none, cr := 0 } p { x with ready := [] } := ⟨hw.AT, hw.dB, hw.gs, hw.av, hw.aC, hw.hl, hw.out, RS.nil _ _⟩
  exact k _ _ _ (Mem.le_refl R) hz (h.sub bz)
 ·rw [if_neg (by simpa using he)] at k
  refine az h ?_
  refine ak h ?_
  clear h
  intro M h
  refine ax h (az h (az h ?_))
  generalize hc : IntKind.wrap .u64 (x.clock + 1) = cl at h k ⊢
  refine NN h hw.hl rfl s8 ?_
  clear h; intro R1 A1 c1 B1 d1 M l1 r1 r2 h
  generalize hd : x.hl.dropWhile (pY cl) = rest at r1 k ⊢
  have hdu : ∀ y ∈ x.hl.takeWhile (pY cl), y ∈ x.hl := fun y hy => (List.takeWhile_subset _) hy
  have K9 : (x.hl.takeWhile (pY cl)).length ≤ x.hl.length := by
   have := congrArg List.length (List.takeWhile_append_dropWhile (p := pY cl) (l := x.hl))
   rw [List.length_append] at this; omega
  generalize x.hl.takeWhile (pY cl) = due at r2 hdu K9 k ⊢
  refine ⟨_, _, _, _, _, _, _, rfl, ?_⟩
  refine ai h ?_
  clear h
  intro q26 M h
  repeat (refine ak h ?_; clear h; intro M h)
  refine ax h (az h ?_)
  repeat (refine ak h ?_; clear h; intro M h)
  generalize AO : ({ x with clock := cl, hl := rest, ready := [] } : Wd) = x1 at k
  have mT : eM R1 { a with ar := none, cr := 0, ah := A1, ch := c1 } p x1 := by
   subst AO
   have cu := hw.le l1
   exact ⟨cu.AT, cu.dB, cu.gs, cu.av, cu.aC, r1, cu.out, RS.nil _ _⟩
  have OY : x1.gs.length = x.gs.length := by subst AO; rfl
  have mU : x1.ready.length = 0 := by subst AO; rfl
  have h0 : Hp R1 (pt q1 (ke { a with ar := none, cr := 0, ah := A1, ch := c1 } p x1) tW :: pt q3 gC tW :: L) M := by subst AO; exact h.sub bz
  clear h
  refine ⟨fun d ws M => ∃ (j : Nat) (R' : Mem) (a' : Av), ws = [.int .i64 (j : Int)] ∧ d = due.length - j ∧ j ≤ due.length ∧ R1.le R' ∧ eM R' a' p (((due.take j).map (·.id)).foldl Wd.eZ x1) ∧ Hp R' (pt q1 (ke a' p (((due.take j).map (·.id)).foldl Wd.eZ x1)) tW :: pt q3 gC tW :: L) M,
   ⟨_, 0, R1, _, rfl, rfl, by omega, Mem.le_refl R1, mT, h0⟩, ?_⟩
  clear h0
  rintro d _ jj M ⟨j, R2, a2, hj, JM, K8, l2, cu, h⟩
  simp only [List.cons.injEq, Value.int.injEq, and_true, true_and] at hj
  subst hj
  refine aH.2 ⟨fun hlt => ?_, fun hge => ?_⟩
  ·obtain ⟨y, hy⟩ := aJ (l := due) (i := j) (by omega)
   have hym := hid y (hdu y (List.mem_of_getElem? hy))
   obtain ⟨b, o, hb⟩ := r2.some (by omega) (by decide)
   rw [hb] at r2
   have r3 := r2.le l2
   refine ⟨by omega, hlt, bq hb ?_⟩
   refine aj (Src.at r3.src h hy (j := 0) rfl (by show _ = o + (j * 3 + 0); simp)) ?_
   refine aj (Src.at r3.src h hy (j := 1) rfl (by show _ = o + (j * 3 + 1); simp; omega)) ?_
   refine aj (Src.at r3.src h hy (j := 2) rfl (by show _ = o + (j * 3 + 2); simp; omega)) ?_
   refine ai h ?_
   clear h
   intro yc M h
   repeat (refine ak h ?_; clear h; intro M h)
   refine aI h rfl (az h ?_)
   refine jq h cu hym.1 (by rw [ze, OY]; exact hym.2) (by rw [ze, OY]; omega) (by rw [E0, mU, List.length_map, List.length_take]; omega) ?_
   clear h; intro R3 a3 M l3 nT h
   refine ⟨_, _, _, _, _, _, _, _, _, _, _, _, _, _, rfl, ?_⟩
   refine bl h rfl rfl rfl ?_
   clear h; intro M h
   have e : (((due.take j).map (·.id)).foldl Wd.eZ x1).eZ y.id = ((due.take (j + 1)).map (·.id)).foldl Wd.eZ x1 := by
    rw [dw hy, List.map_append, List.foldl_append]; rfl
   rw [e] at nT h
   exact ⟨due.length - (j + 1), by omega, j + 1, R3, a3, by rw [aS (by omega)], rfl, by omega, Mem.le_trans l2 l3, nT, h.sub bz⟩
  ·have K8 : j = due.length := by omega
   subst K8
   rw [List.take_length] at cu h
   refine aI h rfl ?_
   refine bl h rfl rfl rfl ?_
   clear h; intro M h
   refine aI h rfl ?_
   exact k _ _ _ (Mem.le_trans l1 l2) cu (h.sub bz)
theorem J1 (h : Hp R L M) (hw : eM R a p x) (hn : x.gs.length ≤ 1000000)
  (k : ∀ M', Hp R L M' → K (.bool (decide (x.end_ = 0 ∧ ∀ y ∈ x.gs, y.st ≠ 1 ∧ y.st ≠ 3))) M') :
  ae Tryz.prog 82 #[gG a p x] M K Kp := by
 refine qF ?_
 obtain ⟨rs, bx, hl⟩ := hw.gs
 refine ai h ?_
 clear h
 intro q1 M h
 refine ax h ?_
 refine ⟨fun d ws M => ∃ i : Nat, ws = [.int .i64 (i : Int)] ∧ d = x.gs.length - i ∧ i ≤ x.gs.length ∧ (∀ y ∈ x.gs.take i, y.st ≠ 1 ∧ y.st ≠ 3) ∧ Hp R (pt q1 (ke a p x) tW :: L) M,
  ⟨_, 0, rfl, rfl, by omega, by simp, h⟩, ?_⟩
 clear h
 rintro d _ ii M ⟨i, he, hd, hi, iA, h⟩
 simp only [List.cons.injEq, Value.int.injEq, and_true, true_and] at he
 subst he
 refine aH.2 ⟨fun hlt => ?_, fun hge => ?_⟩
 ·obtain ⟨y, hy⟩ := aJ (l := x.gs) (i := i) (by omega)
  obtain ⟨⟨oV, rA, rn, rc, AU⟩, hr, e1, e2, e3, e4⟩ := hl.at hy
  dsimp only at e1 e2 e3 e4
  subst e1
  obtain ⟨b, o, hb⟩ := bx.some (by rw [hl.1]; omega) (by decide)
  rw [hb] at bx
  refine ⟨by omega, hlt, bq hb ?_⟩
  refine aj (Src.at bx.src h hr (j := 0) rfl (by simp [tS])) ?_
  refine bu (Src.at bx.src h hr (j := 1) rfl rfl) ?_
  refine aj (Src.at bx.src h hr (j := 2) rfl rfl) ?_
  refine aj (Src.at bx.src h hr (j := 3) rfl rfl) ?_
  refine aj (Src.at bx.src h hr (j := 4) rfl rfl) ?_
  refine aj (Src.at bx.src h hr (j := 5) rfl rfl) ?_
  refine ai h ?_
  clear h
  intro q22 M h
  repeat (refine ak h ?_; clear h; intro M h)
  refine az h ?_
  refine bh.2 ⟨fun h1 => ?_, fun h1 => ?_⟩
  ·have := k M (h.sub bz)
   rw [decide_eq_false (fun hh => (hh.2 y (List.mem_of_getElem? hy)).1 h1)] at this
   exact this
  ·refine az h ?_
   refine bh.2 ⟨fun h3 => ?_, fun h3 => ?_⟩
   ·have := k M (h.sub bz)
    rw [decide_eq_false (fun hh => (hh.2 y (List.mem_of_getElem? hy)).2 h3)] at this
    exact this
   ·refine ⟨x.gs.length - (i + 1), by omega, i + 1, by rw [aS (by omega)], rfl, by omega, ?_, h.sub bz⟩
    intro z hz
    rw [dw hy, List.mem_append, List.mem_singleton] at hz
    rcases hz with hz | rfl
    ·exact iA z hz
    ·exact ⟨h1, h3⟩
 ·refine az h ?_
  have hil : i = x.gs.length := by omega
  subst hil
  rw [List.take_length] at iA
  have := k M (h.sub bz)
  have e : decide (x.end_ = 0 ∧ ∀ y ∈ x.gs, y.st ≠ 1 ∧ y.st ≠ 3) = (x.end_ == 0) := by
   rw [Bool.eq_iff_iff, decide_eq_true_iff, beq_iff_eq]
   exact ⟨fun hh => hh.1, fun hh => ⟨hh, iA⟩⟩
  rw [e] at this
  exact this
end
def dy (p : cy) (x : Wd) (v : Wt) : Wd := if (aa x v.g).st = 2 then x.dY p { v with v := 0 } 0 else x
def Wd.zT (p : cy) (x : Wd) (j : Int) : Wd :=
 let s := (aX x.av j).close
 if s.2.2.2 ≠ 0 then x.iJ (-2) else if 0 < s.2.2.1.length then (x.bg j s.1).iJ (-1) else s.2.1.foldl (dy p) (x.bg j s.1)
def tT (p : cy) (x : Wd) : List Wt → Prop
 | [] => True
 | v :: l => x.Sm ∧ 0 ≤ v.g ∧ v.g < x.gs.length ∧ ((aa x v.g).st = 2 → lI p x { v with v := 0 }) ∧ tT p (dy p x v) l
section
variable {R : Mem} {L L' : List HP} {M : Mem} {K : Value → Mem → Prop} {Kp : List PanicEntry → Mem → Prop} {a : Av} {p : cy} {x : Wd} {g : Int}
theorem NP {j : Int} (h : Hp R L M) (hw : eM R a p x) (j0 : 0 ≤ j) (j1 : j < x.av.length) (hs : x.Sm)
  (ho : (aX x.av j).close.2.2.2 = 0 → tT p (x.bg j (aX x.av j).close.1) (aX x.av j).close.2.1) (hb : (aX x.av j).close.2.1.length ≤ 1000000)
  (k : ∀ R' a' M', R.le R' → eM R' a' p (x.zT p j) → Hp R' L M' → K (gG a' p (x.zT p j)) M') :
  ae Tryz.prog 146 #[gG a p x, .int .i64 j] M K Kp := by
 refine sA ?_
 obtain ⟨rs, bx, hl⟩ := hw.av
 have hc := iu j0 j1
 have hn := hs.2.1
 unfold Wd.zT at k
 generalize QK : aX x.av j = cc at hc ho hb k
 refine ai h ?_
 clear h
 intro q1 M h
 refine ai h ?_
 clear h
 intro q3 M h
 obtain ⟨r, hr, hrc⟩ := hl.at hc
 obtain ⟨b, o, lg⟩ := bx.some (by rw [hl.1]; omega) (by decide)
 rw [lg] at bx
 refine ax h ⟨j0, by omega, bq lg ?_⟩
 refine aj (Src.at bx.src h hr (j := 0) rfl (by simp [yb])) ?_
 refine bu (Src.at bx.src h hr (j := 1) rfl rfl) ?_
 refine bu (Src.at bx.src h hr (j := 2) rfl rfl) ?_
 refine bu (Src.at bx.src h hr (j := 3) rfl rfl) ?_
 refine u9 (Src.at bx.src h hr (j := 4) rfl rfl) ?_
 refine Jg h hrc ?_
 clear h; intro vs' A ca B cb M h xh rA rB
 generalize cc.close = s at xh ho hb k rA rB
 obtain ⟨c', rr, ss, e⟩ := s
 dsimp only at xh ho hb k rA rB
 obtain ⟨r', rfl, HL⟩ := xh.rc
 apply Exists.intro; (repeat apply Exists.intro); refine And.intro rfl ?_
 refine ai h ?_
 clear h
 intro q41 M h
 repeat (refine ak h ?_; clear h; intro M h)
 refine cY.2 ⟨fun he => ?_, fun he => ?_⟩
 ·rw [if_pos he] at k
  refine aI h rfl ?_
  refine gE h hw ?_
  intro M cu h
  refine ⟨_, _, _, _, _, _, _, _, _, _, _, _, _, _, rfl, ?_⟩
  refine bl h rfl rfl rfl ?_
  clear h; intro M h
  refine aI h rfl ?_
  exact k _ _ _ (Mem.le_refl R) cu (h.sub bz)
 ·rw [if_neg (by simpa using he)] at k
  replace ho := ho he
  refine aI h rfl (az h (ax h (ax h (ax h (m6 h ?_)))))
  refine ja h hw HL j0 j1 (by omega) ?_
  clear h; intro R2 a2 M l2 cu h
  refine ⟨_, _, _, _, _, _, _, _, _, _, _, _, _, _, rfl, ?_⟩
  refine bl h rfl rfl rfl ?_
  clear h; intro M h
  refine aH.2 ⟨fun hp => ?_, fun hp => ?_⟩
  all_goals dsimp only at hp
  ·rw [if_pos (by omega)] at k
   refine aI h rfl ?_
   refine gE h cu ?_
   clear h; intro M nT h
   refine ⟨_, _, _, _, _, _, _, _, _, _, _, _, _, _, rfl, ?_⟩
   refine bl h rfl rfl rfl ?_
   clear h; intro M h
   refine aI h rfl ?_
   exact k _ _ _ l2 nT (h.sub bz)
  ·rw [if_neg (by omega)] at k
   generalize x.bg j c' = x1 at k ho cu h
   refine ⟨fun d ws M => ∃ (q : Nat) (R' : Mem) (a' : Av), ws = [.int .i64 (q : Int)] ∧ d = rr.length - q ∧ q ≤ rr.length ∧ R2.le R' ∧ eM R' a' p ((rr.take q).foldl (dy p) x1) ∧ tT p ((rr.take q).foldl (dy p) x1) (rr.drop q) ∧ Hp R' (pt q1 (ke a' p ((rr.take q).foldl (dy p) x1)) tW :: pt q3 gC tW :: L) M,
    ⟨_, 0, R2, a2, rfl, rfl, by omega, Mem.le_refl R2, cu, ho, h.sub bz⟩, ?_⟩
   clear h ho
   rintro d _ qq M ⟨q, R3, a3, hq, hd, hql, l3, nT, ho, h⟩
   simp only [List.cons.injEq, Value.int.injEq, and_true, true_and] at hq
   subst hq
   refine aH.2 ⟨fun hlt => ?_, fun hge => ?_⟩
   all_goals dsimp only at *
   ·obtain ⟨v, hv⟩ := aJ (l := rr) (i := q) (by omega)
    obtain ⟨bA, oA, hbA⟩ := rA.some (by omega) (by decide)
    have r3 := rA.le (Mem.le_trans l2 l3)
    rw [hbA] at r3
    have tk := dw hv
    have KB : rr.drop q = v :: rr.drop (q + 1) := by
     obtain ⟨Ng, rfl⟩ := List.getElem?_eq_some_iff.1 hv
     exact List.drop_eq_getElem_cons Ng
    rw [KB] at ho
    have ef : (rr.take (q + 1)).foldl (dy p) x1 = dy p ((rr.take q).foldl (dy p) x1) v := by rw [tk, List.foldl_append]; rfl
    generalize (rr.take q).foldl (dy p) x1 = x2 at nT ho h ef
    obtain ⟨rK, v0, v1, hrv, ho⟩ := ho
    refine ⟨by omega, hlt, bq hbA ?_⟩
    refine aj (Src.at r3.src h hv (j := 0) rfl (by show _ = oA + (q * 3 + 0); simp)) ?_
    refine aj (Src.at r3.src h hv (j := 1) rfl (by show _ = oA + (q * 3 + 1); simp; omega)) ?_
    refine aj (Src.at r3.src h hv (j := 2) rfl (by show _ = oA + (q * 3 + 2); simp; omega)) ?_
    refine ai h ?_
    clear h
    intro q126 M h
    repeat (refine ak h ?_; clear h; intro M h)
    obtain ⟨gs2, hgs2, hgl2⟩ := nT.gs
    obtain ⟨⟨oV, rA', rn, rc, AU⟩, Ey, e1, e2, e3, e4⟩ := hgl2.at (bM v0 v1)
    dsimp only at e1 e2 e3 e4
    subst e1
    obtain ⟨b2, o2, Sd⟩ := hgs2.some (by rw [hgl2.1]; omega) (by decide)
    rw [Sd] at hgs2
    refine ax h (az h ⟨v0, v1, bq Sd ?_⟩)
    refine aj (Src.at hgs2.src h Ey (j := 0) rfl (by simp [tS])) ?_
    refine bh.2 ⟨fun h2 => ?_, fun h2 => ?_⟩
    ·have es : dy p x2 v = x2.dY p { v with v := 0 } 0 := by unfold dy; rw [if_pos h2]
     rw [es] at ef ho
     refine ak h ?_
     clear h
     intro M h
     refine aI h rfl (az h (az h (az h ?_)))
     refine sX (v := { v with v := 0 }) h nT (hrv h2) rK ?_
     clear h; intro R4 a4 M l4 Q9 h
     refine ⟨_, _, _, _, _, _, _, _, _, _, _, _, _, _, rfl, ?_⟩
     refine bl h rfl rfl rfl ?_
     clear h; intro M h
     refine ⟨rr.length - (q + 1), by omega, q + 1, R4, a4, by rw [aS (by omega)], rfl, by omega, Mem.le_trans l3 l4, ?_⟩
     rw [ef]
     exact ⟨Q9, ho, h.sub bz⟩
    ·have es : dy p x2 v = x2 := by unfold dy; rw [if_neg h2]
     rw [es] at ef ho
     refine ⟨rr.length - (q + 1), by omega, q + 1, R3, a3, by rw [aS (by omega)], rfl, by omega, l3, ?_⟩
     rw [ef]
     exact ⟨nT, ho, h.sub bz⟩
   ·have hql2 : q = rr.length := by omega
    subst hql2
    rw [List.take_length] at nT h
    refine aI h rfl ?_
    refine bl h rfl rfl rfl ?_
    clear h; intro M h
    refine aI h rfl ?_
    exact k _ _ _ (Mem.le_trans l2 l3) nT (h.sub bz)
end
def bT (x y : Wd) : Prop := y.gs.length = x.gs.length ∧ ∀ g, (aa y g).fs.length = (aa x g).fs.length
section
variable {x y z : Wd} {p : cy} {g : Int}
theorem bT.refl (x : Wd) : bT x x := ⟨rfl, fun _ => rfl⟩
theorem bT.trans (h : bT x y) (h2 : bT y z) : bT x z := ⟨h2.1.trans h.1, fun g => (h2.2 g).trans (h.2 g)⟩
theorem bT.ok (h : bT x y) (hg : aT x g) : aT y g := ⟨hg.1, by rw [h.1]; exact hg.2.1, by rw [h.2 g]; exact hg.2.2.1, by rw [h.2 g]; exact hg.2.2.2⟩
theorem bT.bp {q : Int} {w : gK} (h : w.fs.length = (aa x q).fs.length) : bT x (x.bp q w) := by
 refine ⟨by simp [Wd.bp], fun g => ?_⟩
 unfold aa Wd.bp at *
 dsimp only
 by_cases e : q.toNat = g.toNat
 ·rw [← e]
  by_cases hl : q.toNat < x.gs.length
  ·rw [List.getD_eq_getElem?_getD, List.getElem?_set_self hl]; exact h
  ·rw [List.set_eq_of_length_le (by omega)]
 ·rw [List.getD_eq_getElem?_getD, List.getElem?_set_ne e, ← List.getD_eq_getElem?_getD]
theorem bT.bH {q v : Int} : bT x (x.aW g q v) := bT.bp (by simp [gK.bW])
theorem bT.leave : bT x (x.leave g) := ⟨rfl, fun _ => rfl⟩
theorem bT.cU {k : Int} : bT x (x.cU g k) := bT.trans bT.bH bT.leave
theorem bT.eZ : bT x (x.eZ g) := by
 have h : bT x (x.bp g { aa x g with st := 1, wt := .zero }) := bT.bp rfl
 exact ⟨h.1, h.2⟩
theorem bT.bg {k : Int} {c : aQ} : bT x (x.bg k c) := ⟨rfl, fun _ => rfl⟩
theorem bT.iJ {n : Int} : bT x (x.iJ n) := ⟨rfl, fun _ => rfl⟩
theorem bT.dY {v : Wt} {s : Int} : bT x (x.dY p v s) := by
 unfold Wd.dY; dsimp only
 split
 ·exact (bT.bH.trans bT.cU).trans bT.eZ
 ·exact (bT.bH.trans bT.bH).trans bT.eZ
theorem bT.oT {v : Wt} : bT x (x.oT v) := by
 unfold Wd.oT
 split
 ·exact bT.cU.trans bT.eZ
 ·exact bT.eZ
theorem bT.nU {k v : Int} : bT x (x.nU p k v).1 := by
 unfold Wd.nU; dsimp only
 split
 ·exact bT.iJ
 ·dsimp only; split
  ·exact bT.bg.trans bT.dY
  ·exact bT.bg
theorem bT.jZ {k : Int} : bT x (x.jZ k).1 := by
 have h : bT x (if (aX x.av k).recv.2.2.2.2.1 then (x.bg k (aX x.av k).recv.1).oT (aX x.av k).recv.2.2.2.1 else x.bg k (aX x.av k).recv.1) := by
  split
  ·exact bT.bg.trans bT.oT
  ·exact bT.bg
 unfold Wd.jZ; dsimp only
 split
 ·exact h
 ·exact h
end
def E1 (p : cy) (x : Wd) (j v : Int) : Prop := (x.bg j ((aX x.av j).send v).1).Sm ∧ (((aX x.av j).send v).2.2.1 = true → lI p (x.bg j ((aX x.av j).send v).1) ((aX x.av j).send v).2.1)
def E2 (x : Wd) (j : Int) : Prop := (x.bg j (aX x.av j).recv.1).Sm ∧ ((aX x.av j).recv.2.2.2.2.1 = true → vf (x.bg j (aX x.av j).recv.1) (aX x.av j).recv.2.2.2.1)
def Wd.tU (p : cy) (x : Wd) (g : Int) (i : bZ) (k : Int) : Wd :=
 let c := (aB p i).getD k.toNat ⟨0, 0, 0⟩
 if c.way = 1 then (if (x.nU p c.ch (aK x g c.bH)).1.end_ ≠ 0 then (x.nU p c.ch (aK x g c.bH)).1 else (x.nU p c.ch (aK x g c.bH)).1.aW g i.c k)
 else ((x.jZ c.ch).1.aW g c.bH (x.jZ c.ch).2.1).aW g i.c k
def Wd.nA (p : cy) (x : Wd) (g : Int) (i : bZ) : Wd :=
 match els (aB p i) with
 | some k => x.aW g i.c (k : Int)
 | none => Wd.mM { x with av := dm g (sU (aa x g).top) (aB p i) x.av (aB p i).length } g 2 i
def Wd.nB (p : cy) (x : Wd) (g : Int) (i : bZ) (d : Int) : Wd :=
 if enabled (aB p i) x.av = [] then x.nA p g i
 else x.tU p g i ((enabled (aB p i) x.av).getD (d.tmod (enabled (aB p i) x.av).length).toNat 0)
theorem OZ {cs : List aQ} {c : nh} (h : can cs c = true) : c.way ≠ 2 := by
 unfold can at h
 intro e
 simp [e] at h
theorem en_mem {k : Int} {cases : List nh} {cs : List aQ} (h : k ∈ enabled cases cs) : ∃ (j : Nat) (c : nh), k = (j : Int) ∧ j < cases.length ∧ cases[j]? = some c ∧ can cs c = true := by
 unfold enabled z9 at h
 obtain ⟨j, hj, rfl⟩ := List.mem_map.1 h
 obtain ⟨h1, h2⟩ := List.mem_filter.1 hj
 rw [List.mem_range] at h1
 obtain ⟨c, hc⟩ := aJ (l := cases) (i := j) (by omega)
 unfold OA at h2
 rw [hc] at h2
 exact ⟨j, c, rfl, h1, hc, h2⟩
section
variable {R : Mem} {L L' : List HP} {M : Mem} {K : Value → Mem → Prop} {Kp : List PanicEntry → Mem → Prop} {a : Av} {p : cy} {x : Wd} {g : Int} {i : bZ}
theorem G3 {d : Int} (h : Hp R L M) (hw : eM R a p x) (hg : aT x g) (hs : x.Sm) (hk : nt p i) (hok : ∀ c ∈ aB p i, c.Ok x.av.length) (hc : aR i.c) (d0 : 0 ≤ d)
  (hput : ∀ c ∈ aB p i, c.way = 1 → E1 p x c.ch (aK x g c.bH)) (DQ : ∀ c ∈ aB p i, c.way = 0 → E2 x c.ch)
  (k : ∀ R' a' M', R.le R' → eM R' a' p (x.nB p g i d) → Hp R' L M' → K (gG a' p (x.nB p g i d)) M') :
  ae Tryz.prog 147 #[gG a p x, .int .i64 g, .agg #[.int .i64 i.op, .int .i64 i.a, .int .i64 i.b, .int .i64 i.c], .int .i64 d] M K Kp := by
 refine pL ?_
 obtain ⟨a0, b0, hab, hl⟩ := hk
 have hcap := hw.AT.cases.2
 obtain ⟨rs, bx, dQ⟩ := hw.gs
 obtain ⟨cs, hcs, GQ⟩ := hw.av
 obtain ⟨g0, g1, g2, g3⟩ := id hg
 have hn := hs.2.2.1
 have qZ := hs.2.1
 have eC : (i.a + i.b).toNat - i.a.toNat = (aB p i).length := by
  unfold aB
  rw [List.length_take, List.length_drop]; omega
 have RF := (hw.AT.cases.drop i.a.toNat (by omega)).take i.b.toNat
 replace RF : RS gT R (jt a.pa.k i.a.toNat a.pa.kc 3) (a.pa.kc - i.a.toNat) (aB p i) := RF
 have hcll : (aB p i).length ≤ 1000 := by rw [← eC]; omega
 refine ai h ?_
 clear h
 intro q1 M h
 refine ai h ?_
 clear h
 intro q3 M h
 refine ai h ?_
 clear h
 intro q5 M h
 refine ax h (az h (az h (az h ?_)))
 rw [dD (by omega) (by omega)]
 refine ⟨by omega, by omega, by omega, by omega, by omega, by omega, ?_⟩
 rw [eC]
 simp only [Int.toNat_natCast]
 generalize jt a.pa.k i.a.toNat a.pa.kc 3 = C at RF ⊢
 obtain ⟨⟨oV, rA, rn, rc, AU⟩, hr, e1, e2, e3, e4⟩ := dQ.at (bM g0 g1)
 dsimp only at e1 e2 e3 e4
 subst e2
 obtain ⟨b, o, hb⟩ := bx.some (by rw [dQ.1]; omega) (by decide)
 rw [hb] at bx
 obtain ⟨bf, of, qK⟩ := e3.some (by omega) (by decide)
 subst qK
 refine ax h ⟨g0, g1, bq hb ?_⟩
 refine bu (Src.at bx.src h hr (j := 1) rfl rfl) ?_
 refine ax h ⟨g0, g1, bq hb ?_⟩
 refine bu (Src.at bx.src h hr (j := 1) rfl rfl) ?_
 dsimp only
 rw [cK g2 (by omega)]
 refine ⟨by omega, by omega, aV ?_⟩
 rw [Int.toNat_natCast]
 have ht := bR g2
 refine aj (Src.at e3.src h ht (j := 0) rfl rfl) ?_
 refine aj (Src.at e3.src h ht (j := 1) rfl rfl) ?_
 refine aj (Src.at e3.src h ht (j := 2) rfl rfl) ?_
 refine aj (Src.at e3.src h ht (j := 3) rfl rfl) ?_
 refine aj (Src.at e3.src h ht (j := 4) rfl rfl) ?_
 refine aj (Src.at e3.src h ht (j := 5) rfl rfl) ?_
 refine aj (Src.at e3.src h ht (j := 6) rfl rfl) ?_
 refine aj (Src.at e3.src h ht (j := 7) rfl rfl) ?_
 refine aj (Src.at e3.src h ht (j := 8) rfl rfl) ?_
 refine aj (Src.at e3.src h ht (j := 9) rfl rfl) ?_
 refine aj (Src.at e3.src h ht (j := 10) rfl rfl) ?_
 refine ai h ?_
 clear h
 intro q42 M h
 repeat (refine ak h ?_; clear h; intro M h)
 replace h : Hp R (pt q42 (gJ (aa x g).top) 114 :: pt q5 gC tW :: pt q3 [.int .i64 i.op, .int .i64 i.a, .int .i64 i.b, .int .i64 i.c] 109 :: pt q1 (ke a p x) tW :: L) M := h.sub bz
 refine ax h ?_
 refine DM (cases := aB p i) h RF.src hcs.src GQ rfl rfl (by omega) hok (G1 hs) ?_
 clear h; intro E cE M h
 refine aY ?_
 unfold Wd.nB at k
 by_cases he : enabled (aB p i) x.av = []
 ·rw [if_pos he] at k
  rw [he]
  refine bY rfl ?_
  refine MB h RF.src rfl (by omega) ?_
  clear h; intro M h
  refine eY ?_
  unfold Wd.nA at k
  cases hels : els (aB p i) with
  | some q =>
   rw [hels] at k
   dsimp only at k ⊢
   refine bY (by simp) ?_
   refine aI h rfl (az h ?_)
   refine fG h hw hg (by omega) hc ?_
   clear h; intro R1 a1 M l1 mT h
   refine ⟨_, _, _, _, _, _, _, _, _, _, _, _, _, _, rfl, ?_⟩
   refine bl h rfl rfl rfl ?_
   clear h; intro M h
   refine aI h rfl ?_
   exact k _ _ _ l1 mT (h.sub bz)
  | none =>
   rw [hels] at k
   dsimp only at k ⊢
   refine aD (by decide) ?_
   refine aj (bQ h (j := 2) rfl) (aj (bQ h (j := 3) rfl) (aj (bQ h (j := 4) rfl) (aj (bQ h (j := 5) rfl) (aj (bQ h (j := 6) rfl) (aj (bQ h (j := 7) rfl) (aj (bQ h (j := 8) rfl) (aj (bQ h (j := 9) rfl) ?_)))))))
   refine ax h ?_
   refine MD h RF hcs GQ rfl rfl (by omega) (by omega) hok (fun c hc => hs.1 c hc) ?_
   clear h; intro R1 X cx xs' M l1 h hx
   refine aY ?_
   replace h : Hp R1 (cw yb 190 X cx xs' :: pt q1 (ke a p x) tW :: pt q3 [.int .i64 i.op, .int .i64 i.a, .int .i64 i.b, .int .i64 i.c] 109 :: pt q5 gC tW :: L) M := h.sub bz
   refine ak h ?_
   clear h
   intro M h
   obtain ⟨R2, l2, r2, h2⟩ := h.bB X
   clear h
   have cu := hw.le (Mem.le_trans l1 l2)
   generalize AO : ({ x with av := dm g (sU (aa x g).top) (aB p i) x.av (aB p i).length } : Wd) = x1 at k
   have hz : eM R2 { a with ac := X, cc := cx } p x1 := by
    subst AO
    exact ⟨cu.AT, cu.dB, cu.gs, ⟨_, r2, hx.le l2⟩, cu.aC, cu.hl, cu.out, cu.ready⟩
   have h3 : Hp R2 (pt q1 (ke { a with ac := X, cc := cx } p x1) tW :: pt q3 [.int .i64 i.op, .int .i64 i.a, .int .i64 i.b, .int .i64 i.c] 109 :: pt q5 gC tW :: L) M := by
    subst AO
    unfold ke
    dsimp only
    rw [jh]
    exact h2.sub bz
   clear h2
   have OY : x1.gs.length = x.gs.length := by subst AO; rfl
   refine aI h3 rfl ?_
   refine az h3 (az h3 (az h3 (az h3 ?_)))
   refine gD (i := i) (s := 2) h3 hz g0 (by rw [OY]; exact g1) (by rw [OY]; omega) ?_
   clear h3; intro R3 a3 M l3 nT h
   refine ⟨_, _, _, _, _, _, _, _, _, _, _, _, _, _, rfl, ?_⟩
   refine bl h rfl rfl rfl ?_
   clear h; intro M h
   refine aI h rfl ?_
   exact k _ _ _ (Mem.le_trans l1 (Mem.le_trans l2 l3)) nT (h.sub bz)
 ·rw [if_neg he] at k
  obtain ⟨d', rfl⟩ := Int.eq_ofNat_of_zero_le d0
  have hep : 0 < (enabled (aB p i) x.av).length := List.length_pos_iff.2 he
  generalize henE : enabled (aB p i) x.av = en at h k hep ⊢
  have hlm : d' % en.length < en.length := Nat.mod_lt _ hep
  have ed : Int.tmod (d' : Int) (en.length : Int) = ((d' % en.length : Nat) : Int) := rfl
  rw [ed] at k ⊢
  rw [Int.toNat_natCast] at k ⊢
  refine aD (by rw [beq_eq_false_iff_ne]; omega) ⟨by omega, by omega, by omega, ?_⟩
  obtain ⟨qe, rfl⟩ := h.bU (A := E) hep (by decide)
  refine aV ?_
  obtain ⟨kk, hkk⟩ := aJ (l := en) (i := d' % en.length) hlm
  have ek : en.getD (d' % en.length) 0 = kk := by simp [hkk]
  rw [ek] at k
  refine aj (Src.at (h.src (A := some ⟨qe, 0, none⟩)) h hkk (j := 0) rfl (by show _ = 0 + (_ * 1 + 0); simp)) ?_
  obtain ⟨jn, c, rfl, hj, wQ, hcan⟩ := en_mem (henE ▸ List.mem_of_getElem? hkk)
  have hcm := List.mem_of_getElem? wQ
  obtain ⟨w0, w2, hw12⟩ := hok c hcm
  obtain ⟨c0, c1, r0, r8⟩ := hw12 (OZ hcan)
  have eg : (aB p i).getD (jn : Int).toNat ⟨0, 0, 0⟩ = c := by simp [wQ]
  unfold Wd.tU at k
  dsimp only at k
  rw [eg] at k
  rw [Int.toNat_natCast]
  obtain ⟨bC, oC, rfl⟩ := RF.some (by omega) (by decide)
  refine ⟨by omega, by omega, aV ?_⟩
  refine aj (Src.at RF.src h wQ (j := 0) rfl (by show _ = oC + (jn * 3 + 0); omega)) ?_
  by_cases mT : c.way = 1
  ·simp only [if_pos mT] at k
   obtain ⟨p1, p2⟩ := hput c hcm mT
   refine bY (by simp [mT]) ⟨by omega, by omega, aV ⟨by omega, by omega, aV ?_⟩⟩
   refine aI h rfl ?_
   refine aj (Src.at RF.src h wQ (j := 1) rfl (by show _ = oC + (jn * 3 + 1); omega)) ?_
   refine aj (Src.at RF.src h wQ (j := 2) rfl (by show _ = oC + (jn * 3 + 2); omega)) ⟨r0, r8, ?_⟩
   refine aj (bQ (j := 2 + c.bH.toNat) h (dL r0 r8)) ?_
   refine EU (v := aK x g c.bH) h hw c0 c1 hs p1 p2 ?_
   have NQ : bT x (x.nU p c.ch (aK x g c.bH)).1 := bT.nU
   clear h; intro R1 a1 M l1 RH h
   generalize (x.nU p c.ch (aK x g c.bH)).2 = tb at h ⊢
   generalize (x.nU p c.ch (aK x g c.bH)).1 = y at k RH h NQ ⊢
   refine ⟨ke a1 p y, rfl, tb, rfl, ?_⟩
   refine bl h rfl rfl rfl ?_
   clear h; intro M h
   refine az h ?_
   refine cY.2 ⟨fun hen => ?_, fun hen => ?_⟩
   ·rw [if_pos hen] at k
    refine aI h rfl ?_
    refine bl h rfl rfl rfl ?_
    clear h; intro M h
    refine aI h rfl ?_
    exact k _ _ _ l1 RH (h.sub bz)
   ·rw [if_neg (by simpa using hen)] at k
    refine aI h rfl (az h ?_)
    refine fG h RH (NQ.ok hg) (by rw [NQ.1]; omega) hc ?_
    clear h; intro R2 a2 M l2 cu h
    refine ⟨_, _, _, _, _, _, _, _, _, _, _, _, _, _, rfl, ?_⟩
    refine bl h rfl rfl rfl ?_
    clear h; intro M h
    refine aI h rfl ?_
    exact k _ _ _ (Mem.le_trans l1 l2) cu (h.sub bz)
  ·simp only [if_neg mT] at k
   have Jj : c.way = 0 := by have := OZ hcan; omega
   obtain ⟨p1, p2⟩ := DQ c hcm Jj
   refine aD (by simp [mT]) ⟨by omega, by omega, aV ?_⟩
   refine aI h rfl ?_
   refine aj (Src.at RF.src h wQ (j := 1) rfl (by show _ = oC + (jn * 3 + 1); omega)) ?_
   refine EV h hw c0 c1 hs p1 p2 ?_
   have NQ : bT x (x.jZ c.ch).1 := bT.jZ
   clear h; intro R1 a1 M l1 RH h
   generalize (x.jZ c.ch).2.1 = n1 at k ⊢
   generalize (x.jZ c.ch).2.2.1 = n2
   generalize (x.jZ c.ch).2.2.2 = tb
   generalize (x.jZ c.ch).1 = y at k RH h NQ ⊢
   refine ⟨ke a1 p y, rfl, n1, n2, tb, rfl, ?_⟩
   refine bl h rfl rfl rfl ?_
   clear h; intro M h
   refine ⟨by omega, by omega, aV ?_⟩
   refine aI h rfl ?_
   refine aj (Src.at (RF.le l1).src h wQ (j := 2) rfl (by show _ = oC + (jn * 3 + 2); omega)) ?_
   refine fG h RH (NQ.ok hg) (by rw [NQ.1]; omega) ⟨r0, r8⟩ ?_
   clear h; intro R2 a2 M l2 cu h
   refine ⟨_, _, _, _, _, _, _, _, _, _, _, _, _, _, rfl, ?_⟩
   refine bl h rfl rfl rfl ?_
   clear h; intro M h
   refine aI h rfl (az h ?_)
   refine fG h cu ((NQ.trans bT.bH).ok hg) (by rw [(NQ.trans bT.bH).1]; omega) hc ?_
   clear h; intro R3 a3 M l3 nT h
   refine ⟨_, _, _, _, _, _, _, _, _, _, _, _, _, _, rfl, ?_⟩
   refine bl h rfl rfl rfl ?_
   clear h; intro M h
   refine aI h rfl ?_
   exact k _ _ _ (Mem.le_trans l1 (Mem.le_trans l2 l3)) nT (h.sub bz)
end
abbrev tG : Nat := 111
section
variable {R : Mem} {L L' : List HP} {M : Mem} {K : Value → Mem → Prop} {Kp : List PanicEntry → Mem → Prop} {a : Av} {p : cy} {x : Wd} {g : Int} {i : bZ} {d : Int}
def Wd.zU (x : Wd) (g : Int) (i : bZ) : Wd := if 16 ≤ (aa x g).fs.length then x.iJ (-4) else
 x.bp g { aa x g with fs := (aa x g).fs ++ [⟨i.a, 0, [aK x g i.b, 0, 0, 0, 0, 0, 0, 0], i.c⟩] }
def Wd.E3 (x : Wd) (g : Int) (i : bZ) : Wd := if 2 ≤ (aa x g).fs.length then x.bp g { aa x g with fs := CH (aa x g).fs (aK x g i.a) }
 else if g = 0 then { x.mM g 4 .zero with end_ := 1 } else x.mM g 4 .zero
def Wd.zf (x : Wd) (g : Int) (i : bZ) : Wd :=
 if 0 < gA x g i then Wd.mM { x with hl := iw ⟨IntKind.wrap .u64 (x.clock + IntKind.wrap .u64 (gA x g i)), x.dk, g⟩ x.hl, dk := IntKind.wrap .u64 (x.dk + 1) } g 3 .zero else x
def Wd.E4 (x : Wd) (g : Int) (i : bZ) : Wd := if 1000 ≤ x.out.length then x.iJ (-6) else { x with out := x.out ++ [aK x g i.a] }
theorem J2 (h : Hp R L M) (hw : eM R a p x) (hg : aT x g) (hs : x.Sm) (hop : i.op = 9) (hb : aR i.b)
  (k : ∀ R' a' M', R.le R' → eM R' a' p (x.zU g i) → Hp R' L M' → K (gG a' p (x.zU g i)) M') :
  ae Tryz.prog 113 #[gG a p x, .int .i64 g, .agg #[.int .i64 i.op, .int .i64 i.a, .int .i64 i.b, .int .i64 i.c], .int .i64 d] M K Kp := by
 refine bn ?_
 obtain ⟨rs, bx, dQ⟩ := hw.gs
 obtain ⟨g0, g1, g2, g3⟩ := id hg
 have hn := hs.2.2.1
 have qZ := hs.2.1
 refine ai h ?_
 clear h
 intro q1 M h
 refine ai h ?_
 clear h
 intro q3 M h
 refine ai h ?_
 clear h
 intro q5 M h
 obtain ⟨⟨oV, rA, rn, rc, AU⟩, hr, e1, e2, e3, e4⟩ := dQ.at (bM g0 g1)
 dsimp only at e1 e2 e3 e4
 subst e1; subst e2; subst e4
 obtain ⟨b, o, jG⟩ := bx.some (by rw [dQ.1]; omega) (by decide)
 rw [jG] at bx
 obtain ⟨bf, of, qK⟩ := e3.some (by omega) (by decide)
 subst qK
 refine ax h ⟨g0, g1, bq jG ?_⟩
 refine aj (Src.at bx.src h hr (j := 0) rfl (by simp [tS])) ?_
 refine bu (Src.at bx.src h hr (j := 1) rfl rfl) ?_
 refine aj (Src.at bx.src h hr (j := 2) rfl rfl) ?_
 refine aj (Src.at bx.src h hr (j := 3) rfl rfl) ?_
 refine aj (Src.at bx.src h hr (j := 4) rfl rfl) ?_
 refine aj (Src.at bx.src h hr (j := 5) rfl rfl) ?_
 refine ai h ?_
 clear h
 intro zh M h
 repeat (refine ak h ?_; clear h; intro M h)
 refine ax h (ax h ?_)
 dsimp only
 rw [cK g2 (by omega)]
 refine ⟨by omega, by omega, aV ?_⟩
 rw [Int.toNat_natCast]
 have ht := bR g2
 refine aj (Src.at e3.src h ht (j := 0) rfl rfl) ?_
 refine aj (Src.at e3.src h ht (j := 1) rfl rfl) ?_
 refine aj (Src.at e3.src h ht (j := 2) rfl rfl) ?_
 refine aj (Src.at e3.src h ht (j := 3) rfl rfl) ?_
 refine aj (Src.at e3.src h ht (j := 4) rfl rfl) ?_
 refine aj (Src.at e3.src h ht (j := 5) rfl rfl) ?_
 refine aj (Src.at e3.src h ht (j := 6) rfl rfl) ?_
 refine aj (Src.at e3.src h ht (j := 7) rfl rfl) ?_
 refine aj (Src.at e3.src h ht (j := 8) rfl rfl) ?_
 refine aj (Src.at e3.src h ht (j := 9) rfl rfl) ?_
 refine aj (Src.at e3.src h ht (j := 10) rfl rfl) ?_
 refine ai h ?_
 clear h
 intro yc M h
 repeat (refine ak h ?_; clear h; intro M h)
 replace h : Hp R (pt yc (gJ (aa x g).top) tF :: pt zh [.int .i64 (aa x g).st, .slice (some ⟨bf, of, none⟩) (aa x g).fs.length rc, .int .i64 (aa x g).wt.op, .int .i64 (aa x g).wt.a, .int .i64 (aa x g).wt.b, .int .i64 (aa x g).wt.c] tG :: pt q5 gC tW :: pt q3 [.int .i64 i.op, .int .i64 i.a, .int .i64 i.b, .int .i64 i.c] tI :: pt q1 (ke a p x) tW :: L) M := h.sub bz
 refine az h ?_
 refine bY (by simp [hop]) ?_
 refine ax h (az h (az h ⟨hb.1, hb.2, ?_⟩))
 refine aj (bQ (j := 2 + i.b.toNat) h (dL hb.1 hb.2)) (az h ?_)
 unfold Wd.zU at k
 refine NJ (fs := (aa x g).fs) h e3 rfl (by omega) (fun hge => ?_) (fun hlt => ?_)
 ·rw [if_pos hge] at k
  refine ⟨_, _, _, _, rfl, bY rfl ?_⟩
  refine aI h rfl ?_
  refine gE h hw ?_
  clear h; intro M cu h
  refine ⟨_, _, _, _, _, _, _, _, _, _, _, _, _, _, rfl, ?_⟩
  refine bl h rfl rfl rfl ?_
  clear h; intro M h
  refine aI h rfl ?_
  exact k _ _ _ (Mem.le_refl R) cu (h.sub bz)
 ·rw [if_neg hlt] at k
  clear h; intro R1 A' c' M l1 r1 h
  refine ⟨_, _, _, _, rfl, aD rfl ?_⟩
  refine ak h ?_
  clear h
  intro M h
  refine aI h rfl (az h (ax h (az h (az h (az h (az h ?_))))))
  refine kI (r := ⟨(aa x g).st, A', _, c', (aa x g).wt⟩) (y := { aa x g with fs := (aa x g).fs ++ [⟨i.a, 0, [aK x g i.b, 0, 0, 0, 0, 0, 0, 0], i.c⟩] }) h (hw.le l1) ⟨rfl, rfl, r1, rfl⟩ g0 g1 (by omega) ?_
  clear h; intro R2 a2 M l2 cu h
  refine ⟨_, _, _, _, _, _, _, _, _, _, _, _, _, _, rfl, ?_⟩
  refine bl h rfl rfl rfl ?_
  clear h; intro M h
  refine aI h rfl ?_
  exact k _ _ _ (Mem.le_trans l1 l2) cu (h.sub bz)
theorem G4 (h : Hp R L M) (hw : eM R a p x) (hg : aT x g) (hs : x.Sm) (hop : i.op = 10) (hb : aR i.a) (hi : 2 ≤ (aa x g).fs.length → aR (DV (aa x g).fs).mF)
  (k : ∀ R' a' M', R.le R' → eM R' a' p (x.E3 g i) → Hp R' L M' → K (gG a' p (x.E3 g i)) M') :
  ae Tryz.prog 113 #[gG a p x, .int .i64 g, .agg #[.int .i64 i.op, .int .i64 i.a, .int .i64 i.b, .int .i64 i.c], .int .i64 d] M K Kp := by
 refine bn ?_
 obtain ⟨rs, bx, dQ⟩ := hw.gs
 obtain ⟨g0, g1, g2, g3⟩ := id hg
 have hn := hs.2.2.1
 have qZ := hs.2.1
 refine ai h ?_
 clear h
 intro q1 M h
 refine ai h ?_
 clear h
 intro q3 M h
 refine ai h ?_
 clear h
 intro q5 M h
 obtain ⟨⟨oV, rA, rn, rc, AU⟩, hr, e1, e2, e3, e4⟩ := dQ.at (bM g0 g1)
 dsimp only at e1 e2 e3 e4
 subst e1; subst e2; subst e4
 obtain ⟨b, o, jG⟩ := bx.some (by rw [dQ.1]; omega) (by decide)
 rw [jG] at bx
 obtain ⟨bf, of, qK⟩ := e3.some (by omega) (by decide)
 subst qK
 refine ax h ⟨g0, g1, bq jG ?_⟩
 refine aj (Src.at bx.src h hr (j := 0) rfl (by simp [tS])) ?_
 refine bu (Src.at bx.src h hr (j := 1) rfl rfl) ?_
 refine aj (Src.at bx.src h hr (j := 2) rfl rfl) ?_
 refine aj (Src.at bx.src h hr (j := 3) rfl rfl) ?_
 refine aj (Src.at bx.src h hr (j := 4) rfl rfl) ?_
 refine aj (Src.at bx.src h hr (j := 5) rfl rfl) ?_
 refine ai h ?_
 clear h
 intro zh M h
 repeat (refine ak h ?_; clear h; intro M h)
 refine ax h (ax h ?_)
 dsimp only
 rw [cK g2 (by omega)]
 refine ⟨by omega, by omega, aV ?_⟩
 rw [Int.toNat_natCast]
 have ht := bR g2
 refine aj (Src.at e3.src h ht (j := 0) rfl rfl) ?_
 refine aj (Src.at e3.src h ht (j := 1) rfl rfl) ?_
 refine aj (Src.at e3.src h ht (j := 2) rfl rfl) ?_
 refine aj (Src.at e3.src h ht (j := 3) rfl rfl) ?_
 refine aj (Src.at e3.src h ht (j := 4) rfl rfl) ?_
 refine aj (Src.at e3.src h ht (j := 5) rfl rfl) ?_
 refine aj (Src.at e3.src h ht (j := 6) rfl rfl) ?_
 refine aj (Src.at e3.src h ht (j := 7) rfl rfl) ?_
 refine aj (Src.at e3.src h ht (j := 8) rfl rfl) ?_
 refine aj (Src.at e3.src h ht (j := 9) rfl rfl) ?_
 refine aj (Src.at e3.src h ht (j := 10) rfl rfl) ?_
 refine ai h ?_
 clear h
 intro yc M h
 repeat (refine ak h ?_; clear h; intro M h)
 replace h : Hp R (pt yc (gJ (aa x g).top) tF :: pt zh [.int .i64 (aa x g).st, .slice (some ⟨bf, of, none⟩) (aa x g).fs.length rc, .int .i64 (aa x g).wt.op, .int .i64 (aa x g).wt.a, .int .i64 (aa x g).wt.b, .int .i64 (aa x g).wt.c] tG :: pt q5 gC tW :: pt q3 [.int .i64 i.op, .int .i64 i.a, .int .i64 i.b, .int .i64 i.c] tI :: pt q1 (ke a p x) tW :: L) M := h.sub bz
 refine az h ?_
 refine aD (by simp [hop]) ?_
 refine bY (by simp [hop]) ?_
 refine ax h (az h ⟨hb.1, hb.2, ?_⟩)
 refine aj (bQ (j := 2 + i.a.toNat) h (dL hb.1 hb.2)) ?_
 unfold Wd.E3 at k
 refine G2 (fs := (aa x g).fs) h e3 rfl (by omega) hi (fun hlt => ?_) (fun hge => ?_)
 ·rw [if_neg hlt] at k
  refine ⟨_, _, _, _, rfl, aD rfl ?_⟩
  refine aI h rfl ?_
  refine gD (i := .zero) (s := 4) h hw g0 g1 (by omega) ?_
  clear h; intro R1 a1 M l1 mT h
  refine ⟨_, _, _, _, _, _, _, _, _, _, _, _, _, _, rfl, ?_⟩
  refine bl h rfl rfl rfl ?_
  clear h; intro M h
  refine bh.2 ⟨fun e0 => ?_, fun e0 => ?_⟩
  ·rw [if_pos e0] at k
   refine ak h ?_
   clear h
   intro M h
   refine aI h rfl ?_
   refine bl h rfl rfl rfl ?_
   clear h; intro M h
   refine aI h rfl ?_
   have hz : eM R1 a1 p { x.mM g 4 .zero with end_ := 1 } := ⟨mT.AT, mT.dB, mT.gs, mT.av, mT.aC, mT.hl, mT.out, mT.ready⟩
   exact k _ _ _ l1 hz (h.sub bz)
  ·rw [if_neg e0] at k
   refine aI h rfl ?_
   refine bl h rfl rfl rfl ?_
   clear h; intro M h
   refine aI h rfl ?_
   exact k _ _ _ l1 mT (h.sub bz)
 ·rw [if_pos hge] at k
  clear h; intro R1 A' c' M l1 r1 h
  refine ⟨_, _, _, _, rfl, bY rfl ?_⟩
  refine ak h ?_
  clear h
  intro M h
  refine aI h rfl (az h (ax h (az h (az h (az h (az h ?_))))))
  refine kI (r := ⟨(aa x g).st, A', _, c', (aa x g).wt⟩) (y := { aa x g with fs := CH (aa x g).fs (aK x g i.a) }) h (hw.le l1) ⟨rfl, rfl, r1, rfl⟩ g0 g1 (by omega) ?_
  clear h; intro R2 a2 M l2 cu h
  refine ⟨_, _, _, _, _, _, _, _, _, _, _, _, _, _, rfl, ?_⟩
  refine bl h rfl rfl rfl ?_
  clear h; intro M h
  refine aI h rfl ?_
  exact k _ _ _ (Mem.le_trans l1 l2) cu (h.sub bz)
theorem G5 (h : Hp R L M) (hw : eM R a p x) (hg : aT x g) (hs : x.Sm) (hop : i.op = 15) (j0 : 0 ≤ i.a) (j1 : i.a < x.av.length)
  (ho : (aX x.av i.a).close.2.2.2 = 0 → tT p (x.bg i.a (aX x.av i.a).close.1) (aX x.av i.a).close.2.1) (hb : (aX x.av i.a).close.2.1.length ≤ 1000000)
  (k : ∀ R' a' M', R.le R' → eM R' a' p (x.zT p i.a) → Hp R' L M' → K (gG a' p (x.zT p i.a)) M') :
  ae Tryz.prog 113 #[gG a p x, .int .i64 g, .agg #[.int .i64 i.op, .int .i64 i.a, .int .i64 i.b, .int .i64 i.c], .int .i64 d] M K Kp := by
 refine bn ?_
 obtain ⟨rs, bx, dQ⟩ := hw.gs
 obtain ⟨g0, g1, g2, g3⟩ := id hg
 have hn := hs.2.2.1
 have qZ := hs.2.1
 refine ai h ?_
 clear h
 intro q1 M h
 refine ai h ?_
 clear h
 intro q3 M h
 refine ai h ?_
 clear h
 intro q5 M h
 obtain ⟨⟨oV, rA, rn, rc, AU⟩, hr, e1, e2, e3, e4⟩ := dQ.at (bM g0 g1)
 dsimp only at e1 e2 e3 e4
 subst e1; subst e2; subst e4
 obtain ⟨b, o, jG⟩ := bx.some (by rw [dQ.1]; omega) (by decide)
 rw [jG] at bx
 obtain ⟨bf, of, qK⟩ := e3.some (by omega) (by decide)
 subst qK
 refine ax h ⟨g0, g1, bq jG ?_⟩
 refine aj (Src.at bx.src h hr (j := 0) rfl (by simp [tS])) ?_
 refine bu (Src.at bx.src h hr (j := 1) rfl rfl) ?_
 refine aj (Src.at bx.src h hr (j := 2) rfl rfl) ?_
 refine aj (Src.at bx.src h hr (j := 3) rfl rfl) ?_
 refine aj (Src.at bx.src h hr (j := 4) rfl rfl) ?_
 refine aj (Src.at bx.src h hr (j := 5) rfl rfl) ?_
 refine ai h ?_
 clear h
 intro zh M h
 repeat (refine ak h ?_; clear h; intro M h)
 refine ax h (ax h ?_)
 dsimp only
 rw [cK g2 (by omega)]
 refine ⟨by omega, by omega, aV ?_⟩
 rw [Int.toNat_natCast]
 have ht := bR g2
 refine aj (Src.at e3.src h ht (j := 0) rfl rfl) ?_
 refine aj (Src.at e3.src h ht (j := 1) rfl rfl) ?_
 refine aj (Src.at e3.src h ht (j := 2) rfl rfl) ?_
 refine aj (Src.at e3.src h ht (j := 3) rfl rfl) ?_
 refine aj (Src.at e3.src h ht (j := 4) rfl rfl) ?_
 refine aj (Src.at e3.src h ht (j := 5) rfl rfl) ?_
 refine aj (Src.at e3.src h ht (j := 6) rfl rfl) ?_
 refine aj (Src.at e3.src h ht (j := 7) rfl rfl) ?_
 refine aj (Src.at e3.src h ht (j := 8) rfl rfl) ?_
 refine aj (Src.at e3.src h ht (j := 9) rfl rfl) ?_
 refine aj (Src.at e3.src h ht (j := 10) rfl rfl) ?_
 refine ai h ?_
 clear h
 intro yc M h
 repeat (refine ak h ?_; clear h; intro M h)
 replace h : Hp R (pt yc (gJ (aa x g).top) tF :: pt zh [.int .i64 (aa x g).st, .slice (some ⟨bf, of, none⟩) (aa x g).fs.length rc, .int .i64 (aa x g).wt.op, .int .i64 (aa x g).wt.a, .int .i64 (aa x g).wt.b, .int .i64 (aa x g).wt.c] tG :: pt q5 gC tW :: pt q3 [.int .i64 i.op, .int .i64 i.a, .int .i64 i.b, .int .i64 i.c] tI :: pt q1 (ke a p x) tW :: L) M := h.sub bz
 refine az h ?_
 refine aD (by simp [hop]) ?_
 refine aD (by simp [hop]) ?_
 refine aD (by simp [hop]) ?_
 refine aD (by simp [hop]) ?_
 refine aD (by simp [hop]) ?_
 refine bY (by simp [hop]) ?_
 refine aI h rfl (az h ?_)
 refine NP h hw j0 j1 hs ho hb ?_
 clear h; intro R1 a1 M l1 mT h
 refine ⟨_, _, _, _, _, _, _, _, _, _, _, _, _, _, rfl, ?_⟩
 refine bl h rfl rfl rfl ?_
 clear h; intro M h
 refine aI h rfl ?_
 exact k _ _ _ l1 mT (h.sub bz)
theorem G6 (h : Hp R L M) (hw : eM R a p x) (hg : aT x g) (hs : x.Sm) (hop : i.op = 16) (hk : nt p i) (hok : ∀ c ∈ aB p i, c.Ok x.av.length) (hc : aR i.c) (d0 : 0 ≤ d)
  (hput : ∀ c ∈ aB p i, c.way = 1 → E1 p x c.ch (aK x g c.bH)) (DQ : ∀ c ∈ aB p i, c.way = 0 → E2 x c.ch)
  (k : ∀ R' a' M', R.le R' → eM R' a' p (x.nB p g i d) → Hp R' L M' → K (gG a' p (x.nB p g i d)) M') :
  ae Tryz.prog 113 #[gG a p x, .int .i64 g, .agg #[.int .i64 i.op, .int .i64 i.a, .int .i64 i.b, .int .i64 i.c], .int .i64 d] M K Kp := by
 refine bn ?_
 obtain ⟨rs, bx, dQ⟩ := hw.gs
 obtain ⟨g0, g1, g2, g3⟩ := id hg
 have hn := hs.2.2.1
 have qZ := hs.2.1
 refine ai h ?_
 clear h
 intro q1 M h
 refine ai h ?_
 clear h
 intro q3 M h
 refine ai h ?_
 clear h
 intro q5 M h
 obtain ⟨⟨oV, rA, rn, rc, AU⟩, hr, e1, e2, e3, e4⟩ := dQ.at (bM g0 g1)
 dsimp only at e1 e2 e3 e4
 subst e1; subst e2; subst e4
 obtain ⟨b, o, jG⟩ := bx.some (by rw [dQ.1]; omega) (by decide)
 rw [jG] at bx
 obtain ⟨bf, of, qK⟩ := e3.some (by omega) (by decide)
 subst qK
 refine ax h ⟨g0, g1, bq jG ?_⟩
 refine aj (Src.at bx.src h hr (j := 0) rfl (by simp [tS])) ?_
 refine bu (Src.at bx.src h hr (j := 1) rfl rfl) ?_
 refine aj (Src.at bx.src h hr (j := 2) rfl rfl) ?_
 refine aj (Src.at bx.src h hr (j := 3) rfl rfl) ?_
 refine aj (Src.at bx.src h hr (j := 4) rfl rfl) ?_
 refine aj (Src.at bx.src h hr (j := 5) rfl rfl) ?_
 refine ai h ?_
 clear h
 intro zh M h
 repeat (refine ak h ?_; clear h; intro M h)
 refine ax h (ax h ?_)
 dsimp only
 rw [cK g2 (by omega)]
 refine ⟨by omega, by omega, aV ?_⟩
 rw [Int.toNat_natCast]
 have ht := bR g2
 refine aj (Src.at e3.src h ht (j := 0) rfl rfl) ?_
 refine aj (Src.at e3.src h ht (j := 1) rfl rfl) ?_
 refine aj (Src.at e3.src h ht (j := 2) rfl rfl) ?_
 refine aj (Src.at e3.src h ht (j := 3) rfl rfl) ?_
 refine aj (Src.at e3.src h ht (j := 4) rfl rfl) ?_
 refine aj (Src.at e3.src h ht (j := 5) rfl rfl) ?_
 refine aj (Src.at e3.src h ht (j := 6) rfl rfl) ?_
 refine aj (Src.at e3.src h ht (j := 7) rfl rfl) ?_
 refine aj (Src.at e3.src h ht (j := 8) rfl rfl) ?_
 refine aj (Src.at e3.src h ht (j := 9) rfl rfl) ?_
 refine aj (Src.at e3.src h ht (j := 10) rfl rfl) ?_
 refine ai h ?_
 clear h
 intro yc M h
 repeat (refine ak h ?_; clear h; intro M h)
 replace h : Hp R (pt yc (gJ (aa x g).top) tF :: pt zh [.int .i64 (aa x g).st, .slice (some ⟨bf, of, none⟩) (aa x g).fs.length rc, .int .i64 (aa x g).wt.op, .int .i64 (aa x g).wt.a, .int .i64 (aa x g).wt.b, .int .i64 (aa x g).wt.c] tG :: pt q5 gC tW :: pt q3 [.int .i64 i.op, .int .i64 i.a, .int .i64 i.b, .int .i64 i.c] tI :: pt q1 (ke a p x) tW :: L) M := h.sub bz
 refine az h ?_
 refine aD (by simp [hop]) ?_
 refine aD (by simp [hop]) ?_
 refine aD (by simp [hop]) ?_
 refine aD (by simp [hop]) ?_
 refine aD (by simp [hop]) ?_
 refine aD (by simp [hop]) ?_
 refine bY (by simp [hop]) ?_
 refine aI h rfl (az h (az h (az h (az h ?_))))
 refine G3 (i := i) h hw hg hs hk hok hc d0 hput DQ ?_
 clear h; intro R1 a1 M l1 mT h
 refine ⟨_, _, _, _, _, _, _, _, _, _, _, _, _, _, rfl, ?_⟩
 refine bl h rfl rfl rfl ?_
 clear h; intro M h
 refine aI h rfl ?_
 exact k _ _ _ l1 mT (h.sub bz)
theorem G7 (h : Hp R L M) (hw : eM R a p x) (hg : aT x g) (hs : x.Sm) (hop : i.op = 17) (hb : aR i.a)
  (k : ∀ R' a' M', R.le R' → eM R' a' p (x.zf g i) → Hp R' L M' → K (gG a' p (x.zf g i)) M') :
  ae Tryz.prog 113 #[gG a p x, .int .i64 g, .agg #[.int .i64 i.op, .int .i64 i.a, .int .i64 i.b, .int .i64 i.c], .int .i64 d] M K Kp := by
 refine bn ?_
 obtain ⟨rs, bx, dQ⟩ := hw.gs
 obtain ⟨g0, g1, g2, g3⟩ := id hg
 have hn := hs.2.2.1
 have qZ := hs.2.1
 refine ai h ?_
 clear h
 intro q1 M h
 refine ai h ?_
 clear h
 intro q3 M h
 refine ai h ?_
 clear h
 intro q5 M h
 obtain ⟨⟨oV, rA, rn, rc, AU⟩, hr, e1, e2, e3, e4⟩ := dQ.at (bM g0 g1)
 dsimp only at e1 e2 e3 e4
 subst e1; subst e2; subst e4
 obtain ⟨b, o, jG⟩ := bx.some (by rw [dQ.1]; omega) (by decide)
 rw [jG] at bx
 obtain ⟨bf, of, qK⟩ := e3.some (by omega) (by decide)
 subst qK
 refine ax h ⟨g0, g1, bq jG ?_⟩
 refine aj (Src.at bx.src h hr (j := 0) rfl (by simp [tS])) ?_
 refine bu (Src.at bx.src h hr (j := 1) rfl rfl) ?_
 refine aj (Src.at bx.src h hr (j := 2) rfl rfl) ?_
 refine aj (Src.at bx.src h hr (j := 3) rfl rfl) ?_
 refine aj (Src.at bx.src h hr (j := 4) rfl rfl) ?_
 refine aj (Src.at bx.src h hr (j := 5) rfl rfl) ?_
 refine ai h ?_
 clear h
 intro zh M h
 repeat (refine ak h ?_; clear h; intro M h)
 refine ax h (ax h ?_)
 dsimp only
 rw [cK g2 (by omega)]
 refine ⟨by omega, by omega, aV ?_⟩
 rw [Int.toNat_natCast]
 have ht := bR g2
 refine aj (Src.at e3.src h ht (j := 0) rfl rfl) ?_
 refine aj (Src.at e3.src h ht (j := 1) rfl rfl) ?_
 refine aj (Src.at e3.src h ht (j := 2) rfl rfl) ?_
 refine aj (Src.at e3.src h ht (j := 3) rfl rfl) ?_
 refine aj (Src.at e3.src h ht (j := 4) rfl rfl) ?_
 refine aj (Src.at e3.src h ht (j := 5) rfl rfl) ?_
 refine aj (Src.at e3.src h ht (j := 6) rfl rfl) ?_
 refine aj (Src.at e3.src h ht (j := 7) rfl rfl) ?_
 refine aj (Src.at e3.src h ht (j := 8) rfl rfl) ?_
 refine aj (Src.at e3.src h ht (j := 9) rfl rfl) ?_
 refine aj (Src.at e3.src h ht (j := 10) rfl rfl) ?_
 refine ai h ?_
 clear h
 intro yc M h
 repeat (refine ak h ?_; clear h; intro M h)
 replace h : Hp R (pt yc (gJ (aa x g).top) tF :: pt zh [.int .i64 (aa x g).st, .slice (some ⟨bf, of, none⟩) (aa x g).fs.length rc, .int .i64 (aa x g).wt.op, .int .i64 (aa x g).wt.a, .int .i64 (aa x g).wt.b, .int .i64 (aa x g).wt.c] tG :: pt q5 gC tW :: pt q3 [.int .i64 i.op, .int .i64 i.a, .int .i64 i.b, .int .i64 i.c] tI :: pt q1 (ke a p x) tW :: L) M := h.sub bz
 refine az h ?_
 refine aD (by simp [hop]) ?_
 refine aD (by simp [hop]) ?_
 refine aD (by simp [hop]) ?_
 refine aD (by simp [hop]) ?_
 refine aD (by simp [hop]) ?_
 refine aD (by simp [hop]) ?_
 refine aD (by simp [hop]) ?_
 refine bY (by simp [hop]) ?_
 refine az h ⟨hb.1, hb.2, ?_⟩
 refine aj (bQ (j := 2 + i.a.toNat) h (dL hb.1 hb.2)) ?_
 unfold Wd.zf at k
 have es : (if (1048576 : Int) < (aa x g).top.bH i.a then 1048576 else (aa x g).top.bH i.a) = gA x g i := rfl
 rw [es]
 refine aH.2 ⟨fun hp => ?_, fun hp => ?_⟩
 ·rw [if_pos hp] at k
  refine ax h (az h (az h ?_))
  refine NM h hw.hl rfl (by have := hs.2.2.2.2.2.2.2; omega) ?_
  clear h; intro R1 A' c' M l1 r1 h
  refine ⟨_, _, _, _, rfl, ?_⟩
  repeat (refine ak h ?_; clear h; intro M h)
  generalize AO : ({ x with hl := iw ⟨IntKind.wrap .u64 (x.clock + IntKind.wrap .u64 (gA x g i)), x.dk, g⟩ x.hl, dk := IntKind.wrap .u64 (x.dk + 1) } : Wd) = x1 at k
  have mT : eM R1 { a with ah := A', ch := c' } p x1 := by
   subst AO
   have cu := hw.le l1
   exact ⟨cu.AT, cu.dB, cu.gs, cu.av, cu.aC, r1, cu.out, cu.ready⟩
  have h2 : Hp R1 (pt q1 (ke { a with ah := A', ch := c' } p x1) tW :: pt q5 gC tW :: L) M := by subst AO; exact h.sub bz
  have OY : x1.gs.length = x.gs.length := by subst AO; rfl
  clear h
  refine aI h2 rfl ?_
  refine gD (i := .zero) (s := 3) h2 mT g0 (by rw [OY]; exact g1) (by rw [OY]; omega) ?_
  clear h2; intro R2 a2 M l2 cu h
  refine ⟨_, _, _, _, _, _, _, _, _, _, _, _, _, _, rfl, ?_⟩
  refine bl h rfl rfl rfl ?_
  clear h; intro M h
  refine aI h rfl ?_
  exact k _ _ _ (Mem.le_trans l1 l2) cu (h.sub bz)
 ·rw [if_neg hp] at k
  refine aI h rfl ?_
  refine bl h rfl rfl rfl ?_
  clear h; intro M h
  refine aI h rfl ?_
  exact k _ _ _ (Mem.le_refl R) hw (h.sub bz)
theorem G8 (h : Hp R L M) (hw : eM R a p x) (hg : aT x g) (hs : x.Sm) (hop : i.op = 20) (hb : aR i.a)
  (k : ∀ R' a' M', R.le R' → eM R' a' p (x.E4 g i) → Hp R' L M' → K (gG a' p (x.E4 g i)) M') :
  ae Tryz.prog 113 #[gG a p x, .int .i64 g, .agg #[.int .i64 i.op, .int .i64 i.a, .int .i64 i.b, .int .i64 i.c], .int .i64 d] M K Kp := by
 refine bn ?_
 obtain ⟨rs, bx, dQ⟩ := hw.gs
 obtain ⟨g0, g1, g2, g3⟩ := id hg
 have hn := hs.2.2.1
 have qZ := hs.2.1
 refine ai h ?_
 clear h
 intro q1 M h
 refine ai h ?_
 clear h
 intro q3 M h
 refine ai h ?_
 clear h
 intro q5 M h
 obtain ⟨⟨oV, rA, rn, rc, AU⟩, hr, e1, e2, e3, e4⟩ := dQ.at (bM g0 g1)
 dsimp only at e1 e2 e3 e4
 subst e1; subst e2; subst e4
 obtain ⟨b, o, jG⟩ := bx.some (by rw [dQ.1]; omega) (by decide)
 rw [jG] at bx
 obtain ⟨bf, of, qK⟩ := e3.some (by omega) (by decide)
 subst qK
 refine ax h ⟨g0, g1, bq jG ?_⟩
 refine aj (Src.at bx.src h hr (j := 0) rfl (by simp [tS])) ?_
 refine bu (Src.at bx.src h hr (j := 1) rfl rfl) ?_
 refine aj (Src.at bx.src h hr (j := 2) rfl rfl) ?_
 refine aj (Src.at bx.src h hr (j := 3) rfl rfl) ?_
 refine aj (Src.at bx.src h hr (j := 4) rfl rfl) ?_
 refine aj (Src.at bx.src h hr (j := 5) rfl rfl) ?_
 refine ai h ?_
 clear h
 intro zh M h
 repeat (refine ak h ?_; clear h; intro M h)
 refine ax h (ax h ?_)
 dsimp only
 rw [cK g2 (by omega)]
 refine ⟨by omega, by omega, aV ?_⟩
 rw [Int.toNat_natCast]
 have ht := bR g2
 refine aj (Src.at e3.src h ht (j := 0) rfl rfl) ?_
 refine aj (Src.at e3.src h ht (j := 1) rfl rfl) ?_
 refine aj (Src.at e3.src h ht (j := 2) rfl rfl) ?_
 refine aj (Src.at e3.src h ht (j := 3) rfl rfl) ?_
 refine aj (Src.at e3.src h ht (j := 4) rfl rfl) ?_
 refine aj (Src.at e3.src h ht (j := 5) rfl rfl) ?_
 refine aj (Src.at e3.src h ht (j := 6) rfl rfl) ?_
 refine aj (Src.at e3.src h ht (j := 7) rfl rfl) ?_
 refine aj (Src.at e3.src h ht (j := 8) rfl rfl) ?_
 refine aj (Src.at e3.src h ht (j := 9) rfl rfl) ?_
 refine aj (Src.at e3.src h ht (j := 10) rfl rfl) ?_
 refine ai h ?_
 clear h
 intro yc M h
 repeat (refine ak h ?_; clear h; intro M h)
 replace h : Hp R (pt yc (gJ (aa x g).top) tF :: pt zh [.int .i64 (aa x g).st, .slice (some ⟨bf, of, none⟩) (aa x g).fs.length rc, .int .i64 (aa x g).wt.op, .int .i64 (aa x g).wt.a, .int .i64 (aa x g).wt.b, .int .i64 (aa x g).wt.c] tG :: pt q5 gC tW :: pt q3 [.int .i64 i.op, .int .i64 i.a, .int .i64 i.b, .int .i64 i.c] tI :: pt q1 (ke a p x) tW :: L) M := h.sub bz
 refine az h ?_
 refine aD (by simp [hop]) ?_
 refine aD (by simp [hop]) ?_
 refine aD (by simp [hop]) ?_
 refine aD (by simp [hop]) ?_
 refine aD (by simp [hop]) ?_
 refine aD (by simp [hop]) ?_
 refine aD (by simp [hop]) ?_
 refine aD (by simp [hop]) ?_
 refine aD (by simp [hop]) ?_
 refine aD (by simp [hop]) ?_
 refine bY (by simp [hop]) ?_
 unfold Wd.E4 at k
 refine ax h ?_
 refine aH.2 ⟨fun hp => ?_, fun hp => ?_⟩
 ·rw [if_pos (by omega)] at k
  refine aI h rfl ?_
  refine gE h hw ?_
  clear h; intro M cu h
  refine ⟨_, _, _, _, _, _, _, _, _, _, _, _, _, _, rfl, ?_⟩
  refine bl h rfl rfl rfl ?_
  clear h; intro M h
  refine aI h rfl ?_
  exact k _ _ _ (Mem.le_refl R) cu (h.sub bz)
 ·rw [if_neg (by omega)] at k
  refine ax h (az h ⟨hb.1, hb.2, ?_⟩)
  refine aj (bQ (j := 2 + i.a.toNat) h (dL hb.1 hb.2)) ?_
  refine ai h ?_
  clear h
  intro q75 M h
  refine ⟨trivial, ?_⟩
  refine h.b6 bS lC x.out hw.out.src rfl (by omega) ?_
  clear h; intro A' c' M h
  refine aY ⟨bQ (j := 2 + i.a.toNat) h (dL hb.1 hb.2), cv h, ?_⟩
  refine ai h ?_
  clear h
  intro q82 M h
  refine h.be (A := A') lC [aK x g i.a] rfl rfl (by simp; omega) ?_
  clear h; intro A2 c2 M h
  refine aY ⟨bQ (j := 2 + i.a.toNat) h (dL hb.1 hb.2), cv h, ?_⟩
  refine ak h ?_
  clear h
  intro M h
  refine ⟨bQ (j := 2 + i.a.toNat) h (dL hb.1 hb.2), cv h, ?_⟩
  obtain ⟨R2, l2, r2, h2⟩ := h.bB A2
  clear h
  refine aI h2 rfl ?_
  refine bl h2 rfl rfl rfl ?_
  clear h2; intro M h
  refine aI h rfl ?_
  have cu := hw.le l2
  have hz : eM R2 { a with ao := A2, co := c2 } p { x with out := x.out ++ [aK x g i.a] } := ⟨cu.AT, cu.dB, cu.gs, cu.av, cu.aC, cu.hl, r2, cu.ready⟩
  exact k _ _ _ l2 hz (h.sub bz)
theorem G9 (h : Hp R L M) (hw : eM R a p x) (hg : aT x g) (hs : x.Sm) (hop : i.op = 21) (hb : aR i.a) (hn0 : i.b ≠ 0)
  (k : ∀ R' a' M', R.le R' → eM R' a' p (x.aW g i.a (d.tmod i.b)) → Hp R' L M' → K (gG a' p (x.aW g i.a (d.tmod i.b))) M') :
  ae Tryz.prog 113 #[gG a p x, .int .i64 g, .agg #[.int .i64 i.op, .int .i64 i.a, .int .i64 i.b, .int .i64 i.c], .int .i64 d] M K Kp := by
 refine bn ?_
 obtain ⟨rs, bx, dQ⟩ := hw.gs
 obtain ⟨g0, g1, g2, g3⟩ := id hg
 have hn := hs.2.2.1
 have qZ := hs.2.1
 refine ai h ?_
 clear h
 intro q1 M h
 refine ai h ?_
 clear h
 intro q3 M h
 refine ai h ?_
 clear h
 intro q5 M h
 obtain ⟨⟨oV, rA, rn, rc, AU⟩, hr, e1, e2, e3, e4⟩ := dQ.at (bM g0 g1)
 dsimp only at e1 e2 e3 e4
 subst e1; subst e2; subst e4
 obtain ⟨b, o, jG⟩ := bx.some (by rw [dQ.1]; omega) (by decide)
 rw [jG] at bx
 obtain ⟨bf, of, qK⟩ := e3.some (by omega) (by decide)
 subst qK
 refine ax h ⟨g0, g1, bq jG ?_⟩
 refine aj (Src.at bx.src h hr (j := 0) rfl (by simp [tS])) ?_
 refine bu (Src.at bx.src h hr (j := 1) rfl rfl) ?_
 refine aj (Src.at bx.src h hr (j := 2) rfl rfl) ?_
 refine aj (Src.at bx.src h hr (j := 3) rfl rfl) ?_
 refine aj (Src.at bx.src h hr (j := 4) rfl rfl) ?_
 refine aj (Src.at bx.src h hr (j := 5) rfl rfl) ?_
 refine ai h ?_
 clear h
 intro zh M h
 repeat (refine ak h ?_; clear h; intro M h)
 refine ax h (ax h ?_)
 dsimp only
 rw [cK g2 (by omega)]
 refine ⟨by omega, by omega, aV ?_⟩
 rw [Int.toNat_natCast]
 have ht := bR g2
 refine aj (Src.at e3.src h ht (j := 0) rfl rfl) ?_
 refine aj (Src.at e3.src h ht (j := 1) rfl rfl) ?_
 refine aj (Src.at e3.src h ht (j := 2) rfl rfl) ?_
 refine aj (Src.at e3.src h ht (j := 3) rfl rfl) ?_
 refine aj (Src.at e3.src h ht (j := 4) rfl rfl) ?_
 refine aj (Src.at e3.src h ht (j := 5) rfl rfl) ?_
 refine aj (Src.at e3.src h ht (j := 6) rfl rfl) ?_
 refine aj (Src.at e3.src h ht (j := 7) rfl rfl) ?_
 refine aj (Src.at e3.src h ht (j := 8) rfl rfl) ?_
 refine aj (Src.at e3.src h ht (j := 9) rfl rfl) ?_
 refine aj (Src.at e3.src h ht (j := 10) rfl rfl) ?_
 refine ai h ?_
 clear h
 intro yc M h
 repeat (refine ak h ?_; clear h; intro M h)
 replace h : Hp R (pt yc (gJ (aa x g).top) tF :: pt zh [.int .i64 (aa x g).st, .slice (some ⟨bf, of, none⟩) (aa x g).fs.length rc, .int .i64 (aa x g).wt.op, .int .i64 (aa x g).wt.a, .int .i64 (aa x g).wt.b, .int .i64 (aa x g).wt.c] tG :: pt q5 gC tW :: pt q3 [.int .i64 i.op, .int .i64 i.a, .int .i64 i.b, .int .i64 i.c] tI :: pt q1 (ke a p x) tW :: L) M := h.sub bz
 refine az h ?_
 refine aD (by simp [hop]) ?_
 refine aD (by simp [hop]) ?_
 refine aD (by simp [hop]) ?_
 refine aD (by simp [hop]) ?_
 refine aD (by simp [hop]) ?_
 refine aD (by simp [hop]) ?_
 refine aD (by simp [hop]) ?_
 refine aD (by simp [hop]) ?_
 refine aD (by simp [hop]) ?_
 refine aD (by simp [hop]) ?_
 refine aD (by simp [hop]) ?_
 refine bY (by simp [hop]) ?_
 refine aI h rfl (az h (az h ⟨hn0, ?_⟩))
 refine fG h hw hg (by omega) hb ?_
 clear h; intro R1 a1 M l1 mT h
 refine ⟨_, _, _, _, _, _, _, _, _, _, _, _, _, _, rfl, ?_⟩
 refine bl h rfl rfl rfl ?_
 clear h; intro M h
 refine aI h rfl ?_
 exact k _ _ _ l1 mT (h.sub bz)
theorem He (h : Hp R L M) (hw : eM R a p x) (hg : aT x g) (hs : x.Sm) (hop : i.op = 22)
  (k : ∀ R' a' M', R.le R' → eM R' a' p (x.iJ i.a) → Hp R' L M' → K (gG a' p (x.iJ i.a)) M') :
  ae Tryz.prog 113 #[gG a p x, .int .i64 g, .agg #[.int .i64 i.op, .int .i64 i.a, .int .i64 i.b, .int .i64 i.c], .int .i64 d] M K Kp := by
 refine bn ?_
 obtain ⟨rs, bx, dQ⟩ := hw.gs
 obtain ⟨g0, g1, g2, g3⟩ := id hg
 have hn := hs.2.2.1
 have qZ := hs.2.1
 refine ai h ?_
 clear h
 intro q1 M h
 refine ai h ?_
 clear h
 intro q3 M h
 refine ai h ?_
 clear h
 intro q5 M h
 obtain ⟨⟨oV, rA, rn, rc, AU⟩, hr, e1, e2, e3, e4⟩ := dQ.at (bM g0 g1)
 dsimp only at e1 e2 e3 e4
 subst e1; subst e2; subst e4
 obtain ⟨b, o, jG⟩ := bx.some (by rw [dQ.1]; omega) (by decide)
 rw [jG] at bx
 obtain ⟨bf, of, qK⟩ := e3.some (by omega) (by decide)
 subst qK
 refine ax h ⟨g0, g1, bq jG ?_⟩
 refine aj (Src.at bx.src h hr (j := 0) rfl (by simp [tS])) ?_
 refine bu (Src.at bx.src h hr (j := 1) rfl rfl) ?_
 refine aj (Src.at bx.src h hr (j := 2) rfl rfl) ?_
 refine aj (Src.at bx.src h hr (j := 3) rfl rfl) ?_
 refine aj (Src.at bx.src h hr (j := 4) rfl rfl) ?_
 refine aj (Src.at bx.src h hr (j := 5) rfl rfl) ?_
 refine ai h ?_
 clear h
 intro zh M h
 repeat (refine ak h ?_; clear h; intro M h)
 refine ax h (ax h ?_)
 dsimp only
 rw [cK g2 (by omega)]
 refine ⟨by omega, by omega, aV ?_⟩
 rw [Int.toNat_natCast]
 have ht := bR g2
 refine aj (Src.at e3.src h ht (j := 0) rfl rfl) ?_
 refine aj (Src.at e3.src h ht (j := 1) rfl rfl) ?_
 refine aj (Src.at e3.src h ht (j := 2) rfl rfl) ?_
 refine aj (Src.at e3.src h ht (j := 3) rfl rfl) ?_
 refine aj (Src.at e3.src h ht (j := 4) rfl rfl) ?_
 refine aj (Src.at e3.src h ht (j := 5) rfl rfl) ?_
 refine aj (Src.at e3.src h ht (j := 6) rfl rfl) ?_
 refine aj (Src.at e3.src h ht (j := 7) rfl rfl) ?_
 refine aj (Src.at e3.src h ht (j := 8) rfl rfl) ?_
 refine aj (Src.at e3.src h ht (j := 9) rfl rfl) ?_
 refine aj (Src.at e3.src h ht (j := 10) rfl rfl) ?_
 refine ai h ?_
 clear h
 intro yc M h
 repeat (refine ak h ?_; clear h; intro M h)
 replace h : Hp R (pt yc (gJ (aa x g).top) tF :: pt zh [.int .i64 (aa x g).st, .slice (some ⟨bf, of, none⟩) (aa x g).fs.length rc, .int .i64 (aa x g).wt.op, .int .i64 (aa x g).wt.a, .int .i64 (aa x g).wt.b, .int .i64 (aa x g).wt.c] tG :: pt q5 gC tW :: pt q3 [.int .i64 i.op, .int .i64 i.a, .int .i64 i.b, .int .i64 i.c] tI :: pt q1 (ke a p x) tW :: L) M := h.sub bz
 refine az h ?_
 refine aD (by simp [hop]) ?_
 refine aD (by simp [hop]) ?_
 refine aD (by simp [hop]) ?_
 refine aD (by simp [hop]) ?_
 refine aD (by simp [hop]) ?_
 refine aD (by simp [hop]) ?_
 refine aD (by simp [hop]) ?_
 refine aD (by simp [hop]) ?_
 refine aD (by simp [hop]) ?_
 refine aD (by simp [hop]) ?_
 refine aD (by simp [hop]) ?_
 refine aD (by simp [hop]) ?_
 refine bY (by simp [hop]) ?_
 refine aI h rfl (az h ?_)
 refine gE h hw ?_
 clear h; intro M mT h
 refine ⟨_, _, _, _, _, _, _, _, _, _, _, _, _, _, rfl, ?_⟩
 refine bl h rfl rfl rfl ?_
 clear h; intro M h
 refine aI h rfl ?_
 exact k _ _ _ (Mem.le_refl R) mT (h.sub bz)
theorem J3 (h : Hp R L M) (hw : eM R a p x) (hg : aT x g) (hs : x.Sm) (hop : i.op < 9 ∨ i.op = 12 ∨ 22 < i.op)
  (k : ∀ R' a' M', R.le R' → eM R' a' p x → Hp R' L M' → K (gG a' p x) M') :
  ae Tryz.prog 113 #[gG a p x, .int .i64 g, .agg #[.int .i64 i.op, .int .i64 i.a, .int .i64 i.b, .int .i64 i.c], .int .i64 d] M K Kp := by
 refine bn ?_
 obtain ⟨rs, bx, dQ⟩ := hw.gs
 obtain ⟨g0, g1, g2, g3⟩ := id hg
 have hn := hs.2.2.1
 have qZ := hs.2.1
 refine ai h ?_
 clear h
 intro q1 M h
 refine ai h ?_
 clear h
 intro q3 M h
 refine ai h ?_
 clear h
 intro q5 M h
 obtain ⟨⟨oV, rA, rn, rc, AU⟩, hr, e1, e2, e3, e4⟩ := dQ.at (bM g0 g1)
 dsimp only at e1 e2 e3 e4
 subst e1; subst e2; subst e4
 obtain ⟨b, o, jG⟩ := bx.some (by rw [dQ.1]; omega) (by decide)
 rw [jG] at bx
 obtain ⟨bf, of, qK⟩ := e3.some (by omega) (by decide)
 subst qK
 refine ax h ⟨g0, g1, bq jG ?_⟩
 refine aj (Src.at bx.src h hr (j := 0) rfl (by simp [tS])) ?_
 refine bu (Src.at bx.src h hr (j := 1) rfl rfl) ?_
 refine aj (Src.at bx.src h hr (j := 2) rfl rfl) ?_
 refine aj (Src.at bx.src h hr (j := 3) rfl rfl) ?_
 refine aj (Src.at bx.src h hr (j := 4) rfl rfl) ?_
 refine aj (Src.at bx.src h hr (j := 5) rfl rfl) ?_
 refine ai h ?_
 clear h
 intro zh M h
 repeat (refine ak h ?_; clear h; intro M h)
 refine ax h (ax h ?_)
 dsimp only
 rw [cK g2 (by omega)]
 refine ⟨by omega, by omega, aV ?_⟩
 rw [Int.toNat_natCast]
 have ht := bR g2
 refine aj (Src.at e3.src h ht (j := 0) rfl rfl) ?_
 refine aj (Src.at e3.src h ht (j := 1) rfl rfl) ?_
 refine aj (Src.at e3.src h ht (j := 2) rfl rfl) ?_
 refine aj (Src.at e3.src h ht (j := 3) rfl rfl) ?_
 refine aj (Src.at e3.src h ht (j := 4) rfl rfl) ?_
 refine aj (Src.at e3.src h ht (j := 5) rfl rfl) ?_
 refine aj (Src.at e3.src h ht (j := 6) rfl rfl) ?_
 refine aj (Src.at e3.src h ht (j := 7) rfl rfl) ?_
 refine aj (Src.at e3.src h ht (j := 8) rfl rfl) ?_
 refine aj (Src.at e3.src h ht (j := 9) rfl rfl) ?_
 refine aj (Src.at e3.src h ht (j := 10) rfl rfl) ?_
 refine ai h ?_
 clear h
 intro yc M h
 repeat (refine ak h ?_; clear h; intro M h)
 replace h : Hp R (pt yc (gJ (aa x g).top) tF :: pt zh [.int .i64 (aa x g).st, .slice (some ⟨bf, of, none⟩) (aa x g).fs.length rc, .int .i64 (aa x g).wt.op, .int .i64 (aa x g).wt.a, .int .i64 (aa x g).wt.b, .int .i64 (aa x g).wt.c] tG :: pt q5 gC tW :: pt q3 [.int .i64 i.op, .int .i64 i.a, .int .i64 i.b, .int .i64 i.c] tI :: pt q1 (ke a p x) tW :: L) M := h.sub bz
 refine az h ?_
 refine aD (by simp; omega) ?_
 refine aD (by simp; omega) ?_
 refine aD (by simp; omega) ?_
 refine aD (by simp; omega) ?_
 refine aD (by simp; omega) ?_
 refine aD (by simp; omega) ?_
 refine aD (by simp; omega) ?_
 refine aD (by simp; omega) ?_
 refine aD (by simp; omega) ?_
 refine aD (by simp; omega) ?_
 refine aD (by simp; omega) ?_
 refine aD (by simp; omega) ?_
 refine aD (by simp; omega) ?_
 refine aI h rfl ?_
 refine bl h rfl rfl rfl ?_
 clear h; intro M h
 refine aI h rfl ?_
 exact k _ _ _ (Mem.le_refl R) hw (h.sub bz)
end
end Go.Proofs
