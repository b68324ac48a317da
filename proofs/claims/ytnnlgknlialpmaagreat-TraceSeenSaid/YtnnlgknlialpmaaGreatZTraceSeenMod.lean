/- A part of proofs about one program. -/
import Derived.Test.YtnnlgknlialpmaaGreatZTraceSeenRow
set_option linter.unusedVariables false
namespace Go.AF
structure Wt where
 g : Int
 cs : Int
 v : Int
 deriving DecidableEq
structure aV where
 room : Nat
 buf : List Int
 snd : List Wt
 eH : List Wt
 closed : Bool
 deriving DecidableEq
def Wt.zero : Wt := ⟨0, 0, 0⟩
def zk (n : Int) : Nat := (min (max n 0) 16).toNat
theorem Mx (n : Int) : (if (16 : Int) < (if (0 : Int) > n then 0 else n) then 16 else (if (0 : Int) > n then 0 else n)) = ((zk n : Nat) : Int) := by unfold zk; omega
theorem My (n : Int) : zk n ≤ 16 := by unfold zk; omega
def aV.new (n : Int) : aV := ⟨zk n, [], [], [], false⟩
def aV.send (c : aV) (v : Int) : aV × Wt × Bool × Int :=
 if c.closed then (c, .zero, false, 10) else
 match c.eH with
 | w :: r => ({ c with eH := r }, ⟨w.g, w.cs, v⟩, true, 0)
 | [] => if c.buf.length < c.room then ({ c with buf := c.buf ++ [v] }, .zero, false, 0) else (c, .zero, false, 6)
def aV.all (c : aV) : List Int := match c.snd with
 | w :: _ => c.buf ++ [w.v]
 | [] => c.buf
def aV.recv (c : aV) : aV × Int × Bool × Wt × Bool × Int :=
 match c.all with
 | v :: l => ({ c with buf := l, snd := c.snd.tail }, v, true, c.snd.headD .zero, !c.snd.isEmpty, 0)
 | [] => (c, 0, false, .zero, false, if c.closed then 0 else 5)
def aV.close (c : aV) : aV × List Wt × List Wt × Int :=
 if c.closed then (c, [], [], 10) else ({ c with snd := [], eH := [], closed := true }, c.eH, c.snd, 0)
def wo (g : Int) (l : List Wt) : List Wt := l.filter fun w => w.g != g
theorem Mz (g : Int) (l m : List Wt) : wo g (l ++ m) = wo g l ++ wo g m := by simp [wo]
theorem GC (g : Int) (l : List Wt) : (wo g l).length ≤ l.length := List.length_filter_le ..
def aV.drop (c : aV) (g : Int) : aV := { c with snd := wo g c.snd, eH := wo g c.eH }
def aV.uy (c : aV) : Bool := c.closed || !c.eH.isEmpty || decide (c.buf.length < c.room)
def aV.uz (c : aV) : Bool := c.closed || !c.snd.isEmpty || !c.buf.isEmpty
def aV.Small (N : Nat) (c : aV) : Prop := c.buf.length ≤ N ∧ c.snd.length ≤ N ∧ c.eH.length ≤ N
theorem aV.Small.mono {N N' : Nat} {c : aV} (h : c.Small N) (hn : N ≤ N') : c.Small N' := ⟨Nat.le_trans h.1 hn, Nat.le_trans h.2.1 hn, Nat.le_trans h.2.2 hn⟩
theorem aV.Small.send {N : Nat} {c : aV} (h : c.Small N) (v : Int) : (c.send v).1.Small (N + 1) := by
 obtain ⟨room, buf, snd, eH, closed⟩ := c
 obtain ⟨h1, h2, h3⟩ := h
 unfold aV.send aV.Small
 dsimp only at h1 h2 h3 ⊢
 split
 ·exact ⟨by dsimp only; omega, by dsimp only; omega, by dsimp only; omega⟩
 ·split
  ·simp only [List.length_cons] at h3; exact ⟨by dsimp only; omega, by dsimp only; omega, by dsimp only; omega⟩
  ·split
   ·exact ⟨by simp; omega, by dsimp only; omega, by dsimp only; omega⟩
   ·exact ⟨by dsimp only; omega, by dsimp only; omega, by dsimp only; omega⟩
theorem aV.Small.recv {N : Nat} {c : aV} (h : c.Small N) : c.recv.1.Small (N + 1) := by
 obtain ⟨room, buf, snd, eH, closed⟩ := c
 obtain ⟨h1, h2, h3⟩ := h
 simp only [aV.recv, aV.all, aV.Small] at *
 cases snd <;> cases buf <;> simp_all <;> omega
theorem aV.Small.close {N : Nat} {c : aV} (h : c.Small N) : c.close.1.Small N := by
 obtain ⟨room, buf, snd, eH, closed⟩ := c
 obtain ⟨h1, h2, h3⟩ := h
 simp only [aV.close, aV.Small] at *
 cases closed <;> simp_all
theorem aV.Small.drop {N : Nat} {c : aV} (h : c.Small N) (g : Int) : (c.drop g).Small N :=
 ⟨h.1, Nat.le_trans (GC ..) h.2.1, Nat.le_trans (GC ..) h.2.2⟩
theorem aV.Small.ws {N : Nat} {c : aV} (h : c.Small N) (w : Wt) : aV.Small (N + 1) { c with snd := c.snd ++ [w] } := by obtain ⟨h1, h2, h3⟩ := h; simp only [aV.Small, List.length_append, List.length_singleton]; omega
theorem aV.Small.wr {N : Nat} {c : aV} (h : c.Small N) (w : Wt) : aV.Small (N + 1) { c with eH := c.eH ++ [w] } := by obtain ⟨h1, h2, h3⟩ := h; simp only [aV.Small, List.length_append, List.length_singleton]; omega
instance (N : Nat) (c : aV) : Decidable (c.Small N) := by unfold aV.Small; infer_instance
def gS : hU Wt := ⟨3, fun w => [.int .i64 w.g, .int .i64 w.cs, .int .i64 w.v], fun _ => rfl, fun w v hv => by
 simp only [List.mem_cons, List.not_mem_nil, or_false] at hv; obtain rfl | rfl | rfl := hv <;> rfl⟩
end Go.AF
