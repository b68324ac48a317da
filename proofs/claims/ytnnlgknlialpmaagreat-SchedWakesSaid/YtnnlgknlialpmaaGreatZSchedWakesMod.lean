/- A part of proofs about one program. -/
import Derived.Test.YtnnlgknlialpmaaGreatZSchedWakesRow
set_option linter.unusedVariables false
namespace Go.AF
structure Wt where
 g : Int
 cs : Int
 v : Int
 deriving DecidableEq
structure aL where
 room : Nat
 buf : List Int
 snd : List Wt
 dS : List Wt
 closed : Bool
 deriving DecidableEq
def Wt.zero : Wt := ⟨0, 0, 0⟩
def BK (n : Int) : Nat := (min (max n 0) 16).toNat
theorem IK (n : Int) : (if (16 : Int) < (if (0 : Int) > n then 0 else n) then 16 else (if (0 : Int) > n then 0 else n)) = ((BK n : Nat) : Int) := by unfold BK; omega
theorem IL (n : Int) : BK n ≤ 16 := by unfold BK; omega
def aL.new (n : Int) : aL := ⟨BK n, [], [], [], false⟩
def aL.send (c : aL) (v : Int) : aL × Wt × Bool × Int :=
 if c.closed then (c, .zero, false, 10) else
 match c.dS with
 | w :: r => ({ c with dS := r }, ⟨w.g, w.cs, v⟩, true, 0)
 | [] => if c.buf.length < c.room then ({ c with buf := c.buf ++ [v] }, .zero, false, 0) else (c, .zero, false, 6)
def aL.all (c : aL) : List Int := match c.snd with
 | w :: _ => c.buf ++ [w.v]
 | [] => c.buf
def aL.recv (c : aL) : aL × Int × Bool × Wt × Bool × Int :=
 match c.all with
 | v :: l => ({ c with buf := l, snd := c.snd.tail }, v, true, c.snd.headD .zero, !c.snd.isEmpty, 0)
 | [] => (c, 0, false, .zero, false, if c.closed then 0 else 5)
def aL.close (c : aL) : aL × List Wt × List Wt × Int :=
 if c.closed then (c, [], [], 10) else ({ c with snd := [], dS := [], closed := true }, c.dS, c.snd, 0)
def wo (g : Int) (l : List Wt) : List Wt := l.filter fun w => w.g != g
theorem IM (g : Int) (l m : List Wt) : wo g (l ++ m) = wo g l ++ wo g m := by simp [wo]
theorem DB (g : Int) (l : List Wt) : (wo g l).length ≤ l.length := List.length_filter_le ..
def aL.drop (c : aL) (g : Int) : aL := { c with snd := wo g c.snd, dS := wo g c.dS }
def aL.rV (c : aL) : Bool := c.closed || !c.dS.isEmpty || decide (c.buf.length < c.room)
def aL.rX (c : aL) : Bool := c.closed || !c.snd.isEmpty || !c.buf.isEmpty
def aL.Small (N : Nat) (c : aL) : Prop := c.buf.length ≤ N ∧ c.snd.length ≤ N ∧ c.dS.length ≤ N
theorem aL.Small.mono {N N' : Nat} {c : aL} (h : c.Small N) (hn : N ≤ N') : c.Small N' := ⟨Nat.le_trans h.1 hn, Nat.le_trans h.2.1 hn, Nat.le_trans h.2.2 hn⟩
theorem aL.Small.send {N : Nat} {c : aL} (h : c.Small N) (v : Int) : (c.send v).1.Small (N + 1) := by
 obtain ⟨room, buf, snd, dS, closed⟩ := c
 obtain ⟨h1, h2, h3⟩ := h
 unfold aL.send aL.Small
 dsimp only at h1 h2 h3 ⊢
 split
 ·exact ⟨by dsimp only; omega, by dsimp only; omega, by dsimp only; omega⟩
 ·split
  ·simp only [List.length_cons] at h3; exact ⟨by dsimp only; omega, by dsimp only; omega, by dsimp only; omega⟩
  ·split
   ·exact ⟨by simp; omega, by dsimp only; omega, by dsimp only; omega⟩
   ·exact ⟨by dsimp only; omega, by dsimp only; omega, by dsimp only; omega⟩
theorem aL.Small.recv {N : Nat} {c : aL} (h : c.Small N) : c.recv.1.Small (N + 1) := by
 obtain ⟨room, buf, snd, dS, closed⟩ := c
 obtain ⟨h1, h2, h3⟩ := h
 simp only [aL.recv, aL.all, aL.Small] at *
 cases snd <;> cases buf <;> simp_all <;> omega
theorem aL.Small.close {N : Nat} {c : aL} (h : c.Small N) : c.close.1.Small N := by
 obtain ⟨room, buf, snd, dS, closed⟩ := c
 obtain ⟨h1, h2, h3⟩ := h
 simp only [aL.close, aL.Small] at *
 cases closed <;> simp_all
theorem aL.Small.drop {N : Nat} {c : aL} (h : c.Small N) (g : Int) : (c.drop g).Small N :=
 ⟨h.1, Nat.le_trans (DB ..) h.2.1, Nat.le_trans (DB ..) h.2.2⟩
theorem aL.Small.ws {N : Nat} {c : aL} (h : c.Small N) (w : Wt) : aL.Small (N + 1) { c with snd := c.snd ++ [w] } := by obtain ⟨h1, h2, h3⟩ := h; simp only [aL.Small, List.length_append, List.length_singleton]; omega
theorem aL.Small.wr {N : Nat} {c : aL} (h : c.Small N) (w : Wt) : aL.Small (N + 1) { c with dS := c.dS ++ [w] } := by obtain ⟨h1, h2, h3⟩ := h; simp only [aL.Small, List.length_append, List.length_singleton]; omega
instance (N : Nat) (c : aL) : Decidable (c.Small N) := by unfold aL.Small; infer_instance
def hO : jO Wt := ⟨3, fun w => [.int .i64 w.g, .int .i64 w.cs, .int .i64 w.v], fun _ => rfl, fun w v hv => by
 simp only [List.mem_cons, List.not_mem_nil, or_false] at hv; obtain rfl | rfl | rfl := hv <;> rfl⟩
end Go.AF
