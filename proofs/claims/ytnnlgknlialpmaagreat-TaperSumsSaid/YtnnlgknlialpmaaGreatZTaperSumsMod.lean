/- A part of proofs about one program. -/
import Derived.Test.YtnnlgknlialpmaaGreatZTaperSumsRow
set_option linter.unusedVariables false
namespace Go.AF
structure Wt where
 g : Int
 cs : Int
 v : Int
 deriving DecidableEq
structure aZ where
 room : Nat
 buf : List Int
 snd : List Wt
 dy : List Wt
 closed : Bool
 deriving DecidableEq
def Wt.zero : Wt := ⟨0, 0, 0⟩
def FZ (n : Int) : Nat := (min (max n 0) 16).toNat
theorem O2 (n : Int) : (if (16 : Int) < (if (0 : Int) > n then 0 else n) then 16 else (if (0 : Int) > n then 0 else n)) = ((FZ n : Nat) : Int) := by unfold FZ; omega
theorem O3 (n : Int) : FZ n ≤ 16 := by unfold FZ; omega
def aZ.new (n : Int) : aZ := ⟨FZ n, [], [], [], false⟩
def aZ.send (c : aZ) (v : Int) : aZ × Wt × Bool × Int :=
 if c.closed then (c, .zero, false, 10) else
 match c.dy with
 | w :: r => ({ c with dy := r }, ⟨w.g, w.cs, v⟩, true, 0)
 | [] => if c.buf.length < c.room then ({ c with buf := c.buf ++ [v] }, .zero, false, 0) else (c, .zero, false, 6)
def aZ.all (c : aZ) : List Int := match c.snd with
 | w :: _ => c.buf ++ [w.v]
 | [] => c.buf
def aZ.recv (c : aZ) : aZ × Int × Bool × Wt × Bool × Int :=
 match c.all with
 | v :: l => ({ c with buf := l, snd := c.snd.tail }, v, true, c.snd.headD .zero, !c.snd.isEmpty, 0)
 | [] => (c, 0, false, .zero, false, if c.closed then 0 else 5)
def aZ.close (c : aZ) : aZ × List Wt × List Wt × Int :=
 if c.closed then (c, [], [], 10) else ({ c with snd := [], dy := [], closed := true }, c.dy, c.snd, 0)
def wo (g : Int) (l : List Wt) : List Wt := l.filter fun w => w.g != g
theorem O4 (g : Int) (l m : List Wt) : wo g (l ++ m) = wo g l ++ wo g m := by simp [wo]
theorem IC (g : Int) (l : List Wt) : (wo g l).length ≤ l.length := List.length_filter_le ..
def aZ.drop (c : aZ) (g : Int) : aZ := { c with snd := wo g c.snd, dy := wo g c.dy }
def aZ.vE (c : aZ) : Bool := c.closed || !c.dy.isEmpty || decide (c.buf.length < c.room)
def aZ.vF (c : aZ) : Bool := c.closed || !c.snd.isEmpty || !c.buf.isEmpty
def aZ.Small (N : Nat) (c : aZ) : Prop := c.buf.length ≤ N ∧ c.snd.length ≤ N ∧ c.dy.length ≤ N
theorem aZ.Small.mono {N N' : Nat} {c : aZ} (h : c.Small N) (hn : N ≤ N') : c.Small N' := ⟨Nat.le_trans h.1 hn, Nat.le_trans h.2.1 hn, Nat.le_trans h.2.2 hn⟩
theorem aZ.Small.send {N : Nat} {c : aZ} (h : c.Small N) (v : Int) : (c.send v).1.Small (N + 1) := by
 obtain ⟨room, buf, snd, dy, closed⟩ := c
 obtain ⟨h1, h2, h3⟩ := h
 unfold aZ.send aZ.Small
 dsimp only at h1 h2 h3 ⊢
 split
 ·exact ⟨by dsimp only; omega, by dsimp only; omega, by dsimp only; omega⟩
 ·split
  ·simp only [List.length_cons] at h3; exact ⟨by dsimp only; omega, by dsimp only; omega, by dsimp only; omega⟩
  ·split
   ·exact ⟨by simp; omega, by dsimp only; omega, by dsimp only; omega⟩
   ·exact ⟨by dsimp only; omega, by dsimp only; omega, by dsimp only; omega⟩
theorem aZ.Small.recv {N : Nat} {c : aZ} (h : c.Small N) : c.recv.1.Small (N + 1) := by
 obtain ⟨room, buf, snd, dy, closed⟩ := c
 obtain ⟨h1, h2, h3⟩ := h
 simp only [aZ.recv, aZ.all, aZ.Small] at *
 cases snd <;> cases buf <;> simp_all <;> omega
theorem aZ.Small.close {N : Nat} {c : aZ} (h : c.Small N) : c.close.1.Small N := by
 obtain ⟨room, buf, snd, dy, closed⟩ := c
 obtain ⟨h1, h2, h3⟩ := h
 simp only [aZ.close, aZ.Small] at *
 cases closed <;> simp_all
theorem aZ.Small.drop {N : Nat} {c : aZ} (h : c.Small N) (g : Int) : (c.drop g).Small N :=
 ⟨h.1, Nat.le_trans (IC ..) h.2.1, Nat.le_trans (IC ..) h.2.2⟩
theorem aZ.Small.ws {N : Nat} {c : aZ} (h : c.Small N) (w : Wt) : aZ.Small (N + 1) { c with snd := c.snd ++ [w] } := by obtain ⟨h1, h2, h3⟩ := h; simp only [aZ.Small, List.length_append, List.length_singleton]; omega
theorem aZ.Small.wr {N : Nat} {c : aZ} (h : c.Small N) (w : Wt) : aZ.Small (N + 1) { c with dy := c.dy ++ [w] } := by obtain ⟨h1, h2, h3⟩ := h; simp only [aZ.Small, List.length_append, List.length_singleton]; omega
instance (N : Nat) (c : aZ) : Decidable (c.Small N) := by unfold aZ.Small; infer_instance
def fA : fP Wt := ⟨3, fun w => [.int .i64 w.g, .int .i64 w.cs, .int .i64 w.v], fun _ => rfl, fun w v hv => by
 simp only [List.mem_cons, List.not_mem_nil, or_false] at hv; obtain rfl | rfl | rfl := hv <;> rfl⟩
end Go.AF
