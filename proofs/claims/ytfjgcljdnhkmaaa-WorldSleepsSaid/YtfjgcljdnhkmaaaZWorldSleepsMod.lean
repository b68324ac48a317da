/- A part of proofs about one program. -/
import Derived.Test.YtfjgcljdnhkmaaaZWorldSleepsRow
set_option linter.unusedVariables false
namespace Go.AF
structure Wt where
 g : Int
 cs : Int
 v : Int
 deriving DecidableEq
structure aC where
 room : Nat
 buf : List Int
 snd : List Wt
 cQ : List Wt
 closed : Bool
 deriving DecidableEq
def Wt.zero : Wt := ⟨0, 0, 0⟩
def vD (n : Int) : Nat := (min (max n 0) 16).toNat
theorem Bi (n : Int) : (if (16 : Int) < (if (0 : Int) > n then 0 else n) then 16 else (if (0 : Int) > n then 0 else n)) = ((vD n : Nat) : Int) := by unfold vD; omega
theorem Bj (n : Int) : vD n ≤ 16 := by unfold vD; omega
def aC.new (n : Int) : aC := ⟨vD n, [], [], [], false⟩
def aC.send (c : aC) (v : Int) : aC × Wt × Bool × Int :=
 if c.closed then (c, .zero, false, 10) else
 match c.cQ with
 | w :: r => ({ c with cQ := r }, ⟨w.g, w.cs, v⟩, true, 0)
 | [] => if c.buf.length < c.room then ({ c with buf := c.buf ++ [v] }, .zero, false, 0) else (c, .zero, false, 6)
def aC.all (c : aC) : List Int := match c.snd with
 | w :: _ => c.buf ++ [w.v]
 | [] => c.buf
def aC.recv (c : aC) : aC × Int × Bool × Wt × Bool × Int :=
 match c.all with
 | v :: l => ({ c with buf := l, snd := c.snd.tail }, v, true, c.snd.headD .zero, !c.snd.isEmpty, 0)
 | [] => (c, 0, false, .zero, false, if c.closed then 0 else 5)
def aC.close (c : aC) : aC × List Wt × List Wt × Int :=
 if c.closed then (c, [], [], 10) else ({ c with snd := [], cQ := [], closed := true }, c.cQ, c.snd, 0)
def wo (g : Int) (l : List Wt) : List Wt := l.filter fun w => w.g != g
theorem Bk (g : Int) (l m : List Wt) : wo g (l ++ m) = wo g l ++ wo g m := by simp [wo]
theorem xn (g : Int) (l : List Wt) : (wo g l).length ≤ l.length := List.length_filter_le ..
def aC.drop (c : aC) (g : Int) : aC := { c with snd := wo g c.snd, cQ := wo g c.cQ }
def aC.nx (c : aC) : Bool := c.closed || !c.cQ.isEmpty || decide (c.buf.length < c.room)
def aC.ny (c : aC) : Bool := c.closed || !c.snd.isEmpty || !c.buf.isEmpty
def aC.Small (N : Nat) (c : aC) : Prop := c.buf.length ≤ N ∧ c.snd.length ≤ N ∧ c.cQ.length ≤ N
theorem aC.Small.mono {N N' : Nat} {c : aC} (h : c.Small N) (hn : N ≤ N') : c.Small N' := ⟨Nat.le_trans h.1 hn, Nat.le_trans h.2.1 hn, Nat.le_trans h.2.2 hn⟩
theorem aC.Small.send {N : Nat} {c : aC} (h : c.Small N) (v : Int) : (c.send v).1.Small (N + 1) := by
 obtain ⟨room, buf, snd, cQ, closed⟩ := c
 obtain ⟨h1, h2, h3⟩ := h
 unfold aC.send aC.Small
 dsimp only at h1 h2 h3 ⊢
 split
 ·exact ⟨by dsimp only; omega, by dsimp only; omega, by dsimp only; omega⟩
 ·split
  ·simp only [List.length_cons] at h3; exact ⟨by dsimp only; omega, by dsimp only; omega, by dsimp only; omega⟩
  ·split
   ·exact ⟨by simp; omega, by dsimp only; omega, by dsimp only; omega⟩
   ·exact ⟨by dsimp only; omega, by dsimp only; omega, by dsimp only; omega⟩
theorem aC.Small.recv {N : Nat} {c : aC} (h : c.Small N) : c.recv.1.Small (N + 1) := by
 obtain ⟨room, buf, snd, cQ, closed⟩ := c
 obtain ⟨h1, h2, h3⟩ := h
 simp only [aC.recv, aC.all, aC.Small] at *
 cases snd <;> cases buf <;> simp_all <;> omega
theorem aC.Small.close {N : Nat} {c : aC} (h : c.Small N) : c.close.1.Small N := by
 obtain ⟨room, buf, snd, cQ, closed⟩ := c
 obtain ⟨h1, h2, h3⟩ := h
 simp only [aC.close, aC.Small] at *
 cases closed <;> simp_all
theorem aC.Small.drop {N : Nat} {c : aC} (h : c.Small N) (g : Int) : (c.drop g).Small N :=
 ⟨h.1, Nat.le_trans (xn ..) h.2.1, Nat.le_trans (xn ..) h.2.2⟩
theorem aC.Small.ws {N : Nat} {c : aC} (h : c.Small N) (w : Wt) : aC.Small (N + 1) { c with snd := c.snd ++ [w] } := by obtain ⟨h1, h2, h3⟩ := h; simp only [aC.Small, List.length_append, List.length_singleton]; omega
theorem aC.Small.wr {N : Nat} {c : aC} (h : c.Small N) (w : Wt) : aC.Small (N + 1) { c with cQ := c.cQ ++ [w] } := by obtain ⟨h1, h2, h3⟩ := h; simp only [aC.Small, List.length_append, List.length_singleton]; omega
instance (N : Nat) (c : aC) : Decidable (c.Small N) := by unfold aC.Small; infer_instance
def fk : gY Wt := ⟨3, fun w => [.int .i64 w.g, .int .i64 w.cs, .int .i64 w.v], fun _ => rfl, fun w v hv => by
 simp only [List.mem_cons, List.not_mem_nil, or_false] at hv; obtain rfl | rfl | rfl := hv <;> rfl⟩
end Go.AF
