/- A part of proofs about one program. -/
import Derived.Test.YtnnlgknlialpmaaGreatZFairBoundRow
set_option linter.unusedVariables false
namespace Go.AF
structure Wt where
 g : Int
 cs : Int
 v : Int
 deriving DecidableEq
structure aT where
 room : Nat
 buf : List Int
 snd : List Wt
 eC : List Wt
 closed : Bool
 deriving DecidableEq
def Wt.zero : Wt := ⟨0, 0, 0⟩
def Eu (n : Int) : Nat := (min (max n 0) 16).toNat
theorem MF (n : Int) : (if (16 : Int) < (if (0 : Int) > n then 0 else n) then 16 else (if (0 : Int) > n then 0 else n)) = ((Eu n : Nat) : Int) := by unfold Eu; omega
theorem MG (n : Int) : Eu n ≤ 16 := by unfold Eu; omega
def aT.new (n : Int) : aT := ⟨Eu n, [], [], [], false⟩
def aT.send (c : aT) (v : Int) : aT × Wt × Bool × Int :=
 if c.closed then (c, .zero, false, 10) else
 match c.eC with
 | w :: r => ({ c with eC := r }, ⟨w.g, w.cs, v⟩, true, 0)
 | [] => if c.buf.length < c.room then ({ c with buf := c.buf ++ [v] }, .zero, false, 0) else (c, .zero, false, 6)
def aT.all (c : aT) : List Int := match c.snd with
 | w :: _ => c.buf ++ [w.v]
 | [] => c.buf
def aT.recv (c : aT) : aT × Int × Bool × Wt × Bool × Int :=
 match c.all with
 | v :: l => ({ c with buf := l, snd := c.snd.tail }, v, true, c.snd.headD .zero, !c.snd.isEmpty, 0)
 | [] => (c, 0, false, .zero, false, if c.closed then 0 else 5)
def aT.close (c : aT) : aT × List Wt × List Wt × Int :=
 if c.closed then (c, [], [], 10) else ({ c with snd := [], eC := [], closed := true }, c.eC, c.snd, 0)
def wo (g : Int) (l : List Wt) : List Wt := l.filter fun w => w.g != g
theorem MH (g : Int) (l m : List Wt) : wo g (l ++ m) = wo g l ++ wo g m := by simp [wo]
theorem Gs (g : Int) (l : List Wt) : (wo g l).length ≤ l.length := List.length_filter_le ..
def aT.drop (c : aT) (g : Int) : aT := { c with snd := wo g c.snd, eC := wo g c.eC }
def aT.ug (c : aT) : Bool := c.closed || !c.eC.isEmpty || decide (c.buf.length < c.room)
def aT.uh (c : aT) : Bool := c.closed || !c.snd.isEmpty || !c.buf.isEmpty
def aT.Small (N : Nat) (c : aT) : Prop := c.buf.length ≤ N ∧ c.snd.length ≤ N ∧ c.eC.length ≤ N
theorem aT.Small.mono {N N' : Nat} {c : aT} (h : c.Small N) (hn : N ≤ N') : c.Small N' := ⟨Nat.le_trans h.1 hn, Nat.le_trans h.2.1 hn, Nat.le_trans h.2.2 hn⟩
theorem aT.Small.send {N : Nat} {c : aT} (h : c.Small N) (v : Int) : (c.send v).1.Small (N + 1) := by
 obtain ⟨room, buf, snd, eC, closed⟩ := c
 obtain ⟨h1, h2, h3⟩ := h
 unfold aT.send aT.Small
 dsimp only at h1 h2 h3 ⊢
 split
 ·exact ⟨by dsimp only; omega, by dsimp only; omega, by dsimp only; omega⟩
 ·split
  ·simp only [List.length_cons] at h3; exact ⟨by dsimp only; omega, by dsimp only; omega, by dsimp only; omega⟩
  ·split
   ·exact ⟨by simp; omega, by dsimp only; omega, by dsimp only; omega⟩
   ·exact ⟨by dsimp only; omega, by dsimp only; omega, by dsimp only; omega⟩
theorem aT.Small.recv {N : Nat} {c : aT} (h : c.Small N) : c.recv.1.Small (N + 1) := by
 obtain ⟨room, buf, snd, eC, closed⟩ := c
 obtain ⟨h1, h2, h3⟩ := h
 simp only [aT.recv, aT.all, aT.Small] at *
 cases snd <;> cases buf <;> simp_all <;> omega
theorem aT.Small.close {N : Nat} {c : aT} (h : c.Small N) : c.close.1.Small N := by
 obtain ⟨room, buf, snd, eC, closed⟩ := c
 obtain ⟨h1, h2, h3⟩ := h
 simp only [aT.close, aT.Small] at *
 cases closed <;> simp_all
theorem aT.Small.drop {N : Nat} {c : aT} (h : c.Small N) (g : Int) : (c.drop g).Small N :=
 ⟨h.1, Nat.le_trans (Gs ..) h.2.1, Nat.le_trans (Gs ..) h.2.2⟩
theorem aT.Small.ws {N : Nat} {c : aT} (h : c.Small N) (w : Wt) : aT.Small (N + 1) { c with snd := c.snd ++ [w] } := by obtain ⟨h1, h2, h3⟩ := h; simp only [aT.Small, List.length_append, List.length_singleton]; omega
theorem aT.Small.wr {N : Nat} {c : aT} (h : c.Small N) (w : Wt) : aT.Small (N + 1) { c with eC := c.eC ++ [w] } := by obtain ⟨h1, h2, h3⟩ := h; simp only [aT.Small, List.length_append, List.length_singleton]; omega
instance (N : Nat) (c : aT) : Decidable (c.Small N) := by unfold aT.Small; infer_instance
def jb : iY Wt := ⟨3, fun w => [.int .i64 w.g, .int .i64 w.cs, .int .i64 w.v], fun _ => rfl, fun w v hv => by
 simp only [List.mem_cons, List.not_mem_nil, or_false] at hv; obtain rfl | rfl | rfl := hv <;> rfl⟩
end Go.AF
