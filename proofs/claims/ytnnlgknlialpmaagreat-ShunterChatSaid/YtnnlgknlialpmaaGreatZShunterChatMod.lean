/- A part of proofs about one program. -/
import Derived.Test.YtnnlgknlialpmaaGreatZShunterChatRow
set_option linter.unusedVariables false
namespace Go.AF
structure Wt where
 g : Int
 cs : Int
 v : Int
 deriving DecidableEq
structure aP where
 room : Nat
 buf : List Int
 snd : List Wt
 dU : List Wt
 closed : Bool
 deriving DecidableEq
def Wt.zero : Wt := ⟨0, 0, 0⟩
def DA (n : Int) : Nat := (min (max n 0) 16).toNat
theorem LB (n : Int) : (if (16 : Int) < (if (0 : Int) > n then 0 else n) then 16 else (if (0 : Int) > n then 0 else n)) = ((DA n : Nat) : Int) := by unfold DA; omega
theorem LC (n : Int) : DA n ≤ 16 := by unfold DA; omega
def aP.new (n : Int) : aP := ⟨DA n, [], [], [], false⟩
def aP.send (c : aP) (v : Int) : aP × Wt × Bool × Int :=
 if c.closed then (c, .zero, false, 10) else
 match c.dU with
 | w :: r => ({ c with dU := r }, ⟨w.g, w.cs, v⟩, true, 0)
 | [] => if c.buf.length < c.room then ({ c with buf := c.buf ++ [v] }, .zero, false, 0) else (c, .zero, false, 6)
def aP.all (c : aP) : List Int := match c.snd with
 | w :: _ => c.buf ++ [w.v]
 | [] => c.buf
def aP.recv (c : aP) : aP × Int × Bool × Wt × Bool × Int :=
 match c.all with
 | v :: l => ({ c with buf := l, snd := c.snd.tail }, v, true, c.snd.headD .zero, !c.snd.isEmpty, 0)
 | [] => (c, 0, false, .zero, false, if c.closed then 0 else 5)
def aP.close (c : aP) : aP × List Wt × List Wt × Int :=
 if c.closed then (c, [], [], 10) else ({ c with snd := [], dU := [], closed := true }, c.dU, c.snd, 0)
def wo (g : Int) (l : List Wt) : List Wt := l.filter fun w => w.g != g
theorem LD (g : Int) (l m : List Wt) : wo g (l ++ m) = wo g l ++ wo g m := by simp [wo]
theorem Fx (g : Int) (l : List Wt) : (wo g l).length ≤ l.length := List.length_filter_le ..
def aP.drop (c : aP) (g : Int) : aP := { c with snd := wo g c.snd, dU := wo g c.dU }
def aP.sV (c : aP) : Bool := c.closed || !c.dU.isEmpty || decide (c.buf.length < c.room)
def aP.sW (c : aP) : Bool := c.closed || !c.snd.isEmpty || !c.buf.isEmpty
def aP.Small (N : Nat) (c : aP) : Prop := c.buf.length ≤ N ∧ c.snd.length ≤ N ∧ c.dU.length ≤ N
theorem aP.Small.mono {N N' : Nat} {c : aP} (h : c.Small N) (hn : N ≤ N') : c.Small N' := ⟨Nat.le_trans h.1 hn, Nat.le_trans h.2.1 hn, Nat.le_trans h.2.2 hn⟩
theorem aP.Small.send {N : Nat} {c : aP} (h : c.Small N) (v : Int) : (c.send v).1.Small (N + 1) := by
 obtain ⟨room, buf, snd, dU, closed⟩ := c
 obtain ⟨h1, h2, h3⟩ := h
 unfold aP.send aP.Small
 dsimp only at h1 h2 h3 ⊢
 split
 ·exact ⟨by dsimp only; omega, by dsimp only; omega, by dsimp only; omega⟩
 ·split
  ·simp only [List.length_cons] at h3; exact ⟨by dsimp only; omega, by dsimp only; omega, by dsimp only; omega⟩
  ·split
   ·exact ⟨by simp; omega, by dsimp only; omega, by dsimp only; omega⟩
   ·exact ⟨by dsimp only; omega, by dsimp only; omega, by dsimp only; omega⟩
theorem aP.Small.recv {N : Nat} {c : aP} (h : c.Small N) : c.recv.1.Small (N + 1) := by
 obtain ⟨room, buf, snd, dU, closed⟩ := c
 obtain ⟨h1, h2, h3⟩ := h
 simp only [aP.recv, aP.all, aP.Small] at *
 cases snd <;> cases buf <;> simp_all <;> omega
theorem aP.Small.close {N : Nat} {c : aP} (h : c.Small N) : c.close.1.Small N := by
 obtain ⟨room, buf, snd, dU, closed⟩ := c
 obtain ⟨h1, h2, h3⟩ := h
 simp only [aP.close, aP.Small] at *
 cases closed <;> simp_all
theorem aP.Small.drop {N : Nat} {c : aP} (h : c.Small N) (g : Int) : (c.drop g).Small N :=
 ⟨h.1, Nat.le_trans (Fx ..) h.2.1, Nat.le_trans (Fx ..) h.2.2⟩
theorem aP.Small.ws {N : Nat} {c : aP} (h : c.Small N) (w : Wt) : aP.Small (N + 1) { c with snd := c.snd ++ [w] } := by obtain ⟨h1, h2, h3⟩ := h; simp only [aP.Small, List.length_append, List.length_singleton]; omega
theorem aP.Small.wr {N : Nat} {c : aP} (h : c.Small N) (w : Wt) : aP.Small (N + 1) { c with dU := c.dU ++ [w] } := by obtain ⟨h1, h2, h3⟩ := h; simp only [aP.Small, List.length_append, List.length_singleton]; omega
instance (N : Nat) (c : aP) : Decidable (c.Small N) := by unfold aP.Small; infer_instance
def iC : gW Wt := ⟨3, fun w => [.int .i64 w.g, .int .i64 w.cs, .int .i64 w.v], fun _ => rfl, fun w v hv => by
 simp only [List.mem_cons, List.not_mem_nil, or_false] at hv; obtain rfl | rfl | rfl := hv <;> rfl⟩
end Go.AF
