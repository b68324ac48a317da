/- A part of proofs about one program. -/
import Derived.Test.YtnnlgknlialpmaaGreatZReplayToldRow
set_option linter.unusedVariables false
namespace Go.AF
structure Wt where
 g : Int
 cs : Int
 v : Int
 deriving DecidableEq
structure aZ where
 room : Nat
 buf : List Int
 snd : List Wt
 jd : List Wt
 closed : Bool
 deriving DecidableEq
def Wt.zero : Wt := ⟨0, 0, 0⟩
def G8 (n : Int) : Nat := (min (max n 0) 16).toNat
theorem G9 (n : Int) : (if (16 : Int) < (if (0 : Int) > n then 0 else n) then 16 else (if (0 : Int) > n then 0 else n)) = ((G8 n : Nat) : Int) := by unfold G8; omega
def aZ.new (n : Int) : aZ := ⟨G8 n, [], [], [], false⟩
def aZ.send (c : aZ) (v : Int) : aZ × Wt × Bool × Int :=
 if c.closed then (c, .zero, false, 10) else
 match c.jd with
 | w :: r => ({ c with jd := r }, ⟨w.g, w.cs, v⟩, true, 0)
 | [] => if c.buf.length < c.room then ({ c with buf := c.buf ++ [v] }, .zero, false, 0) else (c, .zero, false, 6)
def aZ.all (c : aZ) : List Int := match c.snd with
 | w :: _ => c.buf ++ [w.v]
 | [] => c.buf
def aZ.recv (c : aZ) : aZ × Int × Bool × Wt × Bool × Int :=
 match c.all with
 | v :: l => ({ c with buf := l, snd := c.snd.tail }, v, true, c.snd.headD .zero, !c.snd.isEmpty, 0)
 | [] => (c, 0, false, .zero, false, if c.closed then 0 else 5)
def aZ.close (c : aZ) : aZ × List Wt × List Wt × Int :=
 if c.closed then (c, [], [], 10) else ({ c with snd := [], jd := [], closed := true }, c.jd, c.snd, 0)
def wo (g : Int) (l : List Wt) : List Wt := l.filter fun w => w.g != g
theorem He (g : Int) (l m : List Wt) : wo g (l ++ m) = wo g l ++ wo g m := by simp [wo]
theorem Cw (g : Int) (l : List Wt) : (wo g l).length ≤ l.length := List.length_filter_le ..
def aZ.drop (c : aZ) (g : Int) : aZ := { c with snd := wo g c.snd, jd := wo g c.jd }
def aZ.pX (c : aZ) : Bool := c.closed || !c.jd.isEmpty || decide (c.buf.length < c.room)
def aZ.pY (c : aZ) : Bool := c.closed || !c.snd.isEmpty || !c.buf.isEmpty
def aZ.Small (N : Nat) (c : aZ) : Prop := c.buf.length ≤ N ∧ c.snd.length ≤ N ∧ c.jd.length ≤ N
theorem aZ.Small.mono {N N' : Nat} {c : aZ} (h : c.Small N) (hn : N ≤ N') : c.Small N' := ⟨Nat.le_trans h.1 hn, Nat.le_trans h.2.1 hn, Nat.le_trans h.2.2 hn⟩
theorem aZ.Small.send {N : Nat} {c : aZ} (h : c.Small N) (v : Int) : (c.send v).1.Small (N + 1) := by
 obtain ⟨room, buf, snd, jd, closed⟩ := c
 obtain ⟨h1, h2, h3⟩ := h
 unfold aZ.send aZ.Small
 dsimp only at h1 h2 h3 ⊢
 split
 ·exact ⟨by dsimp only; omega, by dsimp only; omega, by dsimp only; omega⟩
 ·split
  ·simp only [List.length_cons] at h3; exact ⟨by dsimp only; omega, by dsimp only; omega, by dsimp only; omega⟩
  ·split
   ·exact ⟨by simp; omega, by dsimp only; omega, by dsimp only; omega⟩
   ·exact ⟨by dsimp only; omega, by dsimp only; omega, by dsimp only; omega⟩
theorem aZ.Small.recv {N : Nat} {c : aZ} (h : c.Small N) : c.recv.1.Small (N + 1) := by
 obtain ⟨room, buf, snd, jd, closed⟩ := c
 obtain ⟨h1, h2, h3⟩ := h
 simp only [aZ.recv, aZ.all, aZ.Small] at *
 cases snd <;> cases buf <;> simp_all <;> omega
theorem aZ.Small.close {N : Nat} {c : aZ} (h : c.Small N) : c.close.1.Small N := by
 obtain ⟨room, buf, snd, jd, closed⟩ := c
 obtain ⟨h1, h2, h3⟩ := h
 simp only [aZ.close, aZ.Small] at *
 cases closed <;> simp_all
theorem aZ.Small.drop {N : Nat} {c : aZ} (h : c.Small N) (g : Int) : (c.drop g).Small N :=
 ⟨h.1, Nat.le_trans (Cw ..) h.2.1, Nat.le_trans (Cw ..) h.2.2⟩
theorem aZ.Small.ws {N : Nat} {c : aZ} (h : c.Small N) (w : Wt) : aZ.Small (N + 1) { c with snd := c.snd ++ [w] } := by obtain ⟨h1, h2, h3⟩ := h; simp only [aZ.Small, List.length_append, List.length_singleton]; omega
theorem aZ.Small.wr {N : Nat} {c : aZ} (h : c.Small N) (w : Wt) : aZ.Small (N + 1) { c with jd := c.jd ++ [w] } := by obtain ⟨h1, h2, h3⟩ := h; simp only [aZ.Small, List.length_append, List.length_singleton]; omega
instance (N : Nat) (c : aZ) : Decidable (c.Small N) := by unfold aZ.Small; infer_instance
def gq : gi Wt := ⟨3, fun w => [.int .i64 w.g, .int .i64 w.cs, .int .i64 w.v], fun _ => rfl, fun w v hv => by
 simp only [List.mem_cons, List.not_mem_nil, or_false] at hv; obtain rfl | rfl | rfl := hv <;> rfl⟩
end Go.AF
