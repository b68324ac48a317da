/- A part of proofs about one program. -/
import Derived.Test.YtfjgcljdnhkmaaaGreatZWorldDryRow
set_option linter.unusedVariables false
namespace Go.AF
structure Wt where
 g : Int
 cs : Int
 v : Int
 deriving DecidableEq
structure aQ where
 room : Nat
 buf : List Int
 snd : List Wt
 cH : List Wt
 closed : Bool
 deriving DecidableEq
def Wt.zero : Wt := ⟨0, 0, 0⟩
def Bu (n : Int) : Nat := (min (max n 0) 16).toNat
theorem SG (n : Int) : (if (16 : Int) < (if (0 : Int) > n then 0 else n) then 16 else (if (0 : Int) > n then 0 else n)) = ((Bu n : Nat) : Int) := by unfold Bu; omega
theorem SH (n : Int) : Bu n ≤ 16 := by unfold Bu; omega
def aQ.new (n : Int) : aQ := ⟨Bu n, [], [], [], false⟩
def aQ.send (c : aQ) (v : Int) : aQ × Wt × Bool × Int :=
 if c.closed then (c, .zero, false, 10) else
 match c.cH with
 | w :: r => ({ c with cH := r }, ⟨w.g, w.cs, v⟩, true, 0)
 | [] => if c.buf.length < c.room then ({ c with buf := c.buf ++ [v] }, .zero, false, 0) else (c, .zero, false, 6)
def aQ.all (c : aQ) : List Int := match c.snd with
 | w :: _ => c.buf ++ [w.v]
 | [] => c.buf
def aQ.recv (c : aQ) : aQ × Int × Bool × Wt × Bool × Int :=
 match c.all with
 | v :: l => ({ c with buf := l, snd := c.snd.tail }, v, true, c.snd.headD .zero, !c.snd.isEmpty, 0)
 | [] => (c, 0, false, .zero, false, if c.closed then 0 else 5)
def aQ.close (c : aQ) : aQ × List Wt × List Wt × Int :=
 if c.closed then (c, [], [], 10) else ({ c with snd := [], cH := [], closed := true }, c.cH, c.snd, 0)
def wo (g : Int) (l : List Wt) : List Wt := l.filter fun w => w.g != g
theorem yy (g : Int) (l m : List Wt) : wo g (l ++ m) = wo g l ++ wo g m := by simp [wo]
theorem Bv (g : Int) (l : List Wt) : (wo g l).length ≤ l.length := List.length_filter_le ..
def aQ.drop (c : aQ) (g : Int) : aQ := { c with snd := wo g c.snd, cH := wo g c.cH }
def aQ.tv (c : aQ) : Bool := c.closed || !c.cH.isEmpty || decide (c.buf.length < c.room)
def aQ.tw (c : aQ) : Bool := c.closed || !c.snd.isEmpty || !c.buf.isEmpty
def aQ.Small (N : Nat) (c : aQ) : Prop := c.buf.length ≤ N ∧ c.snd.length ≤ N ∧ c.cH.length ≤ N
theorem aQ.Small.mono {N N' : Nat} {c : aQ} (h : c.Small N) (hn : N ≤ N') : c.Small N' := ⟨Nat.le_trans h.1 hn, Nat.le_trans h.2.1 hn, Nat.le_trans h.2.2 hn⟩
theorem aQ.Small.send {N : Nat} {c : aQ} (h : c.Small N) (v : Int) : (c.send v).1.Small (N + 1) := by
 obtain ⟨room, buf, snd, cH, closed⟩ := c
 obtain ⟨h1, h2, h3⟩ := h
 unfold aQ.send aQ.Small
 dsimp only at h1 h2 h3 ⊢
 split
 ·exact ⟨by dsimp only; omega, by dsimp only; omega, by dsimp only; omega⟩
 ·split
  ·simp only [List.length_cons] at h3; exact ⟨by dsimp only; omega, by dsimp only; omega, by dsimp only; omega⟩
  ·split
   ·exact ⟨by simp; omega, by dsimp only; omega, by dsimp only; omega⟩
   ·exact ⟨by dsimp only; omega, by dsimp only; omega, by dsimp only; omega⟩
theorem aQ.Small.recv {N : Nat} {c : aQ} (h : c.Small N) : c.recv.1.Small (N + 1) := by
 obtain ⟨room, buf, snd, cH, closed⟩ := c
 obtain ⟨h1, h2, h3⟩ := h
 simp only [aQ.recv, aQ.all, aQ.Small] at *
 cases snd <;> cases buf <;> simp_all <;> omega
theorem aQ.Small.close {N : Nat} {c : aQ} (h : c.Small N) : c.close.1.Small N := by
 obtain ⟨room, buf, snd, cH, closed⟩ := c
 obtain ⟨h1, h2, h3⟩ := h
 simp only [aQ.close, aQ.Small] at *
 cases closed <;> simp_all
theorem aQ.Small.drop {N : Nat} {c : aQ} (h : c.Small N) (g : Int) : (c.drop g).Small N :=
 ⟨h.1, Nat.le_trans (Bv ..) h.2.1, Nat.le_trans (Bv ..) h.2.2⟩
theorem aQ.Small.ws {N : Nat} {c : aQ} (h : c.Small N) (w : Wt) : aQ.Small (N + 1) { c with snd := c.snd ++ [w] } := by obtain ⟨h1, h2, h3⟩ := h; simp only [aQ.Small, List.length_append, List.length_singleton]; omega
theorem aQ.Small.wr {N : Nat} {c : aQ} (h : c.Small N) (w : Wt) : aQ.Small (N + 1) { c with cH := c.cH ++ [w] } := by obtain ⟨h1, h2, h3⟩ := h; simp only [aQ.Small, List.length_append, List.length_singleton]; omega
instance (N : Nat) (c : aQ) : Decidable (c.Small N) := by unfold aQ.Small; infer_instance
def cC : jP Wt := ⟨3, fun w => [.int .i64 w.g, .int .i64 w.cs, .int .i64 w.v], fun _ => rfl, fun w v hv => by
 simp only [List.mem_cons, List.not_mem_nil, or_false] at hv; obtain rfl | rfl | rfl := hv <;> rfl⟩
end Go.AF
