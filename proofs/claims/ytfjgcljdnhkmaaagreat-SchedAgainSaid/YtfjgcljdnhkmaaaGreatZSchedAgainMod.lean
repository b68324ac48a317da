/- A part of proofs about one program. -/
import Derived.Test.YtfjgcljdnhkmaaaGreatZSchedAgainRow
set_option linter.unusedVariables false
namespace Go.AF
structure Wt where
 g : Int
 cs : Int
 v : Int
 deriving DecidableEq
structure aX where
 room : Nat
 buf : List Int
 snd : List Wt
 eI : List Wt
 closed : Bool
 deriving DecidableEq
def Wt.zero : Wt := ⟨0, 0, 0⟩
def y5 (n : Int) : Nat := (min (max n 0) 16).toNat
theorem Nq (n : Int) : (if (16 : Int) < (if (0 : Int) > n then 0 else n) then 16 else (if (0 : Int) > n then 0 else n)) = ((y5 n : Nat) : Int) := by unfold y5; omega
theorem Nr (n : Int) : y5 n ≤ 16 := by unfold y5; omega
def aX.new (n : Int) : aX := ⟨y5 n, [], [], [], false⟩
def aX.send (c : aX) (v : Int) : aX × Wt × Bool × Int :=
 if c.closed then (c, .zero, false, 10) else
 match c.eI with
 | w :: r => ({ c with eI := r }, ⟨w.g, w.cs, v⟩, true, 0)
 | [] => if c.buf.length < c.room then ({ c with buf := c.buf ++ [v] }, .zero, false, 0) else (c, .zero, false, 6)
def aX.all (c : aX) : List Int := match c.snd with
 | w :: _ => c.buf ++ [w.v]
 | [] => c.buf
def aX.recv (c : aX) : aX × Int × Bool × Wt × Bool × Int :=
 match c.all with
 | v :: l => ({ c with buf := l, snd := c.snd.tail }, v, true, c.snd.headD .zero, !c.snd.isEmpty, 0)
 | [] => (c, 0, false, .zero, false, if c.closed then 0 else 5)
def aX.close (c : aX) : aX × List Wt × List Wt × Int :=
 if c.closed then (c, [], [], 10) else ({ c with snd := [], eI := [], closed := true }, c.eI, c.snd, 0)
def wo (g : Int) (l : List Wt) : List Wt := l.filter fun w => w.g != g
theorem Ns (g : Int) (l m : List Wt) : wo g (l ++ m) = wo g l ++ wo g m := by simp [wo]
theorem GW (g : Int) (l : List Wt) : (wo g l).length ≤ l.length := List.length_filter_le ..
def aX.drop (c : aX) (g : Int) : aX := { c with snd := wo g c.snd, eI := wo g c.eI }
def aX.uo (c : aX) : Bool := c.closed || !c.eI.isEmpty || decide (c.buf.length < c.room)
def aX.uq (c : aX) : Bool := c.closed || !c.snd.isEmpty || !c.buf.isEmpty
def aX.Small (N : Nat) (c : aX) : Prop := c.buf.length ≤ N ∧ c.snd.length ≤ N ∧ c.eI.length ≤ N
theorem aX.Small.mono {N N' : Nat} {c : aX} (h : c.Small N) (hn : N ≤ N') : c.Small N' := ⟨Nat.le_trans h.1 hn, Nat.le_trans h.2.1 hn, Nat.le_trans h.2.2 hn⟩
theorem aX.Small.send {N : Nat} {c : aX} (h : c.Small N) (v : Int) : (c.send v).1.Small (N + 1) := by
 obtain ⟨room, buf, snd, eI, closed⟩ := c
 obtain ⟨h1, h2, h3⟩ := h
 unfold aX.send aX.Small
 dsimp only at h1 h2 h3 ⊢
 split
 ·exact ⟨by dsimp only; omega, by dsimp only; omega, by dsimp only; omega⟩
 ·split
  ·simp only [List.length_cons] at h3; exact ⟨by dsimp only; omega, by dsimp only; omega, by dsimp only; omega⟩
  ·split
   ·exact ⟨by simp; omega, by dsimp only; omega, by dsimp only; omega⟩
   ·exact ⟨by dsimp only; omega, by dsimp only; omega, by dsimp only; omega⟩
theorem aX.Small.recv {N : Nat} {c : aX} (h : c.Small N) : c.recv.1.Small (N + 1) := by
 obtain ⟨room, buf, snd, eI, closed⟩ := c
 obtain ⟨h1, h2, h3⟩ := h
 simp only [aX.recv, aX.all, aX.Small] at *
 cases snd <;> cases buf <;> simp_all <;> omega
theorem aX.Small.close {N : Nat} {c : aX} (h : c.Small N) : c.close.1.Small N := by
 obtain ⟨room, buf, snd, eI, closed⟩ := c
 obtain ⟨h1, h2, h3⟩ := h
 simp only [aX.close, aX.Small] at *
 cases closed <;> simp_all
theorem aX.Small.drop {N : Nat} {c : aX} (h : c.Small N) (g : Int) : (c.drop g).Small N :=
 ⟨h.1, Nat.le_trans (GW ..) h.2.1, Nat.le_trans (GW ..) h.2.2⟩
theorem aX.Small.ws {N : Nat} {c : aX} (h : c.Small N) (w : Wt) : aX.Small (N + 1) { c with snd := c.snd ++ [w] } := by obtain ⟨h1, h2, h3⟩ := h; simp only [aX.Small, List.length_append, List.length_singleton]; omega
theorem aX.Small.wr {N : Nat} {c : aX} (h : c.Small N) (w : Wt) : aX.Small (N + 1) { c with eI := c.eI ++ [w] } := by obtain ⟨h1, h2, h3⟩ := h; simp only [aX.Small, List.length_append, List.length_singleton]; omega
instance (N : Nat) (c : aX) : Decidable (c.Small N) := by unfold aX.Small; infer_instance
def gQ : gp Wt := ⟨3, fun w => [.int .i64 w.g, .int .i64 w.cs, .int .i64 w.v], fun _ => rfl, fun w v hv => by
 simp only [List.mem_cons, List.not_mem_nil, or_false] at hv; obtain rfl | rfl | rfl := hv <;> rfl⟩
end Go.AF
