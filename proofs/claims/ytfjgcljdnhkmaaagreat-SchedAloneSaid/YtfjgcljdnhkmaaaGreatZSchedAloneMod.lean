/- A part of proofs about one program. -/
import Derived.Test.YtfjgcljdnhkmaaaGreatZSchedAloneRow
set_option linter.unusedVariables false
namespace Go.AF
structure Wt where
 g : Int
 cs : Int
 v : Int
 deriving DecidableEq
structure aK where
 room : Nat
 buf : List Int
 snd : List Wt
 dI : List Wt
 closed : Bool
 deriving DecidableEq
def Wt.zero : Wt := ⟨0, 0, 0⟩
def AS (n : Int) : Nat := (min (max n 0) 16).toNat
theorem HW (n : Int) : (if (16 : Int) < (if (0 : Int) > n then 0 else n) then 16 else (if (0 : Int) > n then 0 else n)) = ((AS n : Nat) : Int) := by unfold AS; omega
theorem HX (n : Int) : AS n ≤ 16 := by unfold AS; omega
def aK.new (n : Int) : aK := ⟨AS n, [], [], [], false⟩
def aK.send (c : aK) (v : Int) : aK × Wt × Bool × Int :=
 if c.closed then (c, .zero, false, 10) else
 match c.dI with
 | w :: r => ({ c with dI := r }, ⟨w.g, w.cs, v⟩, true, 0)
 | [] => if c.buf.length < c.room then ({ c with buf := c.buf ++ [v] }, .zero, false, 0) else (c, .zero, false, 6)
def aK.all (c : aK) : List Int := match c.snd with
 | w :: _ => c.buf ++ [w.v]
 | [] => c.buf
def aK.recv (c : aK) : aK × Int × Bool × Wt × Bool × Int :=
 match c.all with
 | v :: l => ({ c with buf := l, snd := c.snd.tail }, v, true, c.snd.headD .zero, !c.snd.isEmpty, 0)
 | [] => (c, 0, false, .zero, false, if c.closed then 0 else 5)
def aK.close (c : aK) : aK × List Wt × List Wt × Int :=
 if c.closed then (c, [], [], 10) else ({ c with snd := [], dI := [], closed := true }, c.dI, c.snd, 0)
def wo (g : Int) (l : List Wt) : List Wt := l.filter fun w => w.g != g
theorem HY (g : Int) (l m : List Wt) : wo g (l ++ m) = wo g l ++ wo g m := by simp [wo]
theorem CL (g : Int) (l : List Wt) : (wo g l).length ≤ l.length := List.length_filter_le ..
def aK.drop (c : aK) (g : Int) : aK := { c with snd := wo g c.snd, dI := wo g c.dI }
def aK.qX (c : aK) : Bool := c.closed || !c.dI.isEmpty || decide (c.buf.length < c.room)
def aK.qY (c : aK) : Bool := c.closed || !c.snd.isEmpty || !c.buf.isEmpty
def aK.Small (N : Nat) (c : aK) : Prop := c.buf.length ≤ N ∧ c.snd.length ≤ N ∧ c.dI.length ≤ N
theorem aK.Small.mono {N N' : Nat} {c : aK} (h : c.Small N) (hn : N ≤ N') : c.Small N' := ⟨Nat.le_trans h.1 hn, Nat.le_trans h.2.1 hn, Nat.le_trans h.2.2 hn⟩
theorem aK.Small.send {N : Nat} {c : aK} (h : c.Small N) (v : Int) : (c.send v).1.Small (N + 1) := by
 obtain ⟨room, buf, snd, dI, closed⟩ := c
 obtain ⟨h1, h2, h3⟩ := h
 unfold aK.send aK.Small
 dsimp only at h1 h2 h3 ⊢
 split
 ·exact ⟨by dsimp only; omega, by dsimp only; omega, by dsimp only; omega⟩
 ·split
  ·simp only [List.length_cons] at h3; exact ⟨by dsimp only; omega, by dsimp only; omega, by dsimp only; omega⟩
  ·split
   ·exact ⟨by simp; omega, by dsimp only; omega, by dsimp only; omega⟩
   ·exact ⟨by dsimp only; omega, by dsimp only; omega, by dsimp only; omega⟩
theorem aK.Small.recv {N : Nat} {c : aK} (h : c.Small N) : c.recv.1.Small (N + 1) := by
 obtain ⟨room, buf, snd, dI, closed⟩ := c
 obtain ⟨h1, h2, h3⟩ := h
 simp only [aK.recv, aK.all, aK.Small] at *
 cases snd <;> cases buf <;> simp_all <;> omega
theorem aK.Small.close {N : Nat} {c : aK} (h : c.Small N) : c.close.1.Small N := by
 obtain ⟨room, buf, snd, dI, closed⟩ := c
 obtain ⟨h1, h2, h3⟩ := h
 simp only [aK.close, aK.Small] at *
 cases closed <;> simp_all
theorem aK.Small.drop {N : Nat} {c : aK} (h : c.Small N) (g : Int) : (c.drop g).Small N :=
 ⟨h.1, Nat.le_trans (CL ..) h.2.1, Nat.le_trans (CL ..) h.2.2⟩
theorem aK.Small.ws {N : Nat} {c : aK} (h : c.Small N) (w : Wt) : aK.Small (N + 1) { c with snd := c.snd ++ [w] } := by obtain ⟨h1, h2, h3⟩ := h; simp only [aK.Small, List.length_append, List.length_singleton]; omega
theorem aK.Small.wr {N : Nat} {c : aK} (h : c.Small N) (w : Wt) : aK.Small (N + 1) { c with dI := c.dI ++ [w] } := by obtain ⟨h1, h2, h3⟩ := h; simp only [aK.Small, List.length_append, List.length_singleton]; omega
instance (N : Nat) (c : aK) : Decidable (c.Small N) := by unfold aK.Small; infer_instance
def gT : jv Wt := ⟨3, fun w => [.int .i64 w.g, .int .i64 w.cs, .int .i64 w.v], fun _ => rfl, fun w v hv => by
 simp only [List.mem_cons, List.not_mem_nil, or_false] at hv; obtain rfl | rfl | rfl := hv <;> rfl⟩
end Go.AF
