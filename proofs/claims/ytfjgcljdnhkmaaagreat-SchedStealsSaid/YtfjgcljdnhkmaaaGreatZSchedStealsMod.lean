/- A part of proofs about functions of one program: a condition over a partial memory that is enough for a call, and what calls answer by it. No condition of its own. -/
import Derived.Test.YtfjgcljdnhkmaaaGreatZSchedStealsRow
set_option linter.unusedVariables false
namespace Go.AF

/-! ### channels -/
/-- Who waits, with which case, with which number. -/
structure Wt where
  g : Int
  cs : Int
  v : Int
  deriving DecidableEq
structure Chan where
  room : Nat
  buf : List Int
  snd : List Wt
  rcv : List Wt
  closed : Bool
  deriving DecidableEq
def Wt.zero : Wt := ⟨0, 0, 0⟩
def capOf (n : Int) : Nat := (min (max n 0) 16).toNat
theorem capOf_eq (n : Int) : (if (16 : Int) < (if (0 : Int) > n then 0 else n) then 16 else (if (0 : Int) > n then 0 else n)) = ((capOf n : Nat) : Int) := by unfold capOf; omega
def Chan.new (n : Int) : Chan := ⟨capOf n, [], [], [], false⟩
/-- A number goes in: the channel, who received it, did somebody, the error's number. -/
def Chan.send (c : Chan) (v : Int) : Chan × Wt × Bool × Int :=
  if c.closed then (c, .zero, false, 10) else
  match c.rcv with
  | w :: r => ({ c with rcv := r }, ⟨w.g, w.cs, v⟩, true, 0)
  | [] => if c.buf.length < c.room then ({ c with buf := c.buf ++ [v] }, .zero, false, 0) else (c, .zero, false, 6)
def Chan.all (c : Chan) : List Int := match c.snd with
  | w :: _ => c.buf ++ [w.v]
  | [] => c.buf
/-- A number comes out: the channel, the number, is there one, who sent, did somebody, the error's number. -/
def Chan.recv (c : Chan) : Chan × Int × Bool × Wt × Bool × Int :=
  match c.all with
  | v :: l => ({ c with buf := l, snd := c.snd.tail }, v, true, c.snd.headD .zero, !c.snd.isEmpty, 0)
  | [] => (c, 0, false, .zero, false, if c.closed then 0 else 5)
def Chan.close (c : Chan) : Chan × List Wt × List Wt × Int :=
  if c.closed then (c, [], [], 10) else ({ c with snd := [], rcv := [], closed := true }, c.rcv, c.snd, 0)
def wo (g : Int) (l : List Wt) : List Wt := l.filter fun w => w.g != g
theorem wo_app (g : Int) (l m : List Wt) : wo g (l ++ m) = wo g l ++ wo g m := by simp [wo]
theorem wo_len (g : Int) (l : List Wt) : (wo g l).length ≤ l.length := List.length_filter_le ..
def Chan.drop (c : Chan) (g : Int) : Chan := { c with snd := wo g c.snd, rcv := wo g c.rcv }
def Chan.canSend (c : Chan) : Bool := c.closed || !c.rcv.isEmpty || decide (c.buf.length < c.room)
def Chan.canRecv (c : Chan) : Bool := c.closed || !c.snd.isEmpty || !c.buf.isEmpty
/-- No row is long. -/
def Chan.Small (N : Nat) (c : Chan) : Prop := c.buf.length ≤ N ∧ c.snd.length ≤ N ∧ c.rcv.length ≤ N

theorem Chan.Small.mono {N N' : Nat} {c : Chan} (h : c.Small N) (hn : N ≤ N') : c.Small N' := ⟨Nat.le_trans h.1 hn, Nat.le_trans h.2.1 hn, Nat.le_trans h.2.2 hn⟩
theorem Chan.Small.send {N : Nat} {c : Chan} (h : c.Small N) (v : Int) : (c.send v).1.Small (N + 1) := by
  obtain ⟨room, buf, snd, rcv, closed⟩ := c
  obtain ⟨h1, h2, h3⟩ := h
  unfold Chan.send Chan.Small
  dsimp only at h1 h2 h3 ⊢
  split
  · exact ⟨by dsimp only; omega, by dsimp only; omega, by dsimp only; omega⟩
  · split
    · simp only [List.length_cons] at h3; exact ⟨by dsimp only; omega, by dsimp only; omega, by dsimp only; omega⟩
    · split
      · exact ⟨by simp; omega, by dsimp only; omega, by dsimp only; omega⟩
      · exact ⟨by dsimp only; omega, by dsimp only; omega, by dsimp only; omega⟩
theorem Chan.Small.recv {N : Nat} {c : Chan} (h : c.Small N) : c.recv.1.Small (N + 1) := by
  obtain ⟨room, buf, snd, rcv, closed⟩ := c
  obtain ⟨h1, h2, h3⟩ := h
  simp only [Chan.recv, Chan.all, Chan.Small] at *
  cases snd <;> cases buf <;> simp_all <;> omega
theorem Chan.Small.close {N : Nat} {c : Chan} (h : c.Small N) : c.close.1.Small N := by
  obtain ⟨room, buf, snd, rcv, closed⟩ := c
  obtain ⟨h1, h2, h3⟩ := h
  simp only [Chan.close, Chan.Small] at *
  cases closed <;> simp_all
theorem Chan.Small.drop {N : Nat} {c : Chan} (h : c.Small N) (g : Int) : (c.drop g).Small N :=
  ⟨h.1, Nat.le_trans (wo_len ..) h.2.1, Nat.le_trans (wo_len ..) h.2.2⟩
theorem Chan.Small.ws {N : Nat} {c : Chan} (h : c.Small N) (w : Wt) : Chan.Small (N + 1) { c with snd := c.snd ++ [w] } := by obtain ⟨h1, h2, h3⟩ := h; simp only [Chan.Small, List.length_append, List.length_singleton]; omega
theorem Chan.Small.wr {N : Nat} {c : Chan} (h : c.Small N) (w : Wt) : Chan.Small (N + 1) { c with rcv := c.rcv ++ [w] } := by obtain ⟨h1, h2, h3⟩ := h; simp only [Chan.Small, List.length_append, List.length_singleton]; omega
instance (N : Nat) (c : Chan) : Decidable (c.Small N) := by unfold Chan.Small; infer_instance
def waitE : Enc Wt := ⟨3, fun w => [.int .i64 w.g, .int .i64 w.cs, .int .i64 w.v], fun _ => rfl, fun w v hv => by
  simp only [List.mem_cons, List.not_mem_nil, or_false] at hv; obtain rfl | rfl | rfl := hv <;> rfl⟩
end Go.AF
