/- A part of proofs about functions of one program: a condition over a partial memory that is enough for a call, and what calls answer by it. No condition of its own. -/
import Derived.Test.YtfjgcljdnhkmaaaWAwk
/- Who waits at a channel that is closed: as values. -/
namespace Go.Proofs
open Go.AF
set_option linter.unusedVariables false
set_option maxRecDepth 100000
set_option maxHeartbeats 1000000
attribute [local irreducible] exI exB exS exP exSl exV nilc stc nwc semK semU bsp
/-- The worlds of a run. -/
def Wk (p : Prg) (tr : List Int) (k : Nat) : Option Wd := (tr.take k).foldl (fun o g => o.bind fun w => (exec p w g).map (·.1)) (some (Wd.new p))
def pMain (n : Nat) (s : Bool) : List Ins := List.replicate n ⟨11, 1, 0, 1⟩ ++ (if s then [⟨11, 2, 0, 1⟩] else []) ++ [⟨15, 0, 0, 0⟩, ⟨15, 1, 0, 0⟩]
def pC (n : Nat) (s : Bool) : Prg := ⟨[pMain n s, [⟨1, 1, 7, 0⟩, ⟨1, 2, 7, 0⟩, ⟨14, 0, 1, 2⟩], [⟨13, 1, 0, 0⟩]], [0, 0], 0, []⟩
def nS (n : Nat) (s : Bool) : Nat := n + (if s then 1 else 0)
def trC (n : Nat) (s : Bool) : List Int := List.replicate (nS n s) 0 ++ ((List.range (nS n s)).flatMap fun (g : Nat) => [(g : Int) + 1, (g : Int) + 1, (g : Int) + 1]) ++ [0, 0]
/-- All that the law asks of the run. -/
def chkC (n : Nat) (s : Bool) : Bool :=
  let m := nS n s
  (match Wk (pC n s) (trC n s) m with
    | some w => w.gs.length == m + 1
    | none => false) &&
  (match Wk (pC n s) (trC n s) (4 * m) with
    | some w => w.gs.length == m + 1
    | none => false) &&
  (match Wk (pC n s) (trC n s) (4 * m + 1) with
    | some w => w.ready == (List.range n).map (fun i : Nat => (i : Int) + 1) &&
        (List.range n).all fun i : Nat => decide (gorOk w ((i : Int) + 1)) && (gorAt w ((i : Int) + 1)).top.reg 1 == 0 && (gorAt w ((i : Int) + 1)).top.reg 2 == 0 && (gorAt w ((i : Int) + 1)).st == 1
    | none => false) &&
  (match Wk (pC n s) (trC n s) (4 * m + 2) with
    | some w => decide (chOk w 0) && decide (chOk w 1) && decide ((chAt w.chans 0).Small 1000) && decide ((chAt w.chans 1).Small 1000) && (chAt w.chans 0).closed && (chAt w.chans 1).closed &&
        (if s then w.end_ == 2 && w.code == -1 && (chAt w.chans 1).snd.isEmpty else w.end_ == 0)
    | none => false)
theorem chkC_all : ((List.range 20).all fun m => chkC (m + 1) true && chkC (m + 1) false) = true := by kernel_rfl
theorem chkC_at {n : Nat} (h1 : 1 ≤ n) (h2 : n ≤ 20) (s : Bool) : chkC n s = true := by
  have := List.all_eq_true.1 chkC_all (n - 1) (List.mem_range.2 (by omega))
  rw [show n - 1 + 1 = n from by omega, Bool.and_eq_true] at this
  cases s
  · exact this.2
  · exact this.1
theorem Wk_succ {p : Prg} {tr : List Int} {k : Nat} {g : Int} (hg : tr[k]? = some g) : Wk p tr (k + 1) = (Wk p tr k).bind fun w => (exec p w g).map (·.1) := by
  unfold Wk
  rw [take_snoc hg, List.foldl_append]; rfl
theorem Wk_prev {p : Prg} {tr : List Int} {k : Nat} {g : Int} {y : Wd} (hg : tr[k]? = some g) (h : Wk p tr (k + 1) = some y) : ∃ w kp, Wk p tr k = some w ∧ exec p w g = some (y, kp) := by
  rw [Wk_succ hg] at h
  cases hw : Wk p tr k with
  | none => rw [hw] at h; cases h
  | some w =>
    rw [hw] at h
    simp only [Option.bind_some] at h
    cases he : exec p w g with
    | none => rw [he] at h; cases h
    | some z => rw [he] at h; cases h; exact ⟨w, z.2, rfl, he⟩
theorem Wk_some {p : Prg} {tr : List Int} : ∀ (d k : Nat), k + d ≤ tr.length → (Wk p tr (k + d)).isSome = true → (Wk p tr k).isSome = true
  | 0, k, _, h => h
  | d + 1, k, hl, h => by
    obtain ⟨g, hg⟩ := idx_ex (l := tr) (i := k + d) (by omega)
    obtain ⟨y, hy⟩ := Option.isSome_iff_exists.1 h
    obtain ⟨w, kp, hw, _⟩ := Wk_prev hg hy
    exact Wk_some d k (by omega) (by rw [hw]; rfl)
/-- The run's next step. -/
theorem Wk_step {p : Prg} {tr : List Int} {T k : Nat} {g : Int} {w : Wd} (hT : (Wk p tr T).isSome = true) (hl : T ≤ tr.length) (hk : k < T) (hg : tr[k]? = some g) (hw : Wk p tr k = some w) : ∃ y kp, exec p w g = some (y, kp) ∧ Wk p tr (k + 1) = some y := by
  have h := Wk_some (p := p) (tr := tr) (T - (k + 1)) (k + 1) (by omega) (by rw [show k + 1 + (T - (k + 1)) = T from by omega]; exact hT)
  obtain ⟨y, hy⟩ := Option.isSome_iff_exists.1 h
  obtain ⟨w', kp, h1, h2⟩ := Wk_prev hg hy
  rw [hw] at h1; cases h1
  exact ⟨y, kp, h2, hy⟩
/-- How many goroutines there are stays. -/
theorem trC_len (n : Nat) (s : Bool) : (trC n s).length = 4 * nS n s + 2 := by
  unfold trC
  simp only [List.length_append, List.length_replicate, List.length_flatMap, List.length_cons, List.length_nil]
  have : ∀ m : Nat, (List.map (fun _ : Nat => 0 + 1 + 1 + 1) (List.range m)).sum = 3 * m := by
    intro m; induction m with
    | zero => rfl
    | succ m ih => rw [List.range_succ, List.map_append, List.sum_append, ih]; simp; omega
  rw [this]; omega
end Go.Proofs
