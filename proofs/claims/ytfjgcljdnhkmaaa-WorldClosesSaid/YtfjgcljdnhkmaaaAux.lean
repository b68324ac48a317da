/- A part of proofs about functions of one program: a condition over a partial memory that is enough for a call, and what calls answer by it. No condition of its own. -/
import Derived.Test.YtfjgcljdnhkmaaaArgs
import Derived.Test.YtfjgcljdnhkmaaaRow
import Derived.Test.YtfjgcljdnhkmaaaCx
/- Small things. -/
namespace Go.AF
theorem bsp_two {p q : Prop} [Decidable p] [Decidable q] {X Y : Prop} (hy : Y) (hx : p → q → X) : bsp (decide p) (bsp (decide q) X Y) Y := by
  by_cases hp : p
  · by_cases hq : q
    · simp only [hp, hq, decide_true]; exact u_bspT (u_bspT (hx hp hq))
    · simp only [hp, hq, decide_true, decide_false]; exact u_bspT (u_bspF hy)
  · simp only [hp, decide_false]; exact u_bspF hy
theorem argSl_row {M : Mem} {A : Option Addr} {n c : Nat} {ks : List IntKind} (h : ArgSl M A n c ks) : ∃ l, l.length = n ∧ n ≤ 9223372036854775807 ∧ (0 < n → RS (kE ks) M A c l) := by
  obtain ⟨l, rfl, hc, hl, hs, _⟩ := h
  exact ⟨l, rfl, Nat.le_trans hl (by decide), fun h0 => ⟨hs h0, hc⟩⟩
/-- From a contract that says what stays. -/
theorem Hp.chgd {R : Mem} {L : List HP} {M M' : Mem} (h : Hp R L M) (hc : Chg [] M M') : Hp R L M' := by
  obtain ⟨B, rfl, h1, hs⟩ := h
  have hle : (R.union B).le M' := hc.keep
  have hR : R.le M' := fun b o x => hle b o (Mem.union_left x)
  refine ⟨M'.sub R, (Mem.union_sub hR).symm, Mem.dj_sub R M', hs.mono fun b o x => ?_⟩
  unfold Mem.sub
  rcases h1 b with h | h
  · rw [h]; exact hle b o (by rw [Mem.union_comm h1]; exact Mem.union_left x)
  · rw [h] at x; cases x
theorem rm_set {α : Type} {f : Nat → α} {q m : Nat} {v : α} : ((List.range m).map f).set q v = (List.range m).map (fun j => if j = q then v else f j) := by
  apply List.ext_getElem
  · simp
  · intro j h1 h2
    simp only [List.getElem_set, List.getElem_map, List.getElem_range]
    by_cases hj : q = j
    · rw [if_pos hj, if_pos hj.symm]
    · rw [if_neg hj, if_neg (Ne.symm hj)]
theorem rm_at {α : Type} {f : Nat → α} {q m : Nat} (h : q < m) : ((List.range m).map f)[q]? = some (f q) := by simp [h]
theorem rm_rep {α : Type} {a : α} {m : Nat} : List.replicate m a = (List.range m).map (fun _ => a) := by
  induction m with
  | zero => rfl
  | succ m ih => rw [List.replicate_succ', ih, List.range_succ, List.map_append]; rfl
theorem rm_congr {α : Type} {f g : Nat → α} {m : Nat} (h : ∀ j, j < m → f j = g j) : (List.range m).map f = (List.range m).map g := List.map_congr_left fun j hj => h j (List.mem_range.1 hj)
theorem wn {z : Int} {n : Nat} (e : z = (n : Int)) (h : n < 9223372036854775808) : IntKind.wrap .i64 z = (n : Int) := by rw [e]; exact wrap_nat h
theorem Src.row {α : Type} {E : Enc α} {R : Mem} {L L' : List HP} {A : Option Addr} {T c : Nat} {l : List α} [hp : RowAt A L α E T c l L'] : Src R L A (E.cells l) := fun M h => h.src (A := A) M h
theorem Src.pre1 {R : Mem} {L : List HP} {A : Option Addr} {c : Nat} {l : List Int} (hs : Src R L A (intE.cells l)) (hc : l.length ≤ c) (q : Nat) : Src R L (slA A 0 c 1) (intE.cells (l.take q)) := by
  have := (hs.drop (m := 0) (c := c) hc).takeE q
  rw [List.drop_zero] at this
  exact this
theorem Src.suf1 {R : Mem} {L : List HP} {A : Option Addr} {c : Nat} {l : List Int} (hs : Src R L A (intE.cells l)) (hc : l.length ≤ c) (q : Nat) : Src R L (slA A q c 1) (intE.cells (l.drop q)) := hs.drop hc
theorem x_exI {o : Option Value} {k : IntKind} {n : Int} {G : Int → Prop} (e : o = some (.int k n)) (g : G n) : exI o k G := by subst e; exact u_exI g
end Go.AF
