/- A part of proofs about functions of one program: a condition over a partial memory that is enough for a call, and what calls answer by it. No condition of its own. -/
import Derived.Test.YtfjgcljdnhkmaaaGreatZSchedStealsRow
import Derived.Test.YtfjgcljdnhkmaaaGreatZSchedStealsOpen
set_option linter.unusedVariables false
namespace Go.AF
def kE (ks : List IntKind) : Enc (Nat → Int) := ⟨ks.length, fun g => (List.range ks.length).map fun j => .int (ks.getD j .i64) (g j), fun _ => by simp, fun g v hv => by
  obtain ⟨j, _, rfl⟩ := List.mem_map.1 hv; rfl⟩
theorem kE_at {ks : List IntKind} {g : Nat → Int} {j : Nat} {k : IntKind} (h : ks[j]? = some k) : ((kE ks).f g)[j]? = some (.int k (g j)) := by
  have hj := (List.getElem?_eq_some_iff.1 h).1
  show ((List.range ks.length).map _)[j]? = _
  rw [List.getElem?_map, List.getElem?_range hj]
  simp [List.getD, h]
/-- A row of an argument. -/
def ArgRow (M : Mem) (A : Option Addr) (ks : List IntKind) (l : List (Nat → Int)) : Prop :=
  l.length ≤ Go.maxLen ∧ (0 < l.length → Sl M A ((kE ks).cells l)) ∧ ∀ g ∈ l, ∀ j k, ks[j]? = some k → (Lit.int k (g j)).wf = true
theorem ShapedSl.row {M : Mem} {A : Option Addr} {n : Nat} {ks : List IntKind} (h : ShapedSl M A n ks) (hk : 0 < ks.length) : ∃ l, l.length = n ∧ ArgRow M A ks l := by
  obtain ⟨g, hm, hg⟩ := h
  refine ⟨(List.range n).map g, by simp, by simpa using hm, fun hn => ?_, fun x hx j k hj => ?_⟩
  · rw [List.length_map, List.length_range] at hn
    obtain ⟨b, o, rfl, _⟩ := hg 0 hn
    intro t ht
    rw [Enc.cells_len, List.length_map, List.length_range] at ht
    show M.ld ⟨b, o + t, none⟩ = _
    have hz : (kE ks).z = ks.length := rfl
    rw [hz] at ht
    have h1 : t / ks.length < n := Nat.div_lt_of_lt_mul (by rw [Nat.mul_comm]; exact ht)
    have h2 : t % ks.length < ks.length := Nat.mod_lt _ hk
    obtain ⟨b', o', e, hc⟩ := hg (t / ks.length) h1
    cases e
    obtain ⟨k, hkk⟩ : ∃ k, ks[t % ks.length]? = some k := ⟨_, List.getElem?_eq_getElem h2⟩
    have h3 := (hc _ _ hkk).1
    have e1 : o + t / ks.length * ks.length + t % ks.length = o + t := by rw [Nat.add_assoc, Nat.mul_comm, Nat.div_add_mod]
    rw [e1] at h3
    rw [h3]
    have h4 := Enc.cells_at (E := kE ks) (l := (List.range n).map g) (i := t / ks.length) (j := t % ks.length) (by rw [List.getElem?_map, List.getElem?_range h1]; rfl) (kE_at hkk)
    rw [hz, Nat.mul_comm, Nat.div_add_mod] at h4
    exact h4.symm
  · obtain ⟨i, hi, rfl⟩ := List.mem_map.1 hx
    obtain ⟨b, o, _, hc⟩ := hg i (List.mem_range.1 hi)
    exact (hc j k hj).2
/-- The kinds of a type that is made of numbers alone, structs and arrays of them too. -/
def fieldsK (P : Program) (f : TypeId → Option (List IntKind)) : Nat → List Field → Option (List IntKind)
  | _, [] => some []
  | i, fd :: fs => match f fd.type with
    | some ks => if fd.offset = i ∧ ks.length = P.cellsOf fd.type then (match fieldsK P f (i + ks.length) fs with
      | some r => some (ks ++ r)
      | none => none) else none
    | none => none
def kindsOf (P : Program) : Nat → TypeId → Option (List IntKind)
  | 0, _ => none
  | d + 1, t => match P.underlying t with
    | some (.int k) => if P.cellsOf t = 1 then some [k] else none
    | some (.struct fs) => fieldsK P (kindsOf P d) 0 fs.toList
    | some (.array n e) => match kindsOf P d e with
      | some ks => if ks.length = P.cellsOf e then some (List.replicate n ks).flatten else none
      | none => none
    | _ => none

/-- Numbers of these kinds stand here. -/
def NumRow (ks : List IntKind) (cs : List Value) (off : Nat) : Prop := ∀ (j : Nat) (k : IntKind), ks[j]? = some k → ∃ n : Int, cs[off + j]? = some (.int k n) ∧ (Lit.int k n).wf = true
theorem NumRow.sub {ks : List IntKind} {cs : List Value} {o m : Nat} (h : NumRow ks ((cs.drop o).take m) 0) : NumRow ks cs o := fun j k hj => by
  obtain ⟨n, h1, h2⟩ := h j k hj
  refine ⟨n, ?_, h2⟩
  rw [Nat.zero_add, List.getElem?_take] at h1
  split at h1
  · rwa [List.getElem?_drop] at h1
  · cases h1
theorem NumRow.app {ks r : List IntKind} {cs : List Value} {o : Nat} (h : NumRow ks cs o) (g : NumRow r cs (o + ks.length)) : NumRow (ks ++ r) cs o := fun j k hj => by
  rcases Nat.lt_or_ge j ks.length with hl | hl
  · rw [List.getElem?_append_left hl] at hj; exact h j k hj
  · rw [List.getElem?_append_right hl] at hj
    obtain ⟨n, h1, h2⟩ := g _ k hj
    exact ⟨n, by rw [← h1]; congr 1; omega, h2⟩

section
variable {H : Type} {enc : TypeId × Value → H} {P : Program} {w : World} {base : Nat} {spare : Nat → Bool} {held : Bool}
/-- A slice as an argument. -/
def ArgSl (M : Mem) (A : Option Addr) (n c : Nat) (ks : List IntKind) : Prop := ∃ l, l.length = n ∧ n ≤ c ∧ ArgRow M A ks l

end
theorem Hp.done {R : Mem} {R' : Mem} {L : List HP} {M : Mem} (h : Hp R' L M) (hle : R.le R') : Chg [] R M := Keep.chg (fun b o hb => h.le b o (hle b o hb)) []
end Go.AF
