/- A part of proofs about one program. -/
import Derived.Test.YtnnlgknlialpmaaGreatZTraceSeenLib
import Derived.Deep.Slices
import Derived.ChangeArms
import Derived.OpenShut
set_option linter.unusedVariables false
namespace Go.AF
open Go.Deep
def intKind (P : Program) (t : TypeId) : Option IntKind := match P.underlying t with
 | some (.int k) => if P.cellsOf t = 1 then some k else none
 | _ => none
def lA (P : Program) : Nat → List Field → Option (List IntKind)
 | _, [] => some []
 | i, f :: fs => match intKind P f.type, lA P (i + 1) fs with
  | some k, some ks => if f.offset = i then some (k :: ks) else none
  | _, _ => none
def GD (P : Program) (e : TypeId) : Option (List IntKind) := match P.underlying e with
 | some (.int k) => some [k]
 | some (.struct fs) => lA P 0 fs.toList
 | some (.array n el) => match intKind P el with
  | some k => some (List.replicate n k)
  | none => none
 | _ => none
def MA (ks : List IntKind) (cs : List Value) (g : Nat → Int) : Prop := ∀ (j : Nat) (k : IntKind), ks[j]? = some k → cs[j]? = some (.int k (g j)) ∧ (Lit.int k (g j)).wf = true
section
variable {H : Type} {enc : TypeId × Value → H} {P : Program} {w : World} {base : Nat} {spare : Nat → Bool} {held : Bool}
theorem nN {t : TypeId} {k : IntKind} (h : intKind P t = some k) : P.underlying t = some (.int k) ∧ P.cellsOf t = 1 := by
 unfold intKind at h
 split at h
 ·rename_i k' hu
  split at h
  ·rename_i hc; cases h; exact ⟨hu, hc⟩
  ·cases h
 ·cases h
theorem yb : ∀ (fs : List Field) (i : Nat) (ks : List IntKind), lA P i fs = some ks → ∀ j k, ks[j]? = some k → ∃ f, fs[j]? = some f ∧ f.offset = i + j ∧ intKind P f.type = some k := by
 intro fs
 induction fs with
 | nil => intro i ks h j k hj; simp only [lA, Option.some.injEq] at h; subst h; cases j <;> cases hj
 | cons f fs ih =>
  intro i ks h j k hj
  simp only [lA] at h
  split at h
  ·rename_i k1 ks1 h1 h2
   split at h
   ·rename_i ho
    cases h
    cases j with
    | zero => cases hj; exact ⟨f, rfl, by simpa using ho, h1⟩
    | succ j =>
     obtain ⟨f', a, b, c⟩ := ih (i + 1) ks1 h2 j k (by simpa using hj)
     exact ⟨f', by simpa using a, by omega, c⟩
   ·cases h
  ·cases h
theorem xz {t : TypeId} {k : IntKind} {fuel : Nat} {cs : List Value} {x : DataW H × List MemPlace} (h : intKind P t = some k) (hx : DataW.trod enc P w base spare held fuel t cs = some x) :
  ∃ n, cs = [.int k n] ∧ (Lit.int k n).wf = true := by
 obtain ⟨n, h1, _, h2⟩ := DataW.trod_int (nN h).1 hx
 exact ⟨n, h1, h2⟩
theorem zl {e : TypeId} {ks : List IntKind} {fuel : Nat} {cs : List Value} {x : DataW H × List MemPlace} (hk : GD P e = some ks) (h : DataW.trod enc P w base spare held fuel e cs = some x) :
  ∃ g, MA ks cs g := by
 have pick : ∀ (ks : List IntKind) (cs : List Value), (∀ (j : Nat) (k : IntKind), ks[j]? = some k → ∃ n : Int, cs[j]? = some (Value.int k n) ∧ (Lit.int k n).wf = true) → ∃ g, MA ks cs g := by
  intro ks cs hh
  refine ⟨fun j => match cs[j]? with | some (Value.int _ n) => n | _ => 0, fun j k hj => ?_⟩
  obtain ⟨n, h1, h2⟩ := hh j k hj
  simp only [h1]
  exact ⟨trivial, h2⟩
 refine pick ks cs fun j k hj => ?_
 unfold GD at hk
 split at hk
 ·rename_i k' hu
  cases hk
  obtain ⟨n, h1, _, h2⟩ := DataW.trod_int hu h
  cases j with
  | zero => cases hj; exact ⟨n, by rw [h1]; rfl, h2⟩
  | succ j => simp at hj
 ·rename_i fs hu
  obtain ⟨f, hf, ho, XV⟩ := yb fs.toList 0 ks hk j k hj
  obtain ⟨xs, m, _, _, hl, Sw, MB⟩ := DataW.trod_struct hu h
  have Gh : fs[j]? = some f := by simpa using hf
  have hj' : j < xs.length := by rw [Sw]; exact (Array.getElem?_eq_some_iff.1 Gh).1
  have := MB j f Gh
  rw [List.getElem?_eq_getElem hj', (nN XV).2, ho, Nat.zero_add] at this
  obtain ⟨n, h1, h2⟩ := xz XV this
  refine ⟨n, ?_, h2⟩
  have hh : ((cs.drop j).take 1)[0]? = some (.int k n) := by rw [h1]; rfl
  simpa using hh
 ·rename_i n el hu
  split at hk
  ·rename_i k' XV
   cases hk
   rw [List.getElem?_replicate] at hj
   split at hj
   ·rename_i WW
    cases hj
    obtain ⟨xs, m, _, _, hl, Sw, MB⟩ := DataW.trod_array hu h
    have hj' : j < xs.length := by rw [Sw]; exact WW
    have := MB j WW
    rw [List.getElem?_eq_getElem hj', (nN XV).2, Nat.mul_one] at this
    obtain ⟨v, h1, h2⟩ := xz XV this
    refine ⟨v, ?_, h2⟩
    have hh : ((cs.drop j).take 1)[0]? = some (.int k v) := by rw [h1]; rfl
    simpa using hh
   ·cases hj
  ·cases hk
 ·cases hk
def Cells (M : Mem) (A : Option Addr) (n : Nat) (ks : List IntKind) (g : Nat → Nat → Int) : Prop :=
 n ≤ maxLen ∧ ∀ i, i < n → ∃ b o, A = some ⟨b, o, none⟩ ∧ ∀ j k, ks[j]? = some k → M.ld ⟨b, o + i * ks.length + j, none⟩ = some (.int k (g i j)) ∧ (Lit.int k (g i j)).wf = true
def pK (M : Mem) (A : Option Addr) (n : Nat) (ks : List IntKind) : Prop := ∃ g, Cells M A n ks g
theorem pK.uA {t e : TypeId} {ks : List IntKind} {A : Option Addr} {n c : Nat} {d : DataW H} {ps : List MemPlace} (ht : P.underlying t = some (.slice e)) (hk : GD P e = some ks) (hc : P.cellsOf e = ks.length ∧ 0 < ks.length)
  (h : DataW.Trod enc P w base spare held t (.slice A n c) d ps) : pK (jK w) A n ks := by
 obtain ⟨hc, hpos⟩ := hc
 obtain ⟨fuel, hf⟩ := h
 rcases open_slice ht hf with ⟨h0, _⟩ | ⟨a, len, cap, m, n', D, Pl, hcs, hb, hl, hm, GF, hx, hel⟩
 ·have XB : [Value.slice A n c] = [.slice none 0 0] := h0
  cases XB
  exact ⟨fun _ _ => 0, by omega, fun i hi => by omega⟩
 ·have MC : [Value.slice A n c] = [.slice (some a) len cap] := hcs
  cases MC
  have hlm : n ≤ m := by rw [GF]; split <;> omega
  have each : ∀ i, i < n → ∃ g : Nat → Int, ∀ j k, ks[j]? = some k → w.cell? ((a.add (i * ks.length)).add j) = some (.int k (g j)) ∧ (Lit.int k (g j)).wf = true := by
   intro i hi
   obtain ⟨cs', h1, h2⟩ := hel i (by omega)
   rw [hc] at h1
   obtain ⟨_, hlen, hcell⟩ := World.cells?_some h1
   obtain ⟨g, hg⟩ := zl hk h2
   refine ⟨g, fun j k hj => ?_⟩
   obtain ⟨g1, g2⟩ := hg j k hj
   have F1 : j < ks.length := (List.getElem?_eq_some_iff.1 hj).1
   exact ⟨by rw [hcell j F1, g1], g2⟩
  have ex : ∃ g : Nat → Nat → Int, ∀ i, i < n → ∀ j k, ks[j]? = some k → w.cell? ((a.add (i * ks.length)).add j) = some (.int k (g i j)) ∧ (Lit.int k (g i j)).wf = true := by
   have := choose_lt each
   obtain ⟨g, hg⟩ := this
   exact ⟨g, hg⟩
  obtain ⟨g, hg⟩ := ex
  refine ⟨g, by omega, fun i hi => ?_⟩
  have WX : ks[0]? = some ks[0] := List.getElem?_eq_getElem hpos
  have hsp : a.spot = none := by
   have := (hg 0 (by omega) 0 _ WX).1
   have hs := World.cell?_spot this
   simpa [Addr.add] using hs
  obtain ⟨b, o, sp⟩ := a
  simp only at hsp; subst hsp
  refine ⟨b, o, rfl, fun j k hj => ?_⟩
  obtain ⟨h1, h2⟩ := hg i hi j k hj
  rw [add_eq, add_eq] at h1
  exact ⟨h1, h2⟩
end
end Go.AF
namespace Go.AF
open Go.Deep Go.ChangeShapes
end Go.AF
