/- A part of proofs about one program. -/
import Derived.Test.YtnnlgknlialpmaaGreatZShunterChatRow
import Derived.Test.YtnnlgknlialpmaaGreatZShunterChatOpen
set_option linter.unusedVariables false
namespace Go.AF
def kE (ks : List IntKind) : gW (Nat → Int) := ⟨ks.length, fun g => (List.range ks.length).map fun j => .int (ks.getD j .i64) (g j), fun _ => by simp, fun g v hv => by
 obtain ⟨j, _, rfl⟩ := List.mem_map.1 hv; rfl⟩
theorem Wl {ks : List IntKind} {g : Nat → Int} {j : Nat} {k : IntKind} (h : ks[j]? = some k) : ((kE ks).f g)[j]? = some (.int k (g j)) := by
 have hj := (List.getElem?_eq_some_iff.1 h).1
 show ((List.range ks.length).map _)[j]? = _
 rw [List.getElem?_map, List.getElem?_range hj]
 simp [List.getD, h]
def SN (M : Mem) (A : Option Addr) (ks : List IntKind) (l : List (Nat → Int)) : Prop :=
 l.length ≤ Go.maxLen ∧ (0 < l.length → Sl M A ((kE ks).cells l)) ∧ ∀ g ∈ l, ∀ j k, ks[j]? = some k → (Lit.int k (g j)).wf = true
def sX (P : Program) (f : TypeId → Option (List IntKind)) : Nat → List Field → Option (List IntKind)
 | _, [] => some []
 | i, fd :: fs => match f fd.type with
  | some ks => if fd.offset = i ∧ ks.length = P.cellsOf fd.type then (match sX P f (i + ks.length) fs with
   | some r => some (ks ++ r)
   | none => none) else none
  | none => none
def pO (P : Program) : Nat → TypeId → Option (List IntKind)
 | 0, _ => none
 | d + 1, t => match P.underlying t with
  | some (.int k) => if P.cellsOf t = 1 then some [k] else none
  | some (.struct fs) => sX P (pO P d) 0 fs.toList
  | some (.array n e) => match pO P d e with
   | some ks => if ks.length = P.cellsOf e then some (List.replicate n ks).flatten else none
   | none => none
  | _ => none
def hJ (ks : List IntKind) (cs : List Value) (off : Nat) : Prop := ∀ (j : Nat) (k : IntKind), ks[j]? = some k → ∃ n : Int, cs[off + j]? = some (.int k n) ∧ (Lit.int k n).wf = true
theorem hJ.sub {ks : List IntKind} {cs : List Value} {o m : Nat} (h : hJ ks ((cs.drop o).take m) 0) : hJ ks cs o := fun j k hj => by
 obtain ⟨n, h1, h2⟩ := h j k hj
 refine ⟨n, ?_, h2⟩
 rw [Nat.zero_add, List.getElem?_take] at h1
 split at h1
 ·rwa [List.getElem?_drop] at h1
 ·cases h1
theorem hJ.app {ks r : List IntKind} {cs : List Value} {o : Nat} (h : hJ ks cs o) (g : hJ r cs (o + ks.length)) : hJ (ks ++ r) cs o := fun j k hj => by
 rcases Nat.lt_or_ge j ks.length with hl | hl
 ·rw [List.getElem?_append_left hl] at hj; exact h j k hj
 ·rw [List.getElem?_append_right hl] at hj
  obtain ⟨n, h1, h2⟩ := g _ k hj
  exact ⟨n, by rw [← h1]; congr 1; omega, h2⟩
section
variable {H : Type} {enc : TypeId × Value → H} {P : Program} {w : World} {base : Nat} {spare : Nat → Bool} {held : Bool}
theorem vO {f : TypeId → Option (List IntKind)} {cs : List Value} : ∀ (fs : List Field) (i : Nat) (ks : List IntKind), sX P f i fs = some ks →
  (∀ fd ∈ fs, ∀ ks, f fd.type = some ks → ks.length = P.cellsOf fd.type → hJ ks cs fd.offset) → hJ ks cs i
 | [], i, ks, h, _ => by simp only [sX, Option.some.injEq] at h; subst h; intro j k hj; simp at hj
 | fd :: fs, i, ks, h, hh => by
  simp only [sX] at h
  split at h
  ·rename_i k0 h0
   split at h
   ·rename_i hc
    split at h
    ·rename_i r hr
     cases h
     refine hJ.app ?_ (vO fs _ r hr fun fd Zs => hh fd (List.mem_cons_of_mem _ Zs))
     rw [← hc.1]; exact hh fd (List.mem_cons_self ..) k0 h0 hc.2
    ·cases h
   ·cases h
  ·cases h
theorem Ho {ks : List IntKind} {cs : List Value} : ∀ (n o : Nat), (∀ i, i < n → hJ ks cs (o + i * ks.length)) → hJ (List.replicate n ks).flatten cs o
 | 0, o, _ => fun j k hj => by simp at hj
 | n + 1, o, h => by
  rw [List.replicate_succ, List.flatten_cons]
  refine hJ.app (by simpa using h 0 (by omega)) (Ho n _ fun i hi => ?_)
  have := h (i + 1) (by omega)
  rwa [show o + (i + 1) * ks.length = o + ks.length + i * ks.length from by rw [Nat.succ_mul]; omega] at this
theorem DB : ∀ (d : Nat) (t : TypeId) (ks : List IntKind) (fuel : Nat) (cs : List Value) (x : DataW H × List MemPlace), pO P d t = some ks → DataW.trod enc P w base spare held fuel t cs = some x → hJ ks cs 0 := by
 intro d
 induction d with
 | zero => intro t ks fuel cs x h; simp [pO] at h
 | succ d ih =>
  intro t ks fuel cs x h hx
  simp only [pO] at h
  split at h
  ·rename_i k hu
   split at h
   ·cases h
    obtain ⟨n, h1, _, h2⟩ := DataW.trod_int hu hx
    intro j k' hj
    cases j with
    | zero => cases hj; exact ⟨n, by rw [h1]; rfl, h2⟩
    | succ j => simp at hj
   ·cases h
  ·rename_i fs hu
   obtain ⟨xs, m, _, _, hl, hxl, Vo⟩ := DataW.trod_struct hu hx
   refine vO fs.toList 0 ks h fun fd Zs k0 h0 hc => ?_
   obtain ⟨i, hi, Wm⟩ := List.getElem_of_mem Zs
   have Zt : fs[i]? = some fd := by rw [← Wm]; simp at hi ⊢
   have hj' : i < xs.length := by rw [hxl]; simpa using hi
   have := Vo i fd Zt
   rw [List.getElem?_eq_getElem hj'] at this
   exact (ih _ _ _ _ _ h0 this).sub
  ·rename_i n e hu
   split at h
   ·rename_i k0 h0
    split at h
    ·rename_i hc
     cases h
     obtain ⟨xs, m, _, _, hl, hxl, Vo⟩ := DataW.trod_array hu hx
     refine Ho n 0 fun i hi => ?_
     have := Vo i hi
     rw [List.getElem?_eq_getElem (by omega)] at this
     rw [Nat.zero_add, hc]
     exact (ih _ _ _ _ _ h0 this).sub
    ·cases h
   ·cases h
  ·cases h
def LF (M : Mem) (A : Option Addr) (n c : Nat) (ks : List IntKind) : Prop := ∃ l, l.length = n ∧ n ≤ c ∧ SN M A ks l
end
theorem Hp.done {R : Mem} {R' : Mem} {L : List HP} {M : Mem} (h : Hp R' L M) (hle : R.le R') : mF [] R M := nB.SG (fun b o hb => h.le b o (hle b o hb)) []
end Go.AF
