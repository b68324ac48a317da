/- A part of proofs about one program. -/
import Derived.Test.YtnnlgknlialpmaaGreatZTraceSeenRow
import Derived.Test.YtnnlgknlialpmaaGreatZTraceSeenOpen
set_option linter.unusedVariables false
namespace Go.AF
def kE (ks : List IntKind) : hU (Nat → Int) := ⟨ks.length, fun g => (List.range ks.length).map fun j => .int (ks.getD j .i64) (g j), fun _ => by simp, fun g v hv => by
 obtain ⟨j, _, rfl⟩ := List.mem_map.1 hv; rfl⟩
theorem Sx {ks : List IntKind} {g : Nat → Int} {j : Nat} {k : IntKind} (h : ks[j]? = some k) : ((kE ks).f g)[j]? = some (.int k (g j)) := by
 have hj := (List.getElem?_eq_some_iff.1 h).1
 show ((List.range ks.length).map _)[j]? = _
 rw [List.getElem?_map, List.getElem?_range hj]
 simp [List.getD, h]
def MD (M : Mem) (A : Option Addr) (ks : List IntKind) (l : List (Nat → Int)) : Prop :=
 l.length ≤ Go.maxLen ∧ (0 < l.length → Sl M A ((kE ks).cells l)) ∧ ∀ g ∈ l, ∀ j k, ks[j]? = some k → (Lit.int k (g j)).wf = true
theorem pK.row {M : Mem} {A : Option Addr} {n : Nat} {ks : List IntKind} (h : pK M A n ks) (hk : 0 < ks.length) : ∃ l, l.length = n ∧ MD M A ks l := by
 obtain ⟨g, hm, hg⟩ := h
 refine ⟨(List.range n).map g, by simp, by simpa using hm, fun hn => ?_, fun x hx j k hj => ?_⟩
 ·rw [List.length_map, List.length_range] at hn
  obtain ⟨b, o, rfl, _⟩ := hg 0 hn
  intro t ht
  rw [hU.dI, List.length_map, List.length_range] at ht
  show M.ld ⟨b, o + t, none⟩ = _
  have hz : (kE ks).z = ks.length := rfl
  rw [hz] at ht
  have h1 : t / ks.length < n := Nat.div_lt_of_lt_mul (by rw [Nat.mul_comm]; exact ht)
  have h2 : t % ks.length < ks.length := Nat.mod_lt _ hk
  obtain ⟨b', o', e, hc⟩ := hg (t / ks.length) h1
  cases e
  obtain ⟨k, hkk⟩ : ∃ k, ks[t % ks.length]? = some k := ⟨_, List.getElem?_eq_getElem h2⟩
  have h3 := (hc _ _ hkk).1
  have e1 : o + t / ks.length * ks.length + t % ks.length = o + t := by rw [Nat.add_assoc, Nat.mul_comm, Nat.div_add_mod]
  rw [e1] at h3
  rw [h3]
  have h4 := hU.mV (E := kE ks) (l := (List.range n).map g) (i := t / ks.length) (j := t % ks.length) (by rw [List.getElem?_map, List.getElem?_range h1]; rfl) (Sx hkk)
  rw [hz, Nat.mul_comm, Nat.div_add_mod] at h4
  exact h4.symm
 ·obtain ⟨i, hi, rfl⟩ := List.mem_map.1 hx
  obtain ⟨b, o, _, hc⟩ := hg i (List.mem_range.1 hi)
  exact (hc j k hj).2
def uB (P : Program) (f : TypeId → Option (List IntKind)) : Nat → List Field → Option (List IntKind)
 | _, [] => some []
 | i, fd :: fs => match f fd.type with
  | some ks => if fd.offset = i ∧ ks.length = P.cellsOf fd.type then (match uB P f (i + ks.length) fs with
   | some r => some (ks ++ r)
   | none => none) else none
  | none => none
def iS (P : Program) : Nat → TypeId → Option (List IntKind)
 | 0, _ => none
 | d + 1, t => match P.underlying t with
  | some (.int k) => if P.cellsOf t = 1 then some [k] else none
  | some (.struct fs) => uB P (iS P d) 0 fs.toList
  | some (.array n e) => match iS P d e with
   | some ks => if ks.length = P.cellsOf e then some (List.replicate n ks).flatten else none
   | none => none
  | _ => none
def iT (ks : List IntKind) (cs : List Value) (off : Nat) : Prop := ∀ (j : Nat) (k : IntKind), ks[j]? = some k → ∃ n : Int, cs[off + j]? = some (.int k n) ∧ (Lit.int k n).wf = true
theorem iT.sub {ks : List IntKind} {cs : List Value} {o m : Nat} (h : iT ks ((cs.drop o).take m) 0) : iT ks cs o := fun j k hj => by
 obtain ⟨n, h1, h2⟩ := h j k hj
 refine ⟨n, ?_, h2⟩
 rw [Nat.zero_add, List.getElem?_take] at h1
 split at h1
 ·rwa [List.getElem?_drop] at h1
 ·cases h1
theorem iT.app {ks r : List IntKind} {cs : List Value} {o : Nat} (h : iT ks cs o) (g : iT r cs (o + ks.length)) : iT (ks ++ r) cs o := fun j k hj => by
 rcases Nat.lt_or_ge j ks.length with hl | hl
 ·rw [List.getElem?_append_left hl] at hj; exact h j k hj
 ·rw [List.getElem?_append_right hl] at hj
  obtain ⟨n, h1, h2⟩ := g _ k hj
  exact ⟨n, by rw [← h1]; congr 1; omega, h2⟩
section
variable {H : Type} {enc : TypeId × Value → H} {P : Program} {w : World} {base : Nat} {spare : Nat → Bool} {held : Bool}
theorem xA {f : TypeId → Option (List IntKind)} {cs : List Value} : ∀ (fs : List Field) (i : Nat) (ks : List IntKind), uB P f i fs = some ks →
  (∀ fd ∈ fs, ∀ ks, f fd.type = some ks → ks.length = P.cellsOf fd.type → iT ks cs fd.offset) → iT ks cs i
 | [], i, ks, h, _ => by simp only [uB, Option.some.injEq] at h; subst h; intro j k hj; simp at hj
 | fd :: fs, i, ks, h, hh => by
  simp only [uB] at h
  split at h
  ·rename_i k0 h0
   split at h
   ·rename_i hc
    split at h
    ·rename_i r hr
     cases h
     refine iT.app ?_ (xA fs _ r hr fun fd hfd => hh fd (List.mem_cons_of_mem _ hfd))
     rw [← hc.1]; exact hh fd (List.mem_cons_self ..) k0 h0 hc.2
    ·cases h
   ·cases h
  ·cases h
theorem Iz {ks : List IntKind} {cs : List Value} : ∀ (n o : Nat), (∀ i, i < n → iT ks cs (o + i * ks.length)) → iT (List.replicate n ks).flatten cs o
 | 0, o, _ => fun j k hj => by simp at hj
 | n + 1, o, h => by
  rw [List.replicate_succ, List.flatten_cons]
  refine iT.app (by simpa using h 0 (by omega)) (Iz n _ fun i hi => ?_)
  have := h (i + 1) (by omega)
  rwa [show o + (i + 1) * ks.length = o + ks.length + i * ks.length from by rw [Nat.succ_mul]; omega] at this
theorem xB : ∀ (d : Nat) (t : TypeId) (ks : List IntKind) (fuel : Nat) (cs : List Value) (x : DataW H × List MemPlace), iS P d t = some ks → DataW.trod enc P w base spare held fuel t cs = some x → iT ks cs 0 := by
 intro d
 induction d with
 | zero => intro t ks fuel cs x h; simp [iS] at h
 | succ d ih =>
  intro t ks fuel cs x h hx
  simp only [iS] at h
  split at h
  ·rename_i k hu
   split at h
   ·cases h
    obtain ⟨n, h1, _, h2⟩ := DataW.trod_int hu hx
    intro j k' hj
    cases j with
    | zero => cases hj; exact ⟨n, by rw [h1]; rfl, h2⟩
    | succ j => simp at hj
   ·cases h
  ·rename_i fs hu
   obtain ⟨xs, m, _, _, hl, Sw, MB⟩ := DataW.trod_struct hu hx
   refine xA fs.toList 0 ks h fun fd hfd k0 h0 hc => ?_
   obtain ⟨i, hi, XW⟩ := List.getElem_of_mem hfd
   have hfi' : fs[i]? = some fd := by rw [← XW]; simp at hi ⊢
   have hj' : i < xs.length := by rw [Sw]; simpa using hi
   have := MB i fd hfi'
   rw [List.getElem?_eq_getElem hj'] at this
   exact (ih _ _ _ _ _ h0 this).sub
  ·rename_i n e hu
   split at h
   ·rename_i k0 h0
    split at h
    ·rename_i hc
     cases h
     obtain ⟨xs, m, _, _, hl, Sw, MB⟩ := DataW.trod_array hu hx
     refine Iz n 0 fun i hi => ?_
     have := MB i hi
     rw [List.getElem?_eq_getElem (by omega)] at this
     rw [Nat.zero_add, hc]
     exact (ih _ _ _ _ _ h0 this).sub
    ·cases h
   ·cases h
  ·cases h
def mW (M : Mem) (A : Option Addr) (n c : Nat) (ks : List IntKind) : Prop := ∃ l, l.length = n ∧ n ≤ c ∧ MD M A ks l
theorem mW.uA {t e : TypeId} {ks : List IntKind} {A : Option Addr} {n c : Nat} {d : DataW H} {ps : List MemPlace} (ht : P.underlying t = some (.slice e)) (hk : iS P 8 e = some ks) (hc : P.cellsOf e = ks.length ∧ 0 < ks.length)
  (h : DataW.Trod enc P w base spare held t (.slice A n c) d ps) : mW (jK w) A n c ks := by
 obtain ⟨hc, hpos⟩ := hc
 obtain ⟨fuel, hf⟩ := h
 rcases Go.Deep.open_slice ht hf with ⟨h0, _⟩ | ⟨a, len, cap, m, n', D, Pl, hcs, hb, hl, hm, GF, hx, hel⟩
 ·have XB : [Value.slice A n c] = [.slice none 0 0] := h0
  cases XB
  exact ⟨[], rfl, Nat.le_refl _, by simp, fun h => by simp at h, fun g hg => by simp at hg⟩
 ·have MC : [Value.slice A n c] = [.slice (some a) len cap] := hcs
  cases MC
  have hlm : n ≤ m := by rw [GF]; split <;> omega
  have each : ∀ i, i < n → ∃ g : Nat → Int, ∀ j k, ks[j]? = some k → w.cell? ((a.add (i * ks.length)).add j) = some (.int k (g j)) ∧ (Lit.int k (g j)).wf = true := by
   intro i hi
   obtain ⟨cs', h1, h2⟩ := hel i (by omega)
   rw [hc] at h1
   obtain ⟨_, hlen, hcell⟩ := World.cells?_some h1
   have hr := xB 8 e ks _ _ _ hk h2
   refine ⟨fun j => match cs'[j]? with | some (Value.int _ n) => n | _ => 0, fun j k hj => ?_⟩
   obtain ⟨v, g1, g2⟩ := hr j k hj
   rw [Nat.zero_add] at g1
   have F1 : j < ks.length := (List.getElem?_eq_some_iff.1 hj).1
   simp only [g1]
   exact ⟨by rw [hcell j F1, g1], g2⟩
  obtain ⟨g, hg⟩ := Go.Deep.choose_lt each
  have hsh : pK (jK w) (some a) n ks := by
   refine ⟨g, by omega, fun i hi => ?_⟩
   have WX : ks[0]? = some ks[0] := List.getElem?_eq_getElem hpos
   have hsp : a.spot = none := by
    have := (hg 0 (by omega) 0 _ WX).1
    have hs := World.cell?_spot this
    simpa [Addr.add] using hs
   obtain ⟨b, o, sp⟩ := a
   simp only at hsp; subst hsp
   refine ⟨b, o, rfl, fun j k hj => ?_⟩
   obtain ⟨h1, h2⟩ := hg i hi j k hj
   rw [add_eq, add_eq] at h1
   exact ⟨h1, h2⟩
  obtain ⟨l, h1, h2⟩ := hsh.row hpos
  exact ⟨l, h1, hl, h2⟩
end
theorem Hp.done {R : Mem} {R' : Mem} {L : List HP} {M : Mem} (h : Hp R' L M) (hle : R.le R') : nG [] R M := oE.TI (fun b o hb => h.le b o (hle b o hb)) []
end Go.AF
