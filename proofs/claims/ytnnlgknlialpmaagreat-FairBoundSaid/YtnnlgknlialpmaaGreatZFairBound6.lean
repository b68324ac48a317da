/- A part of proofs about one program. -/
import Derived.Test.YtnnlgknlialpmaaGreatZFairBound5
set_option linter.unusedVariables false
namespace Go.Proofs
open Go.AF
set_option maxRecDepth 100000
set_option maxHeartbeats 1000000
attribute [local irreducible] aJ de fA cw aB dZ aF aK bh aY bA aO
section
variable {p : b6} {N Rm GG m n u k S : Nat} {x y z : Sc} {i g a kind v : Int}
theorem SV.other (h : SV p N x) {mc : va} {c : Nat} (k1 : k < x.ms.length) (hk : (ax x (k : Int)).p ≠ -1) (h1 : x.ms[c]? = some mc) (hp : mc.p ≠ -1) (hc : c ≠ k) : mc.p.toNat ≠ (ax x (k : Int)).p.toNat := by
 have hmk := gD (x := x) (m := (k : Int)) (by omega) (by omega)
 rw [Int.toNat_natCast] at hmk
 intro e
 have a1 : 0 ≤ mc.p := by rcases h.mv h1 with e | e; exact absurd e.1 hp; omega
 have a2 : 0 ≤ (ax x (k : Int)).p := by rcases h.mv hmk with e | e; exact absurd e.1 hk; omega
 exact hc (h.apart h1 hmk hp (by omega))
theorem DH (hs : SV p N x) (k1 : k < x.ms.length) (hk : (ax x (k : Int)).p = i) (i0 : 0 ≤ i) (i1 : i < x.ps.length) (hS : x.c.S = (S : Int)) {fT : List dm} {AG : List Int} {dz : jB} (hl : fT.length = x.ps.length) (hv0 : 0 ≤ v)
  (Pk : (ax x (k : Int)).g = -1) (h0 : 0 ≤ g) (h : Ll Rm GG x g m n u) (ht : ∀ j : Nat, (fT.getD j cX).turns = (x.ps.getD j cX).turns)
  (H1 : ∀ j : Int, 0 ≤ j → j < x.ps.length → j ≠ i → Lv Rm GG (ay x j).q x.gl (ay x j).turns g n → Lv Rm GG (fT.getD j.toNat cX).q AG (ay x j).turns g n ∨ v = g ∨ ∃ n', n' + 1 ≤ n ∧ Lv Rm GG (fT.getD i.toNat cX).q AG ((ay x i).turns + 1) g n')
  (H2 : Lv Rm GG (ay x i).q x.gl (ay x i).turns g n → v = g ∨ ∃ n', n' + 1 ≤ n ∧ Lv Rm GG (fT.getD i.toNat cX).q AG ((ay x i).turns + 1) g n') :
  oe Rm GG S (Sc.bg { x with ps := fT, gl := AG, d := dz } (k : Int) i kind v true).1 g k m n u := by
 have hmk := gD (x := x) (m := (k : Int)) (by omega) (by omega)
 rw [Int.toNat_natCast] at hmk
 generalize hz : (Sc.bg { x with ps := fT, gl := AG, d := dz } (k : Int) i kind v true).1 = y
 have hy : y = ((({ x with ps := fT, gl := AG, d := dz } : Sc).bT i { fT.getD i.toNat cX with turns := (fT.getD i.toNat cX).turns + 1 }).gZ (k : Int) ⟨(ax x (k : Int)).p, v, x.c.S⟩) := by rw [← hz]; rfl
 have Lm : ∀ c, c ≠ k → y.ms[c]? = x.ms[c]? := fun c hc => by rw [hy]; show (x.ms.set (k : Int).toNat _)[c]? = _; rw [Int.toNat_natCast, kf hc]
 have RV : y.ms[k]? = some ⟨(ax x (k : Int)).p, v, x.c.S⟩ := by rw [hy]; show (x.ms.set (k : Int).toNat _)[k]? = _; rw [Int.toNat_natCast, List.getElem?_set_self k1]
 have Pm : y.gl = AG := by rw [hy]; rfl
 have ypi : ay y i = { fT.getD i.toNat cX with turns := (fT.getD i.toNat cX).turns + 1 } := by rw [hy]; exact bH (show i.toNat < fT.length by omega)
 have RW : ∀ j : Int, j.toNat ≠ i.toNat → ay y j = fT.getD j.toNat cX := fun j hj => by rw [hy]; exact getD_set_ne hj
 have PR : (fT.getD i.toNat cX).turns = (ay x i).turns := ht i.toNat
 have won : (v = g ∨ ∃ n', n' + 1 ≤ n ∧ Lv Rm GG (fT.getD i.toNat cX).q AG ((ay x i).turns + 1) g n') → 1 ≤ u → oe Rm GG S y g k m n u := by
  rintro (e | ⟨n', e1, e2⟩) hu
  ·exact .inr ⟨n, u - 1, .inr ⟨Nat.le_refl _, by omega⟩, _, RV, .inl e⟩
  ·refine .inr ⟨n', 2 * S, .inl ⟨e1, by omega⟩, _, RV, .inr (.inl ⟨by show (ax x (k : Int)).p ≠ -1; omega, ?_, ?_⟩)⟩
   ·unfold uM
    dsimp only
    rw [if_neg (by omega), hS]; simp
   ·dsimp only
    rw [hk, ypi, Pm]
    dsimp only
    rw [PR]
    exact e2
 obtain ⟨mc, h1, h2⟩ := h
 have Ah := hs.mv h1
 by_cases e : m = k
 ·subst e
  rw [hmk] at h1
  obtain rfl := Option.some.inj h1
  rcases h2 with h2 | ⟨h2, h3, h4⟩ | ⟨h2, _⟩
  ·omega
  ·rw [hk] at h4
   exact won (H2 h4) (Nat.le_trans (Pf Ah) h3)
  ·have := h2 _ (List.mem_of_getElem? hmk); omega
 ·rcases h2 with h2 | ⟨h2, h3, h4⟩ | ⟨h2, _⟩
  ·exact .inl ⟨Ne.symm e, mc, by rw [Lm m e]; exact h1, .inl h2⟩
  ·have hne := hs.other k1 (by omega) h1 h2 e
   rw [hk] at hne
   have hb : 0 ≤ mc.p ∧ mc.p < x.ps.length := by rcases Ah with e | e; exact absurd e.1 h2; omega
   rcases H1 mc.p hb.1 hb.2 (fun e => hne (by rw [e])) h4 with h5 | h5
   ·refine .inl ⟨Ne.symm e, mc, by rw [Lm m e]; exact h1, .inr (.inl ⟨h2, h3, ?_⟩)⟩
    rw [RW _ hne, Pm, ht]
    exact h5
   ·exact won h5 (Nat.le_trans (Pf Ah) h3)
  ·have := h2 _ (List.mem_of_getElem? hmk); omega
theorem Al (hs : SV p N x) (k1 : k < x.ms.length) (hk : (ax x (k : Int)).p = i) (i0 : 0 ≤ i) (i1 : i < x.ps.length) {fT : List dm} {AG : List Int} {dz : jB} (hl : fT.length = x.ps.length)
  (Pk : (ax x (k : Int)).g = -1) (h0 : 0 ≤ g) (h : Ll Rm GG x g m n u) (ht : ∀ j : Nat, (fT.getD j cX).turns = (x.ps.getD j cX).turns)
  (H1 : ∀ j : Int, 0 ≤ j → j < x.ps.length → j ≠ i → Lv Rm GG (ay x j).q x.gl (ay x j).turns g n → Lv Rm GG (fT.getD j.toNat cX).q AG (ay x j).turns g n)
  (H2 : ¬ Lv Rm GG (ay x i).q x.gl (ay x i).turns g n) :
  oe Rm GG S (Sc.bg { x with ps := fT, gl := AG, d := dz } (k : Int) i kind v false).1 g k m n u := by
 have hmk := gD (x := x) (m := (k : Int)) (by omega) (by omega)
 rw [Int.toNat_natCast] at hmk
 generalize hz : (Sc.bg { x with ps := fT, gl := AG, d := dz } (k : Int) i kind v false).1 = y
 have hy : y = ((({ x with ps := fT, gl := AG, d := dz } : Sc).bT i { fT.getD i.toNat cX with eV := -1 }).gZ (k : Int) ⟨-1, -1, 0⟩) := by rw [← hz]; rfl
 have Lm : ∀ c, c ≠ k → y.ms[c]? = x.ms[c]? := fun c hc => by rw [hy]; show (x.ms.set (k : Int).toNat _)[c]? = _; rw [Int.toNat_natCast, kf hc]
 have Pm : y.gl = AG := by rw [hy]; rfl
 have RW : ∀ j : Int, j.toNat ≠ i.toNat → ay y j = fT.getD j.toNat cX := fun j hj => by rw [hy]; exact getD_set_ne hj
 obtain ⟨mc, h1, h2⟩ := h
 have Ah := hs.mv h1
 by_cases e : m = k
 ·subst e
  rw [hmk] at h1
  obtain rfl := Option.some.inj h1
  rcases h2 with h2 | ⟨h2, h3, h4⟩ | ⟨h2, _⟩
  ·omega
  ·rw [hk] at h4
   exact absurd h4 H2
  ·have := h2 _ (List.mem_of_getElem? hmk); omega
 ·rcases h2 with h2 | ⟨h2, h3, h4⟩ | ⟨h2, _⟩
  ·exact .inl ⟨Ne.symm e, mc, by rw [Lm m e]; exact h1, .inl h2⟩
  ·have hne := hs.other k1 (by omega) h1 h2 e
   rw [hk] at hne
   have hb : 0 ≤ mc.p ∧ mc.p < x.ps.length := by rcases Ah with e | e; exact absurd e.1 h2; omega
   refine .inl ⟨Ne.symm e, mc, by rw [Lm m e]; exact h1, .inr (.inl ⟨h2, h3, ?_⟩)⟩
   rw [RW _ hne, Pm, ht]
   exact H1 mc.p hb.1 hb.2 (fun e => hne (by rw [e])) h4
  ·have := h2 _ (List.mem_of_getElem? hmk); omega
theorem wH (hv : HV Rm x) (hs : SV p N x) (k1 : k < x.ms.length) (hk : (ax x (k : Int)).p = i) (i0 : 0 ≤ i) (i1 : i < x.ps.length) {fT : List dm} {AG : List Int} {dz : jB} {t : Bool} (hl : fT.length = x.ps.length)
  (hr : ∀ pr ∈ fT, pr.q.room = Rm) (hb : ∀ j : Nat, (fT.getD j cX).eV = (x.ps.getD j cX).eV)
  (he : ∀ j : Nat, j ≠ i.toNat → (x.ps.getD j cX).q.next = -1 → (x.ps.getD j cX).q.l = [] → (fT.getD j cX).q.next = -1 ∧ (fT.getD j cX).q.l = [])
  (hS0 : 0 ≤ x.c.S) (hf : t = false → (fT.getD i.toNat cX).q.next = -1 ∧ (fT.getD i.toNat cX).q.l = []) : HV Rm (Sc.bg { x with ps := fT, gl := AG, d := dz } (k : Int) i kind v t).1 := by
 have hmk := gD (x := x) (m := (k : Int)) (by omega) (by omega)
 rw [Int.toNat_natCast] at hmk
 have hmem : fT.getD i.toNat cX ∈ fT := by
  rw [List.getD_eq_getElem?_getD, List.getElem?_eq_getElem (by omega)]; exact List.getElem_mem _
 unfold Sc.bg
 cases t with
 | true =>
  rw [if_pos rfl]
  refine ⟨fun j hj => ?_, fun pr hp => ?_, fun mc hm => ?_⟩
  ·have hj' : j < x.ps.length := by have : j < (fT.set i.toNat { fT.getD i.toNat cX with turns := (fT.getD i.toNat cX).turns + 1 }).length := hj; simpa [hl] using this
   by_cases e : j = i.toNat
   ·subst e
    exact .inr ⟨k, _, by show (x.ms.set (k : Int).toNat _)[k]? = _; rw [Int.toNat_natCast, List.getElem?_set_self k1], by show (ax x (k : Int)).p = _; omega⟩
   ·rcases hv.hold j hj' with hh | ⟨c, mc, h1, h2⟩
    ·refine .inl ?_
     show ((fT.set i.toNat _).getD (j : Int).toNat cX).eV = -1 ∧ ((fT.set i.toNat _).getD (j : Int).toNat cX).q.next = -1 ∧ ((fT.set i.toNat _).getD (j : Int).toNat cX).q.l = []
     rw [Int.toNat_natCast, getD_set_ne e]
     exact ⟨(hb j).trans hh.1, he j e hh.2.1 hh.2.2⟩
    ·have hc : c ≠ k := by
      rintro rfl
      rw [hmk] at h1
      obtain rfl := Option.some.inj h1
      omega
     exact .inr ⟨c, mc, by show (x.ms.set (k : Int).toNat _)[c]? = _; rw [Int.toNat_natCast, kf hc]; exact h1, h2⟩
  ·have xm : pr ∈ fT.set i.toNat { fT.getD i.toNat cX with turns := (fT.getD i.toNat cX).turns + 1 } := hp
   rcases List.mem_or_eq_of_mem_set xm with xm | rfl
   ·exact hr pr xm
   ·exact hr (fT.getD i.toNat cX) hmem
  ·have hm' : mc ∈ x.ms.set (k : Int).toNat ⟨(ax x (k : Int)).p, v, x.c.S⟩ := hm
   rcases List.mem_or_eq_of_mem_set hm' with hm' | rfl
   ·exact hv.left mc hm'
   ·exact Int.le_refl _
 | false =>
  rw [if_neg (by decide)]
  refine ⟨fun j hj => ?_, fun pr hp => ?_, fun mc hm => ?_⟩
  ·have hj' : j < x.ps.length := by have : j < (fT.set i.toNat { fT.getD i.toNat cX with eV := -1 }).length := hj; simpa [hl] using this
   by_cases e : j = i.toNat
   ·subst e
    refine .inl ?_
    show ((fT.set i.toNat _).getD ((i.toNat : Nat) : Int).toNat cX).eV = -1 ∧ ((fT.set i.toNat _).getD ((i.toNat : Nat) : Int).toNat cX).q.next = -1 ∧ ((fT.set i.toNat _).getD ((i.toNat : Nat) : Int).toNat cX).q.l = []
    rw [Int.toNat_natCast, bH (by omega)]
    exact ⟨rfl, hf rfl⟩
   ·rcases hv.hold j hj' with hh | ⟨c, mc, h1, h2⟩
    ·refine .inl ?_
     show ((fT.set i.toNat _).getD (j : Int).toNat cX).eV = -1 ∧ ((fT.set i.toNat _).getD (j : Int).toNat cX).q.next = -1 ∧ ((fT.set i.toNat _).getD (j : Int).toNat cX).q.l = []
     rw [Int.toNat_natCast, getD_set_ne e]
     exact ⟨(hb j).trans hh.1, he j e hh.2.1 hh.2.2⟩
    ·have hc : c ≠ k := by
      rintro rfl
      rw [hmk] at h1
      obtain rfl := Option.some.inj h1
      omega
     exact .inr ⟨c, mc, by show (x.ms.set (k : Int).toNat _)[c]? = _; rw [Int.toNat_natCast, kf hc]; exact h1, h2⟩
  ·have xm : pr ∈ fT.set i.toNat { fT.getD i.toNat cX with eV := -1 } := hp
   rcases List.mem_or_eq_of_mem_set xm with xm | rfl
   ·exact hr pr xm
   ·exact hr (fT.getD i.toNat cX) hmem
  ·have hm' : mc ∈ x.ms.set (k : Int).toNat ⟨-1, -1, 0⟩ := hm
   rcases List.mem_or_eq_of_mem_set hm' with hm' | rfl
   ·exact hv.left mc hm'
   ·exact hS0
end
section
variable {p : b6} {N Rm GG m n u k S : Nat} {x y z : Sc} {i g a kind v : Int}
theorem WI {q : Loc} {t : Int} {gl : List Int} {j : Nat} (h : gl[j]? = some g) : (gf q t gl).2.2.1 = g ∨ ∃ j', j' ≤ j ∧ (gf q t gl).2.1[j']? = some g := by
 obtain ⟨hn, _, hp⟩ := qQ q gl
 have h := yo hp h
 unfold gf
 generalize q.dO gl = r at hn h
 obtain ⟨q1, g1, n1⟩ := r
 dsimp only at hn h ⊢
 clear hp
 split
 ·cases g1 with
  | nil => simp at h
  | cons v l =>
   cases j with
   | zero => exact .inl (by simpa using h)
   | succ j => exact .inr ⟨j, by omega, by simpa using h⟩
 ·split
  ·exact .inr ⟨j, Nat.le_refl _, h⟩
  ·rw [DF]
   cases g1 with
   | nil => simp at h
   | cons v l =>
    cases j with
    | zero => exact .inl (by simpa using h)
    | succ j => exact .inr ⟨j, by omega, by simpa using h⟩
theorem RX {ps : List dm} {j : Nat} {pr : dm} (h : ps[j]? = some pr) : pr.q.all.count a ≤ jQ ps a := by
 unfold jQ
 exact od Loc.all _ pr.q (List.mem_map.2 ⟨pr, List.mem_of_getElem? h, rfl⟩)
theorem SV.RY (hs : SV p N x) (i0 : 0 ≤ i) (i1 : i < x.ps.length) : ((ay x i).q.dO x.gl).2.1.length ≤ x.w.gs.length := hs.DG fun a => by
 have h1 := Fa (ay x i).q x.gl a
 have h2 := RX (a := a) (mz i0 i1)
 unfold jR
 omega
theorem Pn (hs : SV p N x) (hv : HV Rm x) (Wj : x.w.gs.length ≤ GG) (k1 : k < x.ms.length) (hk : (ax x (k : Int)).p ≠ -1) (Pk : (ax x (k : Int)).g = -1) (hS : x.c.S = (S : Int)) {e : Ev} (hf : x.find (k : Int) = (y, .ev e)) :
  (0 ≤ g → Ll Rm GG x g m n u → oe Rm GG S y g k m n u) ∧ HV Rm y := by
 have hmk := gD (x := x) (m := (k : Int)) (by omega) (by omega)
 rw [Int.toNat_natCast] at hmk
 have Ah := hs.mv hmk
 have hr : 0 ≤ (ax x (k : Int)).p ∧ (ax x (k : Int)).p < x.ps.length ∧ 0 ≤ (ax x (k : Int)).left := by
  rcases Ah with e | e
  ·exact absurd e.1 hk
  ·omega
 obtain ⟨i0, i1, l0⟩ := hr
 have WJ : ∀ {mc : va} {c : Nat}, x.ms[c]? = some mc → mc.p ≠ -1 → c ≠ k → mc.p.toNat ≠ (ax x (k : Int)).p.toNat := fun h1 hp hc => hs.other k1 hk h1 hp hc
 have jE := mz i0 i1
 have Th := List.mem_of_getElem? jE
 have ht := (hs.dO _ Th).1
 have hroom := hv.room _ Th
 have WK := hs.room _ Th
 have Xf := hs.RY i0 i1
 have hcP := hs.cP
 unfold Sc.find at hf
 dsimp only at hf
 generalize hi : (ax x (k : Int)).p = i at *
 split at hf
 ·
  rename_i hn
  simp only [Prod.mk.injEq] at hf
  obtain ⟨hf, _⟩ := hf
  have eg : (ay x i).q.get = ({ (ay x i).q with next := -1 }, (ay x i).q.next) := by unfold Loc.get; rw [if_pos hn.2]
  rw [eg] at hf
  dsimp only at hf
  have Lm : ∀ c, c ≠ k → y.ms[c]? = x.ms[c]? := fun c hc => by rw [← hf]; show (x.ms.set (k : Int).toNat _)[c]? = _; rw [Int.toNat_natCast, kf hc]
  have RV : y.ms[k]? = some ⟨i, (ay x i).q.next, (ax x (k : Int)).left⟩ := by rw [← hf]; show (x.ms.set (k : Int).toNat _)[k]? = _; rw [Int.toNat_natCast, List.getElem?_set_self k1]
  have Pm : y.gl = x.gl := by rw [← hf]; rfl
  have ypi : ay y i = { ay x i with q := { (ay x i).q with next := -1 } } := by rw [← hf]; exact bH (by omega)
  have RW : ∀ j : Int, j.toNat ≠ i.toNat → ay y j = ay x j := fun j hj => by rw [← hf]; exact getD_set_ne hj
  refine ⟨fun h0 h => ?_, ⟨fun j hj => ?_, fun pr hp => ?_, fun mc hm => ?_⟩⟩
  ·obtain ⟨mc, h1, h2⟩ := h
   by_cases e : m = k
   ·subst e
    rw [hmk] at h1
    obtain rfl := Option.some.inj h1
    rcases h2 with h2 | ⟨h2, h3, h4⟩ | ⟨h2, _⟩
    ·omega
    ·rw [hi] at h4
     have hu : uM (ax x (m : Int)) = 2 * (ax x (m : Int)).left.toNat + 1 := by unfold uM; rw [if_pos Pk]
     rcases h4 with ⟨h4, _⟩ | h4
     ·exact .inr ⟨n, u - 1, .inr ⟨Nat.le_refl _, by omega⟩, _, RV, .inl h4⟩
     ·refine .inr ⟨n, u - 1, .inr ⟨Nat.le_refl _, by omega⟩, _, RV, .inr (.inl ⟨by dsimp only; omega, ?_, ?_⟩)⟩
      ·unfold uM; dsimp only; rw [if_neg hn.2]; omega
      ·dsimp only
       rw [ypi, Pm]
       exact .inr h4
    ·have := h2 _ (List.mem_of_getElem? hmk); omega
   ·rcases h2 with h2 | ⟨h2, h3, h4⟩ | ⟨h2, _⟩
    ·exact .inl ⟨Ne.symm e, mc, by rw [Lm m e]; exact h1, .inl h2⟩
    ·refine .inl ⟨Ne.symm e, mc, by rw [Lm m e]; exact h1, .inr (.inl ⟨h2, h3, ?_⟩)⟩
     rw [RW _ (WJ h1 h2 e), Pm]
     exact h4
    ·have := h2 _ (List.mem_of_getElem? hmk); omega
  ·have hj' : j < x.ps.length := by rw [← hf] at hj; simpa [Sc.bT, Sc.gZ] using hj
   by_cases e : j = i.toNat
   ·exact .inr ⟨k, _, RV, by dsimp only; omega⟩
   ·rcases hv.hold j hj' with hh | ⟨c, mc, h1, h2⟩
    ·rw [RW _ (by omega)]; exact .inl hh
    ·have hc : c ≠ k := by
      rintro rfl
      rw [hmk] at h1
      obtain rfl := Option.some.inj h1
      omega
     exact .inr ⟨c, mc, by rw [Lm c hc]; exact h1, h2⟩
  ·have xm : pr ∈ x.ps.set i.toNat { ay x i with q := { (ay x i).q with next := -1 } } := by rw [← hf] at hp; exact hp
   rcases List.mem_or_eq_of_mem_set xm with xm | rfl
   ·exact hv.room pr xm
   ·exact hroom
  ·have hm' : mc ∈ x.ms.set (k : Int).toNat ⟨i, (ay x i).q.next, (ax x (k : Int)).left⟩ := by rw [← hf] at hm; exact hm
   have ec : y.c = x.c := by rw [← hf]; rfl
   rw [ec]
   rcases List.mem_or_eq_of_mem_set hm' with hm' | rfl
   ·exact hv.left mc hm'
   ·exact hv.left (ax x (k : Int)) (List.mem_of_getElem? hmk)
 ·have hown : Sc.own x i = ({ x with ps := x.ps.set i.toNat { ay x i with q := (gf (ay x i).q (ay x i).turns x.gl).1 }, gl := (gf (ay x i).q (ay x i).turns x.gl).2.1 }, (gf (ay x i).q (ay x i).turns x.gl).2.2.1, (gf (ay x i).q (ay x i).turns x.gl).2.2.2) := rfl
  rw [hown] at hf
  have olv : ∀ {n}, 0 ≤ g → Lv Rm GG (ay x i).q x.gl (ay x i).turns g n → _ := fun h0 hh => WG hh h0 ht hroom (Nat.le_trans Xf Wj)
  have ono := Pd (q := (ay x i).q) (t := (ay x i).turns) (gl := x.gl)
  have oro := Pe (q := (ay x i).q) (t := (ay x i).turns) (gl := x.gl)
  have ogl : ∀ {j}, x.gl[j]? = some g → _ := fun hh => WI (q := (ay x i).q) (t := (ay x i).turns) hh
  have osv := Jp (t := (ay x i).turns) (hs.O1 Th) WK hs.Tg
  generalize gf (ay x i).q (ay x i).turns x.gl = r at *
  obtain ⟨q1, g1, v1, has⟩ := r
  dsimp only at hf olv ono oro ogl osv
  obtain ⟨_, _, o3, o4⟩ := osv
  have gi : ∀ b : dm, (x.ps.set i.toNat b).getD i.toNat cX = b := fun b => bH (by omega)
  have gj : ∀ (b : dm) (j : Nat), j ≠ i.toNat → (x.ps.set i.toNat b).getD j cX = x.ps.getD j cX := fun b j hj => getD_set_ne hj
  have S7 : ∀ j : Nat, ((x.ps.set i.toNat { ay x i with q := q1 }).getD j cX).turns = (x.ps.getD j cX).turns := fun j => by
   by_cases e : j = i.toNat
   ·subst e; rw [gi]; rfl
   ·rw [gj _ j e]
  have wP : ∀ j : Nat, ((x.ps.set i.toNat { ay x i with q := q1 }).getD j cX).eV = (x.ps.getD j cX).eV := fun j => by
   by_cases e : j = i.toNat
   ·subst e; rw [gi]; rfl
   ·rw [gj _ j e]
  have xd : ∀ pr ∈ x.ps.set i.toNat { ay x i with q := q1 }, pr.q.room = Rm := fun pr hp => by
   rcases List.mem_or_eq_of_mem_set hp with hp | rfl
   ·exact hv.room pr hp
   ·exact oro.trans hroom
  have Bo : ∀ j : Nat, j ≠ i.toNat → (x.ps.getD j cX).q.next = -1 → (x.ps.getD j cX).q.l = [] → ((x.ps.set i.toNat { ay x i with q := q1 }).getD j cX).q.next = -1 ∧ ((x.ps.set i.toNat { ay x i with q := q1 }).getD j cX).q.l = [] := fun j hj a b => by
   rw [gj _ j hj]; exact ⟨a, b⟩
  have Po : has = false → 0 ≤ g → (∀ n, ¬ Lv Rm GG (ay x i).q x.gl (ay x i).turns g n) ∧ ∀ j : Int, Lv Rm GG (ay x j).q x.gl (ay x j).turns g n → (∀ Dx, Lv Rm GG (ay x j).q Dx (ay x j).turns g n) := fun e h0 => by
   have n1 : ∀ n, ¬ Lv Rm GG (ay x i).q x.gl (ay x i).turns g n := fun n hh => by
    have := (olv h0 hh).1
    rw [e] at this; cases this
   refine ⟨n1, fun j hh Dx => ?_⟩
   rcases hh with hh | hh | ⟨c, c1, c2⟩
   ·exact .inl hh
   ·exact .inr (.inl hh)
   ·exact absurd (.inr (.inr ⟨c, c1, Nat.le_refl _⟩)) (n1 _)
  split at hf
  ·rename_i hh
   have nb := Po hh.1
   obtain ⟨on1, Xq, _, on4⟩ := ono hh.1
   split at hf
   ·simp at hf
   ·rename_i d2 w jO
    have PU := eH hs.k jO
    have Tz : gY x.c.P = x.c.P := by unfold gY; rw [if_neg (by omega)]
    rw [Tz] at PU
    try dsimp only at hf
    split at hf
    ·simp only [Prod.mk.injEq] at hf
     rw [← hf.1]
     refine ⟨fun h0 h => Al hs k1 hi i0 i1 (by simp) Pk h0 h S7 (fun j j0 j1 jne hj => ?_) ((nb h0).1 n), wH hv hs k1 hi i0 i1 (by simp) xd wP Bo (by omega) (fun _ => by rw [gi]; exact ⟨on1, Xq⟩)⟩
     rw [gj _ _ (by omega)]
     exact (nb h0).2 j hj _
    ·rename_i ZS
     have hne : w.toNat ≠ i.toNat := by omega
     have epi : ay { x with ps := x.ps.set i.toNat { ay x i with q := q1 }, gl := g1, d := d2 } i = { ay x i with q := q1 } := bH (by omega)
     have epv : ay { x with ps := x.ps.set i.toNat { ay x i with q := q1 }, gl := g1, d := d2 } w = ay x w := getD_set_ne hne
     rw [epi, epv] at hf
     dsimp only at hf
     have HN := mz (x := x) (i := w) PU.1 (by omega)
     have Ti := List.mem_of_getElem? HN
     have HW := hs.room _ Ti
     have hvR := hv.room _ Ti
     have hst := Lj (q := q1) (f := (ay x w).q) Xq (oro.trans hroom) (by have := HW.1; omega) on1
     have hsp := Ch (x := q1) (hs.O1 Ti) (by rw [Xq]; simp)
     generalize q1.c9 (ay x w).q = s at hst hf hsp
     obtain ⟨s1, s2, s3⟩ := s
     dsimp only at hf hsp
     have hz : Sc.bT (Sc.bT { x with ps := x.ps.set i.toNat { ay x i with q := q1 }, gl := g1, d := d2 } i { ay x i with q := s1 }) w { ay x w with q := s2 } = { x with ps := (x.ps.set i.toNat { ay x i with q := s1 }).set w.toNat { ay x w with q := s2 }, gl := g1, d := d2 } := by
      unfold Sc.bT
      dsimp only
      rw [List.set_set]
     rw [hz] at hf
     simp only [Prod.mk.injEq] at hf
     rw [← hf.1]
     have zi : ((x.ps.set i.toNat { ay x i with q := s1 }).set w.toNat { ay x w with q := s2 }).getD i.toNat cX = { ay x i with q := s1 } := by rw [getD_set_ne (Ne.symm hne)]; exact gi _
     have zw : ((x.ps.set i.toNat { ay x i with q := s1 }).set w.toNat { ay x w with q := s2 }).getD w.toNat cX = { ay x w with q := s2 } := bH (by simp; omega)
     have zj : ∀ j : Nat, j ≠ i.toNat → j ≠ w.toNat → ((x.ps.set i.toNat { ay x i with q := s1 }).set w.toNat { ay x w with q := s2 }).getD j cX = x.ps.getD j cX := fun j a b => by rw [getD_set_ne b]; exact gj _ j a
     have S8 : ∀ j : Nat, (((x.ps.set i.toNat { ay x i with q := s1 }).set w.toNat { ay x w with q := s2 }).getD j cX).turns = (x.ps.getD j cX).turns := fun j => by
      by_cases e : j = i.toNat
      ·subst e; rw [zi]; rfl
      ·by_cases e2 : j = w.toNat
       ·subst e2; rw [zw]; rfl
       ·rw [zj j e e2]
     have Lx : ∀ j : Nat, (((x.ps.set i.toNat { ay x i with q := s1 }).set w.toNat { ay x w with q := s2 }).getD j cX).eV = (x.ps.getD j cX).eV := fun j => by
      by_cases e : j = i.toNat
      ·subst e; rw [zi]; rfl
      ·by_cases e2 : j = w.toNat
       ·subst e2; rw [zw]; rfl
       ·rw [zj j e e2]
     rcases hst with ⟨fe, st⟩ | ⟨v0, out, rest, fe, st⟩
     ·
      simp only [Prod.mk.injEq] at st
      obtain ⟨rfl, rfl, rfl⟩ := st
      have Ox : ∀ pr ∈ (x.ps.set i.toNat { ay x i with q := s1 }).set w.toNat { ay x w with q := { (ay x w).q with next := -1 } }, pr.q.room = Rm := fun pr hp => by
       rcases List.mem_or_eq_of_mem_set hp with hp | rfl
       ·exact xd pr hp
       ·exact hvR
      have tC : ∀ j : Nat, j ≠ i.toNat → (x.ps.getD j cX).q.next = -1 → (x.ps.getD j cX).q.l = [] → (((x.ps.set i.toNat { ay x i with q := s1 }).set w.toNat { ay x w with q := { (ay x w).q with next := -1 } }).getD j cX).q.next = -1 ∧ (((x.ps.set i.toNat { ay x i with q := s1 }).set w.toNat { ay x w with q := { (ay x w).q with next := -1 } }).getD j cX).q.l = [] := fun j hj a b => by
       by_cases e2 : j = w.toNat
       ·subst e2; rw [zw]; exact ⟨rfl, fe⟩
       ·rw [zj j hj e2]; exact ⟨a, b⟩
      have hsh : fS (ay x w).q (ay x w).q.next = ((ay x w).q.next != -1) := by unfold fS; rw [fe]; simp
      rw [hsh]
      by_cases ZT : (ay x w).q.next = -1
      ·rw [show ((ay x w).q.next != -1) = false by rw [ZT]; rfl]
       refine ⟨fun h0 h => Al hs k1 hi i0 i1 (by simp) Pk h0 h S8 (fun j j0 j1 jne hj => ?_) ((nb h0).1 n), wH hv hs k1 hi i0 i1 (by simp) Ox Lx tC (by omega) (fun _ => by rw [zi]; exact ⟨on1, Xq⟩)⟩
       have Gm := (nb h0).2 j hj g1
       by_cases e2 : j.toNat = w.toNat
       ·have ej : j = w := by omega
        subst ej
        rw [zw]
        dsimp only
        rw [show ({ (ay x j).q with next := -1 } : Loc) = (ay x j).q by rw [← ZT]]
        exact Gm
       ·rw [zj _ (by omega) e2]
        exact Gm
      ·rw [show ((ay x w).q.next != -1) = true by simpa using ZT]
       have hnx0 : 0 ≤ (ay x w).q.next := by have := (hs.O1 Ti).1; omega
       refine ⟨fun h0 h => DH hs k1 hi i0 i1 hS (by simp) hnx0 Pk h0 h S8 (fun j j0 j1 jne hj => ?_) (fun hj => absurd hj ((nb h0).1 n)), wH hv hs k1 hi i0 i1 (by simp) Ox Lx tC (by omega) (fun e => by cases e)⟩
       by_cases e2 : j.toNat = w.toNat
       ·have ej : j = w := by omega
        subst ej
        rcases hj with ⟨hj, _⟩ | ⟨c, c1, _⟩ | ⟨c, c1, _⟩
        ·exact .inr (.inl hj)
        ·rw [fe] at c1; simp at c1
        ·exact absurd (.inr (.inr ⟨c, c1, Nat.le_refl _⟩)) ((nb h0).1 _)
       ·rw [zj _ (by omega) e2]
        exact .inl ((nb h0).2 j hj g1)
     ·simp only [Prod.mk.injEq] at st
      obtain ⟨rfl, rfl, rfl⟩ := st
      have Ox : ∀ pr ∈ (x.ps.set i.toNat { ay x i with q := { q1 with l := out } }).set w.toNat { ay x w with q := { (ay x w).q with l := rest } }, pr.q.room = Rm := fun pr hp => by
       rcases List.mem_or_eq_of_mem_set hp with hp | rfl
       ·rcases List.mem_or_eq_of_mem_set hp with hp | rfl
        ·exact hv.room pr hp
        ·exact oro.trans hroom
       ·exact hvR
      have tC : ∀ j : Nat, j ≠ i.toNat → (x.ps.getD j cX).q.next = -1 → (x.ps.getD j cX).q.l = [] → (((x.ps.set i.toNat { ay x i with q := { q1 with l := out } }).set w.toNat { ay x w with q := { (ay x w).q with l := rest } }).getD j cX).q.next = -1 ∧ (((x.ps.set i.toNat { ay x i with q := { q1 with l := out } }).set w.toNat { ay x w with q := { (ay x w).q with l := rest } }).getD j cX).q.l = [] := fun j hj a b => by
       by_cases e2 : j = w.toNat
       ·subst e2
        have b' : (ay x w).q.l = [] := b
        rw [fe] at b'; cases b'
       ·rw [zj j hj e2]; exact ⟨a, b⟩
      have hsh : fS (ay x w).q s3 = true := by unfold fS; rw [fe]; simp
      rw [hsh]
      have hs3 : 0 ≤ s3 := by
       rcases hsp with ⟨e, _⟩ | ⟨_, e⟩
       ·rw [fe] at e; cases e
       ·exact e
      refine ⟨fun h0 h => DH hs k1 hi i0 i1 hS (by simp) hs3 Pk h0 h S8 (fun j j0 j1 jne hj => ?_) (fun hj => absurd hj ((nb h0).1 n)), wH hv hs k1 hi i0 i1 (by simp) Ox Lx tC (by omega) (fun e => by cases e)⟩
      by_cases e2 : j.toNat = w.toNat
      ·have ej : j = w := by omega
       subst ej
       rw [zw, zi]
       dsimp only
       rcases hj with hj | ⟨c, c1, c2⟩ | ⟨c, c1, _⟩
       ·exact .inl (.inl hj)
       ·rw [fe] at c1
        cases c with
        | zero => exact .inr (.inl (by simpa using c1))
        | succ c =>
         rw [List.getElem?_cons_succ] at c1
         by_cases hc : c < out.length
         ·rw [List.getElem?_append_left hc] at c1
          have h7 := DE ((ay x i).turns + 1)
          exact .inr (.inr ⟨2 * c + 1 + (7 * GG + 7), by omega, .inr (.inl ⟨c, c1, by omega⟩)⟩)
         ·rw [List.getElem?_append_right (by omega)] at c1
          exact .inl (.inr (.inl ⟨c - out.length, c1, by omega⟩))
       ·exact absurd (.inr (.inr ⟨c, c1, Nat.le_refl _⟩)) ((nb h0).1 _)
      ·rw [zj _ (by omega) e2]
       exact .inl ((nb h0).2 j hj g1)
  ·rename_i hh
   simp only [Prod.mk.injEq] at hf
   rw [← hf.1]
   cases has with
   | false =>
    have nb := Po rfl
    obtain ⟨on1, Xq, _, on4⟩ := ono rfl
    refine ⟨fun h0 h => Al (dz := x.d) hs k1 hi i0 i1 (by simp) Pk h0 h S7 (fun j j0 j1 jne hj => ?_) ((nb h0).1 n), wH (dz := x.d) hv hs k1 hi i0 i1 (by simp) xd wP Bo (by omega) (fun _ => by rw [gi]; exact ⟨on1, Xq⟩)⟩
    rw [gj _ _ (by omega)]
    exact (nb h0).2 j hj _
   | true =>
    refine ⟨fun h0 h => DH (dz := x.d) hs k1 hi i0 i1 hS (by simp) (o3 rfl) Pk h0 h S7 (fun j j0 j1 jne hj => ?_) (fun hj => ?_), wH (dz := x.d) hv hs k1 hi i0 i1 (by simp) xd wP Bo (by omega) (fun e => by cases e)⟩
    ·rw [gj _ _ (by omega)]
     rcases hj with hj | hj | ⟨c, c1, c2⟩
     ·exact .inl (.inl hj)
     ·exact .inl (.inr (.inl hj))
     ·rcases ogl c1 with e | ⟨c', e1, e2⟩
      ·exact .inr (.inl e)
      ·exact .inl (.inr (.inr ⟨c', e2, by omega⟩))
    ·rw [gi]
     exact (olv h0 hj).2
end
section
variable {p : b6} {N Rm GG m n u k S : Nat} {x y z : Sc} {i g a kind v : Int}
theorem Jt : ∀ (l : List Int) (z : Sc), 0 ≤ (ax z a).p → (ax z a).p < z.ps.length →
  z.gl <+: (l.foldl (aE a) z).gl ∧ (∀ j : Nat, j ≠ (ax z a).p.toNat → (l.foldl (aE a) z).ps.getD j cX = z.ps.getD j cX) ∧
  (∀ Rm, (∀ pr ∈ z.ps, pr.q.room = Rm) → (∀ pr ∈ (l.foldl (aE a) z).ps, pr.q.room = Rm)) ∧
  (∀ (t g : Int) (Rm GG n : Nat), 0 ≤ g → (∀ pr ∈ z.ps, pr.q.room = Rm) → (l.foldl (aE a) z).gl.length ≤ GG → Lv Rm GG (ay z (ax z a).p).q z.gl t g n → Lv Rm GG (ay (l.foldl (aE a) z) (ax z a).p).q (l.foldl (aE a) z).gl t g n)
 | [], z, _, _ => ⟨List.prefix_refl _, fun _ _ => rfl, fun _ h => h, fun _ _ _ _ _ _ _ _ h => h⟩
 | r :: l, z, h0, h1 => by
  have jE := mz (x := z) h0 h1
  have hps : (aE a z r).ps.length = z.ps.length := by simp [aE, Sc.bT]
  have jF : ax (aE a z r) a = ax z a := rfl
  obtain ⟨a1, a2, a3, a4⟩ := Jt l (aE a z r) (by rw [jF]; exact h0) (by rw [jF, hps]; exact h1)
  obtain ⟨n1, n2, n3⟩ := HY (ay z (ax z a).p).q r z.gl
  have egl : (aE a z r).gl = ((ay z (ax z a).p).q.ready r z.gl).2.1 := rfl
  have eq : (ay (aE a z r) (ax z a).p).q = ((ay z (ax z a).p).q.ready r z.gl).1 := by
   show ((z.ps.set (ax z a).p.toNat _).getD (ax z a).p.toNat cX).q = _
   rw [bH (by omega)]
  have Z8 : ∀ Rm, (∀ pr ∈ z.ps, pr.q.room = Rm) → ∀ pr ∈ (aE a z r).ps, pr.q.room = Rm := fun Rm hr pr hp => by
   have xm : pr ∈ z.ps.set (ax z a).p.toNat { ay z (ax z a).p with q := ((ay z (ax z a).p).q.ready r z.gl).1 } := hp
   rcases List.mem_or_eq_of_mem_set xm with xm | rfl
   ·exact hr pr xm
   ·exact n2.trans (hr _ (List.mem_of_getElem? jE))
  rw [List.foldl_cons]
  refine ⟨?_, fun j hj => ?_, fun Rm hr => a3 Rm (Z8 Rm hr), fun t g Rm GG n g0 hr hG hl => ?_⟩
  ·exact (egl ▸ n3 : z.gl <+: (aE a z r).gl).trans a1
  ·rw [a2 j hj]
   show (z.ps.set (ax z a).p.toNat _).getD j cX = _
   exact getD_set_ne hj
  ·refine a4 t g Rm GG n g0 (Z8 Rm hr) hG ?_
   rw [jF, eq, egl]
   refine Pb hl g0 (hr _ (List.mem_of_getElem? jE)) ?_
   rw [← egl]
   exact Nat.le_trans a1.length_le hG
theorem H6 (hs : SV p N x) (hv : HV Rm x) (k1 : k < x.ms.length) (hk : (ax x (k : Int)).p ≠ -1) (Pk : 0 ≤ (ax x (k : Int)).g) {l : List Int} {w : Wd} {d : jB} {keep : Bool}
  (hy : (Sc.gP (l.foldl (aE (k : Int)) { x with w := w, d := d }) (k : Int) (ax x (k : Int)).g keep l).1 = y) (hG : y.gl.length ≤ GG) : (0 ≤ g → g ≠ (ax x (k : Int)).g → Ll Rm GG x g m n u → oe Rm GG S y g k m n u) ∧ HV Rm y := by
 have hmk := gD (x := x) (m := (k : Int)) (by omega) (by omega)
 rw [Int.toNat_natCast] at hmk
 have Ah := hs.mv hmk
 have hr : 0 ≤ (ax x (k : Int)).p ∧ (ax x (k : Int)).p < x.ps.length ∧ 1 ≤ (ax x (k : Int)).left := by
  rcases Ah with e | e
  ·exact absurd e.1 hk
  ·have := e.2.2.2.2.2 Pk; omega
 obtain ⟨i0, i1, l0⟩ := hr
 have WJ : ∀ {mc : va} {c : Nat}, x.ms[c]? = some mc → mc.p ≠ -1 → c ≠ k → mc.p.toNat ≠ (ax x (k : Int)).p.toNat := fun h1 hp hc => hs.other k1 hk h1 hp hc
 have f1 := fI (m := (k : Int)) l { x with w := w, d := d } i0 i1
 have f2 := Jt (a := (k : Int)) l { x with w := w, d := d } i0 i1
 have f3 := wG (m := (k : Int)) l { x with w := w, d := d } i0 i1
 have em : ax { x with w := w, d := d } (k : Int) = ax x (k : Int) := rfl
 have ep : ∀ j, ay { x with w := w, d := d } j = ay x j := fun _ => rfl
 rw [em] at f2
 simp only [ep] at f2
 have f3 : ∀ j : Nat, ((l.foldl (aE (k : Int)) { x with w := w, d := d }).ps.getD j cX).eV = (x.ps.getD j cX).eV ∧ ((l.foldl (aE (k : Int)) { x with w := w, d := d }).ps.getD j cX).turns = (x.ps.getD j cX).turns := by
  clear f3 f1 f2
  have : ∀ (l : List Int) (z : Sc), 0 ≤ (ax z (k : Int)).p → (ax z (k : Int)).p < z.ps.length → ∀ j : Nat, ((l.foldl (aE (k : Int)) z).ps.getD j cX).eV = (z.ps.getD j cX).eV ∧ ((l.foldl (aE (k : Int)) z).ps.getD j cX).turns = (z.ps.getD j cX).turns := by
   intro l
   induction l with
   | nil => exact fun z _ _ j => ⟨rfl, rfl⟩
   | cons r l ih =>
    intro z z0 z1 j
    have hps : (aE (k : Int) z r).ps.length = z.ps.length := by simp [aE, Sc.bT]
    have jF : ax (aE (k : Int) z r) (k : Int) = ax z (k : Int) := rfl
    obtain ⟨b1, b2⟩ := ih (aE (k : Int) z r) (by rw [jF]; exact z0) (by rw [jF, hps]; exact z1) j
    rw [List.foldl_cons, b1, b2]
    show ((z.ps.set (ax z (k : Int)).p.toNat _).getD j cX).eV = _ ∧ ((z.ps.set (ax z (k : Int)).p.toNat _).getD j cX).turns = _
    by_cases e : j = (ax z (k : Int)).p.toNat
    ·subst e
     rw [bH (by omega)]
     exact ⟨rfl, rfl⟩
    ·rw [getD_set_ne e]
     exact ⟨rfl, rfl⟩
  exact this l { x with w := w, d := d } i0 i1
 generalize List.foldl (aE (k : Int)) { x with w := w, d := d } l = z at *
 obtain ⟨z1, z2, z3, z4, z5, z6, _⟩ := f1
 obtain ⟨b1, b2, b3, b4⟩ := f2
 try dsimp only at z1 z2 b1 b2 b3 b4
 have emz : ax z (k : Int) = ax x (k : Int) := by unfold ax; rw [z1]
 have all : ∃ lY, y.c = x.c ∧ lY.left ≤ (ax x (k : Int)).left ∧ y.ms = x.ms.set k lY ∧ lY.p = (ax x (k : Int)).p ∧ uM lY + 1 ≤ uM (ax x (k : Int)) ∧ y.ps = z.ps ∧ z.gl <+: y.gl := by
  have hu : uM (ax x (k : Int)) = 2 * (ax x (k : Int)).left.toNat := by unfold uM; rw [if_neg (by omega)]
  rw [hu]
  unfold Sc.gP at hy
  rw [emz] at hy
  split at hy
  ·refine ⟨{ ax x (k : Int) with left := (ax x (k : Int)).left - 1 }, by rw [← hy]; exact z5, by dsimp only; omega, ?_, rfl, ?_, ?_, ?_⟩
   ·rw [← hy]; show z.ms.set (k : Int).toNat _ = _; rw [z1, Int.toNat_natCast]
   ·unfold uM; dsimp only; rw [if_neg (by omega)]; omega
   ·rw [← hy]; rfl
   ·rw [← hy]; exact List.prefix_refl _
  ·refine ⟨{ ax x (k : Int) with left := (ax x (k : Int)).left - 1, g := -1 }, by rw [← hy]; exact z5, by dsimp only; omega, ?_, rfl, ?_, ?_, ?_⟩
   ·rw [← hy]; show z.ms.set (k : Int).toNat _ = _; rw [z1, Int.toNat_natCast]
   ·unfold uM; dsimp only; rw [if_pos rfl]; omega
   ·rw [← hy]; rfl
   ·rw [← hy]
    dsimp only
    split
    ·exact List.prefix_append _ _
    ·exact List.prefix_refl _
 obtain ⟨lY, yc, ml, Lm, mp, mu, yps, Pm⟩ := all
 have RV : y.ms[k]? = some lY := by rw [Lm, List.getElem?_set_self k1]
 have ymc : ∀ c, c ≠ k → y.ms[c]? = x.ms[c]? := fun c hc => by rw [Lm, kf hc]
 have RW : ∀ j : Int, j.toNat ≠ (ax x (k : Int)).p.toNat → ay y j = ay x j := fun j hj => by
  show y.ps.getD j.toNat cX = _
  rw [yps, b2 _ hj]; rfl
 have ypt : ∀ j : Int, (ay y j).turns = (ay x j).turns := fun j => by
  show (y.ps.getD j.toNat cX).turns = _
  rw [yps, (f3 _).2]; rfl
 have hroom : ∀ pr ∈ x.ps, pr.q.room = Rm := hv.room
 refine ⟨fun h0 hgk h => ?_, ⟨fun j hj => ?_, fun pr hp => ?_, fun mc hm => ?_⟩⟩
 ·obtain ⟨mc, h1, h2⟩ := h
  by_cases e : m = k
  ·subst e
   rw [hmk] at h1
   obtain rfl := Option.some.inj h1
   rcases h2 with h2 | ⟨h2, h3, h4⟩ | ⟨h2, _⟩
   ·exact absurd h2.symm hgk
   ·refine .inr ⟨n, u - 1, .inr ⟨Nat.le_refl _, by omega⟩, lY, RV, .inr (.inl ⟨by omega, by omega, ?_⟩)⟩
    rw [mp, ypt]
    have := b4 (ay x (ax x (m : Int)).p).turns g Rm GG n h0 hroom (Nat.le_trans Pm.length_le hG) h4
    have e2 : ay y (ax x (m : Int)).p = ay z (ax x (m : Int)).p := by unfold ay; rw [yps]
    rw [e2]
    exact HZ this Pm
   ·have := h2 _ (List.mem_of_getElem? hmk); omega
  ·rcases h2 with h2 | ⟨h2, h3, h4⟩ | ⟨h2, _⟩
   ·exact .inl ⟨Ne.symm e, mc, by rw [ymc m e]; exact h1, .inl h2⟩
   ·refine .inl ⟨Ne.symm e, mc, by rw [ymc m e]; exact h1, .inr (.inl ⟨h2, h3, ?_⟩)⟩
    rw [RW _ (WJ h1 h2 e)]
    exact HZ h4 (b1.trans Pm)
   ·have := h2 _ (List.mem_of_getElem? hmk); omega
 ·have hj' : j < x.ps.length := by rw [yps, z2] at hj; exact hj
  by_cases e : j = (ax x (k : Int)).p.toNat
  ·exact .inr ⟨k, lY, RV, by omega⟩
  ·rcases hv.hold j hj' with hh | ⟨c, mc, h1, h2⟩
   ·rw [RW _ (by omega)]; exact .inl hh
   ·have hc : c ≠ k := by
     rintro rfl
     rw [hmk] at h1
     obtain rfl := Option.some.inj h1
     omega
    exact .inr ⟨c, mc, by rw [ymc c hc]; exact h1, h2⟩
 ·rw [yps] at hp
  exact b3 Rm hroom pr hp
 ·rw [Lm] at hm
  rw [yc]
  rcases List.mem_or_eq_of_mem_set hm with hm | rfl
  ·exact hv.left mc hm
  ·exact Int.le_trans ml (hv.left _ (List.mem_of_getElem? hmk))
theorem run_shape {e : Ev} {d0 : jB} (h : Sc.run p { x with d := d0 } a = some (z, .ev e)) : ∃ (l : List Int) (w : Wd) (d : jB) (keep : Bool), (Sc.gP (l.foldl (aE a) { x with w := w, d := d }) a (ax x a).g keep l).1 = z ∧ e.kind = 7 ∧ e.g = (ax x a).g := by
 have on : ∀ {d' : jB} {w : Wd} {rest : Bool}, fy { x with d := d0 } a (ax x a).g d' w rest = some (z, .ev e) → _ := fun {d' w rest} hh => by
  unfold fy at hh
  split at hh
  ·simp only [Option.some.injEq, Prod.mk.injEq, g6.ev.injEq] at hh
   refine (⟨w.ready, w, d', hU w (ax x a).g rest, hh.1, ?_⟩ : ∃ (l : List Int) (w : Wd) (d : jB) (keep : Bool), (Sc.gP (l.foldl (aE a) { x with w := w, d := d }) a (ax x a).g keep l).1 = z ∧ e.kind = 7 ∧ e.g = (ax x a).g)
   rw [← hh.2]
   unfold Sc.gP
   split <;> exact ⟨rfl, rfl⟩
  ·cases hh
 unfold Sc.run at h
 have em : ax { x with d := d0 } a = ax x a := rfl
 rw [em] at h
 split at h
 ·split at h
  ·split at h
   ·cases h
   ·simp at h
   ·exact on h
   ·exact on h
  ·cases h
 ·cases h
theorem Pp (hs : SV p N x) (hv : HV Rm x) (Wj : x.w.gs.length ≤ GG) (hS : x.c.S = (S : Int)) {e : Ev} (hy : x.step p = some (y, .ev e)) (hst : x.status = 0) (hys : SV p (N + 1) y) (hyG : y.w.gs.length ≤ GG) :
  ∃ d' k, x.d.draw 1 (x.c.M + 1) = (d', .num k) ∧ 0 ≤ k ∧ k ≤ x.ms.length ∧ HV Rm y ∧ (∀ g m n u, 0 ≤ g → (e.kind = 7 → e.g ≠ g) → m < x.ms.length → Ll Rm GG x g m n u → oe Rm GG S y g k.toNat m n u) := by
 unfold Sc.step at hy
 split at hy
 ·rw [if_neg (by rw [hst]; decide)] at hy
  split at hy
  ·simp at hy
  ·rename_i d' k jO
   have PU := eH hs.k jO
   have hM := hs.cM
   have hM1 := hs.M1
   rw [show gY (x.c.M + 1) = x.c.M + 1 from by unfold gY; rw [if_neg (by omega)]] at PU
   refine ⟨d', k, jO, PU.1, by omega, ?_⟩
   have hsd : SV p (N + 1) { x with d := d' } := hs.draw (by
    have h1 := vj (k := 1) (n := x.c.M + 1) hs.k
    rw [jO] at h1
    have := hs.tk
    dsimp only at h1
    omega) (by have := lU (kind := 1) (n := x.c.M + 1) hs.k; rw [jO] at this; exact this)
   have ZL : HV Rm { x with d := d' } := ⟨hv.hold, hv.room, hv.left⟩
   have hin : ∀ (z : Sc) (g : Int) (pk m n u : Nat) (t : Int), oe Rm GG S z g pk m n u → oe Rm GG S { z with steps := t } g pk m n u := fun z g pk m n u t hh => hh
   have hih : ∀ (z : Sc) (t : Int), HV Rm z → HV Rm { z with steps := t } := fun z t hh => ⟨hh.hold, hh.room, hh.left⟩
   unfold Sc.act at hy
   split at hy
   ·rename_i hk
    split at hy
    ·simp only [Option.map_some, Option.some.injEq, ie, Prod.mk.injEq, g6.ev.injEq] at hy
     rw [← hy.1]
     refine ⟨hih _ _ (RU hv x.w.tick.ready x.w.tick d'), fun g m n u h0 _ hm hp => ?_⟩
     refine .inl ⟨?_, ?_⟩
     ·dsimp only at hk; omega
     ·exact Ph hp x.w.tick.ready x.w.tick d'
    ·simp at hy
   ·rename_i hkM
    have OZ : k.toNat < x.ms.length := by dsimp only at hkM; omega
    have hkk : ((k.toNat : Nat) : Int) = k := by omega
    split at hy
    ·rename_i hp
     simp only [Option.map_some, Option.some.injEq, ie, Prod.mk.injEq, g6.ev.injEq] at hy
     rw [← hy.1]
     have hb := fun g m n u => Pj (S := S) (GG := GG) (g := g) (m := m) (n := n) (u := u) (k := k.toNat) hsd ZL (x := { x with d := d' }) OZ (by rw [hkk]; exact hp)
     rw [hkk] at hb
     exact ⟨hih _ _ (hb 0 0 0 0).2, fun g m n u h0 _ hm xm => hin _ _ _ _ _ _ _ ((hb g m n u).1 h0 xm)⟩
    ·rename_i hp
     split at hy
     ·rename_i hg
      split at hy
      ·rename_i hfo
       generalize J5 : Sc.find { x with d := d' } k = r at hy
       obtain ⟨z, o⟩ := r
       cases o with
       | cV l => simp [ie] at hy
       | ev e2 =>
        simp only [Option.map_some, Option.some.injEq, ie, Prod.mk.injEq, g6.ev.injEq] at hy
        rw [← hy.1]
        have hb := fun g m n u => Pn (g := g) (m := m) (n := n) (u := u) (k := k.toNat) hsd ZL (x := { x with d := d' }) Wj OZ (by rw [hkk]; exact hp) (by rw [hkk]; exact hg) hS (by rw [hkk]; exact J5)
        exact ⟨hih _ _ (hb 0 0 0 0).2, fun g m n u h0 _ hm xm => hin _ _ _ _ _ _ _ ((hb g m n u).1 h0 xm)⟩
      ·simp at hy
     ·rename_i hg
      have KJ : 0 ≤ (ax x k).g := by
       have hmk := gD (x := x) (m := k) (by omega) (by omega)
       rcases hs.ms _ (List.mem_of_getElem? hmk) with e | e
       ·exact absurd e.2.1 hg
       ·have : (ax x k).g ≠ -1 := hg
        omega
      generalize Cz : Sc.run p { x with d := d' } k = r at hy
      cases r with
      | none => simp at hy
      | some r =>
       obtain ⟨z, o⟩ := r
       cases o with
       | cV l => simp [ie] at hy
       | ev e2 =>
        simp only [Option.map_some, Option.some.injEq, ie, Prod.mk.injEq, g6.ev.injEq] at hy
        have hzG : z.gl.length ≤ GG := by
         have h1 := hys.DG (l := y.gl) (fun a => by unfold jR; omega)
         rw [← hy.1] at h1 hyG
         exact Nat.le_trans h1 hyG
        obtain ⟨l, w, d2, keep, q1, q2⟩ := run_shape Cz
        rw [← hy.1]
        have hb := fun g m n u => H6 (S := S) (GG := GG) (g := g) (m := m) (n := n) (u := u) (k := k.toNat) hsd ZL (x := { x with d := d' }) OZ (by rw [hkk]; exact hp) (by rw [hkk]; exact KJ) (l := l) (w := w) (d := d2) (keep := keep) (y := z) (by rw [hkk]; exact q1) hzG
        refine ⟨hih _ _ (hb 0 0 0 0).2, fun g m n u h0 hne hm xm => hin _ _ _ _ _ _ _ ((hb g m n u).1 h0 (fun e3 => ?_) xm)⟩
        rw [← hy.2] at hne
        rw [hkk] at e3
        exact hne q2.1 (q2.2.trans e3.symm)
 ·simp at hy
end
section
variable {p : b6} {N Rm GG m n u k S : Nat} {x y z : Sc} {i g a kind v : Int}
theorem wI {m : Nat} : ∀ (q p : List (Int × Int)), (∀ r ∈ q, 0 ≤ r.2) → iL (fW m p) m ≤ iL (fW m (p ++ q)) m
 | [], p, _ => by rw [List.append_nil]; exact Int.le_refl _
 | r :: q, p, h => by
  have e : p ++ r :: q = (p ++ [r]) ++ q := by simp
  rw [e]
  refine Int.le_trans ?_ (wI q (p ++ [r]) (fun r hr => h r (List.mem_cons_of_mem _ hr)))
  rw [qF]
  by_cases h1 : r.1 = 1
  ·exact (J7 (uo m p) h1 (h r (by simp))).1
  ·unfold dJ; rw [if_neg h1]; exact Int.le_refl _
theorem xn {m : Nat} : ∀ (q p : List (Int × Int)), (∀ r ∈ q, r.1 ≠ 1) → fW m (p ++ q) = fW m p
 | [], p, _ => by rw [List.append_nil]
 | r :: q, p, h => by
  have e : p ++ r :: q = (p ++ [r]) ++ q := by simp
  rw [e, xn q (p ++ [r]) (fun r hr => h r (List.mem_cons_of_mem _ hr)), qF]
  unfold dJ
  rw [if_neg (h r (by simp))]
def PW (rest : List (Int × Int)) : Prop := ∀ r ∈ rest, r.1 ≠ 1 ∧ 0 ≤ r.2
theorem Am (hk : x.d.k.Ok) : ∃ rest, (x.find a).1.d.taken = x.d.taken ++ rest ∧ PW rest := by
 unfold Sc.find
 dsimp only
 split
 ·exact ⟨[], by simp [Sc.gZ, Sc.bT], by intro r hr; cases hr⟩
 ·have hd : (x.own (ax x a).p).1.d = x.d := rfl
  rw [hd]
  split
  ·split
   ·rename_i d' l jO
    exact ⟨[], by rw [(qw jO).1]; simp, by intro r hr; cases hr⟩
   ·rename_i d' v jO
    have hn := eH hk jO
    refine ⟨[(2, v)], ?_, ?_⟩
    ·rw [← hn.2.2]
     try dsimp only
     split <;> rw [Cr] <;> rfl
    ·intro r hr
     rw [List.mem_singleton] at hr
     subst hr
     exact ⟨by dsimp only; omega, hn.1⟩
  ·exact ⟨[], by rw [Cr]; simp [hd], by intro r hr; cases hr⟩
theorem CA (hk : x.d.k.Ok) {o : g6} (he : x.run p a = some (y, o)) : ∃ rest, y.d.taken = x.d.taken ++ rest ∧ PW rest := by
 have hq : ∃ rest, (dh x.d (asks p { x.w with ready := [] } (ax x a).g)).1.taken = x.d.taken ++ rest ∧ PW rest := by
  generalize jN : asks p { x.w with ready := [] } (ax x a).g = q
  cases q with
  | none => exact ⟨[], by simp [dh], by intro r hr; cases hr⟩
  | some q =>
   obtain ⟨kd, n⟩ := q
   have hkd : kd = 3 ∨ kd = 4 := by
    unfold asks at jN
    split at jN
    ·split at jN
     ·cases jN
     ·split at jN
      ·cases jN; exact .inr rfl
      ·split at jN
       ·split at jN
        ·cases jN
        ·cases jN; exact .inl rfl
       ·cases jN
    ·cases jN
   unfold dh
   dsimp only
   generalize jO : x.d.draw kd n = r
   obtain ⟨d', o⟩ := r
   cases o with
   | cV l => exact ⟨[], by rw [(qw jO).1]; simp, by intro r hr; cases hr⟩
   | num v =>
    have hn := eH hk jO
    refine ⟨[(kd, v)], hn.2.2, ?_⟩
    intro r hr
    rw [List.mem_singleton] at hr
    subst hr
    exact ⟨by dsimp only; omega, hn.1⟩
 unfold Sc.run at he
 split at he
 ·rename_i hpre
  obtain ⟨m0, m1, i0, i1, _⟩ := hpre
  split at he
  ·split at he
   ·cases he
   ·simp only [Option.some.injEq, Prod.mk.injEq] at he
    rw [← he.1]
    exact hq
   ·rw [Jg he i0 i1]; exact hq
   ·rw [Jg he i0 i1]; exact hq
  ·cases he
 ·cases he
theorem tJ (hk : x.d.k.Ok) (hst : x.status = 0) {e : Ev} (hy : x.step p = some (y, .ev e)) {d' : jB} {k : Int} (hd : x.d.draw 1 (x.c.M + 1) = (d', .num k)) : ∃ rest, y.d.taken = x.d.taken ++ (1, k) :: rest ∧ PW rest ∧ 0 ≤ k := by
 have hn := eH hk hd
 have hk' : d'.k.Ok := by have := lU (kind := 1) (n := x.c.M + 1) hk; rw [hd] at this; exact this
 have fin : ∀ rest, y.d.taken = d'.taken ++ rest → PW rest → ∃ rest, y.d.taken = x.d.taken ++ (1, k) :: rest ∧ PW rest ∧ 0 ≤ k := fun rest h1 h2 => ⟨rest, by rw [h1, hn.2.2]; simp, h2, hn.1⟩
 unfold Sc.step at hy
 split at hy
 ·rw [if_neg (by rw [hst]; decide), hd] at hy
  dsimp only at hy
  unfold Sc.act at hy
  have no : PW [] := by intro r hr; cases hr
  split at hy
  ·split at hy
   ·simp only [Option.map_some, Option.some.injEq, ie, Prod.mk.injEq] at hy
    refine fin [] ?_ no
    rw [← hy.1, List.append_nil]
    rfl
   ·cases hy
  ·split at hy
   ·simp only [Option.map_some, Option.some.injEq, ie, Prod.mk.injEq] at hy
    refine fin [] ?_ no
    rw [← hy.1, List.append_nil]
    unfold Sc.hold
    dsimp only
    split <;> rfl
   ·split at hy
    ·split at hy
     ·obtain ⟨rest, h1, h2⟩ := Am (x := { x with d := d' }) (a := k) hk'
      refine fin rest ?_ h2
      rw [← h1]
      simp only [Option.map_some, Option.some.injEq] at hy
      generalize Sc.find { x with d := d' } k = r at hy
      obtain ⟨z, o⟩ := r
      cases o <;> simp only [ie, Prod.mk.injEq] at hy <;> rw [← hy.1]
     ·cases hy
    ·generalize Cz : Sc.run p { x with d := d' } k = r at hy
     cases r with
     | none => cases hy
     | some r =>
      obtain ⟨z, o⟩ := r
      obtain ⟨rest, h1, h2⟩ := CA (x := { x with d := d' }) hk' Cz
      refine fin rest ?_ h2
      rw [← h1]
      simp only [Option.map_some, Option.some.injEq] at hy
      cases o <;> simp only [ie, Prod.mk.injEq] at hy <;> rw [← hy.1]
 ·cases hy
theorem Ln {d' : jB} (hk' : d'.k.Ok) {o : g6} (hy : Sc.act p { x with d := d' } a = some (y, o)) : ∃ rest, y.d.taken = d'.taken ++ rest ∧ PW rest := by
 have no : PW [] := by intro r hr; cases hr
 unfold Sc.act at hy
 split at hy
 ·split at hy
  ·simp only [Option.some.injEq, Prod.mk.injEq] at hy
   exact ⟨[], by rw [← hy.1, List.append_nil]; rfl, no⟩
  ·cases hy
 ·split at hy
  ·simp only [Option.some.injEq, Prod.mk.injEq] at hy
   refine ⟨[], ?_, no⟩
   rw [← hy.1, List.append_nil]
   unfold Sc.hold
   dsimp only
   split <;> rfl
  ·split at hy
   ·split at hy
    ·obtain ⟨rest, h1, h2⟩ := Am (x := { x with d := d' }) (a := a) hk'
     simp only [Option.some.injEq] at hy
     rw [hy] at h1
     exact ⟨rest, h1, h2⟩
    ·cases hy
   ·exact CA (x := { x with d := d' }) hk' hy
theorem CB (hs : SV p N x) (hp : dn p) {l : List PanicEntry} (hst : x.status = 0) (hy : x.step p = some (y, .cV l)) : y.steps = x.steps ∧ y.w.gs = x.w.gs ∧ ∃ rest : List (Int × Int), y.d.taken = x.d.taken ++ rest ∧ ∀ r ∈ rest, 0 ≤ r.2 := by
 unfold Sc.step at hy
 split at hy
 ·rw [if_neg (by rw [hst]; decide)] at hy
  split at hy
  ·rename_i d' l' jO
   simp only [Option.some.injEq, Prod.mk.injEq] at hy
   rw [← hy.1]
   exact ⟨rfl, rfl, [], by rw [(qw jO).1]; simp, by intro r hr; cases hr⟩
  ·rename_i d' k jO
   have hn := eH hs.k jO
   have hk' : d'.k.Ok := by have := lU (kind := 1) (n := x.c.M + 1) hs.k; rw [jO] at this; exact this
   have hM := hs.cM
   have hM1 := hs.M1
   rw [show gY (x.c.M + 1) = x.c.M + 1 from by unfold gY; rw [if_neg (by omega)]] at hn
   generalize hac : Sc.act p { x with d := d' } k = r at hy
   cases r with
   | none => cases hy
   | some r =>
    obtain ⟨z, o⟩ := r
    simp only [Option.map_some, Option.some.injEq] at hy
    cases o with
    | ev e => cases hy
    | cV l2 =>
     simp only [ie, Prod.mk.injEq] at hy
     rw [← hy.1]
     obtain ⟨rest, t1, t2⟩ := Ln hk' hac
     have hT : ∃ rest : List (Int × Int), z.d.taken = x.d.taken ++ rest ∧ ∀ r ∈ rest, 0 ≤ r.2 := ⟨(1, k) :: rest, by rw [t1, hn.2.2]; simp, by
      intro r hr
      rcases List.mem_cons.1 hr with rfl | hr
      ·exact hn.1
      ·exact (t2 r hr).2⟩
     refine ⟨?_, ?_, hT⟩
     all_goals
      clear hT t1 t2
      unfold Sc.act at hac
      split at hac
      ·split at hac <;> cases hac
      ·split at hac
       ·cases hac
       ·split at hac
        ·split at hac
         ·simp only [Option.some.injEq] at hac
          unfold Sc.find at hac
          dsimp only at hac
          split at hac
          ·cases hac
          ·split at hac
           ·split at hac
            ·cases hac; rfl
            ·split at hac <;> cases hac
           ·cases hac
         ·cases hac
        ·rename_i hmp PV
         have KJ : 0 ≤ (ax x k).g := by
          have hmk := gD (x := x) (m := k) (by omega) (by dsimp only at *; omega)
          rcases hs.ms _ (List.mem_of_getElem? hmk) with e | e
          ·exact absurd e.2.1 PV
          ·have : (ax x k).g ≠ -1 := PV
           omega
         unfold Sc.run at hac
         have em : ax { x with d := d' } k = ax x k := rfl
         rw [em] at hac
         split at hac
         ·split at hac
          ·obtain ⟨r, rest, hex, hres⟩ := Af (d := (dh d' (asks p { x.w with ready := [] } (ax x k).g)).2) hs.w hp KJ (fun v kd n e1 e2 => by
            rw [e2] at e1
            unfold dh at e1
            dsimp only at e1
            generalize hq : d'.draw kd n = q at e1
            obtain ⟨d3, o3⟩ := q
            dsimp only at e1
            subst e1
            have := eH hk' hq
            have hb := DD hp e2
            rw [show gY n = n from by unfold gY; rw [if_neg (by omega)]] at this
            exact ⟨this.1, this.2.1⟩)
           dsimp only at hac
           rw [hex] at hac
           rcases hres with ⟨hres, _⟩ | ⟨l, e1, e3, _⟩
           ·cases r with
            | on y' => unfold fy at hac; dsimp only at hac; split at hac <;> cases hac
            | eD n y' => unfold fy at hac; dsimp only at hac; split at hac <;> cases hac
            | cV l y' => exact hres.elim
           ·subst e3
            cases hac; rfl
          ·cases hac
         ·cases hac
 ·cases hy
theorem CC {d' : jB} {o : g6} (hy : Sc.act p { x with d := d' } a = some (y, o)) : y.steps = x.steps ∧ y.c = x.c := by
 have fe : ∀ (z : Sc) (i kind g : Int) (t : Bool), (z.bg a i kind g t).1.steps = z.steps ∧ (z.bg a i kind g t).1.c = z.c := fun z i kind g t => by
  unfold Sc.bg; split <;> exact ⟨rfl, rfl⟩
 unfold Sc.act at hy
 split at hy
 ·split at hy
  ·cases hy; exact ⟨rfl, rfl⟩
  ·cases hy
 ·split at hy
  ·simp only [Option.some.injEq, Prod.mk.injEq] at hy
   rw [← hy.1]
   unfold Sc.hold
   dsimp only
   split <;> exact ⟨rfl, rfl⟩
  ·split at hy
   ·split at hy
    ·simp only [Option.some.injEq] at hy
     have hf : (Sc.find { x with d := d' } a).1.steps = x.steps ∧ (Sc.find { x with d := d' } a).1.c = x.c := by
      unfold Sc.find
      dsimp only
      split
      ·exact ⟨rfl, rfl⟩
      ·split
       ·split
        ·exact ⟨rfl, rfl⟩
        ·split <;> exact fe _ _ _ _ _
       ·exact fe _ _ _ _ _
     rw [hy] at hf
     exact hf
    ·cases hy
   ·unfold Sc.run at hy
    split at hy
    ·rename_i hpre
     obtain ⟨m0, m1, i0, i1, _⟩ := hpre
     have on : ∀ {w : Wd} {d2 : jB} {rest : Bool}, fy { x with d := d' } a (ax { x with d := d' } a).g d2 w rest = some (y, o) → y.steps = x.steps ∧ y.c = x.c := fun {w d2 rest} hh => by
      unfold fy at hh
      split at hh
      ·simp only [Option.some.injEq, Prod.mk.injEq] at hh
       have f1 := fI (m := a) w.ready { x with w := w, d := d2 } i0 i1
       rw [← hh.1]
       unfold Sc.gP
       split <;> exact ⟨f1.2.2.2.2.2.1, f1.2.2.2.2.1⟩
      ·cases hh
     split at hy
     ·split at hy
      ·cases hy
      ·cases hy; exact ⟨rfl, rfl⟩
      ·exact on hy
      ·exact on hy
     ·cases hy
    ·cases hy
theorem Lo {e : Ev} (hst : x.status = 0) (hy : x.step p = some (y, .ev e)) : y.steps = x.steps + 1 ∧ y.c = x.c := by
 unfold Sc.step at hy
 split at hy
 ·rw [if_neg (by rw [hst]; decide)] at hy
  split at hy
  ·cases hy
  ·rename_i d' k jO
   generalize hac : Sc.act p { x with d := d' } k = r at hy
   cases r with
   | none => cases hy
   | some r =>
    obtain ⟨z, o⟩ := r
    have := CC hac
    cases o with
    | cV l => cases hy
    | ev e2 =>
     cases hy
     exact ⟨by show z.steps + 1 = _; rw [this.1], this.2⟩
 ·cases hy
theorem tK (hs : SV p N x) (hp : dn p) {e : Ev} (hy : x.step p = some (y, .ev e)) (hst : x.status = 0) : x.w.gs.length ≤ y.w.gs.length ∧ (∀ g ∈ e.ready, At y.w g 1) := by
 unfold Sc.step at hy
 split at hy
 ·rw [if_neg (by rw [hst]; decide)] at hy
  split at hy
  ·cases hy
  ·rename_i d' k jO
   have PU := eH hs.k jO
   have hM := hs.cM
   have hM1 := hs.M1
   rw [show gY (x.c.M + 1) = x.c.M + 1 from by unfold gY; rw [if_neg (by omega)]] at PU
   unfold Sc.act at hy
   split at hy
   ·split at hy
    ·simp only [Option.map_some, Option.some.injEq, ie, Prod.mk.injEq, g6.ev.injEq] at hy
     obtain ⟨t1, t2, t3, t4⟩ := Jo hs.w
     obtain ⟨a1, l, a2, a3, a4, a5⟩ := t3
     rw [List.nil_append] at a2
     rw [← hy.1, ← hy.2]
     refine ⟨?_, fun g hg => ?_⟩
     ·show x.w.gs.length ≤ x.w.tick.gs.length
      rw [a1]; exact Nat.le_refl _
     ·have AE : g ∈ x.w.tick.ready := hg
      rw [a2] at AE
      obtain ⟨c1, c2, c3, c4⟩ := a4 g AE
      exact ⟨c1, by show g < (x.w.tick.gs.length : Int); rw [a1]; exact c2, c4⟩
    ·cases hy
   ·have fw : ∀ (z : Sc) (i kind g : Int) (t : Bool), (z.bg k i kind g t).1.w = z.w ∧ (z.bg k i kind g t).2.ready = [] := fun z i kind g t => by
     unfold Sc.bg; split <;> exact ⟨rfl, rfl⟩
    split at hy
    ·simp only [Option.map_some, Option.some.injEq, ie, Prod.mk.injEq, g6.ev.injEq] at hy
     rw [← hy.1, ← hy.2]
     unfold Sc.hold
     dsimp only
     split <;> exact ⟨Nat.le_refl _, fun g hg => by cases hg⟩
    ·rename_i hmp
     split at hy
     ·split at hy
      ·have hf : (Sc.find { x with d := d' } k).1.w = x.w ∧ ∀ e, (Sc.find { x with d := d' } k).2 = .ev e → e.ready = [] := by
        unfold Sc.find
        dsimp only
        split
        ·exact ⟨rfl, fun e he => by cases he; rfl⟩
        ·split
         ·split
          ·exact ⟨rfl, fun e he => by cases he⟩
          ·split
           ·exact ⟨(fw _ _ _ _ _).1, fun e he => by cases he; exact (fw _ _ _ _ _).2⟩
           ·exact ⟨(fw _ _ _ _ _).1, fun e he => by cases he; exact (fw _ _ _ _ _).2⟩
         ·exact ⟨(fw _ _ _ _ _).1, fun e he => by cases he; exact (fw _ _ _ _ _).2⟩
       generalize Sc.find { x with d := d' } k = r at hy hf
       obtain ⟨z, o⟩ := r
       cases o with
       | cV l => simp [ie] at hy
       | ev e2 =>
        simp only [Option.map_some, Option.some.injEq, ie, Prod.mk.injEq, g6.ev.injEq] at hy
        dsimp only at hf
        rw [← hy.1, ← hy.2, hf.2 _ rfl]
        refine ⟨?_, fun g hg => by cases hg⟩
        dsimp only
        rw [hf.1]; exact Nat.le_refl _
      ·cases hy
     ·rename_i PV
      have KJ : 0 ≤ (ax x k).g := by
       have hmk := gD (x := x) (m := k) (by omega) (by dsimp only at *; omega)
       rcases hs.ms _ (List.mem_of_getElem? hmk) with e | e
       ·exact absurd e.2.1 PV
       ·have : (ax x k).g ≠ -1 := PV
        omega
      generalize Cz : Sc.run p { x with d := d' } k = r at hy
      cases r with
      | none => cases hy
      | some r =>
       obtain ⟨z, o⟩ := r
       cases o with
       | cV l => simp [ie] at hy
       | ev e2 =>
        simp only [Option.map_some, Option.some.injEq, ie, Prod.mk.injEq, g6.ev.injEq] at hy
        have hk' : d'.k.Ok := by have := lU (kind := 1) (n := x.c.M + 1) hs.k; rw [jO] at this; exact this
        rw [← hy.1, ← hy.2]
        have on : ∀ {w' : Wd} {d2 : jB} {rest : Bool}, ij (ax x k).g { x.w with ready := [] } w' → 0 ≤ (ax x k).p → (ax x k).p < x.ps.length → fy { x with d := d' } k (ax x k).g d2 w' rest = some (z, .ev e2) → x.w.gs.length ≤ z.w.gs.length ∧ ∀ g ∈ e2.ready, At z.w g 1 := fun {w' d2 rest} hr i0 i1 hh => by
         unfold fy at hh
         split at hh
         ·simp only [Option.some.injEq, Prod.mk.injEq, g6.ev.injEq] at hh
          have f1 := (fI (m := k) w'.ready { x with w := w', d := d2 } i0 i1).2.2.1
          have hw : z.w = w' ∧ e2.ready = w'.ready := by
           rw [← hh.1, ← hh.2]
           unfold Sc.gP
           split <;> exact ⟨f1, rfl⟩
          rw [hw.1, hw.2]
          exact ⟨hr.2.2.2.2.1, fun g hg => by have := hr.2.2.1 g hg; exact ⟨this.1, this.2.1, this.2.2.2⟩⟩
         ·cases hh
        unfold Sc.run at Cz
        have em : ax { x with d := d' } k = ax x k := rfl
        rw [em] at Cz
        split at Cz
        ·rename_i hpre
         obtain ⟨m0, m1, i0, i1, _⟩ := hpre
         split at Cz
         ·obtain ⟨r, rest, hex, hres⟩ := Af (d := (dh d' (asks p { x.w with ready := [] } (ax x k).g)).2) hs.w hp KJ (fun v kd n e1 e2 => by
           rw [e2] at e1
           unfold dh at e1
           dsimp only at e1
           generalize hq : d'.draw kd n = q at e1
           obtain ⟨d3, o3⟩ := q
           dsimp only at e1
           subst e1
           have := eH hk' hq
           have hb := DD hp e2
           rw [show gY n = n from by unfold gY; rw [if_neg (by omega)]] at this
           exact ⟨this.1, this.2.1⟩)
          dsimp only at Cz
          rw [hex] at Cz
          rcases hres with ⟨hres, _⟩ | ⟨l, e1, e3, _⟩
          ·cases r with
           | on y' => exact on hres.2 i0 i1 Cz
           | eD n y' => exact on (hres.2.Jm (z := { y' with end_ := 2, code := n }) rfl rfl fun _ _ _ => rfl) i0 i1 Cz
           | cV l y' => exact hres.elim
          ·subst e3
           simp at Cz
         ·cases Cz
        ·cases Cz
 ·cases hy
theorem Fz (hs : SV p N x) (hv : HV Rm x) (hS : x.c.S = (S : Int)) (hG : x.w.gs.length ≤ GG) (hg : At x.w g 1) : ∃ m, m < x.ms.length ∧ Ll Rm GG x g m (2 * Rm + 2 + (7 * GG + 7)) (2 * S + 1) := by
 have h1 := hs.one g hg
 have h0 := hg.1
 have hu : ∀ {m : Nat} {mc : va}, x.ms[m]? = some mc → uM mc ≤ 2 * S + 1 := fun h => by
  have := hv.left _ (List.mem_of_getElem? h)
  unfold uM; split <;> omega
 have hM1 := hs.M1
 have lt : ∀ {m : Nat} {mc : va}, x.ms[m]? = some mc → m < x.ms.length := fun h => (List.getElem?_eq_some_iff.1 h).1
 have Xm := hs.DG (l := x.gl) (fun a => by unfold jR; omega)
 by_cases c1 : 0 < x.gl.count g
 ·obtain ⟨j, hj, hjv⟩ := List.getElem_of_mem (List.count_pos_iff.1 c1)
  have hjq : x.gl[j]? = some g := by rw [List.getElem?_eq_getElem hj, hjv]
  by_cases ha : ∀ c ∈ x.ms, c.p = -1
  ·have hm0 : x.ms[0]? = some (x.ms[0]'(by omega)) := List.getElem?_eq_getElem (by omega)
   exact ⟨0, by omega, _, hm0, .inr (.inr ⟨ha, j, hjq, by omega⟩)⟩
  ·simp only [Classical.not_forall] at ha
   obtain ⟨mc, hm, hne⟩ := ha
   obtain ⟨m, S5, Rv⟩ := List.getElem_of_mem hm
   have hmq : x.ms[m]? = some mc := by rw [List.getElem?_eq_getElem S5, Rv]
   exact ⟨m, S5, mc, hmq, .inr (.inl ⟨hne, hu hmq, .inr (.inr ⟨j, hjq, by have := vl (ay x mc.p).turns; omega⟩)⟩)⟩
 ·by_cases c2 : 0 < Bq x.ms g
  ·unfold Bq at c2
   obtain ⟨mc, hm, Di⟩ := List.mem_flatMap.1 (List.count_pos_iff.1 c2)
   obtain ⟨m, S5, Rv⟩ := List.getElem_of_mem hm
   have hmq : x.ms[m]? = some mc := by rw [List.getElem?_eq_getElem S5, Rv]
   refine ⟨m, S5, mc, hmq, .inl ?_⟩
   unfold jA at Di
   split at Di
   ·rw [List.mem_singleton] at Di; exact Di.symm
   ·cases Di
  ·have c3 : 0 < jQ x.ps g := by unfold jR at h1; omega
   unfold jQ at c3
   obtain ⟨q, hq, lO⟩ := List.mem_flatMap.1 (List.count_pos_iff.1 c3)
   obtain ⟨pr, jE, rfl⟩ := List.mem_map.1 hq
   obtain ⟨i, hi1, KB⟩ := List.getElem_of_mem jE
   have Fx : ay x (i : Int) = pr := by unfold ay; rw [Int.toNat_natCast, List.getD_eq_getElem?_getD, List.getElem?_eq_getElem hi1, KB]; rfl
   have Z8 := hv.room pr jE
   have WK := hs.room pr jE
   have hin : (ay x (i : Int)).q.next = g ∨ ∃ k, (ay x (i : Int)).q.l[k]? = some g ∧ k < Rm := by
    rw [Fx]
    unfold Loc.all at lO
    rcases List.mem_append.1 lO with lO | lO
    ·split at lO
     ·cases lO
     ·rw [List.mem_singleton] at lO; exact .inl lO.symm
    ·obtain ⟨k, OZ, hk2⟩ := List.getElem_of_mem lO
     exact .inr ⟨k, by rw [List.getElem?_eq_getElem OZ, hk2], by have := WK.1; omega⟩
   rcases hv.hold i hi1 with ⟨_, e1, e2⟩ | ⟨m, mc, h2, h3⟩
   ·exfalso
    rcases hin with e | ⟨k, e, _⟩
    ·omega
    ·rw [e2] at e; cases e
   ·refine ⟨m, lt h2, mc, h2, .inr (.inl ⟨by omega, hu h2, ?_⟩)⟩
    rw [h3]
    rcases hin with e | ⟨k, e, hk⟩
    ·exact .inl ⟨e, Nat.le_refl _⟩
    ·exact .inr (.inl ⟨k, e, by have := DE (ay x (i : Int)).turns; omega⟩)
end
theorem vn {x : Sc} {m g : Int} {kp : Bool} {r : List Int} : (x.gP m g kp r).2.ready = r := by unfold Sc.gP; split <;> rfl
theorem FA {p : b6} {x y : Sc} {e : Ev} (h : x.step p = some (y, .ev e)) : e.ready.length ≤ 1000000 := by
 unfold Sc.step at h
 split at h
 ·split at h
  ·cases h; simp
  ·split at h
   ·cases h
   ·rename_i d' m hd
    cases hz : Sc.act p { x with d := d' } m with
    | none => rw [hz] at h; cases h
    | some z =>
     obtain ⟨z, o⟩ := z
     rw [hz] at h
     cases o with
     | cV l => cases h
     | ev e' =>
      cases h
      unfold Sc.act at hz
      split at hz
      ·split at hz
       ·rename_i ht
        cases hz
        have := ht.2.2
        show (Sc.tick { x with d := d' }).2.ready.length ≤ _
        unfold Sc.tick
        dsimp only at this ⊢
        omega
       ·cases hz
      ·split at hz
       ·cases hz
        unfold Sc.hold
        split <;> simp
       ·split at hz
        ·split at hz
         ·simp only [Option.some.injEq] at hz
          unfold Sc.find at hz
          dsimp only at hz
          split at hz
          ·cases hz; simp
          ·split at hz
           ·split at hz
            ·cases hz
            ·split at hz
             ·cases hz; unfold Sc.bg; split <;> simp
             ·cases hz; unfold Sc.bg; split <;> simp
           ·cases hz; unfold Sc.bg; split <;> simp
         ·cases hz
        ·unfold Sc.run at hz
         split at hz
         ·split at hz
          ·split at hz
           ·cases hz
           ·cases hz
           ·unfold fy at hz
            split at hz
            ·rename_i hr
             cases hz
             rw [vn]; omega
            ·cases hz
           ·unfold fy at hz
            split at hz
            ·rename_i hr
             cases hz
             rw [vn]; omega
            ·cases hz
          ·cases hz
         ·cases hz
 ·cases h
def aG (n m : Int) : Int := if m < 1 then 0 else Int.tmod (IntKind.wrap .i64 (Int.tmod n m + m)) m
theorem cW {n m : Int} (hm : 1 ≤ m) (hb : m < 4611686018427387904) : 0 ≤ aG n m ∧ aG n m < m := by
 have h1 := Int.tmod_lt_of_pos n (show 0 < m by omega)
 have h2 := Int.lt_tmod_of_pos n (show 0 < m by omega)
 unfold aG
 rw [if_neg (by omega), cT (by omega) (by omega)]
 have h3 : 0 ≤ Int.tmod n m + m := by omega
 exact ⟨Int.tmod_nonneg m h3, Int.tmod_lt_of_pos _ (by omega)⟩
def xo (nf nc ik lk lf : Int) (x : cH) : cH :=
 if aG x.op 23 = 1 then ⟨1, aG x.a 8, x.b, 0⟩
 else if aG x.op 23 = 2 then ⟨2, aG x.a 8, aG x.b 8, 0⟩
 else if aG x.op 23 = 3 then ⟨aG x.op 23, aG x.a 8, aG x.b 8, aG x.c 8⟩
 else if aG x.op 23 = 4 then ⟨aG x.op 23, aG x.a 8, aG x.b 8, aG x.c 8⟩
 else if aG x.op 23 = 5 then ⟨aG x.op 23, aG x.a 8, aG x.b 8, aG x.c 8⟩
 else if aG x.op 23 = 6 then ⟨aG x.op 23, aG x.a 8, aG x.b 8, aG x.c 8⟩
 else if aG x.op 23 = 7 then ⟨7, aG x.a lf, 0, 0⟩
 else if aG x.op 23 = 8 then ⟨8, aG x.a 8, aG x.b lf, 0⟩
 else if aG x.op 23 = 9 then ⟨aG x.op 23, aG x.a nf, aG x.b 8, aG x.c 8⟩
 else if aG x.op 23 = 11 then ⟨aG x.op 23, aG x.a nf, aG x.b 8, aG x.c 8⟩
 else if aG x.op 23 = 10 then ⟨aG x.op 23, aG x.a 8, 0, 0⟩
 else if aG x.op 23 = 17 then ⟨aG x.op 23, aG x.a 8, 0, 0⟩
 else if aG x.op 23 = 20 then ⟨aG x.op 23, aG x.a 8, 0, 0⟩
 else if aG x.op 23 = 13 then (if nc = 0 then .zero else ⟨aG x.op 23, aG x.a nc, aG x.b 8, 0⟩)
 else if aG x.op 23 = 14 then (if nc = 0 then .zero else ⟨aG x.op 23, aG x.a nc, aG x.b 8, aG x.c 8⟩)
 else if aG x.op 23 = 15 then (if nc = 0 then .zero else ⟨aG x.op 23, aG x.a nc, 0, 0⟩)
 else if aG x.op 23 = 16 then (if ik = 0 then .zero else ⟨16, aG x.a ik, 1 + aG x.b (ik - aG x.a ik), aG x.c 8⟩)
 else if aG x.op 23 = 18 then (if lk = 0 then .zero else ⟨aG x.op 23, aG x.a lk, 0, 0⟩)
 else if aG x.op 23 = 19 then (if lk = 0 then .zero else ⟨aG x.op 23, aG x.a lk, 0, 0⟩)
 else if aG x.op 23 = 21 then ⟨21, aG x.a 8, 1 + aG x.b 1000, 0⟩
 else if aG x.op 23 = 22 then ⟨22, aG x.a 1000, 0, 0⟩
 else ⟨aG x.op 23, 0, 0, 0⟩
def cU (nf nc ik lk lf : Int) (i : cH) : Prop := 0 ≤ i.op ∧ i.op < 23 ∧ i.cv ∧ (i.op = 7 → 0 ≤ i.a ∧ i.a < lf) ∧ (i.op = 8 → 0 ≤ i.b ∧ i.b < lf) ∧
 (i.op = 9 ∨ i.op = 11 → 0 ≤ i.a ∧ i.a < nf ∧ aU i.b ∧ aU i.c) ∧ (i.op = 10 ∨ i.op = 17 ∨ i.op = 20 ∨ i.op = 21 → aU i.a) ∧
 (i.op = 13 ∨ i.op = 14 ∨ i.op = 15 → 0 ≤ i.a ∧ i.a < nc) ∧ (i.op = 13 ∨ i.op = 14 → aU i.b) ∧ (i.op = 14 ∨ i.op = 16 → aU i.c) ∧
 (i.op = 16 → 0 ≤ i.a ∧ 1 ≤ i.b ∧ i.a + i.b ≤ ik) ∧ (i.op = 18 ∨ i.op = 19 → 0 ≤ i.a ∧ i.a < lk) ∧ (i.op = 21 → 1 ≤ i.b ∧ i.b < 1099511627776)
theorem cU.ok {p : b6} {f : List cH} {i : cH} (h : cU p.funcs.length p.eJ.length p.cases.length p.aL f.length i) : jX p f i := h
theorem cU.zero {nf nc ik lk lf : Int} : cU nf nc ik lk lf .zero := by
 simp [cU, cH.cv, cH.zero]
theorem jm {nf nc ik lk lf : Int} {p : Prop} [Decidable p] {x y : cH} (h1 : p → cU nf nc ik lk lf x) (h2 : ¬ p → cU nf nc ik lk lf y) : cU nf nc ik lk lf (if p then x else y) := by
 split
 ·exact h1 ‹_›
 ·exact h2 ‹_›
theorem Pq {nf nc ik lk lf : Int} {x : cH} (hf : 1 ≤ nf ∧ nf ≤ 5) (hc : 0 ≤ nc ∧ nc ≤ 4) (hcs : 0 ≤ ik ∧ ik ≤ 8) (hl : 0 ≤ lk ∧ lk ≤ 3) (hlf : 1 ≤ lf ∧ lf ≤ 20) : cU nf nc ik lk lf (xo nf nc ik lk lf x) := by
 have a8 := cW (n := x.a) (m := 8) (by omega) (by omega)
 have b8 := cW (n := x.b) (m := 8) (by omega) (by omega)
 have c8 := cW (n := x.c) (m := 8) (by omega) (by omega)
 have o23 := cW (n := x.op) (m := 23) (by omega) (by omega)
 have af := cW (n := x.a) (m := lf) (by omega) (by omega)
 have bf := cW (n := x.b) (m := lf) (by omega) (by omega)
 have an := cW (n := x.a) (m := nf) (by omega) (by omega)
 have b1000 := cW (n := x.b) (m := 1000) (by omega) (by omega)
 have ac : nc ≠ 0 → _ := fun e => cW (n := x.a) (m := nc) (by omega) (by omega)
 have al : lk ≠ 0 → _ := fun e => cW (n := x.a) (m := lk) (by omega) (by omega)
 have xN : ik ≠ 0 → _ := fun e => cW (n := x.a) (m := ik) (by omega) (by omega)
 have An : ik ≠ 0 → _ := fun e => cW (n := x.b) (m := ik - aG x.a ik) (by have := xN e; omega) (by have := xN e; omega)
 have p1 : cU nf nc ik lk lf ⟨1, aG x.a 8, x.b, 0⟩ := by clear ac al xN An; simp [cU, cH.cv, aU] <;> omega
 have p2 : cU nf nc ik lk lf ⟨2, aG x.a 8, aG x.b 8, 0⟩ := by clear ac al xN An; simp [cU, cH.cv, aU] <;> omega
 have p3 : cU nf nc ik lk lf ⟨3, aG x.a 8, aG x.b 8, aG x.c 8⟩ := by clear ac al xN An; simp [cU, cH.cv, aU] <;> omega
 have p4 : cU nf nc ik lk lf ⟨4, aG x.a 8, aG x.b 8, aG x.c 8⟩ := by clear ac al xN An; simp [cU, cH.cv, aU] <;> omega
 have p5 : cU nf nc ik lk lf ⟨5, aG x.a 8, aG x.b 8, aG x.c 8⟩ := by clear ac al xN An; simp [cU, cH.cv, aU] <;> omega
 have p6 : cU nf nc ik lk lf ⟨6, aG x.a 8, aG x.b 8, aG x.c 8⟩ := by clear ac al xN An; simp [cU, cH.cv, aU] <;> omega
 have p7 : cU nf nc ik lk lf ⟨7, aG x.a lf, 0, 0⟩ := by clear ac al xN An; simp [cU, cH.cv, aU] <;> omega
 have p8 : cU nf nc ik lk lf ⟨8, aG x.a 8, aG x.b lf, 0⟩ := by clear ac al xN An; simp [cU, cH.cv, aU] <;> omega
 have p9 : cU nf nc ik lk lf ⟨9, aG x.a nf, aG x.b 8, aG x.c 8⟩ := by clear ac al xN An; simp [cU, cH.cv, aU] <;> omega
 have p11 : cU nf nc ik lk lf ⟨11, aG x.a nf, aG x.b 8, aG x.c 8⟩ := by clear ac al xN An; simp [cU, cH.cv, aU] <;> omega
 have p10 : cU nf nc ik lk lf ⟨10, aG x.a 8, 0, 0⟩ := by clear ac al xN An; simp [cU, cH.cv, aU] <;> omega
 have p17 : cU nf nc ik lk lf ⟨17, aG x.a 8, 0, 0⟩ := by clear ac al xN An; simp [cU, cH.cv, aU] <;> omega
 have p20 : cU nf nc ik lk lf ⟨20, aG x.a 8, 0, 0⟩ := by clear ac al xN An; simp [cU, cH.cv, aU] <;> omega
 have p13 : nc ≠ 0 → cU nf nc ik lk lf ⟨13, aG x.a nc, aG x.b 8, 0⟩ := fun z => by have := ac z; clear ac al xN An; simp [cU, cH.cv, aU] <;> omega
 have p14 : nc ≠ 0 → cU nf nc ik lk lf ⟨14, aG x.a nc, aG x.b 8, aG x.c 8⟩ := fun z => by have := ac z; clear ac al xN An; simp [cU, cH.cv, aU] <;> omega
 have p15 : nc ≠ 0 → cU nf nc ik lk lf ⟨15, aG x.a nc, 0, 0⟩ := fun z => by have := ac z; clear ac al xN An; simp [cU, cH.cv, aU] <;> omega
 have p16 : ik ≠ 0 → cU nf nc ik lk lf ⟨16, aG x.a ik, 1 + aG x.b (ik - aG x.a ik), aG x.c 8⟩ := fun z => by have := xN z; have := An z; clear ac al xN An; simp [cU, cH.cv, aU] <;> omega
 have p18 : lk ≠ 0 → cU nf nc ik lk lf ⟨18, aG x.a lk, 0, 0⟩ := fun z => by have := al z; clear ac al xN An; simp [cU, cH.cv, aU] <;> omega
 have p19 : lk ≠ 0 → cU nf nc ik lk lf ⟨19, aG x.a lk, 0, 0⟩ := fun z => by have := al z; clear ac al xN An; simp [cU, cH.cv, aU] <;> omega
 have p21 : cU nf nc ik lk lf ⟨21, aG x.a 8, 1 + aG x.b 1000, 0⟩ := by clear ac al xN An; simp [cU, cH.cv, aU] <;> omega
 have p22 : cU nf nc ik lk lf ⟨22, aG x.a 1000, 0, 0⟩ := by clear ac al xN An; simp [cU, cH.cv, aU] <;> omega
 clear a8 b8 c8 af bf an b1000 ac al xN An
 unfold xo
 refine jm (fun e => p1) fun n1 => ?_
 refine jm (fun e => p2) fun n2 => ?_
 refine jm (fun e => e ▸ p3) fun n3 => ?_
 refine jm (fun e => e ▸ p4) fun n4 => ?_
 refine jm (fun e => e ▸ p5) fun n5 => ?_
 refine jm (fun e => e ▸ p6) fun n6 => ?_
 refine jm (fun e => p7) fun n7 => ?_
 refine jm (fun e => p8) fun n8 => ?_
 refine jm (fun e => e ▸ p9) fun n9 => ?_
 refine jm (fun e => e ▸ p11) fun iN => ?_
 refine jm (fun e => e ▸ p10) fun jc => ?_
 refine jm (fun e => e ▸ p17) fun iW => ?_
 refine jm (fun e => e ▸ p20) fun gk => ?_
 refine jm (fun e => jm (fun _ => cU.zero) fun z => e ▸ p13 z) fun iM => ?_
 refine jm (fun e => jm (fun _ => cU.zero) fun z => e ▸ p14 z) fun mb => ?_
 refine jm (fun e => jm (fun _ => cU.zero) fun z => e ▸ p15 z) fun lq => ?_
 refine jm (fun e => jm (fun _ => cU.zero) fun z => p16 z) fun nm => ?_
 refine jm (fun e => jm (fun _ => cU.zero) fun z => e ▸ p18 z) fun lA => ?_
 refine jm (fun e => jm (fun _ => cU.zero) fun z => e ▸ p19 z) fun yT => ?_
 refine jm (fun e => p21) fun sL => ?_
 refine jm (fun e => p22) fun wX => ?_
 generalize aG x.op 23 = o at *
 have : o = 0 ∨ o = 12 := by omega
 rcases this with rfl | rfl <;> simp [cU, cH.cv]
section
variable {M : Mem} {K : Value → Mem → Prop} {Kp : List PanicEntry → Mem → Prop}
theorem bx {n m : Int} (k : K (.int .i64 (aG n m)) M) : aa Tryz.prog 66 #[.int .i64 n, .int .i64 m] M K Kp := by
 refine rZ ?_
 unfold aG at k
 exact aM.2 ⟨fun h => by rw [if_pos h] at k; exact k, fun h => ⟨by omega, by omega, by rw [if_neg h] at k; exact k⟩⟩
variable {R : Mem} {L : List HP}
abbrev insV (i : cH) : Value := .agg #[.int .i64 i.op, .int .i64 i.a, .int .i64 i.b, .int .i64 i.c]
theorem RZ {A B C F : Option Addr} {nf cf nc cc ik ccs lf cl : Nat} {lk o a b c : Int} (h : Hp R L M) (hcs : ik ≤ 8)
  (k : ∀ M', Hp R L M' → K (insV (xo nf nc ik lk lf ⟨o, a, b, c⟩)) M') :
  aa Tryz.prog 67 #[.agg #[.slice A nf cf, .slice B nc cc, .int .i64 lk, .slice C ik ccs], .slice F lf cl, .agg #[.int .i64 o, .int .i64 a, .int .i64 b, .int .i64 c]] M K Kp := by
 refine r7 ?_
 have w1000 : IntKind.wrap .i64 (1 + aG b 1000) = 1 + aG b 1000 := by
  have := cW (n := b) (m := 1000) (by omega) (by omega)
  exact cT (by omega) (by omega)
 have as_ : (ik : Int) ≠ 0 → IntKind.wrap .i64 ((ik : Int) - aG a ik) = ik - aG a ik ∧ IntKind.wrap .i64 (1 + aG b (ik - aG a ik)) = 1 + aG b (ik - aG a ik) := fun e => by
  have h1 := cW (n := a) (m := (ik : Int)) (by omega) (by omega)
  have h2 := cW (n := b) (m := (ik : Int) - aG a ik) (by omega) (by omega)
  exact ⟨cT (by omega) (by omega), cT (by omega) (by omega)⟩
 unfold xo at k
 dsimp only at k
 repeat (first|refine bx ?_|(refine aq h ?_;clear h;intro kb M h)|(refine au h ?_;clear h;intro M h)|refine St.to h ?_|(apply Exists.intro;(repeat apply Exists.intro);refine And.intro rfl ?_)|refine av ?_|refine ae ?_|refine ai ?_)
 refine aR.2 ⟨fun e => ?_, fun e => ?_⟩
 ·rw [if_pos e] at k
  repeat (first|refine bx ?_|(refine aq h ?_;clear h;intro kb M h)|(refine au h ?_;clear h;intro M h)|refine St.to h ?_|(apply Exists.intro;(repeat apply Exists.intro);refine And.intro rfl ?_)|refine av ?_|refine ae ?_|refine ai ?_)
  exact k _ (h.sub bD)
 rw [if_neg e] at k
 clear e
 refine aR.2 ⟨fun e => ?_, fun e => ?_⟩
 ·rw [if_pos e] at k
  repeat (first|refine bx ?_|(refine aq h ?_;clear h;intro kb M h)|(refine au h ?_;clear h;intro M h)|refine St.to h ?_|(apply Exists.intro;(repeat apply Exists.intro);refine And.intro rfl ?_)|refine av ?_|refine ae ?_|refine ai ?_)
  exact k _ (h.sub bD)
 rw [if_neg e] at k
 clear e
 refine aR.2 ⟨fun e => ?_, fun e => ?_⟩
 ·rw [if_pos e] at k
  repeat (first|refine bx ?_|(refine aq h ?_;clear h;intro kb M h)|(refine au h ?_;clear h;intro M h)|refine St.to h ?_|(apply Exists.intro;(repeat apply Exists.intro);refine And.intro rfl ?_)|refine av ?_|refine ae ?_|refine ai ?_)
  exact k _ (h.sub bD)
 rw [if_neg e] at k
 clear e
 refine aR.2 ⟨fun e => ?_, fun e => ?_⟩
 ·rw [if_pos e] at k
  repeat (first|refine bx ?_|(refine aq h ?_;clear h;intro kb M h)|(refine au h ?_;clear h;intro M h)|refine St.to h ?_|(apply Exists.intro;(repeat apply Exists.intro);refine And.intro rfl ?_)|refine av ?_|refine ae ?_|refine ai ?_)
  exact k _ (h.sub bD)
 rw [if_neg e] at k
 clear e
 refine aR.2 ⟨fun e => ?_, fun e => ?_⟩
 ·rw [if_pos e] at k
  repeat (first|refine bx ?_|(refine aq h ?_;clear h;intro kb M h)|(refine au h ?_;clear h;intro M h)|refine St.to h ?_|(apply Exists.intro;(repeat apply Exists.intro);refine And.intro rfl ?_)|refine av ?_|refine ae ?_|refine ai ?_)
  exact k _ (h.sub bD)
 rw [if_neg e] at k
 clear e
 refine aR.2 ⟨fun e => ?_, fun e => ?_⟩
 ·rw [if_pos e] at k
  repeat (first|refine bx ?_|(refine aq h ?_;clear h;intro kb M h)|(refine au h ?_;clear h;intro M h)|refine St.to h ?_|(apply Exists.intro;(repeat apply Exists.intro);refine And.intro rfl ?_)|refine av ?_|refine ae ?_|refine ai ?_)
  exact k _ (h.sub bD)
 rw [if_neg e] at k
 clear e
 refine aR.2 ⟨fun e => ?_, fun e => ?_⟩
 ·rw [if_pos e] at k
  repeat (first|refine bx ?_|(refine aq h ?_;clear h;intro kb M h)|(refine au h ?_;clear h;intro M h)|refine St.to h ?_|(apply Exists.intro;(repeat apply Exists.intro);refine And.intro rfl ?_)|refine av ?_|refine ae ?_|refine ai ?_)
  exact k _ (h.sub bD)
 rw [if_neg e] at k
 clear e
 refine aR.2 ⟨fun e => ?_, fun e => ?_⟩
 ·rw [if_pos e] at k
  repeat (first|refine bx ?_|(refine aq h ?_;clear h;intro kb M h)|(refine au h ?_;clear h;intro M h)|refine St.to h ?_|(apply Exists.intro;(repeat apply Exists.intro);refine And.intro rfl ?_)|refine av ?_|refine ae ?_|refine ai ?_)
  exact k _ (h.sub bD)
 rw [if_neg e] at k
 clear e
 refine aR.2 ⟨fun e => ?_, fun e => ?_⟩
 ·rw [if_pos e] at k
  repeat (first|refine bx ?_|(refine aq h ?_;clear h;intro kb M h)|(refine au h ?_;clear h;intro M h)|refine St.to h ?_|(apply Exists.intro;(repeat apply Exists.intro);refine And.intro rfl ?_)|refine av ?_|refine ae ?_|refine ai ?_)
  exact k _ (h.sub bD)
 rw [if_neg e] at k
 clear e
 refine aR.2 ⟨fun e => ?_, fun e => ?_⟩
 ·rw [if_pos e] at k
  repeat (first|refine bx ?_|(refine aq h ?_;clear h;intro kb M h)|(refine au h ?_;clear h;intro M h)|refine St.to h ?_|(apply Exists.intro;(repeat apply Exists.intro);refine And.intro rfl ?_)|refine av ?_|refine ae ?_|refine ai ?_)
  exact k _ (h.sub bD)
 rw [if_neg e] at k
 clear e
 refine aR.2 ⟨fun e => ?_, fun e => ?_⟩
 ·rw [if_pos e] at k
  repeat (first|refine bx ?_|(refine aq h ?_;clear h;intro kb M h)|(refine au h ?_;clear h;intro M h)|refine St.to h ?_|(apply Exists.intro;(repeat apply Exists.intro);refine And.intro rfl ?_)|refine av ?_|refine ae ?_|refine ai ?_)
  exact k _ (h.sub bD)
 rw [if_neg e] at k
 clear e
 refine aR.2 ⟨fun e => ?_, fun e => ?_⟩
 ·rw [if_pos e] at k
  repeat (first|refine bx ?_|(refine aq h ?_;clear h;intro kb M h)|(refine au h ?_;clear h;intro M h)|refine St.to h ?_|(apply Exists.intro;(repeat apply Exists.intro);refine And.intro rfl ?_)|refine av ?_|refine ae ?_|refine ai ?_)
  exact k _ (h.sub bD)
 rw [if_neg e] at k
 clear e
 refine aR.2 ⟨fun e => ?_, fun e => ?_⟩
 ·rw [if_pos e] at k
  repeat (first|refine bx ?_|(refine aq h ?_;clear h;intro kb M h)|(refine au h ?_;clear h;intro M h)|refine St.to h ?_|(apply Exists.intro;(repeat apply Exists.intro);refine And.intro rfl ?_)|refine av ?_|refine ae ?_|refine ai ?_)
  exact k _ (h.sub bD)
 rw [if_neg e] at k
 clear e
 refine aR.2 ⟨fun e => ?_, fun e => ?_⟩
 ·rw [if_pos e] at k
  refine aR.2 ⟨fun z => ?_, fun z => ?_⟩
  ·rw [if_pos z] at k
   repeat (first|refine bx ?_|(refine aq h ?_;clear h;intro kb M h)|(refine au h ?_;clear h;intro M h)|refine St.to h ?_|(apply Exists.intro;(repeat apply Exists.intro);refine And.intro rfl ?_)|refine av ?_|refine ae ?_|refine ai ?_)
   exact k _ (h.sub bD)
  rw [if_neg z] at k
  repeat (first|refine bx ?_|(refine aq h ?_;clear h;intro kb M h)|(refine au h ?_;clear h;intro M h)|refine St.to h ?_|(apply Exists.intro;(repeat apply Exists.intro);refine And.intro rfl ?_)|refine av ?_|refine ae ?_|refine ai ?_)
  refine aM.2 ⟨fun _ => ?_, fun e2 => absurd (show aG o 23 < 15 by omega) e2⟩
  repeat (first|refine bx ?_|(refine aq h ?_;clear h;intro kb M h)|(refine au h ?_;clear h;intro M h)|refine St.to h ?_|(apply Exists.intro;(repeat apply Exists.intro);refine And.intro rfl ?_)|refine av ?_|refine ae ?_|refine ai ?_)
  refine aR.2 ⟨fun e2 => absurd e2 (by omega), fun _ => ?_⟩
  repeat (first|refine bx ?_|(refine aq h ?_;clear h;intro kb M h)|(refine au h ?_;clear h;intro M h)|refine St.to h ?_|(apply Exists.intro;(repeat apply Exists.intro);refine And.intro rfl ?_)|refine av ?_|refine ae ?_|refine ai ?_)
  exact k _ (h.sub bD)
 rw [if_neg e] at k
 clear e
 refine aR.2 ⟨fun e => ?_, fun e => ?_⟩
 ·rw [if_pos e] at k
  refine aR.2 ⟨fun z => ?_, fun z => ?_⟩
  ·rw [if_pos z] at k
   repeat (first|refine bx ?_|(refine aq h ?_;clear h;intro kb M h)|(refine au h ?_;clear h;intro M h)|refine St.to h ?_|(apply Exists.intro;(repeat apply Exists.intro);refine And.intro rfl ?_)|refine av ?_|refine ae ?_|refine ai ?_)
   exact k _ (h.sub bD)
  rw [if_neg z] at k
  repeat (first|refine bx ?_|(refine aq h ?_;clear h;intro kb M h)|(refine au h ?_;clear h;intro M h)|refine St.to h ?_|(apply Exists.intro;(repeat apply Exists.intro);refine And.intro rfl ?_)|refine av ?_|refine ae ?_|refine ai ?_)
  refine aM.2 ⟨fun _ => ?_, fun e2 => absurd (show aG o 23 < 15 by omega) e2⟩
  repeat (first|refine bx ?_|(refine aq h ?_;clear h;intro kb M h)|(refine au h ?_;clear h;intro M h)|refine St.to h ?_|(apply Exists.intro;(repeat apply Exists.intro);refine And.intro rfl ?_)|refine av ?_|refine ae ?_|refine ai ?_)
  refine aR.2 ⟨fun _ => ?_, fun e2 => absurd e e2⟩
  repeat (first|refine bx ?_|(refine aq h ?_;clear h;intro kb M h)|(refine au h ?_;clear h;intro M h)|refine St.to h ?_|(apply Exists.intro;(repeat apply Exists.intro);refine And.intro rfl ?_)|refine av ?_|refine ae ?_|refine ai ?_)
  exact k _ (h.sub bD)
 rw [if_neg e] at k
 clear e
 refine aR.2 ⟨fun e => ?_, fun e => ?_⟩
 ·rw [if_pos e] at k
  refine aR.2 ⟨fun z => ?_, fun z => ?_⟩
  ·rw [if_pos z] at k
   repeat (first|refine bx ?_|(refine aq h ?_;clear h;intro kb M h)|(refine au h ?_;clear h;intro M h)|refine St.to h ?_|(apply Exists.intro;(repeat apply Exists.intro);refine And.intro rfl ?_)|refine av ?_|refine ae ?_|refine ai ?_)
   exact k _ (h.sub bD)
  rw [if_neg z] at k
  repeat (first|refine bx ?_|(refine aq h ?_;clear h;intro kb M h)|(refine au h ?_;clear h;intro M h)|refine St.to h ?_|(apply Exists.intro;(repeat apply Exists.intro);refine And.intro rfl ?_)|refine av ?_|refine ae ?_|refine ai ?_)
  refine aM.2 ⟨fun e2 => absurd e2 (by omega), fun _ => ?_⟩
  repeat (first|refine bx ?_|(refine aq h ?_;clear h;intro kb M h)|(refine au h ?_;clear h;intro M h)|refine St.to h ?_|(apply Exists.intro;(repeat apply Exists.intro);refine And.intro rfl ?_)|refine av ?_|refine ae ?_|refine ai ?_)
  refine aR.2 ⟨fun e2 => absurd e2 (by omega), fun _ => ?_⟩
  repeat (first|refine bx ?_|(refine aq h ?_;clear h;intro kb M h)|(refine au h ?_;clear h;intro M h)|refine St.to h ?_|(apply Exists.intro;(repeat apply Exists.intro);refine And.intro rfl ?_)|refine av ?_|refine ae ?_|refine ai ?_)
  exact k _ (h.sub bD)
 rw [if_neg e] at k
 clear e
 refine aR.2 ⟨fun e => ?_, fun e => ?_⟩
 ·rw [if_pos e] at k
  refine aR.2 ⟨fun z => ?_, fun z => ?_⟩
  ·rw [if_pos z] at k
   repeat (first|refine bx ?_|(refine aq h ?_;clear h;intro kb M h)|(refine au h ?_;clear h;intro M h)|refine St.to h ?_|(apply Exists.intro;(repeat apply Exists.intro);refine And.intro rfl ?_)|refine av ?_|refine ae ?_|refine ai ?_)
   exact k _ (h.sub bD)
  rw [if_neg z] at k
  obtain ⟨e1, e2⟩ := as_ z
  repeat (first|refine bx ?_|(refine aq h ?_;clear h;intro kb M h)|(refine au h ?_;clear h;intro M h)|refine St.to h ?_|(apply Exists.intro;(repeat apply Exists.intro);refine And.intro rfl ?_)|refine av ?_|refine ae ?_|refine ai ?_)
  rw [e1]
  repeat (first|refine bx ?_|(refine aq h ?_;clear h;intro kb M h)|(refine au h ?_;clear h;intro M h)|refine St.to h ?_|(apply Exists.intro;(repeat apply Exists.intro);refine And.intro rfl ?_)|refine av ?_|refine ae ?_|refine ai ?_)
  rw [e2]
  repeat (first|refine bx ?_|(refine aq h ?_;clear h;intro kb M h)|(refine au h ?_;clear h;intro M h)|refine St.to h ?_|(apply Exists.intro;(repeat apply Exists.intro);refine And.intro rfl ?_)|refine av ?_|refine ae ?_|refine ai ?_)
  exact k _ (h.sub bD)
 rw [if_neg e] at k
 clear e
 refine aR.2 ⟨fun e => ?_, fun e => ?_⟩
 ·rw [if_pos e] at k
  repeat (first|refine bx ?_|(refine aq h ?_;clear h;intro kb M h)|(refine au h ?_;clear h;intro M h)|refine St.to h ?_|(apply Exists.intro;(repeat apply Exists.intro);refine And.intro rfl ?_)|refine av ?_|refine ae ?_|refine ai ?_)
  refine aR.2 ⟨fun z => ?_, fun z => ?_⟩
  ·rw [if_pos z] at k
   repeat (first|refine bx ?_|(refine aq h ?_;clear h;intro kb M h)|(refine au h ?_;clear h;intro M h)|refine St.to h ?_|(apply Exists.intro;(repeat apply Exists.intro);refine And.intro rfl ?_)|refine av ?_|refine ae ?_|refine ai ?_)
   exact k _ (h.sub bD)
  rw [if_neg z] at k
  repeat (first|refine bx ?_|(refine aq h ?_;clear h;intro kb M h)|(refine au h ?_;clear h;intro M h)|refine St.to h ?_|(apply Exists.intro;(repeat apply Exists.intro);refine And.intro rfl ?_)|refine av ?_|refine ae ?_|refine ai ?_)
  exact k _ (h.sub bD)
 rw [if_neg e] at k
 clear e
 refine aR.2 ⟨fun e => ?_, fun e => ?_⟩
 ·rw [if_pos e] at k
  repeat (first|refine bx ?_|(refine aq h ?_;clear h;intro kb M h)|(refine au h ?_;clear h;intro M h)|refine St.to h ?_|(apply Exists.intro;(repeat apply Exists.intro);refine And.intro rfl ?_)|refine av ?_|refine ae ?_|refine ai ?_)
  refine aR.2 ⟨fun z => ?_, fun z => ?_⟩
  ·rw [if_pos z] at k
   repeat (first|refine bx ?_|(refine aq h ?_;clear h;intro kb M h)|(refine au h ?_;clear h;intro M h)|refine St.to h ?_|(apply Exists.intro;(repeat apply Exists.intro);refine And.intro rfl ?_)|refine av ?_|refine ae ?_|refine ai ?_)
   exact k _ (h.sub bD)
  rw [if_neg z] at k
  repeat (first|refine bx ?_|(refine aq h ?_;clear h;intro kb M h)|(refine au h ?_;clear h;intro M h)|refine St.to h ?_|(apply Exists.intro;(repeat apply Exists.intro);refine And.intro rfl ?_)|refine av ?_|refine ae ?_|refine ai ?_)
  exact k _ (h.sub bD)
 rw [if_neg e] at k
 clear e
 refine aR.2 ⟨fun e => ?_, fun e => ?_⟩
 ·rw [if_pos e] at k
  repeat (first|refine bx ?_|(refine aq h ?_;clear h;intro kb M h)|(refine au h ?_;clear h;intro M h)|refine St.to h ?_|(apply Exists.intro;(repeat apply Exists.intro);refine And.intro rfl ?_)|refine av ?_|refine ae ?_|refine ai ?_)
  rw [w1000]
  exact k _ (h.sub bD)
 rw [if_neg e] at k
 clear e
 refine aR.2 ⟨fun e => ?_, fun e => ?_⟩
 ·rw [if_pos e] at k
  repeat (first|refine bx ?_|(refine aq h ?_;clear h;intro kb M h)|(refine au h ?_;clear h;intro M h)|refine St.to h ?_|(apply Exists.intro;(repeat apply Exists.intro);refine And.intro rfl ?_)|refine av ?_|refine ae ?_|refine ai ?_)
  exact k _ (h.sub bD)
 rw [if_neg e] at k
 clear e
 repeat (first|refine bx ?_|(refine aq h ?_;clear h;intro kb M h)|(refine au h ?_;clear h;intro M h)|refine St.to h ?_|(apply Exists.intro;(repeat apply Exists.intro);refine And.intro rfl ?_)|refine av ?_|refine ae ?_|refine ai ?_)
 exact k _ (h.sub bD)
end
end Go.Proofs
namespace Go.Proofs
open Go.AF Go.Deep
def FB : List IntKind := [.i64, .i64, .i64, .i64]
def Tk : List IntKind := [.i64, .i64, .i64]
def Tl (g : Nat → Int) : cH := ⟨g 0, g 1, g 2, g 3⟩
def Tm (g : Nat → Int) : ov := ⟨g 0, g 1, g 2⟩
theorem Lp (l : List (Nat → Int)) : (kE FB).cells l = jh.cells (l.map Tl) := by
 induction l with
 | nil => rfl
 | cons g l ih => rw [iY.b7, List.map_cons, iY.b7, ih]; rfl
theorem Lq (l : List (Nat → Int)) : (kE Tk).cells l = hH.cells (l.map Tm) := by
 induction l with
 | nil => rfl
 | cons g l ih => rw [iY.b7, List.map_cons, iY.b7, ih]; rfl
theorem Ls (l : List (Nat → Int)) : (kE [.i64]).cells l = bB.cells (l.map (· 0)) := by
 induction l with
 | nil => rfl
 | cons g l ih => rw [iY.b7, List.map_cons, iY.b7, ih]; rfl
structure tL (M : Mem) (pa : PA) (p : b6) : Prop where
 n1 : p.funcs.length ≤ 9223372036854775807
 n2 : p.eJ.length ≤ 9223372036854775807
 n3 : p.cases.length ≤ 9223372036854775807
 Z7 : p.funcs.length ≤ pa.fc
 funcs : 0 < p.funcs.length → ∃ ts : List (Option Addr × Nat × Nat), RS zC M pa.f pa.fc ts ∧ ts.length = p.funcs.length ∧ ∀ (i : Nat) t f, ts[i]? = some t → p.funcs[i]? = some f → t.2.1 = f.length ∧ f.length ≤ 9223372036854775807 ∧ f.length ≤ t.2.2 ∧ (0 < f.length → RS jh M t.1 t.2.2 f)
 eJ : 0 < p.eJ.length → RS bB M pa.c pa.cc p.eJ
 cases : 0 < p.cases.length → RS hH M pa.k pa.kc p.cases
theorem tL.le {M M' : Mem} {pa : PA} {p : b6} (h : tL M pa p) (hle : M.le M') : tL M' pa p := by
 obtain ⟨a1, a2, a3, a4, a5, a6, a7⟩ := h
 refine ⟨a1, a2, a3, a4, fun h0 => ?_, fun h0 => (a6 h0).le hle, fun h0 => (a7 h0).le hle⟩
 obtain ⟨ts, t1, t2, t3⟩ := a5 h0
 exact ⟨ts, t1.le hle, t2, fun i t f a b => ⟨(t3 i t f a b).1, (t3 i t f a b).2.1, (t3 i t f a b).2.2.1, fun h => ((t3 i t f a b).2.2.2 h).le hle⟩⟩
theorem pG.rs {α : Type} {E : iY α} {M : Mem} {A : Option Addr} {n c : Nat} {ks : List IntKind} (h : pG M A n c ks) (f : (Nat → Int) → α) (hc : ∀ l, (kE ks).cells l = E.cells (l.map f)) : ∃ l : List α, l.length = n ∧ n ≤ c ∧ n ≤ 9223372036854775807 ∧ (0 < n → RS E M A c l) := by
 obtain ⟨l, rfl, h1, h2, h3, _⟩ := h
 refine ⟨l.map f, by simp, h1, Nat.le_trans h2 (by decide), fun h0 => ⟨?_, by simpa using h1⟩⟩
 rw [← hc]
 exact h3 h0
section
variable {H : Type} {enc : TypeId × Value → H} {P : Program} {w : World} {base : Nat} {spare : Nat → Bool} {held : Bool}
theorem Bs {t e e2 : TypeId} {A : Option Addr} {n c fuel : Nat} {x : DataW H × List MemPlace} (ht : P.underlying t = some (.slice e)) (he : P.underlying e = some (.slice e2)) (Xn : P.cellsOf e = 1) (hk : iJ P 8 e2 = some FB) (hc : P.cellsOf e2 = FB.length ∧ 0 < FB.length)
  (h : DataW.trod enc P w base spare held fuel t [.slice A n c] = some x) : ∃ fs : List (List cH), fs.length = n ∧ n ≤ c ∧ n ≤ 9223372036854775807 ∧ (0 < n → ∃ ts : List (Option Addr × Nat × Nat), RS zC (kP w) A c ts ∧ ts.length = n ∧ ∀ (i : Nat) t f, ts[i]? = some t → fs[i]? = some f → t.2.1 = f.length ∧ f.length ≤ 9223372036854775807 ∧ f.length ≤ t.2.2 ∧ (0 < f.length → RS jh (kP w) t.1 t.2.2 f)) := by
 rcases open_slice1 ht Xn h with ⟨h0, _⟩ | ⟨a, len, cap, m, n', V, D, Pl, hcs, hb, hl, hm, Gu, hx, hel⟩
 ·cases h0
  exact ⟨[], rfl, Nat.le_refl _, by omega, fun h => absurd h (by omega)⟩
 ·cases hcs
  have hlm : n ≤ m := by rw [Gu]; split <;> omega
  have each : ∀ i, i < n → ∃ q : (Option Addr × Nat × Nat) × List cH, w.cell? (a.add i) = some (.slice q.1.1 q.1.2.1 q.1.2.2) ∧ q.1.2.1 = q.2.length ∧ q.2.length ≤ 9223372036854775807 ∧ q.2.length ≤ q.1.2.2 ∧ (0 < q.2.length → RS jh (kP w) q.1.1 q.1.2.2 q.2) := by
   intro i hi
   obtain ⟨h1, h2⟩ := hel i (by omega)
   rcases Go.Deep.open_slice he h2 with ⟨h0, _⟩ | ⟨a', len', cap', _, _, _, _, MJ, _, _, _, _, _, _⟩
   ·refine ⟨((none, 0, 0), []), ?_, rfl, by simp, by simp, fun h => by simp at h⟩
    rw [h1]; simpa using h0
   ·have hv : V i = .slice (some a') len' cap' := by simpa using MJ
    rw [hv] at h2 h1
    obtain ⟨l, l1, l2, l3, l4⟩ := pG.rs (E := jh) (pG.xV he hk hc ⟨n', h2⟩) Tl Lp
    subst l1
    exact ⟨((some a', l.length, cap'), l), h1, rfl, l3, l2, l4⟩
  obtain ⟨q, hq⟩ := Go.Deep.choose_lt each
  refine ⟨(List.range n).map fun i => (q i).2, by simp, hl, Nat.le_trans hl (Nat.le_trans hm (by decide)), fun hn => ⟨(List.range n).map fun i => (q i).1, ⟨?_, by simpa using hl⟩, by simp, fun i t f h1 h2 => ?_⟩⟩
  ·have hs := World.cell?_spot (hq 0 hn).1
   obtain ⟨b, o, sp⟩ := a
   have hsp : sp = none := by simpa [Addr.add] using hs
   subst hsp
   intro i hi
   rw [iY.dB, List.length_map, List.length_range] at hi
   have hi' : i < n := by simpa [zC] using hi
   have h3 := (hq i hi').1
   rw [add_eq] at h3
   show (kP w).ld ⟨b, o + i, none⟩ = _
   have h4 := iY.mJ (E := zC) (l := (List.range n).map fun i => (q i).1) (i := i) (j := 0) (a := (q i).1) (by rw [List.getElem?_map, List.getElem?_range hi']; rfl) rfl
   have e : i * zC.z + 0 = i := by simp [zC]
   rw [e] at h4
   rw [h4]
   exact h3
  ·rw [List.getElem?_map] at h1 h2
   obtain ⟨j, hj, rfl⟩ := Option.map_eq_some_iff.1 h1
   obtain ⟨j', hj', rfl⟩ := Option.map_eq_some_iff.1 h2
   obtain ⟨hl1, e1⟩ := List.getElem?_eq_some_iff.1 hj
   rw [hj] at hj'
   cases hj'
   have Sw : j < n := by rw [← e1]; simpa using hl1
   exact (hq j Sw).2
theorem FC {t t1 t2 t3 t4 e1 e11 e2 e4 : TypeId} {fs : Array Field} {v : Value} {d : DataW H} {ps : List MemPlace} (hu : P.underlying t = some (.struct fs)) (hf : fs.toList.map (fun (f : Field) => (f.offset, f.type)) = [(0, t1), (1, t2), (2, t3), (3, t4)])
  (u1 : P.underlying t1 = some (.slice e1)) (u11 : P.underlying e1 = some (.slice e11)) (u2 : P.underlying t2 = some (.slice e2)) (u3 : P.underlying t3 = some (.int .i64)) (u4 : P.underlying t4 = some (.slice e4))
  (c1 : P.cellsOf t1 = 1) (c2 : P.cellsOf t2 = 1) (c3 : P.cellsOf t3 = 1) (c4 : P.cellsOf t4 = 1) (c11 : P.cellsOf e1 = 1) (k1 : iJ P 8 e11 = some FB) (k2 : iJ P 8 e2 = some [.i64]) (k4 : iJ P 8 e4 = some Tk)
  (d1 : P.cellsOf e11 = 4) (d2 : P.cellsOf e2 = 1) (d4 : P.cellsOf e4 = 3) (ct : P.cellsOf t = 4)
  (hs : ∃ cs, v = .agg cs ∧ cs.size = P.cellsOf t)
  (h : DataW.Trod enc P w base spare held t v d ps) : ∃ (pa : PA) (p : b6), v = .agg #[.slice pa.f p.funcs.length pa.fc, .slice pa.c p.eJ.length pa.cc, .int .i64 p.aL, .slice pa.k p.cases.length pa.kc] ∧ tL (kP w) pa p := by
 obtain ⟨cs, rfl, hsz⟩ := hs
 obtain ⟨fuel, hh⟩ := h
 obtain ⟨xs, m, _, _, hl, Sv, J5⟩ := DataW.trod_struct hu hh
 have e0 : (Value.agg cs).cells = cs := rfl
 rw [e0] at J5 hl
 rw [ct] at hsz
 obtain ⟨cl⟩ := cs
 simp only [List.size_toArray] at hsz
 have hfl : fs.size = 4 := by have := congrArg List.length hf; simpa using this
 have fld : ∀ (i o : Nat) (ty : TypeId), ([(0, t1), (1, t2), (2, t3), (3, t4)] : List (Nat × TypeId))[i]? = some (o, ty) → ∃ (f : Field) (x : DataW H × List MemPlace), fs[i]? = some f ∧ f.offset = o ∧ f.type = ty ∧ DataW.trod enc P w base spare held m ty ((cl.drop o).take (P.cellsOf ty)) = some x := by
  intro i o ty hi
  rw [← hf, List.getElem?_map] at hi
  obtain ⟨f, JP, Ed⟩ := Option.map_eq_some_iff.1 hi
  cases Ed
  have hf3 : fs[i]? = some f := by simpa using JP
  have := J5 i f hf3
  have hi4 : i < xs.length := by rw [Sv]; exact (Array.getElem?_eq_some_iff.1 hf3).1
  rw [List.getElem?_eq_getElem hi4] at this
  exact ⟨f, _, hf3, rfl, rfl, this⟩
 match cl, hsz with
 | [w0, w1, w2, w3], _ =>
  obtain ⟨_, x1, _, _, _, a1⟩ := fld 0 0 t1 rfl
  obtain ⟨_, x2, _, _, _, a2⟩ := fld 1 1 t2 rfl
  obtain ⟨_, x3, _, _, _, a3⟩ := fld 2 2 t3 rfl
  obtain ⟨_, x4, _, _, _, a4⟩ := fld 3 3 t4 rfl
  rw [c1] at a1
  rw [c2] at a2
  rw [c3] at a3
  rw [c4] at a4
  have sl : ∀ {ty e : TypeId} {u : Value} {x : DataW H × List MemPlace}, P.underlying ty = some (.slice e) → DataW.trod enc P w base spare held m ty [u] = some x → ∃ A n c, u = .slice A n c := by
   intro ty e u x hu h
   rcases Go.Deep.open_slice hu h with ⟨h0, _⟩ | ⟨a, len, cap, _, _, _, _, h0, _⟩
   ·cases h0; exact ⟨_, _, _, rfl⟩
   ·cases h0; exact ⟨_, _, _, rfl⟩
  obtain ⟨A1, n1, q1, rfl⟩ := sl u1 a1
  obtain ⟨A2, n2, q2, rfl⟩ := sl u2 a2
  obtain ⟨A4, n4, q4, rfl⟩ := sl u4 a4
  obtain ⟨lk, b3, _⟩ := DataW.trod_int u3 a3
  have b3' : w2 = .int .i64 lk := by simpa using b3
  subst b3'
  obtain ⟨fs', f1, f2, f3, f4⟩ := Bs u1 u11 c11 k1 ⟨d1, by decide⟩ a1
  obtain ⟨l2, g1, g2, g3, g4⟩ := pG.rs (E := bB) (pG.xV u2 k2 ⟨d2, by decide⟩ ⟨m, a2⟩) (· 0) Ls
  obtain ⟨l4, j1, j2, j3, j4⟩ := pG.rs (E := hH) (pG.xV u4 k4 ⟨d4, by decide⟩ ⟨m, a4⟩) Tm Lq
  subst f1; subst g1; subst j1
  exact ⟨⟨A1, q1, A2, q2, A4, q4⟩, ⟨fs', l2, lk, l4⟩, rfl, ⟨f3, g3, j3, f2, f4, g4, j4⟩⟩
end
end Go.Proofs
namespace Go.Proofs
open Go.AF
set_option maxRecDepth 100000
set_option maxHeartbeats 1000000
attribute [local irreducible] aJ de fA cw aB dZ aF aK bh aY bA aO
def cC (p : b6) : List Int := (p.eJ.take 4).map (aG · 4)
def jY (nc : Nat) (c : ov) : ov := if nc = 0 then ⟨2, 0, 0⟩ else ⟨aG c.way 3, aG c.ch nc, aG c.bR 8⟩
def fJ (p : b6) : List ov := (p.cases.take 8).map (jY (cC p).length)
def da (p : b6) : List (List cH) := if (p.funcs.take 5).length = 0 then [[.zero]] else p.funcs.take 5
def gE (f : List cH) : List cH := if (f.take 20).length = 0 then [.zero] else f.take 20
def tM (p : b6) (f : List cH) : List cH := (gE f).map (xo (da p).length (cC p).length (fJ p).length (aG p.aL 4) (gE f).length)
def fK (p : b6) : b6 := ⟨(da p).map (tM p), cC p, aG p.aL 4, fJ p⟩
theorem wJ (p : b6) : 1 ≤ (da p).length ∧ (da p).length ≤ 5 := by
 unfold da
 split
 ·simp
 ·rename_i h; rw [List.length_take] at h ⊢; omega
theorem CD (f : List cH) : 1 ≤ (gE f).length ∧ (gE f).length ≤ 20 := by
 unfold gE
 split
 ·simp
 ·rename_i h; rw [List.length_take] at h ⊢; omega
theorem CE (p : b6) : (cC p).length ≤ 4 := by unfold cC; rw [List.length_map, List.length_take]; omega
theorem CF (p : b6) : (fJ p).length ≤ 8 := by unfold fJ; rw [List.length_map, List.length_take]; omega
theorem lk10 (p : b6) : 0 ≤ aG p.aL 4 ∧ aG p.aL 4 ≤ 3 := by have := cW (n := p.aL) (m := 4) (by omega) (by omega); omega
theorem Lt (p : b6) : dn (fK p) := by
 have h1 := wJ p
 have h2 := CE p
 have h3 := CF p
 have h4 := lk10 p
 refine ⟨by simp [fK]; omega, by show (cC p).length ≤ 8; omega, by show 0 ≤ aG p.aL 4 ∧ aG p.aL 4 ≤ 8; omega, by show (fJ p).length ≤ 32; omega, fun c hc => ?_, fun f hf => ?_⟩
 ·obtain ⟨c0, _, rfl⟩ := List.mem_map.1 hc
  have a3 := cW (n := c0.way) (m := 3) (by omega) (by omega)
  have a8 := cW (n := c0.bR) (m := 8) (by omega) (by omega)
  unfold jY
  split
  ·exact ⟨⟨by decide, by decide, fun h => absurd rfl h⟩, by decide, by decide⟩
  ·rename_i hn
   have ac := cW (n := c0.ch) (m := ((cC p).length : Int)) (by omega) (by omega)
   exact ⟨⟨by dsimp only; omega, by dsimp only; omega, fun _ => ⟨ac.1, ac.2, a8.1, a8.2⟩⟩, a8.1, a8.2⟩
 ·obtain ⟨f0, _, rfl⟩ := List.mem_map.1 hf
  have h5 := CD f0
  have hl : (tM p f0).length = (gE f0).length := by simp [tM]
  refine ⟨by omega, by omega, fun i hi => ?_⟩
  obtain ⟨i0, _, rfl⟩ := List.mem_map.1 hi
  refine cU.ok ?_
  have e1 : (fK p).funcs.length = (da p).length := by simp [fK]
  rw [e1, hl]
  show cU _ ((cC p).length : Nat) ((fJ p).length : Nat) (aG p.aL 4) _ _
  exact Pq (by omega) (by omega) (by omega) h4 (by omega)
theorem R7 : bn Tryz.prog 61 63 4 32 [.int .i64 0, .int .i64 0, .int .i64 0, .int .i64 0] := bn.mk' (zv := .agg #[.int .i64 0, .int .i64 0, .int .i64 0, .int .i64 0]) (by kernel_rfl) (by kernel_rfl) rfl (by omega)
theorem R8 : bn Tryz.prog 57 163 3 24 [.int .i64 0, .int .i64 0, .int .i64 0] := bn.mk' (zv := .agg #[.int .i64 0, .int .i64 0, .int .i64 0]) (by kernel_rfl) (by kernel_rfl) rfl (by omega)
theorem WL : bn Tryz.prog 56 61 1 24 [.slice none 0 0] := bn.mk' (zv := .slice none 0 0) (by kernel_rfl) (by kernel_rfl) rfl (by omega)
abbrev DI (pa : PA) (p : b6) : Value := .agg #[.slice pa.f p.funcs.length pa.fc, .slice pa.c p.eJ.length pa.cc, .int .i64 p.aL, .slice pa.k p.cases.length pa.kc]
abbrev prgC (A : Option Addr) (n c : Nat) (B : Option Addr) (m d : Nat) (lk : Int) (C : Option Addr) (q e : Nat) : List Value := [.slice A n c, .slice B m d, .int .i64 lk, .slice C q e]
section
variable {R : Mem} {L L' : List HP} {M : Mem} {K : Value → Mem → Prop} {Kp : List PanicEntry → Mem → Prop} {pa : PA} {p : b6}
theorem take_succ {α : Type} {l : List α} {j : Nat} {v : α} (h : l[j]? = some v) : l.take (j + 1) = l.take j ++ [v] := by
 obtain ⟨hj, rfl⟩ := List.getElem?_eq_some_iff.1 h
 rw [List.take_add_one, List.getElem?_eq_getElem hj]; rfl
def xp (R : Mem) (A : Option Addr) (c : Nat) (fs : List (List cH)) : Prop := ∃ ts : List (Option Addr × Nat × Nat), RS zC R A c ts ∧ ts.length = fs.length ∧ ∀ (i : Nat) t f, ts[i]? = some t → fs[i]? = some f → t.2.1 = f.length ∧ f.length ≤ 9223372036854775807 ∧ f.length ≤ t.2.2 ∧ (0 < f.length → RS jh R t.1 t.2.2 f)
theorem xp.le {R R' : Mem} {A : Option Addr} {c : Nat} {fs : List (List cH)} (h : xp R A c fs) (hle : R.le R') : xp R' A c fs := by
 obtain ⟨ts, h1, h2, h3⟩ := h
 exact ⟨ts, h1.le hle, h2, fun i t f a b => ⟨(h3 i t f a b).1, (h3 i t f a b).2.1, (h3 i t f a b).2.2.1, fun h => ((h3 i t f a b).2.2.2 h).le hle⟩⟩
theorem xp.cut {R : Mem} {A : Option Addr} {c : Nat} {fs : List (List cH)} (h : xp R A c fs) (q : Nat) : xp R (lF A 0 c 1) (c - 0) (fs.take q) := by
 obtain ⟨ts, h1, h2, h3⟩ := h
 have h4 := (h1.drop 0 (Nat.zero_le _)).take q
 rw [List.drop_zero] at h4
 refine ⟨ts.take q, h4, by rw [List.length_take, List.length_take, h2], fun i t f a b => ?_⟩
 rw [List.getElem?_take] at a b
 split at a
 ·rename_i hi
  rw [if_pos hi] at b
  exact h3 i t f a b
 ·cases a
theorem RS.cut {α : Type} {E : iY α} {R : Mem} {A : Option Addr} {c : Nat} {l : List α} (h : RS E R A c l) (q : Nat) : RS E R (lF A 0 c E.z) (c - 0) (l.take q) := by
 have h4 := (h.drop 0 (Nat.zero_le _)).take q
 rwa [List.drop_zero] at h4
abbrev dx (k : Nat) (A : Option Addr) (n c : Nat) (B : Option Addr) (m d : Nat) (lk : Int) (C : Option Addr) (q e : Nat) : HP := pt k (prgC A n c B m d lk C q e) 59
theorem Lu (h : Hp R L M) (ha : tL R pa p) (k : ∀ R' FD q us M', R.le R' → FD.f = some ⟨q, 0, none⟩ → us.length = (fK p).funcs.length → (∀ (i : Nat) t f, us[i]? = some t → (fK p).funcs[i]? = some f → RS jh R' t.1 t.2.2 f ∧ t.2.1 = f.length) → RS hH R' FD.k FD.kc (fK p).cases → RS bB R' FD.c FD.cc (fK p).eJ →
  Hp R' (bO zC 61 (some ⟨q, 0, none⟩) FD.fc us :: L) M' → K (DI FD (fK p)) M') :
  aa Tryz.prog 24 #[DI pa p] M K Kp := by
 refine qc ?_
 have SX := CE p
 have hkl := CF p
 have n1 := ha.n1
 have n2 := ha.n2
 have n3 := ha.n3
 have Z7 := ha.Z7
 refine aq h ?_
 clear h
 intro k1 M h
 refine aq h ?_
 clear h
 intro k3 M h
 refine aH h (bx (cE ?_))
 refine aq h ?_
 clear h
 intro k9 M h
 repeat (refine au h ?_; clear h; intro M h)
 generalize hlk : aG p.aL 4 = lk at h
 have h0 : Hp R (bO bB 3 none 0 [] :: dx k9 none 0 0 none 0 0 lk none 0 0 :: dx k3 none 0 0 none 0 0 0 none 0 0 :: dx k1 pa.f p.funcs.length pa.fc pa.c p.eJ.length pa.cc p.aL pa.k p.cases.length pa.kc :: L) M := h.cz bB 3
 clear h
 refine ⟨fun vs M => vs = [] ∧ ∃ B c, Hp R (bO bB 3 B c (cC p) :: dx k9 none 0 0 B (cC p).length c lk none 0 0 :: dx k3 none 0 0 none 0 0 0 none 0 0 :: dx k1 pa.f p.funcs.length pa.fc pa.c p.eJ.length pa.cc p.aL pa.k p.cases.length pa.kc :: L) M,
  ⟨fun dd vs M => ∃ (j : Nat) (B : Option Addr) (c : Nat), vs = [.int .i64 (j : Int)] ∧ dd = 4 - j ∧ j ≤ 4 ∧ j ≤ p.eJ.length ∧ Hp R (bO bB 3 B c ((p.eJ.take j).map (aG · 4)) :: dx k9 none 0 0 B j c lk none 0 0 :: dx k3 none 0 0 none 0 0 0 none 0 0 :: dx k1 pa.f p.funcs.length pa.fc pa.c p.eJ.length pa.cc p.aL pa.k p.cases.length pa.kc :: L) M, ⟨_, 0, none, 0, rfl, rfl, by omega, by omega, h0⟩, ?_⟩, ?_⟩
 ·clear h0
  rintro dd _ nn M ⟨j, B, c, he, hd, hj, Gm, h⟩
  simp only [List.cons.injEq, Value.int.injEq, and_true, true_and] at he
  subst he
  have hlen : ((p.eJ.take j).map (aG · 4)).length = j := by rw [List.length_map, List.length_take]; omega
  have hout : ¬ (j < p.eJ.length ∧ j < 4) → (p.eJ.take j).map (aG · 4) = cC p ∧ j = (cC p).length := fun hn => by
   have e : p.eJ.take j = p.eJ.take 4 := by
    rcases Nat.lt_or_ge j 4 with h4 | h4
    ·rw [List.take_of_length_le (by omega), List.take_of_length_le (by omega)]
    ·rw [show j = 4 from by omega]
   refine ⟨by rw [cC, e], ?_⟩
   rw [← hlen, e]; rfl
  refine aS h ?_
  by_cases hc : j < p.eJ.length ∧ j < 4
  ·obtain ⟨c1, c2⟩ := hc
   refine vJ (by simp; omega) (vJ (by simp; omega) ?_)
   have hr := ha.eJ (by omega)
   obtain ⟨b, o, hb⟩ := hr.some (by omega) (by decide)
   rw [hb] at hr h
   obtain ⟨v, hv⟩ := aP c1
   have R9 : (p.eJ.take (j + 1)).map (aG · 4) = (p.eJ.take j).map (aG · 4) ++ [aG v 4] := by rw [take_succ hv, List.map_append]; rfl
   have hstep : ∀ M B c, Hp R (bO bB 3 B c ((p.eJ.take j).map (aG · 4) ++ [aG v 4]) :: dx k9 none 0 0 B (j + 1) c lk none 0 0 :: dx k3 none 0 0 none 0 0 0 none 0 0 :: dx k1 pa.f p.funcs.length pa.fc (some ⟨b, o, none⟩) p.eJ.length pa.cc p.aL pa.k p.cases.length pa.kc :: L) M →
     ∃ (j' : Nat) (B : Option Addr) (c : Nat), [Value.int .i64 (IntKind.wrap .i64 ((j : Int) + 1))] = [.int .i64 (j' : Int)] ∧ 4 - (j + 1) = 4 - j' ∧ j' ≤ 4 ∧ j' ≤ p.eJ.length ∧ Hp R (bO bB 3 B c ((p.eJ.take j').map (aG · 4)) :: dx k9 none 0 0 B j' c lk none 0 0 :: dx k3 none 0 0 none 0 0 0 none 0 0 :: dx k1 pa.f p.funcs.length pa.fc pa.c p.eJ.length pa.cc p.aL pa.k p.cases.length pa.kc :: L) M := by
    intro M B c h
    refine ⟨j + 1, B, c, by rw [aV (by omega)], rfl, by omega, by omega, ?_⟩
    rw [R9, hb]
    exact h
   refine ⟨fun vs M => vs = [] ∧ ∃ B c, Hp R (bO bB 3 B c ((p.eJ.take j).map (aG · 4) ++ [aG v 4]) :: dx k9 none 0 0 B (j + 1) c lk none 0 0 :: dx k3 none 0 0 none 0 0 0 none 0 0 :: dx k1 pa.f p.funcs.length pa.fc (some ⟨b, o, none⟩) p.eJ.length pa.cc p.aL pa.k p.cases.length pa.kc :: L) M, ?_, ?_⟩
   ·refine aS h ⟨by omega, by omega, bp ?_⟩
    refine aZ (Src.at hr.src h (i := j) (j := 0) hv rfl (by simp [bB])) ?_
    refine ⟨?_, ?_, trivial⟩
    ·refine aS h (bx (cE ?_))
     refine aq h ?_
     clear h
     intro jU M h
     refine h.gW (A := B) pL [aG v 4] rfl hlen.symm rfl (by simp; omega) ?_
     clear h; intro A' c' M h
     refine be ?_
     refine au h ?_
     clear h
     intro M h
     exact ⟨rfl, _, _, h.sub bD⟩
    ·refine bx (cE (aS h ?_))
     refine aq h ?_
     clear h
     intro jU M h
     refine h.gW (A := B) pL [aG v 4] rfl hlen.symm rfl (by simp; omega) ?_
     clear h; intro A' c' M h
     refine be ?_
     refine au h ?_
     clear h
     intro M h
     exact ⟨rfl, _, _, h.sub bD⟩
   ·clear h
    rintro nn M ⟨_, B', c', h⟩
    exact ⟨4 - (j + 1), by omega, hstep M B' c' h⟩
  ·have ho := hout hc
   obtain ⟨e1, e2⟩ := ho
   rw [e1] at h
   refine IN ⟨rfl, B, c, ?_⟩ fun h1 h2 => absurd ⟨by omega, by omega⟩ hc
   rw [← e2]; exact h
 clear h0
 rintro nn M ⟨_, B, c, h⟩
 clear nn
 have h0 : Hp R (bO hH 163 none 0 [] :: bO bB 3 B c (cC p) :: dx k9 none 0 0 B (cC p).length c lk none 0 0 :: dx k3 none 0 0 none 0 0 0 none 0 0 :: dx k1 pa.f p.funcs.length pa.fc pa.c p.eJ.length pa.cc p.aL pa.k p.cases.length pa.kc :: L) M := h.cz hH _
 clear h
 refine ⟨fun vs M => vs = [] ∧ ∃ C d, Hp R (bO hH 163 C d (fJ p) :: bO bB 3 B c (cC p) :: dx k9 none 0 0 B (cC p).length c lk C (fJ p).length d :: dx k3 none 0 0 none 0 0 0 none 0 0 :: dx k1 pa.f p.funcs.length pa.fc pa.c p.eJ.length pa.cc p.aL pa.k p.cases.length pa.kc :: L) M,
  ⟨fun dd vs M => ∃ (j : Nat) (C : Option Addr) (d : Nat), vs = [.int .i64 (j : Int)] ∧ dd = 8 - j ∧ j ≤ 8 ∧ j ≤ p.cases.length ∧ Hp R (bO hH 163 C d ((p.cases.take j).map (jY (cC p).length)) :: bO bB 3 B c (cC p) :: dx k9 none 0 0 B (cC p).length c lk C j d :: dx k3 none 0 0 none 0 0 0 none 0 0 :: dx k1 pa.f p.funcs.length pa.fc pa.c p.eJ.length pa.cc p.aL pa.k p.cases.length pa.kc :: L) M, ⟨_, 0, none, 0, rfl, rfl, by omega, by omega, h0⟩, ?_⟩, ?_⟩
 ·clear h0
  rintro dd _ nn M ⟨j, C, d, he, hd, hj, Gm, h⟩
  simp only [List.cons.injEq, Value.int.injEq, and_true, true_and] at he
  subst he
  have hlen : ((p.cases.take j).map (jY (cC p).length)).length = j := by rw [List.length_map, List.length_take]; omega
  have hout : ¬ (j < p.cases.length ∧ j < 8) → (p.cases.take j).map (jY (cC p).length) = fJ p ∧ j = (fJ p).length := fun hn => by
   have e : p.cases.take j = p.cases.take 8 := by
    rcases Nat.lt_or_ge j 8 with h4 | h4
    ·rw [List.take_of_length_le (by omega), List.take_of_length_le (by omega)]
    ·rw [show j = 8 from by omega]
   refine ⟨by rw [fJ, e], ?_⟩
   rw [← hlen, e]; rfl
  refine aS h ?_
  by_cases hc : j < p.cases.length ∧ j < 8
  ·obtain ⟨c1, c2⟩ := hc
   refine vJ (by simp; omega) (vJ (by simp; omega) ?_)
   have hr := ha.cases (by omega)
   obtain ⟨b, o, hb⟩ := hr.some (by omega) (by decide)
   rw [hb] at hr h
   obtain ⟨v, hv⟩ := aP c1
   have R9 : (p.cases.take (j + 1)).map (jY (cC p).length) = (p.cases.take j).map (jY (cC p).length) ++ [jY (cC p).length v] := by rw [take_succ hv, List.map_append]; rfl
   refine aS h ⟨by omega, by omega, bp ?_⟩
   refine aZ (Src.at hr.src h (i := j) (j := 0) hv rfl (by simp [hH])) ?_
   refine aZ (Src.at hr.src h (i := j) (j := 1) hv rfl (by simp [hH]; omega)) ?_
   refine aZ (Src.at hr.src h (i := j) (j := 2) hv rfl (by simp [hH]; omega)) ?_
   refine aq h ?_
   clear h
   intro Ns M h
   repeat (first|refine bx ?_|(refine aq h ?_;clear h;intro kb M h)|(refine au h ?_;clear h;intro M h)|refine St.to h ?_|(apply Exists.intro;(repeat apply Exists.intro);refine And.intro rfl ?_)|refine av ?_|refine ae ?_|refine ai ?_)
   refine ⟨fun vs M => vs = [] ∧ Hp R (pt kb (hH.f (jY (cC p).length v)) 163 :: bO hH 163 C d ((p.cases.take j).map (jY (cC p).length)) :: bO bB 3 B c (cC p) :: dx k9 none 0 0 B (cC p).length c lk C j d :: dx k3 none 0 0 none 0 0 0 none 0 0 :: dx k1 pa.f p.funcs.length pa.fc pa.c p.eJ.length pa.cc p.aL (some ⟨b, o, none⟩) p.cases.length pa.kc :: L) M, ?_, ?_⟩
   ·refine aR.2 ⟨fun hz => ?_, fun hz => ?_⟩
    ·have ez : jY (cC p).length v = ⟨2, 0, 0⟩ := by unfold jY; rw [if_pos (by omega)]
     rw [ez]
     repeat (first|(refine aq h ?_;clear h;intro kb M h)|(refine au h ?_;clear h;intro M h)|refine St.to h ?_|(apply Exists.intro;(repeat apply Exists.intro);refine And.intro rfl ?_)|refine av ?_|refine ae ?_|refine ai ?_)
     exact h.sub bD
    ·have ez : jY (cC p).length v = ⟨aG v.way 3, aG v.ch (cC p).length, aG v.bR 8⟩ := by unfold jY; rw [if_neg (by omega)]
     rw [ez]
     exact ⟨rfl, h.sub bD⟩
   ·clear h
    rintro nn M ⟨_, h⟩
    generalize jY (cC p).length v = w at h R9
    have h : Hp R (pt kb [.int .i64 w.way, .int .i64 w.ch, .int .i64 w.bR] 163 :: bO hH 163 C d ((p.cases.take j).map (jY (cC p).length)) :: bO bB 3 B c (cC p) :: dx k9 none 0 0 B (cC p).length c lk C j d :: dx k3 none 0 0 none 0 0 0 none 0 0 :: dx k1 pa.f p.funcs.length pa.fc pa.c p.eJ.length pa.cc p.aL (some ⟨b, o, none⟩) p.cases.length pa.kc :: L) M := h
    refine aS h (aH h (aH h (aH h ?_)))
    refine aq h ?_
    clear h
    intro Xd M h
    refine h.gW (A := C) R8 [w] rfl hlen.symm rfl (by simp; omega) ?_
    clear h; intro C' d' M h
    refine be ?_
    refine au h ?_
    clear h
    intro M h
    refine ⟨8 - (j + 1), by omega, j + 1, C', d', by rw [aV (by omega)], rfl, by omega, by omega, ?_⟩
    rw [R9, hb]
    exact h.sub bD
  ·have ho := hout hc
   obtain ⟨e1, e2⟩ := ho
   rw [e1] at h
   refine IN ⟨rfl, C, d, ?_⟩ fun h1 h2 => absurd ⟨by omega, by omega⟩ hc
   rw [← e2]; exact h
 clear h0
 rintro nn M ⟨_, C, d, h⟩
 clear nn
 obtain ⟨R1, l1, rC, h1⟩ := h.gh C
 obtain ⟨R2, l2, rB, h2⟩ := h1.gh B
 clear h h1
 replace rC := rC.le l2
 have kW : R.le R2 := Mem.le_trans l1 l2
 replace h := h2
 clear h2 l1 l2
 have e5 : Int.toNat (if (5 : Int) < ((p.funcs.length : Nat) : Int) then 5 else ((p.funcs.length : Nat) : Int)) - 0 = min 5 p.funcs.length := by split <;> omega
 refine aS h (aS h ⟨by omega, by omega, by split <;> omega, by split <;> omega, by omega, by split <;> omega, ?_⟩)
 simp only [e5, Int.toNat_natCast]
 refine ⟨fun vs M => ∃ R' A c', vs = [.slice A (da p).length c'] ∧ R2.le R' ∧ xp R' A c' (da p) ∧ Hp R' (dx k9 none 0 0 B (cC p).length c lk C (fJ p).length d :: dx k3 none 0 0 none 0 0 0 none 0 0 :: dx k1 pa.f p.funcs.length pa.fc pa.c p.eJ.length pa.cc p.aL pa.k p.cases.length pa.kc :: L) M, ?_, ?_⟩
 ·refine aR.2 ⟨fun hz => ?_, fun hz => ?_⟩
  ·have ez : da p = [[.zero]] := by unfold da; rw [if_pos (by rw [List.length_take]; omega)]
   rw [ez]
   refine aq h ?_
   clear h
   intro ka M h
   obtain ⟨R3, l3, r3, h3⟩ := ((h.pt ka).kT (E := jh) (l := [.zero]) rfl).gh (some ⟨ka, 0, none⟩)
   clear h
   refine aq h3 ?_
   clear h3; intro kb M h
   obtain ⟨R4, l4, r4, h4⟩ := ((h.pt kb).kT (E := zC) (l := [(some ⟨ka, 0, none⟩, 1, 1)]) rfl).gh (some ⟨kb, 0, none⟩)
   clear h
   refine ⟨R4, _, _, rfl, Mem.le_trans l3 l4, ⟨_, r4, rfl, fun i t f a b => ?_⟩, h4⟩
   match i, a, b with
   | 0, a, b => cases a; cases b; exact ⟨rfl, by simp, by simp, fun _ => r3.le l4⟩
   | i + 1, a, b => simp at a
  ·have ez : da p = p.funcs.take 5 := by unfold da; rw [if_neg (by rw [List.length_take]; omega)]
   have hf : xp R pa.f pa.fc p.funcs := ha.funcs (by omega)
   rw [ez]
   refine ⟨R2, _, _, by rw [List.length_take], Mem.le_refl _, (hf.cut 5).le kW, h⟩
 clear h
 rintro nn A' n' c' M ⟨R3, A, cA, he, l3, hrows, h⟩
 simp only [List.cons.injEq, Value.slice.injEq, and_true] at he
 obtain ⟨rfl, rfl, rfl⟩ := he
 clear nn e5
 replace rC := rC.le l3
 replace rB := rB.le l3
 have PS : R.le R3 := Mem.le_trans kW l3
 clear l3 kW
 have hfl := wJ p
 refine h.xT (E := zC) (a := (none, 0, 0)) WL (by omega) ?_
 clear h; intro q M h
 refine be ?_
 refine au h ?_
 clear h
 intro M h
 obtain ⟨ts, hts1, hts2, hts3⟩ := hrows
 refine ⟨fun dd vs M => ∃ (j : Nat) (R4 : Mem) (us : List (Option Addr × Nat × Nat)), vs = [.int .i64 (j : Int)] ∧ dd = (da p).length - j ∧ j ≤ (da p).length ∧ R3.le R4 ∧ us.length = (da p).length ∧ (∀ (i : Nat) t f, i < j → us[i]? = some t → (da p)[i]? = some f → RS jh R4 t.1 t.2.2 (tM p f) ∧ t.2.1 = (tM p f).length) ∧
  Hp R4 (bO zC 61 (some ⟨q, 0, none⟩) (da p).length us :: dx k9 (some ⟨q, 0, none⟩) (da p).length (da p).length B (cC p).length c lk C (fJ p).length d :: dx k3 none 0 0 none 0 0 0 none 0 0 :: dx k1 pa.f p.funcs.length pa.fc pa.c p.eJ.length pa.cc p.aL pa.k p.cases.length pa.kc :: L) M,
  ⟨_, 0, R3, List.replicate (da p).length (none, 0, 0), rfl, rfl, by omega, Mem.le_refl _, by simp, fun i t f hi => absurd hi (by omega), h.sub bD⟩, ?_⟩
 clear h
 rintro dd _ nn M ⟨j, R4, us, he, hd, hj, l4, Tn, FE, h⟩
 simp only [List.cons.injEq, Value.int.injEq, and_true, true_and] at he
 subst he
 refine aM.2 ⟨fun hlt => ?_, fun hge => ?_⟩
 ·obtain ⟨t, ht⟩ := aP (l := ts) (i := j) (by omega)
  obtain ⟨f, hf⟩ := aP (l := da p) (i := j) (by omega)
  obtain ⟨u1, u2, u3, u4⟩ := hts3 j t f ht hf
  obtain ⟨tA, tn, tc⟩ := t
  dsimp only at u1 u3 u4
  subst u1
  have H7 := hts1.le l4
  obtain ⟨b, o, hb⟩ := H7.some (by omega) (by decide)
  rw [hb] at H7
  rw [hb]
  refine ⟨by omega, hlt, bp ?_⟩
  refine Gq (Src.at H7.src h (i := j) (j := 0) ht rfl (by simp [zC])) ?_
  dsimp only
  have e20 : Int.toNat (if (20 : Int) < ((f.length : Nat) : Int) then 20 else ((f.length : Nat) : Int)) - 0 = min 20 f.length := by split <;> omega
  refine ⟨by omega, by omega, by split <;> omega, by split <;> omega, by omega, by split <;> omega, ?_⟩
  simp only [e20, Int.toNat_natCast]
  refine ⟨fun vs M => ∃ R' A c', vs = [.slice A (gE f).length c'] ∧ R4.le R' ∧ RS jh R' A c' (gE f) ∧ Hp R' (bO zC 61 (some ⟨q, 0, none⟩) (da p).length us :: dx k9 (some ⟨q, 0, none⟩) (da p).length (da p).length B (cC p).length c lk C (fJ p).length d :: dx k3 none 0 0 none 0 0 0 none 0 0 :: dx k1 pa.f p.funcs.length pa.fc pa.c p.eJ.length pa.cc p.aL pa.k p.cases.length pa.kc :: L) M, ?_, ?_⟩
  ·refine aR.2 ⟨fun hz => ?_, fun hz => ?_⟩
   ·have ez : gE f = [.zero] := by unfold gE; rw [if_pos (by rw [List.length_take]; omega)]
    rw [ez]
    refine aq h ?_
    clear h
    intro ka M h
    obtain ⟨R5, l5, r5, h5⟩ := ((h.pt ka).kT (E := jh) (l := [.zero]) rfl).gh (some ⟨ka, 0, none⟩)
    clear h
    exact ⟨R5, _, _, rfl, l5, r5, h5⟩
   ·have ez : gE f = f.take 20 := by unfold gE; rw [if_neg (by rw [List.length_take]; omega)]
    rw [ez]
    refine ⟨R4, _, _, by rw [List.length_take]; rfl, Mem.le_refl _, RS.le (RS.cut (E := jh) (u4 (by omega)) 20) l4, h⟩
  clear h
  rintro nn Sa AH c'' M ⟨R5, F, cF, he, l5, hF, h⟩
  simp only [List.cons.injEq, Value.slice.injEq, and_true] at he
  obtain ⟨rfl, rfl, rfl⟩ := he
  clear nn e20
  have h5 := CD f
  refine aq h ?_
  clear h
  intro kr M h
  have h0 := (h.pt kr).kT (E := jh) (l := []) rfl
  clear h
  refine ⟨fun dd vs M => ∃ (i : Nat) (A : Option Addr) (c' : Nat), vs = [.slice A i c', .int .i64 (i : Int)] ∧ dd = (gE f).length - i ∧ i ≤ (gE f).length ∧ Hp R5 (bO jh 63 A c' (((gE f).take i).map (xo (da p).length (cC p).length (fJ p).length lk (gE f).length)) :: bO zC 61 (some ⟨q, 0, none⟩) (da p).length us :: dx k9 (some ⟨q, 0, none⟩) (da p).length (da p).length B (cC p).length c lk C (fJ p).length d :: dx k3 none 0 0 none 0 0 0 none 0 0 :: dx k1 pa.f p.funcs.length pa.fc pa.c p.eJ.length pa.cc p.aL pa.k p.cases.length pa.kc :: L) M,
   ⟨_, 0, _, _, rfl, rfl, by omega, h0⟩, ?_⟩
  clear h0
  rintro dd _ Sa AH c'' nn M ⟨i, A2, c2, he, RA, hi, h⟩
  simp only [List.cons.injEq, Value.int.injEq, Value.slice.injEq, and_true, true_and] at he
  obtain ⟨⟨rfl, rfl, rfl⟩, rfl⟩ := he
  have hlen : (((gE f).take AH).map (xo (da p).length (cC p).length (fJ p).length lk (gE f).length)).length = AH := by rw [List.length_map, List.length_take]; omega
  refine aM.2 ⟨fun HJ => ?_, fun Wr => ?_⟩
  ·obtain ⟨x, hx⟩ := aP (l := gE f) (i := AH) (by omega)
   obtain ⟨b', o', hb'⟩ := hF.some (by omega) (by decide)
   rw [hb'] at hF
   rw [hb']
   refine ⟨by omega, HJ, bp ?_⟩
   refine aZ (Src.at hF.src h (i := AH) (j := 0) hx rfl (by simp [jh])) ?_
   refine aZ (Src.at hF.src h (i := AH) (j := 1) hx rfl (by simp [jh]; omega)) ?_
   refine aZ (Src.at hF.src h (i := AH) (j := 2) hx rfl (by simp [jh]; omega)) ?_
   refine aZ (Src.at hF.src h (i := AH) (j := 3) hx rfl (by simp [jh]; omega)) ?_
   repeat (first|(refine aq h ?_;clear h;intro kb M h)|(refine au h ?_;clear h;intro M h)|refine St.to h ?_|(apply Exists.intro;(repeat apply Exists.intro);refine And.intro rfl ?_)|refine av ?_|refine ae ?_|refine ai ?_)
   refine RZ h (by omega) ?_
   clear h; intro M h
   refine ⟨_, _, _, _, rfl, ?_⟩
   refine aq h ?_
   clear h
   intro kz M h
   refine h.gW (A := Sa) R7 [xo (da p).length (cC p).length (fJ p).length lk (gE f).length x] rfl hlen.symm rfl (by simp; omega) ?_
   clear h; intro A3 c3 M h
   refine be ⟨(gE f).length - (AH + 1), by omega, AH + 1, A3, c3, ?_, rfl, by omega, ?_⟩
   ·rw [aV (by omega)]
   ·rw [take_succ hx, List.map_append]
    exact h.sub bD
  ·have hin : AH = (gE f).length := by omega
   subst hin
   rw [List.take_of_length_le (Nat.le_refl _)] at h
   obtain ⟨R6, l6, r6, h6⟩ := h.gh Sa
   clear h
   refine aS h6 ⟨by omega, by omega, bp ?_⟩
   obtain ⟨u, hu⟩ := aP (l := us) (i := j) (by omega)
   refine gK (a' := (Sa, (gE f).length, c'')) j 0 h6 hu (by decide) rfl (by simp [zC]) ?_
   clear h6; intro M h
   refine ⟨(da p).length - (j + 1), by omega, j + 1, R6, _, by rw [aV (by omega)], rfl, by omega, Mem.le_trans l4 (Mem.le_trans l5 l6), ?_, ?_, h.sub bD⟩
   ·simp [Tn]
   ·intro i t' f' hi' ht' F6
    by_cases hij : i = j
    ·subst hij
     rw [List.getElem?_set_self (by omega)] at ht'
     cases ht'
     rw [hf] at F6
     cases F6
     subst hlk
     exact ⟨r6, by simp [tM]⟩
    ·rw [List.getElem?_set_ne (by omega)] at ht'
     obtain ⟨g1, g2⟩ := FE i t' f' (by omega) ht' F6
     exact ⟨g1.le (Mem.le_trans l5 l6), g2⟩
 ·have h5 : Hp R4 (dx k9 (some ⟨q, 0, none⟩) (da p).length (da p).length B (cC p).length c lk C (fJ p).length d :: dx k3 none 0 0 none 0 0 0 none 0 0 :: bO zC 61 (some ⟨q, 0, none⟩) (da p).length us :: L) M := h.sub bD
  clear h
  replace h := h5
  clear h5
  repeat (first|(refine aq h ?_;clear h;intro kb M h)|(refine au h ?_;clear h;intro M h)|refine St.to h ?_|(apply Exists.intro;(repeat apply Exists.intro);refine And.intro rfl ?_)|refine av ?_|refine ae ?_|refine ai ?_)
  subst hlk
  have ef : (fK p).funcs.length = (da p).length := by simp [fK]
  have hk := k R4 ⟨some ⟨q, 0, none⟩, (da p).length, B, c, C, d⟩ q us M (Mem.le_trans PS l4) rfl (by rw [Tn, ef]) (fun i t f a b => ?_) (rC.le l4) (rB.le l4) (h.sub bD)
  ·rw [DI, ef] at hk
   exact hk
  ·have b' : ((da p).map (tM p))[i]? = some f := b
   rw [List.getElem?_map] at b'
   obtain ⟨f0, b1, rfl⟩ := Option.map_eq_some_iff.1 b'
   exact FE i t f0 (by have := (List.getElem?_eq_some_iff.1 b1).1; omega) a b1
theorem Pr (h : Hp R L M) (ha : tL R pa p) (k : ∀ R' FD M', R.le R' → oQ R' FD (fK p) → RS bB R' FD.c FD.cc (fK p).eJ → Hp R' L M' → K (DI FD (fK p)) M') :
  aa Tryz.prog 24 #[DI pa p] M K Kp := by
 refine Lu h ha ?_
 clear h; intro R1 pa1 q us M l1 e Tn hd rC rB h
 obtain ⟨R2, l2, r2, h2⟩ := h.gh (some ⟨q, 0, none⟩)
 refine k R2 pa1 M (Mem.le_trans l1 l2) ⟨⟨us, by rw [e]; exact r2, Tn, fun i t f a b => ?_⟩, rC.le l2⟩ (rB.le l2) h2
 obtain ⟨g1, g2⟩ := hd i t f a b
 exact ⟨g1.le l2, g2⟩
end
theorem Sb : bn Tryz.prog 28 27 4 32 [.int .i64 0, .int .i64 0, .int .i64 0, .int .i64 0] := bn.mk' (zv := .agg #[.int .i64 0, .int .i64 0, .int .i64 0, .int .i64 0]) (by kernel_rfl) (by kernel_rfl) rfl (by omega)
theorem Sd : bn Tryz.prog 37 165 3 24 [.int .i64 0, .int .i64 0, .int .i64 0] := bn.mk' (zv := .agg #[.int .i64 0, .int .i64 0, .int .i64 0]) (by kernel_rfl) (by kernel_rfl) rfl (by omega)
theorem WM : bn Tryz.prog 35 28 1 24 [.slice none 0 0] := bn.mk' (zv := .slice none 0 0) (by kernel_rfl) (by kernel_rfl) rfl (by omega)
theorem H8 {A : Option Addr} {b o : Nat} {G : Nat → Nat → Prop} (e : A = some ⟨b, o, none⟩) (g : G b o) : aF A G := by subst e; exact bp g
abbrev Bt (k : Nat) (A : Option Addr) (n c : Nat) (B : Option Addr) (m d : Nat) (lk : Int) (C : Option Addr) (q e : Nat) : HP := pt k (prgC A n c B m d lk C q e) 39
section
variable {R : Mem} {L L' : List HP} {M : Mem} {K : Value → Mem → Prop} {Kp : List PanicEntry → Mem → Prop} {pa : PA} {p : b6}
theorem Se (h : Hp R L M) (ha : oQ R pa p) (hc : RS bB R pa.c pa.cc p.eJ) (hp : dn p) (hfn : p.funcs.length ≤ 1000000) (k : ∀ R' FD M', R.le R' → oQ R' FD p → RS bB R' FD.c FD.cc p.eJ → Hp R' L M' → K (DI FD p) M') :
  aa Tryz.prog 25 #[DI pa p] M K Kp := by
 refine rY ?_
 have p1 := hp.ch
 have p2 := hp.cs
 obtain ⟨ts, t1, t2, t3⟩ := ha.funcs
 have t4 := t1.2
 refine aq h ?_
 clear h
 intro k1 M h
 refine aq h ?_
 clear h
 intro k3 M h
 refine aS h (aH h ?_)
 refine aq h ?_
 clear h
 intro k9 M h
 refine ⟨trivial, ?_⟩
 refine h.j7 bB pL p.eJ hc.src rfl (by omega) ?_
 clear h; intro B c M h
 refine be ⟨bN h, ?_⟩
 refine aq h ?_
 clear h
 intro fL M h
 repeat (refine au h ?_; clear h; intro M h)
 refine ⟨bN h, aS h ?_⟩
 obtain ⟨R1, l1, rB, h1⟩ := h.gh B
 clear h
 have h0 : Hp R1 (bO zC 28 none 0 [] :: Bt fL none 0 0 B p.eJ.length c p.aL none 0 0 :: Bt k3 none 0 0 none 0 0 0 none 0 0 :: dx k1 pa.f p.funcs.length pa.fc pa.c p.eJ.length pa.cc p.aL pa.k p.cases.length pa.kc :: L) M := (h1.cz zC _).sub bD
 clear h1
 refine ⟨fun dd vs M => ∃ (j : Nat) (R2 : Mem) (A : Option Addr) (cA : Nat) (us : List (Option Addr × Nat × Nat)), vs = [.int .i64 (j : Int)] ∧ dd = p.funcs.length - j ∧ j ≤ p.funcs.length ∧ R1.le R2 ∧ us.length = j ∧ (∀ (i : Nat) t f, us[i]? = some t → p.funcs[i]? = some f → RS jh R2 t.1 t.2.2 f ∧ t.2.1 = f.length) ∧
  Hp R2 (bO zC 28 A cA us :: Bt fL A j cA B p.eJ.length c p.aL none 0 0 :: Bt k3 none 0 0 none 0 0 0 none 0 0 :: dx k1 pa.f p.funcs.length pa.fc pa.c p.eJ.length pa.cc p.aL pa.k p.cases.length pa.kc :: L) M,
  ⟨_, 0, R1, none, 0, [], rfl, rfl, by omega, Mem.le_refl _, rfl, fun i t f a => by simp at a, h0⟩, ?_⟩
 clear h0
 rintro dd _ nn M ⟨j, R2, A, cA, us, he, hd, hj, l2, Tn, FE, h⟩
 simp only [List.cons.injEq, Value.int.injEq, and_true, true_and] at he
 subst he
 refine aM.2 ⟨fun hlt => ?_, fun hge => ?_⟩
 ·obtain ⟨t, ht⟩ := aP (l := ts) (i := j) (by omega)
  obtain ⟨f, hf⟩ := aP (l := p.funcs) (i := j) (by omega)
  obtain ⟨u1, u2⟩ := t3 j t f ht hf
  have hfl := (hp.code f (List.mem_of_getElem? hf)).2.1
  obtain ⟨tA, tn, tc⟩ := t
  dsimp only at u1 u2
  subst u2
  have H7 := t1.le (Mem.le_trans l1 l2)
  obtain ⟨b, o, hb⟩ := H7.some (by omega) (by decide)
  rw [hb] at H7
  refine ⟨by omega, hlt, H8 hb ?_⟩
  refine Gq (Src.at H7.src h (i := j) (j := 0) ht rfl (by simp [zC])) ?_
  dsimp only
  have hF := u1.le (Mem.le_trans l1 l2)
  refine aq h ?_
  clear h
  intro kr M h
  have h0 := (h.pt kr).kT (E := jh) (l := []) rfl
  clear h
  refine ⟨fun dd vs M => ∃ (i : Nat) (A2 : Option Addr) (c' : Nat), vs = [.slice A2 i c', .int .i64 (i : Int)] ∧ dd = f.length - i ∧ i ≤ f.length ∧ Hp R2 (bO jh 27 A2 c' (f.take i) :: bO zC 28 A cA us :: Bt fL A j cA B p.eJ.length c p.aL none 0 0 :: Bt k3 none 0 0 none 0 0 0 none 0 0 :: dx k1 pa.f p.funcs.length pa.fc pa.c p.eJ.length pa.cc p.aL pa.k p.cases.length pa.kc :: L) M,
   ⟨_, 0, _, _, rfl, rfl, by omega, h0⟩, ?_⟩
  clear h0
  rintro dd _ Sa AH c'' nn M ⟨i, A2, c2, he, RA, hi, h⟩
  simp only [List.cons.injEq, Value.int.injEq, Value.slice.injEq, and_true, true_and] at he
  obtain ⟨⟨rfl, rfl, rfl⟩, rfl⟩ := he
  have hlen : (f.take AH).length = AH := by rw [List.length_take]; omega
  refine aM.2 ⟨fun HJ => ?_, fun Wr => ?_⟩
  ·obtain ⟨x, hx⟩ := aP (l := f) (i := AH) (by omega)
   obtain ⟨b', o', hb'⟩ := hF.some (by omega) (by decide)
   rw [hb'] at hF
   refine ⟨by omega, HJ, H8 hb' ?_⟩
   refine aZ (Src.at hF.src h (i := AH) (j := 0) hx rfl (by simp [jh])) ?_
   refine aZ (Src.at hF.src h (i := AH) (j := 1) hx rfl (by simp [jh]; omega)) ?_
   refine aZ (Src.at hF.src h (i := AH) (j := 2) hx rfl (by simp [jh]; omega)) ?_
   refine aZ (Src.at hF.src h (i := AH) (j := 3) hx rfl (by simp [jh]; omega)) ?_
   repeat (first|(refine aq h ?_;clear h;intro kb M h)|(refine au h ?_;clear h;intro M h)|refine St.to h ?_|(apply Exists.intro;(repeat apply Exists.intro);refine And.intro rfl ?_)|refine av ?_|refine ae ?_|refine ai ?_)
   refine h.gW (A := Sa) Sb [x] rfl hlen.symm rfl (by simp; omega) ?_
   clear h; intro A3 c3 M h
   refine be ⟨f.length - (AH + 1), by omega, AH + 1, A3, c3, ?_, rfl, by omega, ?_⟩
   ·rw [aV (by omega)]
   ·rw [take_succ hx]
    exact h.sub bD
  ·have hin : AH = f.length := by omega
   subst hin
   rw [List.take_of_length_le (Nat.le_refl _)] at h
   obtain ⟨R6, l6, r6, h6⟩ := h.gh Sa
   clear h
   refine aS h6 ?_
   refine aq h6 ?_
   clear h6; intro kz M h
   refine h.gW (A := A) WM [(Sa, f.length, c'')] rfl Tn.symm rfl (by simp; omega) ?_
   clear h; intro A3 c3 M h
   refine be ?_
   refine au h ?_
   clear h
   intro M h
   refine ⟨p.funcs.length - (j + 1), by omega, j + 1, R6, A3, c3, us ++ [(Sa, f.length, c'')], by rw [aV (by omega)], rfl, by omega, Mem.le_trans l2 l6, by simp [Tn], ?_, h.sub bD⟩
   intro i t' f' ht' F6
   rcases Nat.lt_or_ge i us.length with hi' | hi'
   ·rw [List.getElem?_append_left hi'] at ht'
    obtain ⟨g1, g2⟩ := FE i t' f' ht' F6
    exact ⟨g1.le l6, g2⟩
   ·rw [List.getElem?_append_right hi'] at ht'
    have hi0 : i - us.length = 0 := by
     rcases Nat.eq_zero_or_pos (i - us.length) with e | e
     ·exact e
     ·rw [List.getElem?_eq_none (by simp; omega)] at ht'; cases ht'
    rw [hi0] at ht'
    cases ht'
    have : i = j := by omega
    subst this
    rw [hf] at F6
    cases F6
    exact ⟨r6, rfl⟩
 ·have LA : j = p.funcs.length := by omega
  subst LA
  obtain ⟨R3, l3, rA, h3⟩ := h.gh A
  clear h
  refine aS h3 ?_
  have h0 : Hp R3 (bO hH 165 none 0 [] :: Bt fL A p.funcs.length cA B p.eJ.length c p.aL none 0 0 :: Bt k3 none 0 0 none 0 0 0 none 0 0 :: dx k1 pa.f p.funcs.length pa.fc pa.c p.eJ.length pa.cc p.aL pa.k p.cases.length pa.kc :: L) M := h3.cz hH _
  clear h3
  have l123 := Mem.le_trans l1 (Mem.le_trans l2 l3)
  have hk := ha.cases.le l123
  refine ⟨fun dd vs M => ∃ (i : Nat) (A2 : Option Addr) (c' : Nat), vs = [.int .i64 (i : Int)] ∧ dd = p.cases.length - i ∧ i ≤ p.cases.length ∧ Hp R3 (bO hH 165 A2 c' (p.cases.take i) :: Bt fL A p.funcs.length cA B p.eJ.length c p.aL A2 i c' :: Bt k3 none 0 0 none 0 0 0 none 0 0 :: dx k1 pa.f p.funcs.length pa.fc pa.c p.eJ.length pa.cc p.aL pa.k p.cases.length pa.kc :: L) M,
   ⟨_, 0, none, 0, rfl, rfl, by omega, h0⟩, ?_⟩
  clear h0
  rintro dd _ nn M ⟨i, A2, c2, he, RA, hi, h⟩
  simp only [List.cons.injEq, Value.int.injEq, and_true, true_and] at he
  subst he
  have hlen : (p.cases.take i).length = i := by rw [List.length_take]; omega
  refine aM.2 ⟨fun HJ => ?_, fun Wr => ?_⟩
  ·obtain ⟨x, hx⟩ := aP (l := p.cases) (i := i) (by omega)
   obtain ⟨b', o', hb'⟩ := hk.some (by omega) (by decide)
   rw [hb'] at hk
   refine ⟨by omega, HJ, H8 hb' ?_⟩
   refine aZ (Src.at hk.src h (i := i) (j := 0) hx rfl (by simp [hH])) ?_
   refine aZ (Src.at hk.src h (i := i) (j := 1) hx rfl (by simp [hH]; omega)) ?_
   refine aZ (Src.at hk.src h (i := i) (j := 2) hx rfl (by simp [hH]; omega)) ?_
   repeat (first|(refine aq h ?_;clear h;intro kb M h)|(refine au h ?_;clear h;intro M h)|refine St.to h ?_|(apply Exists.intro;(repeat apply Exists.intro);refine And.intro rfl ?_)|refine av ?_|refine ae ?_|refine ai ?_)
   refine h.gW (A := A2) Sd [x] rfl hlen.symm rfl (by simp; omega) ?_
   clear h; intro A3 c3 M h
   refine be ?_
   refine au h ?_
   clear h
   intro M h
   refine ⟨p.cases.length - (i + 1), by omega, i + 1, A3, c3, ?_, rfl, by omega, ?_⟩
   ·rw [aV (by omega)]
   ·rw [take_succ hx]
    exact h.sub bD
  ·have hin : i = p.cases.length := by omega
   subst hin
   rw [List.take_of_length_le (Nat.le_refl _)] at h
   obtain ⟨R6, l6, r6, h6⟩ := h.gh A2
   clear h
   replace h := h6
   clear h6
   repeat (first|(refine aq h ?_;clear h;intro kb M h)|(refine au h ?_;clear h;intro M h)|refine St.to h ?_|(apply Exists.intro;(repeat apply Exists.intro);refine And.intro rfl ?_)|refine av ?_|refine ae ?_|refine ai ?_)
   have l16 := Mem.le_trans l123 l6
   refine k R6 ⟨A, cA, B, c, A2, c2⟩ _ l16 ⟨⟨us, rA.le l6, Tn, fun i t f a b => ?_⟩, r6⟩ (rB.le (Mem.le_trans l2 (Mem.le_trans l3 l6))) (h.sub bD)
   obtain ⟨g1, g2⟩ := FE i t f a b
   exact ⟨g1.le (Mem.le_trans l3 l6), g2⟩
end
def PX : jG := ⟨⟨[(0, -1, 0)], 1⟩, 0⟩
def jG.fin (c : jG) (y : Sc) : jG := (List.range y.w.gs.length).foldl (fun (c : jG) (g : Nat) => c.wait (g : Int) (IntKind.wrap .i64 (y.steps - 1))) c
section
variable {R : Mem} {L L' L2 : List HP} {M : Mem} {K : Value → Mem → Prop} {Kp : List PanicEntry → Mem → Prop} {pa : PA} {p : b6} {b cb wb db : Nat} {x x0 y : Sc} {c c0 : jG} {g now : Int}
theorem Ps {N : Nat} {e : Ev} (hs : SV p N x) (hp : dn p) (hst : x.status = 0) (hy : x.step p = some (y, .ev e)) (hk : e.kind = 7) : 0 ≤ e.g ∧ e.g < y.w.gs.length := by
 have hw := (tK hs hp hy hst).1
 unfold Sc.step at hy
 split at hy
 ·rw [if_neg (by rw [hst]; decide)] at hy
  split at hy
  ·cases hy
  ·rename_i d' k jO
   unfold Sc.act at hy
   split at hy
   ·split at hy
    ·simp only [Option.map_some, Option.some.injEq, ie, Prod.mk.injEq, g6.ev.injEq] at hy
     rw [← hy.2] at hk; cases hk
    ·cases hy
   ·have fw : ∀ (z : Sc) (i kind g : Int) (t : Bool), (z.bg k i kind g t).2.kind = kind ∨ (z.bg k i kind g t).2.kind = 6 := fun z i kind g t => by
     unfold Sc.bg; split
     ·exact .inl rfl
     ·exact .inr rfl
    have n7 : ∀ (z : Sc) (i kind g : Int) (t : Bool), kind = 4 ∨ kind = 5 → (z.bg k i kind g t).2.kind ≠ 7 := fun z i kind g t h => by
     have := fw z i kind g t; omega
    split at hy
    ·simp only [Option.map_some, Option.some.injEq, ie, Prod.mk.injEq, g6.ev.injEq] at hy
     rw [← hy.2] at hk
     unfold Sc.hold at hk
     split at hk <;> cases hk
    ·split at hy
     ·split at hy
      ·have hf : ∀ e, (Sc.find { x with d := d' } k).2 = .ev e → e.kind ≠ 7 := by
        unfold Sc.find
        dsimp only
        split
        ·intro e he; cases he; dsimp only; omega
        ·split
         ·split
          ·intro e he; cases he
          ·split
           ·intro e he; cases he; exact n7 _ _ _ _ _ (.inr rfl)
           ·intro e he; cases he; exact n7 _ _ _ _ _ (.inr rfl)
         ·intro e he; cases he; exact n7 _ _ _ _ _ (.inl rfl)
       generalize Sc.find { x with d := d' } k = r at hy hf
       obtain ⟨z, o⟩ := r
       cases o with
       | cV l => simp [ie] at hy
       | ev e2 =>
        simp only [Option.map_some, Option.some.injEq, ie, Prod.mk.injEq, g6.ev.injEq] at hy
        rw [← hy.2] at hk
        exact absurd hk (hf _ rfl)
      ·cases hy
     ·rename_i PV
      generalize Cz : Sc.run p { x with d := d' } k = r at hy
      cases r with
      | none => cases hy
      | some r =>
       obtain ⟨z, o⟩ := r
       cases o with
       | cV l => simp [ie] at hy
       | ev e2 =>
        simp only [Option.map_some, Option.some.injEq, ie, Prod.mk.injEq, g6.ev.injEq] at hy
        obtain ⟨_, _, _, _, _, _, q2⟩ := run_shape Cz
        have hpre : wC p { x with d := d' } k := by
         unfold Sc.run at Cz
         split at Cz
         ·rename_i h; exact h
         ·cases Cz
        have h9 : 0 ≤ (ax x k).g := hpre.2.2.2.2.2.2.2.2
        have Fx := hs.mg (List.mem_of_getElem? (gD (x := x) hpre.1 hpre.2.1)) h9
        rw [← hy.2, q2]
        have := Fx.2.1
        exact ⟨h9, by omega⟩
 ·cases hy
theorem DJ {k5 iy jU : Nat} {most : Int} (hp : oQ R pa p) (hok : dn p) (h0 : SV p 0 x0) (hm : most ≤ 999999) :
  Dy R (az (e8 pa p wb db) b x0 :: az lj cb c0 :: pt k5 [.int .i64 most] 3 :: pt iy [.pointer (some ⟨b, 0, none⟩)] 33 :: pt jU [.pointer (some ⟨cb, 0, none⟩)] 169 :: L)
   (.func (.func 71) #[] #[.pointer (some ⟨k5, 0, none⟩), .pointer (some ⟨iy, 0, none⟩), .pointer (some ⟨jU, 0, none⟩)])
   (fun R' L2 => R.le R' ∧ ∃ y c, Aj p x0 c0 most.toNat y c ∧ L2 = az (e8 pa p wb db) b y :: az lj cb c :: pt k5 [.int .i64 most] 3 :: pt iy [.pointer (some ⟨b, 0, none⟩)] 33 :: pt jU [.pointer (some ⟨cb, 0, none⟩)] 169 :: L)
   (fun R' l L2 => R.le R' ∧ (∃ e vs, oS l e vs) ∧ ∃ y c, Aj p x0 c0 most.toNat y c ∧ L2 = az (e8 pa p wb db) b y :: az lj cb c :: pt k5 [.int .i64 most] 3 :: pt iy [.pointer (some ⟨b, 0, none⟩)] 33 :: pt jU [.pointer (some ⟨cb, 0, none⟩)] 169 :: L) := by
 intro Q M K Kp h kk kd
 refine KH (args := []) ⟨by decide, by show _ < 255; decide⟩ ?_
 refine xI ?_
 refine aH h ?_
 have e0 : (if (0 : Int) > most then 0 else most) = ((most.toNat : Nat) : Int) := by split <;> omega
 rw [e0]
 have hm' : most.toNat ≤ 999999 := by omega
 have key : ∀ (R' : Mem) (M' : Mem), R.le R' → ∀ y c, Aj p x0 c0 most.toNat y c → Hp R' (Q :: az (e8 pa p wb db) b y :: az lj cb c :: pt k5 [.int .i64 most] 3 :: pt iy [.pointer (some ⟨b, 0, none⟩)] 33 :: pt jU [.pointer (some ⟨cb, 0, none⟩)] 169 :: L) M' → K (.tuple #[]) M' := fun R' M' hle y c hw h => kk R' _ M' ⟨hle, y, c, hw, rfl⟩ h
 refine ⟨fun dd vs M' => ∃ (j : Nat) (x : Sc) (c : jG) (R' : Mem), vs = [.int .i64 (j : Int)] ∧ dd = most.toNat - j ∧ j ≤ most.toNat ∧ R.le R' ∧ WR p x0 c0 j x c ∧ Hp R' (Q :: az (e8 pa p wb db) b x :: az lj cb c :: pt k5 [.int .i64 most] 3 :: pt iy [.pointer (some ⟨b, 0, none⟩)] 33 :: pt jU [.pointer (some ⟨cb, 0, none⟩)] 169 :: L) M', ⟨_, 0, x0, c0, R, rfl, rfl, by omega, Mem.le_refl _, .zero, h⟩, ?_⟩
 clear h
 rintro dd _ nn M8 ⟨j, x, c, R3, he, hd, hj, FF, hw, h⟩
 simp only [List.cons.injEq, Value.int.injEq, and_true, true_and] at he
 subst he
 have hv := hw.sv h0 hok (by omega)
 refine aM.2 ⟨fun hlt => ?_, fun hge => key R3 M8 FF x c (.O9 hw hj) h⟩
 refine kQ h ?_
 have xu := hv.w.n2
 refine vb (b := b) h (by omega) (cE ?_)
 refine eL.2 ⟨fun _ => key R3 M8 FF x c (.O9 hw hj) h, fun hst => ?_⟩
 have hst : x.status = 0 := by simpa using hst
 refine kQ h (kQ h (kQ h ?_))
 obtain ⟨y, o, hstep, Ly⟩ := hv.step hok (by omega)
 refine HR (b := b) h (hp.le FF) hv.k hstep ?_
 cases o with
 | cV l =>
  intro M9 h9
  exact kd R3 l _ M9 ⟨FF, OP hstep, y, c, .cV hw (by omega) hst hstep, rfl⟩ (h9.sub bD)
 | ev e =>
  intro R4 A4 c4 M9 hle4 yh h9
  clear h
  have h := h9
  clear h9
  refine ⟨_, _, _, _, _, _, rfl, bN h, bN h, ?_⟩
  have h2 : Hp R4 (az (e8 pa p wb db) b y :: az lj cb c :: Q :: pt k5 [.int .i64 most] 3 :: pt iy [.pointer (some ⟨b, 0, none⟩)] 33 :: pt jU [.pointer (some ⟨cb, 0, none⟩)] 169 :: L) M9 := h.sub bD
  clear h
  refine Li h2 yh (FA hstep) (fun hk => Ps hv hok hst hstep hk) ?_
  clear h2
  intro M h
  refine ⟨rfl, bN h, bN h, ?_⟩
  exact ⟨most.toNat - (j + 1), by omega, j + 1, y, c.step e y, R4, by rw [aV (by omega)], rfl, by omega, Mem.le_trans FF hle4, .succ hw hst hstep, h.sub bD⟩
theorem Aj.sv {most : Nat} (h : Aj p x0 c0 most y c) (h0 : SV p 0 x0) (hp : dn p) (hm : most ≤ 999999) : ∃ N, N ≤ most ∧ SV p (N + 1) y := by
 cases h with
 | O9 hw hj => exact ⟨_, hj, (hw.sv h0 hp (by omega)).mono (by omega)⟩
 | cV hw hj hst Pt =>
  obtain ⟨y', o, h1, h2⟩ := (hw.sv h0 hp (by omega)).step hp (by omega)
  rw [Pt] at h1
  cases h1
  exact ⟨_, by omega, h2⟩
theorem Pu (h : Hp R L M) [q : qm b L pa p wb db x L'] (ht : x.d.taken.length ≤ 100000000) (k : ∀ A c M', Hp R (my A c x.d.taken :: az (e8 pa p wb db) b x :: L') M' → K (.slice A x.d.taken.length c) M') :
  aa Tryz.prog 76 #[.pointer (some ⟨db, 0, none⟩)] M K Kp := by
 have h' := fx h (b := b)
 clear h
 obtain ⟨a, hla, h⟩ := h'
 refine Dw (K4 := .nilFunc) (b := db) h ht ?_
 clear h; intro A c M h
 have h2 : Hp R (gL (dQ b wb db a x) x.gl :: az (bI pa p) wb x.w :: az (cJ .nilFunc) db x.d :: iU a x (my A c x.d.taken :: L')) M := h.sub bD
 exact k A c M ((ia hla h2).sub bD)
theorem H9 {cf : OG} {B : Option Addr} {m cB : Nat} {l : List Int} {most : Int} (h : Hp R L M) (hp : oQ R pa p) (ye : RS bB R pa.c pa.cc p.eJ) (hok : dn p) (hP : 1 ≤ cf.P ∧ cf.P ≤ 64) (hM : 1 ≤ cf.M ∧ cf.M ≤ 64) (hS : 1 ≤ cf.S ∧ cf.S ≤ 1024)
  (hB : RS Es R B cB l) (hm : m = l.length) (hl : (gX.lE l 0).Ok) (hll : l.length ≤ 1000000000) (hmost : most ≤ 100000) (hT : ∀ y c, Aj p (Sc.new p cf ⟨.lE l 0, []⟩) PX most.toNat y c → ∀ r ∈ y.d.taken, 0 ≤ r.2)
  (k : ∀ R' y c M', R.le R' → Aj p (Sc.new p cf ⟨.lE l 0, []⟩) PX most.toNat y c → Hp R' L M' → K (.agg #[.int .i64 y.steps, .int .i64 (y.w.gs.length : Int), .int .i64 (sJ cf.M.toNat y.d.taken), .int .i64 (c.fin y).bX]) M') :
  aa Tryz.prog 29 #[DI pa p, .agg #[.int .i64 cf.P, .int .i64 cf.M, .int .i64 cf.R, .int .i64 cf.S], .slice B m cB, .int .i64 most] M K Kp := by
 refine Bc ?_
 subst hm
 have h0 : SV p 0 (Sc.new p cf ⟨.lE l 0, []⟩) := SV.new hok hP hM hS rfl hl
 refine aq h ?_
 clear h
 intro k1 M h
 refine aq h ?_
 clear h
 intro k3 M h
 refine aq h ?_
 clear h
 intro k5 M h
 refine aq h ?_
 clear h
 intro k7 M h
 refine Bn (l := l) h hB.src rfl hll ?_
 clear h; intro db M h
 refine ju (aS h (aS h (aH h (aS h (aH h (aH h (aH h (aH h ?_))))))))
 refine Lc (p := p) (pa := pa) (c := cf) h ye (by have := hok.ch; omega) (by have := hok.lk; omega) (by omega) (by omega) ?_
 clear h; intro b wb M h
 refine ju ?_
 refine aq h ?_
 clear h
 intro iy M h
 refine au h ?_
 clear h; intro M h
 refine Mu (o := ja ⟨[], 0⟩) h ?_
 clear h; intro uv M h
 refine Hu (r := uv) h O6 O7 ?_
 clear h; intro M h
 refine aq h ?_
 clear h
 intro cb M h
 refine aq h ?_
 clear h
 intro jU M h
 refine au h ?_
 clear h; intro M h
 have h1 : Hp R (az lj cb PX :: az (e8 pa p wb db) b (Sc.new p cf ⟨.lE l 0, []⟩) :: pt k5 [.int .i64 most] 3 :: pt iy [.pointer (some ⟨b, 0, none⟩)] 33 :: pt jU [.pointer (some ⟨cb, 0, none⟩)] 169 :: pt k3 [.int .i64 cf.P, .int .i64 cf.M, .int .i64 cf.R, .int .i64 cf.S] 29 :: pt k7 [.int .i64 0, .int .i64 0, .int .i64 0, .int .i64 0] 70 :: L) M := Ai (r := uv) (h.sub bD)
 clear h
 refine Dz (h1.sub bD) (DJ (most := most) (b := b) (wb := wb) (db := db) (cb := cb) (k5 := k5) (iy := iy) (jU := jU) (c0 := PX) hp hok h0 (by omega) (L := pt k3 [.int .i64 cf.P, .int .i64 cf.M, .int .i64 cf.R, .int .i64 cf.S] 29 :: pt k7 [.int .i64 0, .int .i64 0, .int .i64 0, .int .i64 0] 70 :: L)) (fun _ _ _ h => h.2.1) ?_ ?_
 all_goals
  clear h1
  first
   | (rintro R' _ M ⟨hle, y, c, hw, rfl⟩ h)
   | (rintro R' l' _ M e a q n kx xx ⟨hle, _, y, c, hw, rfl⟩ _ h)
  refine ⟨_, _, _, _, _, _, rfl, kQ h ?_⟩
  obtain ⟨N, hN, hv⟩ := hw.sv h0 hok (by omega)
  have xu := hv.w.n2
  have hst := hv.st
  have Ry := hv.tk
  have hTy := hT y c hw
  refine qn (b := b) h ?_
  refine ju ?_
  refine O8 (b := b) h ?_
  clear h; intro M h
  refine cE ?_
  have h2 : Hp R' (az (e8 pa p wb db) b y :: az lj cb c :: pt k5 [.int .i64 most] 3 :: pt iy [.pointer (some ⟨b, 0, none⟩)] 33 :: pt jU [.pointer (some ⟨cb, 0, none⟩)] 169 :: pt k3 [.int .i64 cf.P, .int .i64 cf.M, .int .i64 cf.R, .int .i64 cf.S] 29 :: pt k7 [.int .i64 0, .int .i64 0, .int .i64 0, .int .i64 0] 70 :: L) M := h.sub bD
  clear h
  refine ⟨fun dd vs M' => ∃ j : Nat, vs = [.int .i64 (j : Int)] ∧ dd = y.w.gs.length - j ∧ j ≤ y.w.gs.length ∧ Hp R' (az (e8 pa p wb db) b y :: az lj cb ((List.range j).foldl (fun (c : jG) (g : Nat) => c.wait (g : Int) (IntKind.wrap .i64 (y.steps - 1))) c) :: pt k5 [.int .i64 most] 3 :: pt iy [.pointer (some ⟨b, 0, none⟩)] 33 :: pt jU [.pointer (some ⟨cb, 0, none⟩)] 169 :: pt k3 [.int .i64 cf.P, .int .i64 cf.M, .int .i64 cf.R, .int .i64 cf.S] 29 :: pt k7 [.int .i64 0, .int .i64 0, .int .i64 0, .int .i64 0] 70 :: L) M', ⟨_, 0, rfl, rfl, by omega, h2⟩, ?_⟩
  clear h2
  rintro dd _ nn M8 ⟨j, he, hd, hj, h⟩
  simp only [List.cons.injEq, Value.int.injEq, and_true, true_and] at he
  subst he
  refine aM.2 ⟨fun hlt => ?_, fun hge => ?_⟩
  ·refine kQ h (kQ h ?_)
   refine qo (b := b) h ?_
   refine cE ⟨bN h, ?_⟩
   refine Cy (b := cb) h ?_
   clear h; intro M h
   refine ⟨rfl, bN h, y.w.gs.length - (j + 1), by omega, j + 1, by rw [aV (by omega)], rfl, by omega, ?_⟩
   rw [List.range_succ, List.foldl_append]
   exact h.sub bD
  ·obtain rfl : j = y.w.gs.length := by omega
   have k2 := k R' y c
   unfold jG.fin at k2
   generalize (List.range y.w.gs.length).foldl (fun (c : jG) (g : Nat) => c.wait (g : Int) (IntKind.wrap .i64 (y.steps - 1))) c = c2 at h k2
   have h' := vk h (b := cb)
   clear h
   obtain ⟨r2, h⟩ := h'
   refine kQ h (kQ h (aH h (kQ h (bp (aH h ?_)))))
   refine qo (b := b) h ?_
   refine cE ⟨bN h, bN h, bN h, bN h, ?_⟩
   refine qn (b := b) h ?_
   refine ju ⟨bN h, bN h, bN h, bN h, ?_⟩
   refine O8 (b := b) h ?_
   clear h; intro M h
   refine cE ⟨bN h, bN h, bN h, bN h, ?_⟩
   refine Pu (b := b) h (by omega) ?_
   clear h; intro A cA M h
   refine be ⟨bN h, bN h, bN h, bN h, ?_⟩
   refine xl (l := y.d.taken) h (Src.row (A := A)) rfl (by omega) (by omega) hTy ?_
   clear h; intro M h
   refine cE ⟨bN h, bN h, bN h, bN h, ?_⟩
   refine au h ?_
   clear h; intro M h
   refine au h ?_
   clear h; intro M h
   refine au h ?_
   clear h; intro M h
   refine au h ?_
   clear h; intro M h
   refine ⟨bN h, bN h, bN h, bN h, ?_⟩
   refine aH h (aH h (aH h (aH h ?_)))
   exact k2 M hle hw (h.sub bD)
end
def xq (x : Sc) (m : Nat) : Int := (fW x.ms.length x.d.taken).at_ - (fW x.ms.length x.d.taken).last m
theorem FG {k v k' : Int} {c : Nat} : ∀ {l : SL}, fZ (tE l k v c) k' = if k' = k then some v else fZ l k'
 | [] => by simp [tE, fZ]
 | (a, w, b) :: l => by
  simp only [tE]
  split
  ·rename_i e
   subst e
   simp only [fZ]
   split <;> rfl
  ·rename_i e
   simp only [fZ, FG (l := l)]
   by_cases h : k' = a
   ·subst h
    rw [if_pos rfl, if_pos rfl, if_neg (Ne.symm e)]
   ·rw [if_neg h, if_neg h]
theorem CG {k : Int} : ∀ {l : SL}, k ∉ l.map (·.1) → fZ l k = none
 | [], _ => rfl
 | (a, w, b) :: l, h => by
  simp only [List.map_cons, List.mem_cons, not_or] at h
  simp only [fZ, if_neg h.1]
  exact CG h.2
theorem CH {k : Int} : ∀ {l : SL}, (xJ l k).map (·.1) = (l.map (·.1)).erase k
 | [] => rfl
 | (a, w, b) :: l => by
  simp only [xJ]
  split
  ·rename_i e; subst e; simp
  ·rename_i e
   simp only [List.map_cons, CH (l := l)]
   rw [List.erase_cons_tail (by simpa using Ne.symm e)]
theorem FH {k k' : Int} : ∀ {l : SL}, (l.map (·.1)).Nodup → fZ (xJ l k) k' = if k' = k then none else fZ l k'
 | [], _ => by simp [xJ, fZ]
 | (a, w, b) :: l, h => by
  simp only [List.map_cons, List.nodup_cons] at h
  simp only [xJ]
  split
  ·rename_i e
   subst e
   by_cases h2 : k' = k
   ·subst h2; rw [if_pos rfl]; exact CG h.1
   ·rw [if_neg h2]; simp only [fZ, if_neg h2]
  ·rename_i e
   simp only [fZ, FH (l := l) h.2]
   by_cases h2 : k' = a
   ·subst h2; rw [if_pos rfl, if_pos rfl, if_neg (Ne.symm e)]
   ·rw [if_neg h2, if_neg h2]
theorem CI {k v : Int} {c : Nat} : ∀ {l : SL}, (l.map (·.1)).Nodup → ((tE l k v c).map (·.1)).Nodup ∧ ∀ a, a ∈ (tE l k v c).map (·.1) → a = k ∨ a ∈ l.map (·.1)
 | [], _ => by simp [tE]
 | (a, w, b) :: l, h => by
  simp only [List.map_cons, List.nodup_cons] at h
  simp only [tE]
  split
  ·rename_i e
   subst e
   simp only [List.map_cons, List.nodup_cons]
   exact ⟨h, fun x hx => .inr hx⟩
  ·rename_i e
   obtain ⟨h1, h2⟩ := CI (k := k) (v := v) (c := c) h.2
   simp only [List.map_cons, List.nodup_cons]
   refine ⟨⟨fun hm => ?_, h1⟩, fun x hx => ?_⟩
   ·rcases h2 a hm with e2 | e2
    ·exact e e2.symm
    ·exact h.1 e2
   ·rcases List.mem_cons.1 hx with rfl | hx
    ·exact .inr (by simp)
    ·rcases h2 x hx with e2 | e2
     ·exact .inl e2
     ·exact .inr (List.mem_cons_of_mem _ e2)
structure FI (W GG S Rm : Nat) (B : Int) (x : Sc) (c : jG) : Prop where
 hv : HV Rm x
 cS : x.c.S = (S : Int)
 nd : (c.m.l.map (·.1)).Nodup
 wt : ∀ g f, fZ c.m.l g = some f → 0 ≤ g ∧ -1 ≤ f ∧ f ≤ x.steps - 1 ∧ ∃ m n u, m < x.ms.length ∧ Ll Rm GG x g m n u ∧ (x.steps - 1 - f) + ((W * ((2 * S + 2) * n + u) : Nat) : Int) + ((W : Int) + 1 - xq x m) ≤ B
 lg : 0 ≤ c.bX ∧ c.bX ≤ B
section
variable {p : b6} {N W GG S Rm : Nat} {B : Int} {x y : Sc} {c : jG} {g f : Int}
theorem Ao {m : Nat} (hm : m < x.ms.length) (hW : iL (fW x.ms.length x.d.taken) x.ms.length ≤ W) : 1 ≤ xq x m ∧ xq x m ≤ W := by
 have h1 := (kD (s := fW x.ms.length x.d.taken) (k := x.ms.length)).2 m hm
 have h2 := uo x.ms.length x.d.taken
 obtain ⟨a1, a2, a3, a4, a5⟩ := h2
 have h3 := a3 m
 unfold xq
 omega
theorem FJ {k : Int} {rest : List (Int × Int)} (PT : y.ms.length = x.ms.length) (ht : y.d.taken = x.d.taken ++ (1, k) :: rest) (ho : PW rest) (k0 : 0 ≤ k) (k1 : k ≤ x.ms.length) (m : Nat) (hm : m < x.ms.length) : xq y m = if k.toNat = m then 1 else xq x m + 1 := by
 have e : fW y.ms.length y.d.taken = dJ x.ms.length (fW x.ms.length x.d.taken) (1, k) := by
  rw [PT, ht, show x.d.taken ++ (1, k) :: rest = (x.d.taken ++ [(1, k)]) ++ rest by simp, xn rest _ (fun r hr => (ho r hr).1), qF]
 unfold xq
 rw [e]
 unfold dJ
 dsimp only
 rw [if_pos rfl]
 by_cases h1 : k < (x.ms.length : Int)
 ·rw [if_pos h1]
  dsimp only
  by_cases h2 : k.toNat = m
  ·rw [if_pos h2, if_pos h2.symm]; omega
  ·rw [if_neg h2, if_neg (Ne.symm h2)]; omega
 ·rw [if_neg h1]
  dsimp only
  rw [if_neg (by omega)]; omega
theorem FK {now : Int} (hn : (c.m.l.map (·.1)).Nodup) : ((c.wait g now).m.l.map (·.1)).Nodup ∧ ∀ k v, fZ (c.wait g now).m.l k = some v → k ≠ g ∧ fZ c.m.l k = some v := by
 unfold jG.wait
 split
 ·rename_i h
  refine ⟨hn, fun k v hv => ⟨fun e => ?_, hv⟩⟩
  rw [e, h] at hv; cases hv
 ·refine ⟨?_, fun k v hv => ?_⟩
  ·unfold FW.del
   dsimp only
   rw [CH]
   exact hn.erase _
  ·unfold FW.del at hv
   dsimp only at hv
   rw [FH hn] at hv
   split at hv
   ·cases hv
   ·rename_i h; exact ⟨h, hv⟩
theorem CJ {now : Int} (hn : (c.m.l.map (·.1)).Nodup) : ((c.since g now).m.l.map (·.1)).Nodup ∧ (c.since g now).bX = c.bX ∧ ∀ k v, fZ (c.since g now).m.l k = some v → (k = g ∧ v = now) ∨ fZ c.m.l k = some v := by
 refine ⟨(CI hn).1, rfl, fun k v hv => ?_⟩
 have Sh : fZ (tE c.m.l g now c.m.ck) k = some v := hv
 rw [FG] at Sh
 split at Sh
 ·rename_i e; cases Sh; exact .inl ⟨e, rfl⟩
 ·exact .inr Sh
theorem oh {now : Int} : ∀ (l : List Int) (c : jG), (c.m.l.map (·.1)).Nodup → ((l.foldl (fun (c : jG) g => c.since g now) c).m.l.map (·.1)).Nodup ∧ (l.foldl (fun (c : jG) g => c.since g now) c).bX = c.bX ∧ ∀ k v, fZ (l.foldl (fun (c : jG) g => c.since g now) c).m.l k = some v → (k ∈ l ∧ v = now) ∨ fZ c.m.l k = some v
 | [], c, h => ⟨h, rfl, fun k v hv => .inr hv⟩
 | g :: l, c, h => by
  obtain ⟨a1, a2, a3⟩ := CJ (c := c) (g := g) (now := now) h
  obtain ⟨b1, b2, b3⟩ := oh l (c.since g now) a1
  rw [List.foldl_cons]
  refine ⟨b1, b2.trans a2, fun k v hv => ?_⟩
  rcases b3 k v hv with ⟨e1, e2⟩ | e
  ·exact .inl ⟨List.mem_cons_of_mem _ e1, e2⟩
  ·rcases a3 k v e with ⟨e1, e2⟩ | e
   ·exact .inl ⟨by rw [e1]; simp, e2⟩
   ·exact .inr e
theorem Pv {e : Ev} (hn : (c.m.l.map (·.1)).Nodup) : ((c.step e y).m.l.map (·.1)).Nodup ∧
  ((c.step e y).bX = c.bX ∨ e.kind = 7 ∧ ∃ f, fZ c.m.l e.g = some f ∧ (c.step e y).bX = if IntKind.wrap .i64 (IntKind.wrap .i64 (y.steps - 1) - f) > c.bX then IntKind.wrap .i64 (IntKind.wrap .i64 (y.steps - 1) - f) else c.bX) ∧
  ∀ k v, fZ (c.step e y).m.l k = some v → (v = IntKind.wrap .i64 (y.steps - 1) ∧ (k ∈ e.ready ∨ e.kind = 7 ∧ k = e.g ∧ (aj y.w k).st = 1)) ∨ (fZ c.m.l k = some v ∧ (e.kind = 7 → e.g ≠ k)) := by
 unfold jG.step
 generalize IntKind.wrap .i64 (y.steps - 1) = now
 have hw := FK (c := c) (g := e.g) (now := now) hn
 have lw : (c.wait e.g now).bX = c.bX ∨ ∃ f, fZ c.m.l e.g = some f ∧ (c.wait e.g now).bX = if IntKind.wrap .i64 (now - f) > c.bX then IntKind.wrap .i64 (now - f) else c.bX := by
  unfold jG.wait
  split
  ·exact .inl rfl
  ·rename_i f h; exact .inr ⟨f, h, rfl⟩
 split
 ·rename_i h7
  split
  ·rename_i hst
   obtain ⟨a1, a2, a3⟩ := CJ (c := c.wait e.g now) (g := e.g) (now := now) hw.1
   obtain ⟨b1, b2, b3⟩ := oh (now := now) e.ready ((c.wait e.g now).since e.g now) a1
   refine ⟨b1, ?_, fun k v hv => ?_⟩
   ·rw [b2, a2]
    rcases lw with h | h
    ·exact .inl h
    ·exact .inr ⟨h7, h⟩
   ·rcases b3 k v hv with ⟨e1, e2⟩ | h
    ·exact .inl ⟨e2, .inl e1⟩
    ·rcases a3 k v h with ⟨e1, e2⟩ | h
     ·exact .inl ⟨e2, .inr ⟨h7, e1, by rw [e1]; exact hst⟩⟩
     ·obtain ⟨h1, h2⟩ := hw.2 k v h
      exact .inr ⟨h2, fun _ => Ne.symm h1⟩
  ·obtain ⟨b1, b2, b3⟩ := oh (now := now) e.ready (c.wait e.g now) hw.1
   refine ⟨b1, ?_, fun k v hv => ?_⟩
   ·rw [b2]
    rcases lw with h | h
    ·exact .inl h
    ·exact .inr ⟨h7, h⟩
   ·rcases b3 k v hv with ⟨e1, e2⟩ | h
    ·exact .inl ⟨e2, .inl e1⟩
    ·obtain ⟨h1, h2⟩ := hw.2 k v h
     exact .inr ⟨h2, fun _ => Ne.symm h1⟩
 ·rename_i h7
  obtain ⟨b1, b2, b3⟩ := oh (now := now) e.ready c hn
  refine ⟨b1, .inl b2, fun k v hv => ?_⟩
  rcases b3 k v hv with ⟨e1, e2⟩ | h
  ·exact .inl ⟨e2, .inl e1⟩
  ·exact .inr ⟨h, fun e => absurd e h7⟩
theorem FI.step {e : Ev} (h : FI W GG S Rm B x c) (hs : SV p N x) (hp : dn p) (hN : N ≤ 1000000) (hst : x.status = 0) (hy : x.step p = some (y, .ev e)) (hys : SV p (N + 1) y)
  (hW : iL (fW y.ms.length y.d.taken) y.ms.length ≤ W) (To : iL (fW x.ms.length x.d.taken) x.ms.length ≤ W) (hG : y.w.gs.length ≤ GG) (hB : ((W * ((2 * S + 2) * (2 * Rm + 2 + (7 * GG + 7)) + (2 * S + 1)) : Nat) : Int) + W ≤ B) : FI W GG S Rm B y (c.step e y) := by
 have hw := tK hs hp hy hst
 have hgx : x.w.gs.length ≤ GG := Nat.le_trans hw.1 hG
 obtain ⟨d', k, q1, q2, q3, q4, q5⟩ := Pp (GG := GG) hs h.hv hgx h.cS hy hst hys hG
 obtain ⟨rest, r1, r2, _⟩ := tJ hs.k hst hy q1
 obtain ⟨s1, s2⟩ := Lo hst hy
 have PT : y.ms.length = x.ms.length := by
  have e1 := hys.cM
  have e2 := hs.cM
  rw [s2] at e1; omega
 have hx := hs.st
 have hnow : IntKind.wrap .i64 (y.steps - 1) = x.steps := by rw [fa (by omega) (by omega)]; omega
 obtain ⟨c1, c2, c3⟩ := Pv (c := c) (y := y) (e := e) h.nd
 rw [hnow] at c2 c3
 have WN : ∀ g, At y.w g 1 → ∃ m n u, m < y.ms.length ∧ Ll Rm GG y g m n u ∧ (y.steps - 1 - x.steps) + ((W * ((2 * S + 2) * n + u) : Nat) : Int) + ((W : Int) + 1 - xq y m) ≤ B := fun g hg => by
  obtain ⟨m, m1, m2⟩ := Fz hys q4 (by rw [s2]; exact h.cS) hG hg
  have := (Ao m1 hW).1
  exact ⟨m, _, _, m1, m2, by omega⟩
 refine ⟨q4, by rw [s2]; exact h.cS, c1, fun g f hf => ?_, ?_⟩
 ·rcases c3 g f hf with ⟨e1, e2⟩ | ⟨e1, e2⟩
  ·subst e1
   have Fx : At y.w g 1 := by
    rcases e2 with e2 | ⟨e2, e3, e4⟩
    ·exact hw.2 g e2
    ·have := Ps hs hp hst hy e2
     rw [← e3] at this
     exact ⟨this.1, this.2, e4⟩
   exact ⟨Fx.1, by omega, by omega, WN g Fx⟩
  ·obtain ⟨a1, a2, a3, m, n, u, m1, m2, m3⟩ := h.wt g f e1
   refine ⟨a1, a2, by omega, ?_⟩
   have hax := Ao m1 To
   rcases q5 g m n u a1 e2 m1 m2 with ⟨b1, b2⟩ | ⟨n', u', b1, b2⟩
   ·have := FJ PT r1 r2 q2 q3 m m1
    rw [if_neg b1] at this
    exact ⟨m, n, u, by omega, b2, by omega⟩
   ·have hk : k.toNat < x.ms.length := by
     obtain ⟨mc, jF, _⟩ := b2
     have := (List.getElem?_eq_some_iff.1 jF).1
     omega
    have := FJ PT r1 r2 q2 q3 k.toNat hk
    rw [if_pos rfl] at this
    refine ⟨k.toNat, n', u', by omega, b2, ?_⟩
    have hmul : W * ((2 * S + 2) * n' + u') + W ≤ W * ((2 * S + 2) * n + u) := by
     have h1 : (2 * S + 2) * n' + u' + 1 ≤ (2 * S + 2) * n + u := by
      rcases b1 with ⟨b1, b3⟩ | ⟨b1, b3⟩
      ·have := Nat.mul_le_mul_left (2 * S + 2) b1
       rw [Nat.mul_add] at this
       omega
      ·have := Nat.mul_le_mul_left (2 * S + 2) b1
       omega
     have := Nat.mul_le_mul_left W h1
     rw [Nat.mul_add, Nat.mul_one] at this
     exact this
    omega
 ·rcases c2 with e1 | ⟨e7, f, e1, e2⟩
  ·rw [e1]; exact h.lg
  ·obtain ⟨a1, a2, a3, m, n, u, m1, m2, m3⟩ := h.wt e.g f e1
   have hax := Ao m1 To
   have hl := h.lg
   rw [fa (by omega) (by omega)] at e2
   rw [e2]
   split <;> omega
theorem Pw {o : g6} (hst : x.status = 0) (hy : x.step p = some (y, o)) : y.c = x.c := by
 unfold Sc.step at hy
 split at hy
 ·rw [if_neg (by rw [hst]; decide)] at hy
  split at hy
  ·cases hy; rfl
  ·rename_i d' k jO
   generalize hac : Sc.act p { x with d := d' } k = r at hy
   cases r with
   | none => cases hy
   | some r =>
    obtain ⟨z, o2⟩ := r
    have := CC hac
    cases o2 <;> · cases hy; exact this.2
 ·cases hy
theorem Px {x0 : Sc} {c0 : jG} {j : Nat} (h : WR p x0 c0 j x c) (h0 : SV p 0 x0) (hp : dn p) (hj : j ≤ 1000000) : (∀ r ∈ x.d.taken, 0 ≤ r.2) ∨ ∃ r ∈ x0.d.taken, r.2 < 0 := by
 induction h with
 | zero =>
  by_cases e : ∀ r ∈ x0.d.taken, 0 ≤ r.2
  ·exact .inl e
  ·simp only [Classical.not_forall] at e
   obtain ⟨r, h1, h2⟩ := e
   exact .inr ⟨r, h1, by omega⟩
 | succ hw hs he ih =>
  rename_i j x y c e
  rcases ih (by omega) with ih | ih
  ·left
   have hv := hw.sv h0 hp (by omega)
   have hpk : ∃ d' k, x.d.draw 1 (x.c.M + 1) = (d', .num k) := by
    unfold Sc.step at he
    split at he
    ·rw [if_neg (by rw [hs]; decide)] at he
     split at he
     ·cases he
     ·rename_i d' k jO; exact ⟨d', k, jO⟩
    ·cases he
   obtain ⟨d', k, hd⟩ := hpk
   obtain ⟨rest, r1, r2, r3⟩ := tJ hv.k hs he hd
   rw [r1]
   intro r hr
   rcases List.mem_append.1 hr with hr | hr
   ·exact ih r hr
   ·rcases List.mem_cons.1 hr with rfl | hr
    ·exact r3
    ·exact (r2 r hr).2
  ·exact .inr ih
theorem FI.run {x0 : Sc} {c0 : jG} {j : Nat} (h : WR p x0 c0 j x c) (h0 : SV p 0 x0) (hp : dn p) (hj : j ≤ 1000000) (hB : ((W * ((2 * S + 2) * (2 * Rm + 2 + (7 * GG + 7)) + (2 * S + 1)) : Nat) : Int) + W ≤ B)
  (hi : x0.w.gs.length ≤ GG → iL (fW x0.ms.length x0.d.taken) x0.ms.length ≤ W → FI W GG S Rm B x0 c0) (hW : iL (fW x.ms.length x.d.taken) x.ms.length ≤ W) (hG : x.w.gs.length ≤ GG) : FI W GG S Rm B x c := by
 induction h with
 | zero => exact hi hG hW
 | succ hw hs he ih =>
  rename_i j x y c e
  have hv := hw.sv h0 hp (by omega)
  have Ly := (WR.succ hw hs he).sv h0 hp hj
  have hpk : ∃ d' k, x.d.draw 1 (x.c.M + 1) = (d', .num k) := by
   unfold Sc.step at he
   split at he
   ·rw [if_neg (by rw [hs]; decide)] at he
    split at he
    ·cases he
    ·rename_i d' k jO; exact ⟨d', k, jO⟩
   ·cases he
  obtain ⟨d', k, hd⟩ := hpk
  obtain ⟨rest, r1, r2, r3⟩ := tJ hv.k hs he hd
  have PT : y.ms.length = x.ms.length := by
   have e1 := Ly.cM
   have e2 := hv.cM
   rw [Pw hs he] at e1; omega
  have To : iL (fW x.ms.length x.d.taken) x.ms.length ≤ W := by
   refine Int.le_trans ?_ hW
   rw [PT, r1]
   refine wI _ _ (fun r hr => ?_)
   rcases List.mem_cons.1 hr with rfl | hr
   ·exact r3
   ·exact (r2 r hr).2
  exact (ih (by omega) To (Nat.le_trans (tK hv hp he hs).1 hG)).step hv hp (by omega) hs he Ly hW To hG hB
theorem Py {now : Int} : ∀ (l : List Nat) (c : jG), (c.m.l.map (·.1)).Nodup → 0 ≤ c.bX → c.bX ≤ B → (∀ g f, fZ c.m.l g = some f → -1 ≤ f ∧ f ≤ 1000000 ∧ now - f ≤ B) → -1 ≤ now → now ≤ 1000000 →
  (l.foldl (fun (c : jG) (g : Nat) => c.wait (g : Int) now) c).bX ≤ B
 | [], c, _, _, h, _, _, _ => h
 | g :: l, c, hn, h0, h1, h2, h3, h4 => by
  rw [List.foldl_cons]
  obtain ⟨w1, w2⟩ := FK (c := c) (g := (g : Int)) (now := now) hn
  have w3 : 0 ≤ (c.wait (g : Int) now).bX ∧ (c.wait (g : Int) now).bX ≤ B := by
   unfold jG.wait
   split
   ·exact ⟨h0, h1⟩
   ·rename_i f hf
    have := h2 _ f hf
    dsimp only
    rw [fa (by omega) (by omega)]
    by_cases hc : now - f > c.bX
    ·rw [if_pos hc]; omega
    ·rw [if_neg hc]; omega
  exact Py l _ w1 w3.1 w3.2 (fun k v hv => h2 k v (w2 k v hv).2) h3 h4
end
theorem Pz (W S R G : Nat) : ((W * ((2 * S + 2) * (2 * R + 2 + (7 * G + 7)) + (2 * S + 1)) : Nat) : Int) + W ≤ (2 * (S : Int) + 2) * W * (7 * ((G : Int) + 2) + 4 * ((R : Int) + 2)) + 8 * W := by
 have h : W * ((2 * S + 2) * (2 * R + 2 + (7 * G + 7)) + (2 * S + 1)) + W ≤ (2 * S + 2) * W * (7 * (G + 2) + 4 * (R + 2)) + 8 * W := by
  have e1 : W * ((2 * S + 2) * (2 * R + 2 + (7 * G + 7)) + (2 * S + 1)) + W = (2 * S + 2) * W * (2 * R + 2 + (7 * G + 7) + 1) := by
   generalize 2 * R + 2 + (7 * G + 7) = A
   rw [Nat.mul_add, Nat.mul_add ((2 * S + 2) * W), Nat.mul_one, ← Nat.mul_assoc, Nat.mul_comm W (2 * S + 2), Nat.add_assoc, Nat.mul_comm W (2 * S + 1)]
   have : (2 * S + 1) * W + W = (2 * S + 2) * W := by rw [show 2 * S + 2 = (2 * S + 1) + 1 by omega, Nat.add_mul (2 * S + 1) 1 W, Nat.one_mul]
   rw [this]
  rw [e1]
  refine Nat.le_trans (Nat.mul_le_mul_left _ (show 2 * R + 2 + (7 * G + 7) + 1 ≤ 7 * (G + 2) + 4 * (R + 2) by omega)) (Nat.le_add_right _ _)
 have h2 := Int.ofNat_le.2 h
 simpa [Int.natCast_add, Int.natCast_mul] using h2
section
variable {p : b6} {x y : Sc} {c : jG}
theorem PB {cf : OG} {l : List Int} {most R S : Nat} (hok : dn p) (hP : 1 ≤ cf.P ∧ cf.P ≤ 64) (hM : 1 ≤ cf.M ∧ cf.M ≤ 64) (hS : cf.S = (S : Int)) (hS1 : 1 ≤ S ∧ S ≤ 1024) (hR : cf.R = (R : Int)) (hR1 : 1 ≤ R ∧ R ≤ 1024) (hm : most ≤ 999999) (hl : (gX.lE l 0).Ok)
  (h : Aj p (Sc.new p cf ⟨.lE l 0, []⟩) PX most y c) (hw : sJ cf.M.toNat y.d.taken ≠ 0) :
  (c.fin y).bX ≤ (2 * cf.S + 2) * (sJ cf.M.toNat y.d.taken) * (7 * ((y.w.gs.length : Int) + 2) + 4 * (cf.R + 2)) + 8 * sJ cf.M.toNat y.d.taken := by
 have h0 : SV p 0 (Sc.new p cf ⟨.lE l 0, []⟩) := SV.new hok hP hM (by omega) rfl hl
 have hms0 : (Sc.new p cf ⟨.lE l 0, []⟩).ms.length = cf.M.toNat := by simp [Sc.new]
 have pre : ∃ (j : Nat) (x : Sc), j ≤ most ∧ WR p (Sc.new p cf ⟨.lE l 0, []⟩) PX j x c ∧ y.steps = x.steps ∧ y.w.gs.length = x.w.gs.length ∧ ∃ rest : List (Int × Int), y.d.taken = x.d.taken ++ rest ∧ ∀ r ∈ rest, 0 ≤ r.2 := by
  cases h with
  | O9 hw hj => exact ⟨_, y, hj, hw, rfl, rfl, [], by simp, by intro r hr; cases hr⟩
  | cV hw hj hst Pt =>
   obtain ⟨a1, a2, a3⟩ := CB (hw.sv h0 hok (by omega)) hok hst Pt
   exact ⟨_, _, by omega, hw, a1, by rw [a2], a3⟩
 obtain ⟨j, x, hj, hwr, ys, yg, rest, yt, yr⟩ := pre
 have hv := hwr.sv h0 hok (by omega)
 have hc : x.c = cf := by
  clear ys yg yt yr hv hw h
  induction hwr with
  | zero => rfl
  | succ hw hs he ih => exact (Pw hs he).trans (ih (by omega))
 have PT : x.ms.length = cf.M.toNat := by have := hv.cM; rw [hc] at this; omega
 have hW : iL (fW cf.M.toNat y.d.taken) cf.M.toNat = sJ cf.M.toNat y.d.taken := by
  unfold sJ at hw ⊢
  split at hw
  ·rename_i e; rw [if_pos e]
  ·exact absurd rfl hw
 have hWp : 0 ≤ sJ cf.M.toNat y.d.taken := by
  rw [← hW]
  have h1 := (kD (s := fW cf.M.toNat y.d.taken) (k := cf.M.toNat)).1
  have h2 := (uo cf.M.toNat y.d.taken).2.2.2.1
  omega
 obtain ⟨W, hWn⟩ := Int.eq_ofNat_of_zero_le hWp
 rw [hWn] at hW ⊢
 rw [hS, hR]
 have hB := Pz W S R y.w.gs.length
 generalize (2 * (S : Int) + 2) * (W : Int) * (7 * ((y.w.gs.length : Int) + 2) + 4 * ((R : Int) + 2)) + 8 * (W : Int) = B at hB ⊢
 have To : iL (fW x.ms.length x.d.taken) x.ms.length ≤ W := by
  rw [PT, ← hW, yt]
  exact wI _ _ yr
 have hcap : fR cf.R = R := by unfold fR; omega
 have WN : (Sc.new p cf ⟨.lE l 0, []⟩).w.gs.length ≤ y.w.gs.length → iL (fW (Sc.new p cf ⟨.lE l 0, []⟩).ms.length (Sc.new p cf ⟨.lE l 0, []⟩).d.taken) (Sc.new p cf ⟨.lE l 0, []⟩).ms.length ≤ W → FI W y.w.gs.length S R B (Sc.new p cf ⟨.lE l 0, []⟩) PX := fun hg hw0 => by
  have hv0 : HV R (Sc.new p cf ⟨.lE l 0, []⟩) := by
   refine ⟨fun i hi => .inl ?_, fun pr jE => ?_, fun mc jF => ?_⟩
   ·have e : ay (Sc.new p cf ⟨.lE l 0, []⟩) (i : Int) = ⟨⟨-1, fR cf.R, []⟩, 0, -1⟩ := by
     unfold ay Sc.new at *
     dsimp only at hi ⊢
     rw [List.length_replicate] at hi
     simp [hi]
    rw [e]
    exact ⟨rfl, rfl, rfl⟩
   ·rw [List.eq_of_mem_replicate jE]; exact hcap
   ·rw [List.eq_of_mem_replicate jF]
    show (0 : Int) ≤ cf.S
    omega
  refine ⟨hv0, hS, by decide, fun g f hf => ?_, ⟨by decide, ?_⟩⟩
  ·unfold PX at hf
   simp only [fZ] at hf
   split at hf
   ·rename_i e
    subst e
    cases hf
    have Fx : At (Sc.new p cf ⟨.lE l 0, []⟩).w 0 1 := ⟨by decide, by simp [Sc.new, Wd.new], rfl⟩
    obtain ⟨m, m1, m2⟩ := Fz h0 hv0 hS hg Fx
    have := (Ao m1 hw0).1
    have e0 : (Sc.new p cf ⟨.lE l 0, []⟩).steps = 0 := rfl
    refine ⟨by decide, by decide, by rw [e0]; decide, m, _, _, m1, m2, ?_⟩
    rw [e0]
    omega
   ·cases hf
  ·show (0 : Int) ≤ B
   have : (0 : Int) ≤ ((W * ((2 * S + 2) * (2 * R + 2 + (7 * y.w.gs.length + 7)) + (2 * S + 1)) : Nat) : Int) := Int.natCast_nonneg _
   omega
 have xu := hv.w.n2
 have hF : FI W y.w.gs.length S R B x c := FI.run hwr h0 hok (by omega) hB WN To (by omega)
 have hst := hv.st
 unfold jG.fin
 rw [ys, fa (by omega) (by omega)]
 refine Py _ c hF.nd hF.lg.1 hF.lg.2 (fun g f hf => ?_) (by omega) (by omega)
 obtain ⟨a1, a2, a3, m, n, u, m1, m2, m3⟩ := hF.wt g f hf
 have hax := Ao m1 To
 have : (0 : Int) ≤ ((W * ((2 * S + 2) * n + u) : Nat) : Int) := Int.natCast_nonneg _
 generalize (W * ((2 * S + 2) * n + u) : Nat) = zz at m3
 exact ⟨a2, by omega, by omega⟩
end
def qR (s r w g : Nat) : Nat := (2 * s + 2) * w * (7 * (g + 2) + 4 * (r + 2)) + 8 * w
section
variable {R : Mem} {L L' : List HP} {M : Mem} {K : Value → Mem → Prop} {Kp : List PanicEntry → Mem → Prop}
theorem Ia {s r w g : Nat} (hs : s ≤ 20) (hr : r ≤ 20) (hw : w ≤ 100000) (hg : g ≤ 100000) : (2 * s + 2) * w ≤ 4200000 ∧ (2 * s + 2) * w * (7 * (g + 2) + 4 * (r + 2)) ≤ 4200000 * 800000 := by
 have h1 : (2 * s + 2) * w ≤ 42 * 100000 := Nat.mul_le_mul (by omega) hw
 exact ⟨h1, Nat.mul_le_mul h1 (by omega)⟩
theorem Ap {x0 x1 : Int} {s r w g : Nat} (h : Hp R L M) (hs : s ≤ 20) (hr : r ≤ 20) (hw : w ≤ 100000) (hg : g ≤ 100000) (k : ∀ M', Hp R L M' → K (.int .i64 (qR s r w g : Nat)) M') :
  aa Tryz.prog 30 #[.agg #[.int .i64 x0, .int .i64 x1, .int .i64 (r : Int), .int .i64 (s : Int)], .int .i64 (w : Int), .int .i64 (g : Int)] M K Kp := by
 refine Bd ?_
 obtain ⟨b1, b2⟩ := Ia hs hr hw hg
 repeat (first|(refine aq h ?_;clear h;intro kb M h)|(refine au h ?_;clear h;intro M h)|refine St.to h ?_|(apply Exists.intro;(repeat apply Exists.intro);refine And.intro rfl ?_)|refine av ?_|refine ae ?_|refine ai ?_)
 have a1 : IntKind.wrap .i64 (2 * (s : Int)) = ((2 * s : Nat) : Int) := wn (by simp) (by omega)
 have a2 : IntKind.wrap .i64 (((2 * s : Nat) : Int) + 2) = ((2 * s + 2 : Nat) : Int) := wn (by simp) (by omega)
 have a3 : IntKind.wrap .i64 (((2 * s + 2 : Nat) : Int) * (w : Int)) = (((2 * s + 2) * w : Nat) : Int) := wn (Int.natCast_mul _ _).symm (by omega)
 have a4 : IntKind.wrap .i64 ((g : Int) + 2) = ((g + 2 : Nat) : Int) := wn (by simp) (by omega)
 have a5 : IntKind.wrap .i64 (7 * ((g + 2 : Nat) : Int)) = ((7 * (g + 2) : Nat) : Int) := wn (by omega) (by omega)
 have a6 : IntKind.wrap .i64 ((r : Int) + 2) = ((r + 2 : Nat) : Int) := wn (by simp) (by omega)
 have a7 : IntKind.wrap .i64 (4 * ((r + 2 : Nat) : Int)) = ((4 * (r + 2) : Nat) : Int) := wn (by omega) (by omega)
 have a8 : IntKind.wrap .i64 (((7 * (g + 2) : Nat) : Int) + ((4 * (r + 2) : Nat) : Int)) = ((7 * (g + 2) + 4 * (r + 2) : Nat) : Int) := wn (by omega) (by omega)
 have a9 : IntKind.wrap .i64 ((((2 * s + 2) * w : Nat) : Int) * ((7 * (g + 2) + 4 * (r + 2) : Nat) : Int)) = (((2 * s + 2) * w * (7 * (g + 2) + 4 * (r + 2)) : Nat) : Int) := wn (Int.natCast_mul _ _).symm (by omega)
 have XY : IntKind.wrap .i64 (8 * (w : Int)) = ((8 * w : Nat) : Int) := wn (by omega) (by omega)
 have XZ : IntKind.wrap .i64 ((((2 * s + 2) * w * (7 * (g + 2) + 4 * (r + 2)) : Nat) : Int) + ((8 * w : Nat) : Int)) = (qR s r w g : Nat) := wn (by rw [qR, Int.natCast_add]) (by unfold qR; omega)
 simp only [a1, a2, a3, a4, a5, a6, a7, a8, a9, XY, XZ]
 exact k _ h.pE
theorem FL (h : Hp R L M) (k : ∀ M', Hp R L M' → K (.bool true) M') : aa Tryz.prog 36 #[] M K Kp := by
 refine oP ?_
 repeat (first|(refine aq h ?_;clear h;intro kb M h)|(refine au h ?_;clear h;intro M h)|refine St.to h ?_|(apply Exists.intro;(repeat apply Exists.intro);refine And.intro rfl ?_)|refine av ?_|refine ae ?_|refine ai ?_)
 replace h := (h.pt kb).kT (E := Du) (l := [(1, 0), (1, 1), (1, 0)]) rfl
 refine xl (x := 2) h (Src.row) rfl (by simp) (by omega) (by simp) ?_
 clear h
 intro M h
 have e : sJ (2 : Int).toNat [(1, 0), (1, 1), (1, 0)] = 2 := by decide
 rw [e]
 repeat (first|(refine aq h ?_;clear h;intro kb M h)|(refine au h ?_;clear h;intro M h)|refine St.to h ?_|(apply Exists.intro;(repeat apply Exists.intro);refine And.intro rfl ?_)|refine av ?_|refine ae ?_|refine ai ?_)
 refine Ap (s := 1) (r := 2) (w := 1) (g := 1) h (by omega) (by omega) (by omega) (by omega) ?_
 clear h
 intro M h
 repeat (first|(refine aq h ?_;clear h;intro kb M h)|(refine au h ?_;clear h;intro M h)|refine St.to h ?_|(apply Exists.intro;(repeat apply Exists.intro);refine And.intro rfl ?_)|refine av ?_|refine ae ?_|refine ai ?_)
 exact k _ h.pE
end
section
variable {p : b6} {x y : Sc} {c : jG}
theorem Lw {cf : OG} {l : List Int} {most : Nat} (hok : dn p) (hP : 1 ≤ cf.P ∧ cf.P ≤ 64) (hM : 1 ≤ cf.M ∧ cf.M ≤ 64) (hS1 : 1 ≤ cf.S ∧ cf.S ≤ 20) (hR1 : 1 ≤ cf.R ∧ cf.R ≤ 20) (hm : most ≤ 30000) (hl : (gX.lE l 0).Ok)
  (h : Aj p (Sc.new p cf ⟨.lE l 0, []⟩) PX most y c) :
  (∀ r ∈ y.d.taken, 0 ≤ r.2) ∧ ∃ w : Nat, sJ cf.M.toNat y.d.taken = (w : Int) ∧ w ≤ 100000 ∧ (w ≠ 0 → (c.fin y).bX ≤ ((qR cf.S.toNat cf.R.toNat w y.w.gs.length : Nat) : Int)) := by
 have h0 : SV p 0 (Sc.new p cf ⟨.lE l 0, []⟩) := SV.new hok hP hM (by omega) rfl hl
 have hT : ∀ r ∈ y.d.taken, 0 ≤ r.2 := by
  have nn : ∀ {j : Nat} {x : Sc} {c : jG}, WR p (Sc.new p cf ⟨.lE l 0, []⟩) PX j x c → j ≤ 1000000 → ∀ r ∈ x.d.taken, 0 ≤ r.2 := fun hw hj => by
   rcases Px hw h0 hok hj with h | ⟨r, h1, _⟩
   ·exact h
   ·simp [Sc.new] at h1
  cases h with
  | O9 hw hj => exact nn hw (by omega)
  | cV hw hj hst Pt =>
   obtain ⟨_, _, rest, e1, e2⟩ := CB (hw.sv h0 hok (by omega)) hok hst Pt
   rw [e1]
   intro r hr
   rcases List.mem_append.1 hr with hr | hr
   ·exact nn hw (by omega) r hr
   ·exact e2 r hr
 refine ⟨hT, ?_⟩
 have hb : 0 ≤ sJ cf.M.toNat y.d.taken ∧ sJ cf.M.toNat y.d.taken ≤ 100000 := by
  obtain ⟨N, hN, hv⟩ := h.sv h0 hok (by omega)
  have Ry := hv.tk
  obtain ⟨a1, a2, a3, a4, a5⟩ := uo cf.M.toNat y.d.taken
  unfold sJ
  split
  ·have h1 := (kD (s := fW cf.M.toNat y.d.taken) (k := cf.M.toNat)).1
   refine ⟨by omega, lJ.2 ⟨by omega, fun j hj => ?_⟩⟩
   have := a3 j
   omega
  ·omega
 obtain ⟨w, hw⟩ := Int.eq_ofNat_of_zero_le hb.1
 refine ⟨w, hw, by omega, fun hne => ?_⟩
 have := PB (S := cf.S.toNat) (R := cf.R.toNat) hok hP hM (by omega) (by omega) (by omega) (by omega) (by omega) hl h (by rw [hw]; omega)
 rw [hw] at this
 refine Int.le_trans this (Int.le_of_eq ?_)
 have e1 : cf.S = (cf.S.toNat : Int) := by omega
 have e2 : cf.R = (cf.R.toNat : Int) := by omega
 rw [e1, e2]
 unfold qR
 simp [Int.natCast_add, Int.natCast_mul]
end
end Go.Proofs
namespace Go.Proofs
open Go.AF
set_option maxRecDepth 100000
set_option maxHeartbeats 1000000
attribute [local irreducible] aJ de fA cw aB dZ aF aK bh aY bA aO
attribute [local irreducible] Xs stL
theorem FM (z : Int) : 0 ≤ IntKind.wrap .u64 z ∧ IntKind.wrap .u64 z < 18446744073709551616 := by
 rw [IntKind.wrap_u64]; omega
section
variable {R : Mem} {L L' : List HP} {M : Mem} {K : Value → Mem → Prop} {Kp : List PanicEntry → Mem → Prop} {pa : PA} {p : b6}
theorem DK {WO c0 c1 c2 c3 : Int} {n : Nat} (h : Hp R L M) (hM : 0 ≤ c1 ∧ c1 ≤ 100) (hn : n ≤ 100000)
  (k : ∀ A c (l : List Int) M', l.length = n → (∀ v ∈ l, 0 ≤ v ∧ v < 18446744073709551616) → Hp R (bO Es 32 A c l :: L) M' → K (.slice A n c) M') :
  aa Tryz.prog 37 #[.int .u64 WO, .agg #[.int .i64 c0, .int .i64 c1, .int .i64 c2, .int .i64 c3], .int .i64 (n : Int)] M K Kp := by
 refine nS ?_
 refine aq h ?_
 clear h
 intro k1 M h
 refine aq h ?_
 clear h
 intro k3 M h
 replace h := (h.pt k3).kT (E := Es) (l := []) rfl
 have e1 : IntKind.wrap .u64 (IntKind.wrap .i64 (c1 + 1)) = c1 + 1 := by rw [fa (by omega) (by omega), zK (by omega) (by omega)]
 refine ⟨fun dd vs M => ∃ (i : Nat) (sd at_ : Int) (A : Option Addr) (c : Nat) (l : List Int), vs = [.int .u64 sd, .slice A l.length c, .int .u64 at_] ∧ dd = n - i ∧ i ≤ n ∧ l.length = i ∧ (∀ v ∈ l, 0 ≤ v ∧ v < 18446744073709551616) ∧
  Hp R (bO Es 32 A c l :: pt k1 [.int .i64 c0, .int .i64 c1, .int .i64 c2, .int .i64 c3] 29 :: L) M, ⟨_, 0, _, _, _, _, [], rfl, rfl, by omega, rfl, by simp, h.sub bD⟩, ?_⟩
 clear h
 rintro dd _ n9 A2 n2 c2' iM M ⟨i, sd, at_, A, c, l, he, hd, hi, hll, hpos, h⟩
 simp only [List.cons.injEq, Value.int.injEq, Value.slice.injEq, and_true, true_and] at he
 obtain ⟨rfl, ⟨rfl, rfl, rfl⟩, rfl⟩ := he
 have app : ∀ v : Int, (0 ≤ v ∧ v < 18446744073709551616) → ∀ w ∈ l ++ [v], 0 ≤ w ∧ w < 18446744073709551616 := fun v hv w hw => by
  rcases List.mem_append.1 hw with hw | hw
  ·exact hpos w hw
  ·simp only [List.mem_singleton] at hw; subst hw; exact hv
 refine aM.2 ⟨fun hlt => ?_, fun hge => ?_⟩
 ·have hsd := FM (IntKind.wrap .u64 (n9 * 6364136223846793005) + 1442695040888963407)
  generalize IntKind.wrap .u64 (IntKind.wrap .u64 (n9 * 6364136223846793005) + 1442695040888963407) = sd' at hsd ⊢
  refine aM.2 ⟨fun _ => ?_, fun _ => ?_⟩
  ·refine aq h ?_
   clear h
   intro iC M h
   refine h.bJ HH [Int.fdiv sd' 1048576] rfl rfl (by simp; omega) ?_
   clear h
   intro A' c' M h
   refine be ⟨n - (i + 1), by omega, i + 1, _, _, A', c', _, rfl, rfl, by omega, by simp; omega, app _ ?_, h.sub bD⟩
   rw [Int.fdiv_eq_ediv_of_nonneg _ (by decide)]
   omega
  ·refine aH h ⟨by rw [e1]; omega, ?_⟩
   rw [e1]
   refine aq h ?_
   clear h
   intro sM M h
   refine h.bJ HH [Int.tmod (IntKind.wrap .u64 (iM + 1)) (c1 + 1)] rfl rfl (by simp; omega) ?_
   clear h
   intro A' c' M h
   refine be ⟨n - (i + 1), by omega, i + 1, _, _, A', c', _, rfl, rfl, by omega, by simp; omega, app _ ?_, h.sub bD⟩
   have hb := FM (iM + 1)
   rw [Int.tmod_eq_emod_of_nonneg hb.1]
   have h1 := Int.emod_nonneg (IntKind.wrap .u64 (iM + 1)) (show c1 + 1 ≠ 0 by omega)
   have h2 := Int.emod_lt_of_pos (IntKind.wrap .u64 (iM + 1)) (show 0 < c1 + 1 by omega)
   omega
 ·have : l.length = n := by omega
  rw [this]
  exact k A2 c2' l M this hpos (h.sub bD)
theorem DL {c0 c1 c2 c3 WO : Int} (ha : tL M pa p) (k : ∀ M', nA [] M M' → K (.bool true) M') :
  aa Tryz.prog 7 #[DI pa p, .agg #[.int .i64 c0, .int .i64 c1, .int .i64 c2, .int .i64 c3], .int .u64 WO] M K Kp := by
 refine lB ?_
 have k' : ∀ (R : Mem) (L : List HP) M', M.le R → Hp R L M' → K (.bool true) M' := fun R L M' hle h => k M' (oA.TM (fun b o hb => h.le b o (hle b o hb)) [])
 clear k
 have h := Hp.start M
 have cok := zV ⟨c0, c1, c2, c3⟩
 refine aq h ?_
 clear h
 intro k1 M1 h
 refine aq h ?_
 clear h
 intro k3 M2 h
 refine FL h ?_
 clear h; intro M3 h
 refine ot (ai (aH h (aH h (aH h (aH h ?_)))))
 refine HS (c := ⟨c0, c1, c2, c3⟩) h ?_
 clear h; intro M4 h
 generalize c5 ⟨c0, c1, c2, c3⟩ = cf at *
 obtain ⟨P0, P1, M0, M1', R0, R1, S0, S1⟩ := cok
 have m3 : ∀ x : Int, 0 ≤ x → IntKind.wrap .i64 (1 + Int.tmod x 3) = 1 + Int.tmod x 3 ∧ 1 ≤ 1 + Int.tmod x 3 ∧ 1 + Int.tmod x 3 ≤ 3 := fun x hx => by
  rw [Int.tmod_eq_emod_of_nonneg hx]
  have : 0 ≤ x % 3 ∧ x % 3 < 3 := by omega
  rw [fa (by omega) (by omega)]; omega
 obtain ⟨eP, p0, p1⟩ := m3 cf.P (by omega)
 obtain ⟨eM, q0, q1⟩ := m3 cf.M (by omega)
 obtain ⟨eS, s0, s1⟩ := m3 cf.S (by omega)
 refine ⟨_, _, _, _, rfl, ?_⟩
 refine aq h ?_
 clear h
 intro en M5 h
 repeat (refine au h ?_; clear h; intro M h)
 refine aH h ⟨by decide, aH h ⟨by decide, aH h ⟨by decide, ?_⟩⟩⟩
 rw [eP, eM, eS]
 generalize 1 + Int.tmod cf.P 3 = P at *
 generalize 1 + Int.tmod cf.M 3 = Mm at *
 generalize 1 + Int.tmod cf.S 3 = S at *
 clear eP eM eS m3
 repeat (refine au h ?_; clear h; intro M h)
 refine aS h (aS h (aH h (aS h (aH h (aH h (aH h (aH h (aH h (aH h (aH h (aH h ⟨trivial, ?_⟩)))))))))))
 refine Pr h ha ?_
 clear h; intro R1' p1' M l1 SS Xn h
 refine ⟨_, _, _, _, _, _, _, _, _, _, rfl, si h rfl, si h rfl, trivial, ?_⟩
 have hok := Lt p
 refine Se h SS Xn hok (by have := wJ p; simp [fK]; omega) ?_
 clear h; intro R2 p2 M l2 hp2 PG h
 refine ⟨_, _, _, _, _, _, _, _, _, _, rfl, si h rfl, si h rfl, trivial, ?_⟩
 have hle := Mem.le_trans l1 l2
 refine DK (n := 3000) h (by omega) (by decide) ?_
 clear h; intro A cA l M hll hlp h
 refine be ⟨si h rfl, si h rfl, trivial, ?_⟩
 have h' := h.gh A
 clear h
 obtain ⟨R2', l2', hr, h⟩ := h'
 have hlk : (gX.lE l 0).Ok := ⟨by omega, by simp, hlp⟩
 have told := fun y c => Lw (p := fK p) (cf := ⟨P, Mm, cf.R, S⟩) (l := l) (most := (3000 : Int).toNat) (y := y) (c := c) hok (by dsimp only; omega) (by dsimp only; omega) (by dsimp only; omega) (by dsimp only; omega) (by decide) hlk
 refine H9 (p := fK p) (pa := p2) (cf := ⟨P, Mm, cf.R, S⟩) (l := l) h (hp2.le l2') (PG.le l2') hok (by dsimp only; omega) (by dsimp only; omega) (by dsimp only; omega) hr hll.symm hlk (by omega) (by omega) (fun y c hw => (told y c hw).1) ?_
 clear h; intro R3 y c M l3 hw h
 obtain ⟨hT, w, e1, e2, e3⟩ := told y c hw
 have h0 : SV (fK p) 0 (Sc.new (fK p) ⟨P, Mm, cf.R, S⟩ ⟨.lE l 0, []⟩) := SV.new hok (by dsimp only; omega) (by dsimp only; omega) (by dsimp only; omega) rfl hlk
 obtain ⟨N, hN, hv⟩ := hw.sv h0 hok (by decide)
 have xu := hv.w.n2
 have FF := Mem.le_trans hle (Mem.le_trans l2' l3)
 refine ⟨_, _, _, _, rfl, si h rfl, si h rfl, ?_⟩
 rw [e1]
 refine aq h ?_
 clear h
 intro DR M h
 repeat (refine au h ?_; clear h; intro M h)
 refine ⟨si h rfl, si h rfl, aH h ?_⟩
 refine aR.2 ⟨fun _ => k' R3 _ _ FF h, fun hne => ?_⟩
 refine aH h (aH h (aH h (aH h (aH h (aH h (aH h ?_))))))
 dsimp only at e3
 have eS : S = (S.toNat : Int) := by omega
 have eR : cf.R = (cf.R.toNat : Int) := by omega
 rw [eS, eR]
 refine Ap h (by omega) (by omega) e2 (by omega) ?_
 clear h; intro M h
 refine cE ⟨bN h, ?_⟩
 rw [decide_eq_true (e3 (by omega))]
 exact k' R3 _ _ FF h
end
end Go.Proofs
