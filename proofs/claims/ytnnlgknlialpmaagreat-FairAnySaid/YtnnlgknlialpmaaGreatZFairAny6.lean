/- A part of proofs about one program. -/
import Derived.Test.YtnnlgknlialpmaaGreatZFairAny5
set_option linter.unusedVariables false
namespace Go.Proofs
open Go.AF
set_option maxRecDepth 100000
set_option maxHeartbeats 1000000
attribute [local irreducible] aJ de fm cy aB dZ aF aK bh aY bA aO
section
variable {p : b7} {N Rm GG m n u k S : Nat} {x y z : Sc} {i g a kind v : Int}
theorem SV.other (h : SV p N x) {mc : uZ} {c : Nat} (k1 : k < x.ms.length) (hk : (ax x (k : Int)).p ≠ -1) (h1 : x.ms[c]? = some mc) (hp : mc.p ≠ -1) (hc : c ≠ k) : mc.p.toNat ≠ (ax x (k : Int)).p.toNat := by
 have hmk := gA (x := x) (m := (k : Int)) (by omega) (by omega)
 rw [Int.toNat_natCast] at hmk
 intro e
 have a1 : 0 ≤ mc.p := by rcases h.mv h1 with e | e; exact absurd e.1 hp; omega
 have a2 : 0 ≤ (ax x (k : Int)).p := by rcases h.mv hmk with e | e; exact absurd e.1 hk; omega
 exact hc (h.apart h1 hmk hp (by omega))
theorem DA (hs : SV p N x) (k1 : k < x.ms.length) (hk : (ax x (k : Int)).p = i) (i0 : 0 ≤ i) (i1 : i < x.ps.length) (hS : x.c.S = (S : Int)) {fP : List dm} {Ay : List Int} {dz : jz} (hl : fP.length = x.ps.length) (hv0 : 0 ≤ v)
  (Pe : (ax x (k : Int)).g = -1) (h0 : 0 ≤ g) (h : Lf Rm GG x g m n u) (ht : ∀ j : Nat, (fP.getD j cY).turns = (x.ps.getD j cY).turns)
  (H1 : ∀ j : Int, 0 ≤ j → j < x.ps.length → j ≠ i → Lv Rm GG (ay x j).q x.gl (ay x j).turns g n → Lv Rm GG (fP.getD j.toNat cY).q Ay (ay x j).turns g n ∨ v = g ∨ ∃ n', n' + 1 ≤ n ∧ Lv Rm GG (fP.getD i.toNat cY).q Ay ((ay x i).turns + 1) g n')
  (H2 : Lv Rm GG (ay x i).q x.gl (ay x i).turns g n → v = g ∨ ∃ n', n' + 1 ≤ n ∧ Lv Rm GG (fP.getD i.toNat cY).q Ay ((ay x i).turns + 1) g n') :
  nY Rm GG S (Sc.be { x with ps := fP, gl := Ay, d := dz } (k : Int) i kind v true).1 g k m n u := by
 have hmk := gA (x := x) (m := (k : Int)) (by omega) (by omega)
 rw [Int.toNat_natCast] at hmk
 generalize hz : (Sc.be { x with ps := fP, gl := Ay, d := dz } (k : Int) i kind v true).1 = y
 have hy : y = ((({ x with ps := fP, gl := Ay, d := dz } : Sc).bT i { fP.getD i.toNat cY with turns := (fP.getD i.toNat cY).turns + 1 }).gV (k : Int) ⟨(ax x (k : Int)).p, v, x.c.S⟩) := by rw [← hz]; rfl
 have Lg : ∀ c, c ≠ k → y.ms[c]? = x.ms[c]? := fun c hc => by rw [hy]; show (x.ms.set (k : Int).toNat _)[c]? = _; rw [Int.toNat_natCast, ke hc]
 have RL : y.ms[k]? = some ⟨(ax x (k : Int)).p, v, x.c.S⟩ := by rw [hy]; show (x.ms.set (k : Int).toNat _)[k]? = _; rw [Int.toNat_natCast, List.getElem?_set_self k1]
 have Pf : y.gl = Ay := by rw [hy]; rfl
 have ypi : ay y i = { fP.getD i.toNat cY with turns := (fP.getD i.toNat cY).turns + 1 } := by rw [hy]; exact bG (show i.toNat < fP.length by omega)
 have RM : ∀ j : Int, j.toNat ≠ i.toNat → ay y j = fP.getD j.toNat cY := fun j hj => by rw [hy]; exact getD_set_ne hj
 have PJ : (fP.getD i.toNat cY).turns = (ay x i).turns := ht i.toNat
 have won : (v = g ∨ ∃ n', n' + 1 ≤ n ∧ Lv Rm GG (fP.getD i.toNat cY).q Ay ((ay x i).turns + 1) g n') → 1 ≤ u → nY Rm GG S y g k m n u := by
  rintro (e | ⟨n', e1, e2⟩) hu
  ·exact .inr ⟨n, u - 1, .inr ⟨Nat.le_refl _, by omega⟩, _, RL, .inl e⟩
  ·refine .inr ⟨n', 2 * S, .inl ⟨e1, by omega⟩, _, RL, .inr (.inl ⟨by show (ax x (k : Int)).p ≠ -1; omega, ?_, ?_⟩)⟩
   ·unfold uM
    dsimp only
    rw [if_neg (by omega), hS]; simp
   ·dsimp only
    rw [hk, ypi, Pf]
    dsimp only
    rw [PJ]
    exact e2
 obtain ⟨mc, h1, h2⟩ := h
 have z9 := hs.mv h1
 by_cases e : m = k
 ·subst e
  rw [hmk] at h1
  obtain rfl := Option.some.inj h1
  rcases h2 with h2 | ⟨h2, h3, h4⟩ | ⟨h2, _⟩
  ·omega
  ·rw [hk] at h4
   exact won (H2 h4) (Nat.le_trans (Pa z9) h3)
  ·have := h2 _ (List.mem_of_getElem? hmk); omega
 ·rcases h2 with h2 | ⟨h2, h3, h4⟩ | ⟨h2, _⟩
  ·exact .inl ⟨Ne.symm e, mc, by rw [Lg m e]; exact h1, .inl h2⟩
  ·have hne := hs.other k1 (by omega) h1 h2 e
   rw [hk] at hne
   have hb : 0 ≤ mc.p ∧ mc.p < x.ps.length := by rcases z9 with e | e; exact absurd e.1 h2; omega
   rcases H1 mc.p hb.1 hb.2 (fun e => hne (by rw [e])) h4 with h5 | h5
   ·refine .inl ⟨Ne.symm e, mc, by rw [Lg m e]; exact h1, .inr (.inl ⟨h2, h3, ?_⟩)⟩
    rw [RM _ hne, Pf, ht]
    exact h5
   ·exact won h5 (Nat.le_trans (Pa z9) h3)
  ·have := h2 _ (List.mem_of_getElem? hmk); omega
theorem Af (hs : SV p N x) (k1 : k < x.ms.length) (hk : (ax x (k : Int)).p = i) (i0 : 0 ≤ i) (i1 : i < x.ps.length) {fP : List dm} {Ay : List Int} {dz : jz} (hl : fP.length = x.ps.length)
  (Pe : (ax x (k : Int)).g = -1) (h0 : 0 ≤ g) (h : Lf Rm GG x g m n u) (ht : ∀ j : Nat, (fP.getD j cY).turns = (x.ps.getD j cY).turns)
  (H1 : ∀ j : Int, 0 ≤ j → j < x.ps.length → j ≠ i → Lv Rm GG (ay x j).q x.gl (ay x j).turns g n → Lv Rm GG (fP.getD j.toNat cY).q Ay (ay x j).turns g n)
  (H2 : ¬ Lv Rm GG (ay x i).q x.gl (ay x i).turns g n) :
  nY Rm GG S (Sc.be { x with ps := fP, gl := Ay, d := dz } (k : Int) i kind v false).1 g k m n u := by
 have hmk := gA (x := x) (m := (k : Int)) (by omega) (by omega)
 rw [Int.toNat_natCast] at hmk
 generalize hz : (Sc.be { x with ps := fP, gl := Ay, d := dz } (k : Int) i kind v false).1 = y
 have hy : y = ((({ x with ps := fP, gl := Ay, d := dz } : Sc).bT i { fP.getD i.toNat cY with eN := -1 }).gV (k : Int) ⟨-1, -1, 0⟩) := by rw [← hz]; rfl
 have Lg : ∀ c, c ≠ k → y.ms[c]? = x.ms[c]? := fun c hc => by rw [hy]; show (x.ms.set (k : Int).toNat _)[c]? = _; rw [Int.toNat_natCast, ke hc]
 have Pf : y.gl = Ay := by rw [hy]; rfl
 have RM : ∀ j : Int, j.toNat ≠ i.toNat → ay y j = fP.getD j.toNat cY := fun j hj => by rw [hy]; exact getD_set_ne hj
 obtain ⟨mc, h1, h2⟩ := h
 have z9 := hs.mv h1
 by_cases e : m = k
 ·subst e
  rw [hmk] at h1
  obtain rfl := Option.some.inj h1
  rcases h2 with h2 | ⟨h2, h3, h4⟩ | ⟨h2, _⟩
  ·omega
  ·rw [hk] at h4
   exact absurd h4 H2
  ·have := h2 _ (List.mem_of_getElem? hmk); omega
 ·rcases h2 with h2 | ⟨h2, h3, h4⟩ | ⟨h2, _⟩
  ·exact .inl ⟨Ne.symm e, mc, by rw [Lg m e]; exact h1, .inl h2⟩
  ·have hne := hs.other k1 (by omega) h1 h2 e
   rw [hk] at hne
   have hb : 0 ≤ mc.p ∧ mc.p < x.ps.length := by rcases z9 with e | e; exact absurd e.1 h2; omega
   refine .inl ⟨Ne.symm e, mc, by rw [Lg m e]; exact h1, .inr (.inl ⟨h2, h3, ?_⟩)⟩
   rw [RM _ hne, Pf, ht]
   exact H1 mc.p hb.1 hb.2 (fun e => hne (by rw [e])) h4
  ·have := h2 _ (List.mem_of_getElem? hmk); omega
theorem wD (hv : HV Rm x) (hs : SV p N x) (k1 : k < x.ms.length) (hk : (ax x (k : Int)).p = i) (i0 : 0 ≤ i) (i1 : i < x.ps.length) {fP : List dm} {Ay : List Int} {dz : jz} {t : Bool} (hl : fP.length = x.ps.length)
  (hr : ∀ pr ∈ fP, pr.q.room = Rm) (hb : ∀ j : Nat, (fP.getD j cY).eN = (x.ps.getD j cY).eN)
  (he : ∀ j : Nat, j ≠ i.toNat → (x.ps.getD j cY).q.next = -1 → (x.ps.getD j cY).q.l = [] → (fP.getD j cY).q.next = -1 ∧ (fP.getD j cY).q.l = [])
  (hS0 : 0 ≤ x.c.S) (hf : t = false → (fP.getD i.toNat cY).q.next = -1 ∧ (fP.getD i.toNat cY).q.l = []) : HV Rm (Sc.be { x with ps := fP, gl := Ay, d := dz } (k : Int) i kind v t).1 := by
 have hmk := gA (x := x) (m := (k : Int)) (by omega) (by omega)
 rw [Int.toNat_natCast] at hmk
 have hmem : fP.getD i.toNat cY ∈ fP := by
  rw [List.getD_eq_getElem?_getD, List.getElem?_eq_getElem (by omega)]; exact List.getElem_mem _
 unfold Sc.be
 cases t with
 | true =>
  rw [if_pos rfl]
  refine ⟨fun j hj => ?_, fun pr hp => ?_, fun mc hm => ?_⟩
  ·have hj' : j < x.ps.length := by have : j < (fP.set i.toNat { fP.getD i.toNat cY with turns := (fP.getD i.toNat cY).turns + 1 }).length := hj; simpa [hl] using this
   by_cases e : j = i.toNat
   ·subst e
    exact .inr ⟨k, _, by show (x.ms.set (k : Int).toNat _)[k]? = _; rw [Int.toNat_natCast, List.getElem?_set_self k1], by show (ax x (k : Int)).p = _; omega⟩
   ·rcases hv.hold j hj' with hh | ⟨c, mc, h1, h2⟩
    ·refine .inl ?_
     show ((fP.set i.toNat _).getD (j : Int).toNat cY).eN = -1 ∧ ((fP.set i.toNat _).getD (j : Int).toNat cY).q.next = -1 ∧ ((fP.set i.toNat _).getD (j : Int).toNat cY).q.l = []
     rw [Int.toNat_natCast, getD_set_ne e]
     exact ⟨(hb j).trans hh.1, he j e hh.2.1 hh.2.2⟩
    ·have hc : c ≠ k := by
      rintro rfl
      rw [hmk] at h1
      obtain rfl := Option.some.inj h1
      omega
     exact .inr ⟨c, mc, by show (x.ms.set (k : Int).toNat _)[c]? = _; rw [Int.toNat_natCast, ke hc]; exact h1, h2⟩
  ·have xe : pr ∈ fP.set i.toNat { fP.getD i.toNat cY with turns := (fP.getD i.toNat cY).turns + 1 } := hp
   rcases List.mem_or_eq_of_mem_set xe with xe | rfl
   ·exact hr pr xe
   ·exact hr (fP.getD i.toNat cY) hmem
  ·have hm' : mc ∈ x.ms.set (k : Int).toNat ⟨(ax x (k : Int)).p, v, x.c.S⟩ := hm
   rcases List.mem_or_eq_of_mem_set hm' with hm' | rfl
   ·exact hv.left mc hm'
   ·exact Int.le_refl _
 | false =>
  rw [if_neg (by decide)]
  refine ⟨fun j hj => ?_, fun pr hp => ?_, fun mc hm => ?_⟩
  ·have hj' : j < x.ps.length := by have : j < (fP.set i.toNat { fP.getD i.toNat cY with eN := -1 }).length := hj; simpa [hl] using this
   by_cases e : j = i.toNat
   ·subst e
    refine .inl ?_
    show ((fP.set i.toNat _).getD ((i.toNat : Nat) : Int).toNat cY).eN = -1 ∧ ((fP.set i.toNat _).getD ((i.toNat : Nat) : Int).toNat cY).q.next = -1 ∧ ((fP.set i.toNat _).getD ((i.toNat : Nat) : Int).toNat cY).q.l = []
    rw [Int.toNat_natCast, bG (by omega)]
    exact ⟨rfl, hf rfl⟩
   ·rcases hv.hold j hj' with hh | ⟨c, mc, h1, h2⟩
    ·refine .inl ?_
     show ((fP.set i.toNat _).getD (j : Int).toNat cY).eN = -1 ∧ ((fP.set i.toNat _).getD (j : Int).toNat cY).q.next = -1 ∧ ((fP.set i.toNat _).getD (j : Int).toNat cY).q.l = []
     rw [Int.toNat_natCast, getD_set_ne e]
     exact ⟨(hb j).trans hh.1, he j e hh.2.1 hh.2.2⟩
    ·have hc : c ≠ k := by
      rintro rfl
      rw [hmk] at h1
      obtain rfl := Option.some.inj h1
      omega
     exact .inr ⟨c, mc, by show (x.ms.set (k : Int).toNat _)[c]? = _; rw [Int.toNat_natCast, ke hc]; exact h1, h2⟩
  ·have xe : pr ∈ fP.set i.toNat { fP.getD i.toNat cY with eN := -1 } := hp
   rcases List.mem_or_eq_of_mem_set xe with xe | rfl
   ·exact hr pr xe
   ·exact hr (fP.getD i.toNat cY) hmem
  ·have hm' : mc ∈ x.ms.set (k : Int).toNat ⟨-1, -1, 0⟩ := hm
   rcases List.mem_or_eq_of_mem_set hm' with hm' | rfl
   ·exact hv.left mc hm'
   ·exact hS0
end
section
variable {p : b7} {N Rm GG m n u k S : Nat} {x y z : Sc} {i g a kind v : Int}
theorem Wv {q : Loc} {t : Int} {gl : List Int} {j : Nat} (h : gl[j]? = some g) : (fY q t gl).2.2.1 = g ∨ ∃ j', j' ≤ j ∧ (fY q t gl).2.1[j']? = some g := by
 obtain ⟨hn, _, hp⟩ := qN q gl
 have h := yj hp h
 unfold fY
 generalize q.dO gl = r at hn h
 obtain ⟨q1, g1, n1⟩ := r
 dsimp only at hn h ⊢
 clear hp
 split
 ·cases g1 with
  | nil => simp at h
  | cons v l =>
   cases j with
   | zero => exact .inl (by simpa using h)
   | succ j => exact .inr ⟨j, by omega, by simpa using h⟩
 ·split
  ·exact .inr ⟨j, Nat.le_refl _, h⟩
  ·rw [Dy]
   cases g1 with
   | nil => simp at h
   | cons v l =>
    cases j with
    | zero => exact .inl (by simpa using h)
    | succ j => exact .inr ⟨j, by omega, by simpa using h⟩
theorem RN {ps : List dm} {j : Nat} {pr : dm} (h : ps[j]? = some pr) : pr.q.all.count a ≤ jO ps a := by
 unfold jO
 exact nX Loc.all _ pr.q (List.mem_map.2 ⟨pr, List.mem_of_getElem? h, rfl⟩)
theorem SV.RO (hs : SV p N x) (i0 : 0 ≤ i) (i1 : i < x.ps.length) : ((ay x i).q.dO x.gl).2.1.length ≤ x.w.gs.length := hs.Dz fun a => by
 have h1 := E0 (ay x i).q x.gl a
 have h2 := RN (a := a) (mh i0 i1)
 unfold jP
 omega
theorem Pg (hs : SV p N x) (hv : HV Rm x) (V6 : x.w.gs.length ≤ GG) (k1 : k < x.ms.length) (hk : (ax x (k : Int)).p ≠ -1) (Pe : (ax x (k : Int)).g = -1) (hS : x.c.S = (S : Int)) {e : Ev} (hf : x.find (k : Int) = (y, .ev e)) :
  (0 ≤ g → Lf Rm GG x g m n u → nY Rm GG S y g k m n u) ∧ HV Rm y := by
 have hmk := gA (x := x) (m := (k : Int)) (by omega) (by omega)
 rw [Int.toNat_natCast] at hmk
 have z9 := hs.mv hmk
 have hr : 0 ≤ (ax x (k : Int)).p ∧ (ax x (k : Int)).p < x.ps.length ∧ 0 ≤ (ax x (k : Int)).left := by
  rcases z9 with e | e
  ·exact absurd e.1 hk
  ·omega
 obtain ⟨i0, i1, l0⟩ := hr
 have Ww : ∀ {mc : uZ} {c : Nat}, x.ms[c]? = some mc → mc.p ≠ -1 → c ≠ k → mc.p.toNat ≠ (ax x (k : Int)).p.toNat := fun h1 hp hc => hs.other k1 hk h1 hp hc
 have jC := mh i0 i1
 have S6 := List.mem_of_getElem? jC
 have ht := (hs.dO _ S6).1
 have hroom := hv.room _ S6
 have Wx := hs.room _ S6
 have W1 := hs.RO i0 i1
 have hcP := hs.cP
 unfold Sc.find at hf
 dsimp only at hf
 generalize hi : (ax x (k : Int)).p = i at *
 split at hf
 ·
  rename_i hn
  simp only [Prod.mk.injEq] at hf
  obtain ⟨hf, _⟩ := hf
  have eg : (ay x i).q.get = ({ (ay x i).q with next := -1 }, (ay x i).q.next) := by unfold Loc.get; rw [if_pos hn.2]
  rw [eg] at hf
  dsimp only at hf
  have Lg : ∀ c, c ≠ k → y.ms[c]? = x.ms[c]? := fun c hc => by rw [← hf]; show (x.ms.set (k : Int).toNat _)[c]? = _; rw [Int.toNat_natCast, ke hc]
  have RL : y.ms[k]? = some ⟨i, (ay x i).q.next, (ax x (k : Int)).left⟩ := by rw [← hf]; show (x.ms.set (k : Int).toNat _)[k]? = _; rw [Int.toNat_natCast, List.getElem?_set_self k1]
  have Pf : y.gl = x.gl := by rw [← hf]; rfl
  have ypi : ay y i = { ay x i with q := { (ay x i).q with next := -1 } } := by rw [← hf]; exact bG (by omega)
  have RM : ∀ j : Int, j.toNat ≠ i.toNat → ay y j = ay x j := fun j hj => by rw [← hf]; exact getD_set_ne hj
  refine ⟨fun h0 h => ?_, ⟨fun j hj => ?_, fun pr hp => ?_, fun mc hm => ?_⟩⟩
  ·obtain ⟨mc, h1, h2⟩ := h
   by_cases e : m = k
   ·subst e
    rw [hmk] at h1
    obtain rfl := Option.some.inj h1
    rcases h2 with h2 | ⟨h2, h3, h4⟩ | ⟨h2, _⟩
    ·omega
    ·rw [hi] at h4
     have hu : uM (ax x (m : Int)) = 2 * (ax x (m : Int)).left.toNat + 1 := by unfold uM; rw [if_pos Pe]
     rcases h4 with ⟨h4, _⟩ | h4
     ·exact .inr ⟨n, u - 1, .inr ⟨Nat.le_refl _, by omega⟩, _, RL, .inl h4⟩
     ·refine .inr ⟨n, u - 1, .inr ⟨Nat.le_refl _, by omega⟩, _, RL, .inr (.inl ⟨by dsimp only; omega, ?_, ?_⟩)⟩
      ·unfold uM; dsimp only; rw [if_neg hn.2]; omega
      ·dsimp only
       rw [ypi, Pf]
       exact .inr h4
    ·have := h2 _ (List.mem_of_getElem? hmk); omega
   ·rcases h2 with h2 | ⟨h2, h3, h4⟩ | ⟨h2, _⟩
    ·exact .inl ⟨Ne.symm e, mc, by rw [Lg m e]; exact h1, .inl h2⟩
    ·refine .inl ⟨Ne.symm e, mc, by rw [Lg m e]; exact h1, .inr (.inl ⟨h2, h3, ?_⟩)⟩
     rw [RM _ (Ww h1 h2 e), Pf]
     exact h4
    ·have := h2 _ (List.mem_of_getElem? hmk); omega
  ·have hj' : j < x.ps.length := by rw [← hf] at hj; simpa [Sc.bT, Sc.gV] using hj
   by_cases e : j = i.toNat
   ·exact .inr ⟨k, _, RL, by dsimp only; omega⟩
   ·rcases hv.hold j hj' with hh | ⟨c, mc, h1, h2⟩
    ·rw [RM _ (by omega)]; exact .inl hh
    ·have hc : c ≠ k := by
      rintro rfl
      rw [hmk] at h1
      obtain rfl := Option.some.inj h1
      omega
     exact .inr ⟨c, mc, by rw [Lg c hc]; exact h1, h2⟩
  ·have xe : pr ∈ x.ps.set i.toNat { ay x i with q := { (ay x i).q with next := -1 } } := by rw [← hf] at hp; exact hp
   rcases List.mem_or_eq_of_mem_set xe with xe | rfl
   ·exact hv.room pr xe
   ·exact hroom
  ·have hm' : mc ∈ x.ms.set (k : Int).toNat ⟨i, (ay x i).q.next, (ax x (k : Int)).left⟩ := by rw [← hf] at hm; exact hm
   have ec : y.c = x.c := by rw [← hf]; rfl
   rw [ec]
   rcases List.mem_or_eq_of_mem_set hm' with hm' | rfl
   ·exact hv.left mc hm'
   ·exact hv.left (ax x (k : Int)) (List.mem_of_getElem? hmk)
 ·have hown : Sc.own x i = ({ x with ps := x.ps.set i.toNat { ay x i with q := (fY (ay x i).q (ay x i).turns x.gl).1 }, gl := (fY (ay x i).q (ay x i).turns x.gl).2.1 }, (fY (ay x i).q (ay x i).turns x.gl).2.2.1, (fY (ay x i).q (ay x i).turns x.gl).2.2.2) := rfl
  rw [hown] at hf
  have olv : ∀ {n}, 0 ≤ g → Lv Rm GG (ay x i).q x.gl (ay x i).turns g n → _ := fun h0 hh => Ws hh h0 ht hroom (Nat.le_trans W1 V6)
  have ono := O8 (q := (ay x i).q) (t := (ay x i).turns) (gl := x.gl)
  have oro := O9 (q := (ay x i).q) (t := (ay x i).turns) (gl := x.gl)
  have ogl : ∀ {j}, x.gl[j]? = some g → _ := fun hh => Wv (q := (ay x i).q) (t := (ay x i).turns) hh
  have osv := Ji (t := (ay x i).turns) (hs.OW S6) Wx hs.S5
  generalize fY (ay x i).q (ay x i).turns x.gl = r at *
  obtain ⟨q1, g1, v1, has⟩ := r
  dsimp only at hf olv ono oro ogl osv
  obtain ⟨_, _, o3, o4⟩ := osv
  have gi : ∀ b : dm, (x.ps.set i.toNat b).getD i.toNat cY = b := fun b => bG (by omega)
  have gj : ∀ (b : dm) (j : Nat), j ≠ i.toNat → (x.ps.set i.toNat b).getD j cY = x.ps.getD j cY := fun b j hj => getD_set_ne hj
  have SW : ∀ j : Nat, ((x.ps.set i.toNat { ay x i with q := q1 }).getD j cY).turns = (x.ps.getD j cY).turns := fun j => by
   by_cases e : j = i.toNat
   ·subst e; rw [gi]; rfl
   ·rw [gj _ j e]
  have wL : ∀ j : Nat, ((x.ps.set i.toNat { ay x i with q := q1 }).getD j cY).eN = (x.ps.getD j cY).eN := fun j => by
   by_cases e : j = i.toNat
   ·subst e; rw [gi]; rfl
   ·rw [gj _ j e]
  have w4 : ∀ pr ∈ x.ps.set i.toNat { ay x i with q := q1 }, pr.q.room = Rm := fun pr hp => by
   rcases List.mem_or_eq_of_mem_set hp with hp | rfl
   ·exact hv.room pr hp
   ·exact oro.trans hroom
  have Bf : ∀ j : Nat, j ≠ i.toNat → (x.ps.getD j cY).q.next = -1 → (x.ps.getD j cY).q.l = [] → ((x.ps.set i.toNat { ay x i with q := q1 }).getD j cY).q.next = -1 ∧ ((x.ps.set i.toNat { ay x i with q := q1 }).getD j cY).q.l = [] := fun j hj a b => by
   rw [gj _ j hj]; exact ⟨a, b⟩
  have Ph : has = false → 0 ≤ g → (∀ n, ¬ Lv Rm GG (ay x i).q x.gl (ay x i).turns g n) ∧ ∀ j : Int, Lv Rm GG (ay x j).q x.gl (ay x j).turns g n → (∀ Dq, Lv Rm GG (ay x j).q Dq (ay x j).turns g n) := fun e h0 => by
   have n1 : ∀ n, ¬ Lv Rm GG (ay x i).q x.gl (ay x i).turns g n := fun n hh => by
    have := (olv h0 hh).1
    rw [e] at this; cases this
   refine ⟨n1, fun j hh Dq => ?_⟩
   rcases hh with hh | hh | ⟨c, c1, c2⟩
   ·exact .inl hh
   ·exact .inr (.inl hh)
   ·exact absurd (.inr (.inr ⟨c, c1, Nat.le_refl _⟩)) (n1 _)
  split at hf
  ·rename_i hh
   have nb := Ph hh.1
   obtain ⟨Z1, Xc, _, on4⟩ := ono hh.1
   split at hf
   ·simp at hf
   ·rename_i d2 w jM
    have PM := eF hs.k jM
    have To : gU x.c.P = x.c.P := by unfold gU; rw [if_neg (by omega)]
    rw [To] at PM
    try dsimp only at hf
    split at hf
    ·simp only [Prod.mk.injEq] at hf
     rw [← hf.1]
     refine ⟨fun h0 h => Af hs k1 hi i0 i1 (by simp) Pe h0 h SW (fun j j0 j1 Z2 hj => ?_) ((nb h0).1 n), wD hv hs k1 hi i0 i1 (by simp) w4 wL Bf (by omega) (fun _ => by rw [gi]; exact ⟨Z1, Xc⟩)⟩
     rw [gj _ _ (by omega)]
     exact (nb h0).2 j hj _
    ·rename_i ZE
     have hne : w.toNat ≠ i.toNat := by omega
     have epi : ay { x with ps := x.ps.set i.toNat { ay x i with q := q1 }, gl := g1, d := d2 } i = { ay x i with q := q1 } := bG (by omega)
     have epv : ay { x with ps := x.ps.set i.toNat { ay x i with q := q1 }, gl := g1, d := d2 } w = ay x w := getD_set_ne hne
     rw [epi, epv] at hf
     dsimp only at hf
     have HE := mh (x := x) (i := w) PM.1 (by omega)
     have S7 := List.mem_of_getElem? HE
     have HL := hs.room _ S7
     have hvR := hv.room _ S7
     have hst := Le (q := q1) (f := (ay x w).q) Xc (oro.trans hroom) (by have := HL.1; omega) Z1
     have hsp := B8 (x := q1) (hs.OW S7) (by rw [Xc]; simp)
     generalize q1.c9 (ay x w).q = s at hst hf hsp
     obtain ⟨s1, s2, s3⟩ := s
     dsimp only at hf hsp
     have hz : Sc.bT (Sc.bT { x with ps := x.ps.set i.toNat { ay x i with q := q1 }, gl := g1, d := d2 } i { ay x i with q := s1 }) w { ay x w with q := s2 } = { x with ps := (x.ps.set i.toNat { ay x i with q := s1 }).set w.toNat { ay x w with q := s2 }, gl := g1, d := d2 } := by
      unfold Sc.bT
      dsimp only
      rw [List.set_set]
     rw [hz] at hf
     simp only [Prod.mk.injEq] at hf
     rw [← hf.1]
     have zi : ((x.ps.set i.toNat { ay x i with q := s1 }).set w.toNat { ay x w with q := s2 }).getD i.toNat cY = { ay x i with q := s1 } := by rw [getD_set_ne (Ne.symm hne)]; exact gi _
     have zw : ((x.ps.set i.toNat { ay x i with q := s1 }).set w.toNat { ay x w with q := s2 }).getD w.toNat cY = { ay x w with q := s2 } := bG (by simp; omega)
     have zj : ∀ j : Nat, j ≠ i.toNat → j ≠ w.toNat → ((x.ps.set i.toNat { ay x i with q := s1 }).set w.toNat { ay x w with q := s2 }).getD j cY = x.ps.getD j cY := fun j a b => by rw [getD_set_ne b]; exact gj _ j a
     have SX : ∀ j : Nat, (((x.ps.set i.toNat { ay x i with q := s1 }).set w.toNat { ay x w with q := s2 }).getD j cY).turns = (x.ps.getD j cY).turns := fun j => by
      by_cases e : j = i.toNat
      ·subst e; rw [zi]; rfl
      ·by_cases e2 : j = w.toNat
       ·subst e2; rw [zw]; rfl
       ·rw [zj j e e2]
     have Lq : ∀ j : Nat, (((x.ps.set i.toNat { ay x i with q := s1 }).set w.toNat { ay x w with q := s2 }).getD j cY).eN = (x.ps.getD j cY).eN := fun j => by
      by_cases e : j = i.toNat
      ·subst e; rw [zi]; rfl
      ·by_cases e2 : j = w.toNat
       ·subst e2; rw [zw]; rfl
       ·rw [zj j e e2]
     rcases hst with ⟨fe, st⟩ | ⟨v0, out, rest, fe, st⟩
     ·
      simp only [Prod.mk.injEq] at st
      obtain ⟨rfl, rfl, rfl⟩ := st
      have Oq : ∀ pr ∈ (x.ps.set i.toNat { ay x i with q := s1 }).set w.toNat { ay x w with q := { (ay x w).q with next := -1 } }, pr.q.room = Rm := fun pr hp => by
       rcases List.mem_or_eq_of_mem_set hp with hp | rfl
       ·exact w4 pr hp
       ·exact hvR
      have tv : ∀ j : Nat, j ≠ i.toNat → (x.ps.getD j cY).q.next = -1 → (x.ps.getD j cY).q.l = [] → (((x.ps.set i.toNat { ay x i with q := s1 }).set w.toNat { ay x w with q := { (ay x w).q with next := -1 } }).getD j cY).q.next = -1 ∧ (((x.ps.set i.toNat { ay x i with q := s1 }).set w.toNat { ay x w with q := { (ay x w).q with next := -1 } }).getD j cY).q.l = [] := fun j hj a b => by
       by_cases e2 : j = w.toNat
       ·subst e2; rw [zw]; exact ⟨rfl, fe⟩
       ·rw [zj j hj e2]; exact ⟨a, b⟩
      have hsh : fO (ay x w).q (ay x w).q.next = ((ay x w).q.next != -1) := by unfold fO; rw [fe]; simp
      rw [hsh]
      by_cases ZF : (ay x w).q.next = -1
      ·rw [show ((ay x w).q.next != -1) = false by rw [ZF]; rfl]
       refine ⟨fun h0 h => Af hs k1 hi i0 i1 (by simp) Pe h0 h SX (fun j j0 j1 Z2 hj => ?_) ((nb h0).1 n), wD hv hs k1 hi i0 i1 (by simp) Oq Lq tv (by omega) (fun _ => by rw [zi]; exact ⟨Z1, Xc⟩)⟩
       have Gf := (nb h0).2 j hj g1
       by_cases e2 : j.toNat = w.toNat
       ·have ej : j = w := by omega
        subst ej
        rw [zw]
        dsimp only
        rw [show ({ (ay x j).q with next := -1 } : Loc) = (ay x j).q by rw [← ZF]]
        exact Gf
       ·rw [zj _ (by omega) e2]
        exact Gf
      ·rw [show ((ay x w).q.next != -1) = true by simpa using ZF]
       have hnx0 : 0 ≤ (ay x w).q.next := by have := (hs.OW S7).1; omega
       refine ⟨fun h0 h => DA hs k1 hi i0 i1 hS (by simp) hnx0 Pe h0 h SX (fun j j0 j1 Z2 hj => ?_) (fun hj => absurd hj ((nb h0).1 n)), wD hv hs k1 hi i0 i1 (by simp) Oq Lq tv (by omega) (fun e => by cases e)⟩
       by_cases e2 : j.toNat = w.toNat
       ·have ej : j = w := by omega
        subst ej
        rcases hj with ⟨hj, _⟩ | ⟨c, c1, _⟩ | ⟨c, c1, _⟩
        ·exact .inr (.inl hj)
        ·rw [fe] at c1; simp at c1
        ·exact absurd (.inr (.inr ⟨c, c1, Nat.le_refl _⟩)) ((nb h0).1 _)
       ·rw [zj _ (by omega) e2]
        exact .inl ((nb h0).2 j hj g1)
     ·simp only [Prod.mk.injEq] at st
      obtain ⟨rfl, rfl, rfl⟩ := st
      have Oq : ∀ pr ∈ (x.ps.set i.toNat { ay x i with q := { q1 with l := out } }).set w.toNat { ay x w with q := { (ay x w).q with l := rest } }, pr.q.room = Rm := fun pr hp => by
       rcases List.mem_or_eq_of_mem_set hp with hp | rfl
       ·rcases List.mem_or_eq_of_mem_set hp with hp | rfl
        ·exact hv.room pr hp
        ·exact oro.trans hroom
       ·exact hvR
      have tv : ∀ j : Nat, j ≠ i.toNat → (x.ps.getD j cY).q.next = -1 → (x.ps.getD j cY).q.l = [] → (((x.ps.set i.toNat { ay x i with q := { q1 with l := out } }).set w.toNat { ay x w with q := { (ay x w).q with l := rest } }).getD j cY).q.next = -1 ∧ (((x.ps.set i.toNat { ay x i with q := { q1 with l := out } }).set w.toNat { ay x w with q := { (ay x w).q with l := rest } }).getD j cY).q.l = [] := fun j hj a b => by
       by_cases e2 : j = w.toNat
       ·subst e2
        have b' : (ay x w).q.l = [] := b
        rw [fe] at b'; cases b'
       ·rw [zj j hj e2]; exact ⟨a, b⟩
      have hsh : fO (ay x w).q s3 = true := by unfold fO; rw [fe]; simp
      rw [hsh]
      have hs3 : 0 ≤ s3 := by
       rcases hsp with ⟨e, _⟩ | ⟨_, e⟩
       ·rw [fe] at e; cases e
       ·exact e
      refine ⟨fun h0 h => DA hs k1 hi i0 i1 hS (by simp) hs3 Pe h0 h SX (fun j j0 j1 Z2 hj => ?_) (fun hj => absurd hj ((nb h0).1 n)), wD hv hs k1 hi i0 i1 (by simp) Oq Lq tv (by omega) (fun e => by cases e)⟩
      by_cases e2 : j.toNat = w.toNat
      ·have ej : j = w := by omega
       subst ej
       rw [zw, zi]
       dsimp only
       rcases hj with hj | ⟨c, c1, c2⟩ | ⟨c, c1, _⟩
       ·exact .inl (.inl hj)
       ·rw [fe] at c1
        cases c with
        | zero => exact .inr (.inl (by simpa using c1))
        | succ c =>
         rw [List.getElem?_cons_succ] at c1
         by_cases hc : c < out.length
         ·rw [List.getElem?_append_left hc] at c1
          have h7 := Dx ((ay x i).turns + 1)
          exact .inr (.inr ⟨2 * c + 1 + (7 * GG + 7), by omega, .inr (.inl ⟨c, c1, by omega⟩)⟩)
         ·rw [List.getElem?_append_right (by omega)] at c1
          exact .inl (.inr (.inl ⟨c - out.length, c1, by omega⟩))
       ·exact absurd (.inr (.inr ⟨c, c1, Nat.le_refl _⟩)) ((nb h0).1 _)
      ·rw [zj _ (by omega) e2]
       exact .inl ((nb h0).2 j hj g1)
  ·rename_i hh
   simp only [Prod.mk.injEq] at hf
   rw [← hf.1]
   cases has with
   | false =>
    have nb := Ph rfl
    obtain ⟨Z1, Xc, _, on4⟩ := ono rfl
    refine ⟨fun h0 h => Af (dz := x.d) hs k1 hi i0 i1 (by simp) Pe h0 h SW (fun j j0 j1 Z2 hj => ?_) ((nb h0).1 n), wD (dz := x.d) hv hs k1 hi i0 i1 (by simp) w4 wL Bf (by omega) (fun _ => by rw [gi]; exact ⟨Z1, Xc⟩)⟩
    rw [gj _ _ (by omega)]
    exact (nb h0).2 j hj _
   | true =>
    refine ⟨fun h0 h => DA (dz := x.d) hs k1 hi i0 i1 hS (by simp) (o3 rfl) Pe h0 h SW (fun j j0 j1 Z2 hj => ?_) (fun hj => ?_), wD (dz := x.d) hv hs k1 hi i0 i1 (by simp) w4 wL Bf (by omega) (fun e => by cases e)⟩
    ·rw [gj _ _ (by omega)]
     rcases hj with hj | hj | ⟨c, c1, c2⟩
     ·exact .inl (.inl hj)
     ·exact .inl (.inr (.inl hj))
     ·rcases ogl c1 with e | ⟨c', e1, e2⟩
      ·exact .inr (.inl e)
      ·exact .inl (.inr (.inr ⟨c', e2, by omega⟩))
    ·rw [gi]
     exact (olv h0 hj).2
end
section
variable {p : b7} {N Rm GG m n u k S : Nat} {x y z : Sc} {i g a kind v : Int}
theorem Jm : ∀ (l : List Int) (z : Sc), 0 ≤ (ax z a).p → (ax z a).p < z.ps.length →
  z.gl <+: (l.foldl (aE a) z).gl ∧ (∀ j : Nat, j ≠ (ax z a).p.toNat → (l.foldl (aE a) z).ps.getD j cY = z.ps.getD j cY) ∧
  (∀ Rm, (∀ pr ∈ z.ps, pr.q.room = Rm) → (∀ pr ∈ (l.foldl (aE a) z).ps, pr.q.room = Rm)) ∧
  (∀ (t g : Int) (Rm GG n : Nat), 0 ≤ g → (∀ pr ∈ z.ps, pr.q.room = Rm) → (l.foldl (aE a) z).gl.length ≤ GG → Lv Rm GG (ay z (ax z a).p).q z.gl t g n → Lv Rm GG (ay (l.foldl (aE a) z) (ax z a).p).q (l.foldl (aE a) z).gl t g n)
 | [], z, _, _ => ⟨List.prefix_refl _, fun _ _ => rfl, fun _ h => h, fun _ _ _ _ _ _ _ _ h => h⟩
 | r :: l, z, h0, h1 => by
  have jC := mh (x := z) h0 h1
  have hps : (aE a z r).ps.length = z.ps.length := by simp [aE, Sc.bT]
  have jD : ax (aE a z r) a = ax z a := rfl
  obtain ⟨a1, a2, a3, a4⟩ := Jm l (aE a z r) (by rw [jD]; exact h0) (by rw [jD, hps]; exact h1)
  obtain ⟨n1, n2, n3⟩ := HN (ay z (ax z a).p).q r z.gl
  have egl : (aE a z r).gl = ((ay z (ax z a).p).q.ready r z.gl).2.1 := rfl
  have eq : (ay (aE a z r) (ax z a).p).q = ((ay z (ax z a).p).q.ready r z.gl).1 := by
   show ((z.ps.set (ax z a).p.toNat _).getD (ax z a).p.toNat cY).q = _
   rw [bG (by omega)]
  have ZU : ∀ Rm, (∀ pr ∈ z.ps, pr.q.room = Rm) → ∀ pr ∈ (aE a z r).ps, pr.q.room = Rm := fun Rm hr pr hp => by
   have xe : pr ∈ z.ps.set (ax z a).p.toNat { ay z (ax z a).p with q := ((ay z (ax z a).p).q.ready r z.gl).1 } := hp
   rcases List.mem_or_eq_of_mem_set xe with xe | rfl
   ·exact hr pr xe
   ·exact n2.trans (hr _ (List.mem_of_getElem? jC))
  rw [List.foldl_cons]
  refine ⟨?_, fun j hj => ?_, fun Rm hr => a3 Rm (ZU Rm hr), fun t g Rm GG n g0 hr hG hl => ?_⟩
  ·exact (egl ▸ n3 : z.gl <+: (aE a z r).gl).trans a1
  ·rw [a2 j hj]
   show (z.ps.set (ax z a).p.toNat _).getD j cY = _
   exact getD_set_ne hj
  ·refine a4 t g Rm GG n g0 (ZU Rm hr) hG ?_
   rw [jD, eq, egl]
   refine O6 hl g0 (hr _ (List.mem_of_getElem? jC)) ?_
   rw [← egl]
   exact Nat.le_trans a1.length_le hG
theorem HQ (hs : SV p N x) (hv : HV Rm x) (k1 : k < x.ms.length) (hk : (ax x (k : Int)).p ≠ -1) (Pe : 0 ≤ (ax x (k : Int)).g) {l : List Int} {w : Wd} {d : jz} {keep : Bool}
  (hy : (Sc.gM (l.foldl (aE (k : Int)) { x with w := w, d := d }) (k : Int) (ax x (k : Int)).g keep l).1 = y) (hG : y.gl.length ≤ GG) : (0 ≤ g → g ≠ (ax x (k : Int)).g → Lf Rm GG x g m n u → nY Rm GG S y g k m n u) ∧ HV Rm y := by
 have hmk := gA (x := x) (m := (k : Int)) (by omega) (by omega)
 rw [Int.toNat_natCast] at hmk
 have z9 := hs.mv hmk
 have hr : 0 ≤ (ax x (k : Int)).p ∧ (ax x (k : Int)).p < x.ps.length ∧ 1 ≤ (ax x (k : Int)).left := by
  rcases z9 with e | e
  ·exact absurd e.1 hk
  ·have := e.2.2.2.2.2 Pe; omega
 obtain ⟨i0, i1, l0⟩ := hr
 have Ww : ∀ {mc : uZ} {c : Nat}, x.ms[c]? = some mc → mc.p ≠ -1 → c ≠ k → mc.p.toNat ≠ (ax x (k : Int)).p.toNat := fun h1 hp hc => hs.other k1 hk h1 hp hc
 have f1 := fE (m := (k : Int)) l { x with w := w, d := d } i0 i1
 have f2 := Jm (a := (k : Int)) l { x with w := w, d := d } i0 i1
 have f3 := wC (m := (k : Int)) l { x with w := w, d := d } i0 i1
 have em : ax { x with w := w, d := d } (k : Int) = ax x (k : Int) := rfl
 have ep : ∀ j, ay { x with w := w, d := d } j = ay x j := fun _ => rfl
 rw [em] at f2
 simp only [ep] at f2
 have f3 : ∀ j : Nat, ((l.foldl (aE (k : Int)) { x with w := w, d := d }).ps.getD j cY).eN = (x.ps.getD j cY).eN ∧ ((l.foldl (aE (k : Int)) { x with w := w, d := d }).ps.getD j cY).turns = (x.ps.getD j cY).turns := by
  clear f3 f1 f2
  have : ∀ (l : List Int) (z : Sc), 0 ≤ (ax z (k : Int)).p → (ax z (k : Int)).p < z.ps.length → ∀ j : Nat, ((l.foldl (aE (k : Int)) z).ps.getD j cY).eN = (z.ps.getD j cY).eN ∧ ((l.foldl (aE (k : Int)) z).ps.getD j cY).turns = (z.ps.getD j cY).turns := by
   intro l
   induction l with
   | nil => exact fun z _ _ j => ⟨rfl, rfl⟩
   | cons r l ih =>
    intro z z0 z1 j
    have hps : (aE (k : Int) z r).ps.length = z.ps.length := by simp [aE, Sc.bT]
    have jD : ax (aE (k : Int) z r) (k : Int) = ax z (k : Int) := rfl
    obtain ⟨b1, b2⟩ := ih (aE (k : Int) z r) (by rw [jD]; exact z0) (by rw [jD, hps]; exact z1) j
    rw [List.foldl_cons, b1, b2]
    show ((z.ps.set (ax z (k : Int)).p.toNat _).getD j cY).eN = _ ∧ ((z.ps.set (ax z (k : Int)).p.toNat _).getD j cY).turns = _
    by_cases e : j = (ax z (k : Int)).p.toNat
    ·subst e
     rw [bG (by omega)]
     exact ⟨rfl, rfl⟩
    ·rw [getD_set_ne e]
     exact ⟨rfl, rfl⟩
  exact this l { x with w := w, d := d } i0 i1
 generalize List.foldl (aE (k : Int)) { x with w := w, d := d } l = z at *
 obtain ⟨z1, z2, z3, z4, z5, z6, _⟩ := f1
 obtain ⟨b1, b2, b3, b4⟩ := f2
 try dsimp only at z1 z2 b1 b2 b3 b4
 have emz : ax z (k : Int) = ax x (k : Int) := by unfold ax; rw [z1]
 have all : ∃ lT, y.c = x.c ∧ lT.left ≤ (ax x (k : Int)).left ∧ y.ms = x.ms.set k lT ∧ lT.p = (ax x (k : Int)).p ∧ uM lT + 1 ≤ uM (ax x (k : Int)) ∧ y.ps = z.ps ∧ z.gl <+: y.gl := by
  have hu : uM (ax x (k : Int)) = 2 * (ax x (k : Int)).left.toNat := by unfold uM; rw [if_neg (by omega)]
  rw [hu]
  unfold Sc.gM at hy
  rw [emz] at hy
  split at hy
  ·refine ⟨{ ax x (k : Int) with left := (ax x (k : Int)).left - 1 }, by rw [← hy]; exact z5, by dsimp only; omega, ?_, rfl, ?_, ?_, ?_⟩
   ·rw [← hy]; show z.ms.set (k : Int).toNat _ = _; rw [z1, Int.toNat_natCast]
   ·unfold uM; dsimp only; rw [if_neg (by omega)]; omega
   ·rw [← hy]; rfl
   ·rw [← hy]; exact List.prefix_refl _
  ·refine ⟨{ ax x (k : Int) with left := (ax x (k : Int)).left - 1, g := -1 }, by rw [← hy]; exact z5, by dsimp only; omega, ?_, rfl, ?_, ?_, ?_⟩
   ·rw [← hy]; show z.ms.set (k : Int).toNat _ = _; rw [z1, Int.toNat_natCast]
   ·unfold uM; dsimp only; rw [if_pos rfl]; omega
   ·rw [← hy]; rfl
   ·rw [← hy]
    dsimp only
    split
    ·exact List.prefix_append _ _
    ·exact List.prefix_refl _
 obtain ⟨lT, yc, ml, Lg, mp, mu, Z3, Pf⟩ := all
 have RL : y.ms[k]? = some lT := by rw [Lg, List.getElem?_set_self k1]
 have ymc : ∀ c, c ≠ k → y.ms[c]? = x.ms[c]? := fun c hc => by rw [Lg, ke hc]
 have RM : ∀ j : Int, j.toNat ≠ (ax x (k : Int)).p.toNat → ay y j = ay x j := fun j hj => by
  show y.ps.getD j.toNat cY = _
  rw [Z3, b2 _ hj]; rfl
 have ypt : ∀ j : Int, (ay y j).turns = (ay x j).turns := fun j => by
  show (y.ps.getD j.toNat cY).turns = _
  rw [Z3, (f3 _).2]; rfl
 have hroom : ∀ pr ∈ x.ps, pr.q.room = Rm := hv.room
 refine ⟨fun h0 hgk h => ?_, ⟨fun j hj => ?_, fun pr hp => ?_, fun mc hm => ?_⟩⟩
 ·obtain ⟨mc, h1, h2⟩ := h
  by_cases e : m = k
  ·subst e
   rw [hmk] at h1
   obtain rfl := Option.some.inj h1
   rcases h2 with h2 | ⟨h2, h3, h4⟩ | ⟨h2, _⟩
   ·exact absurd h2.symm hgk
   ·refine .inr ⟨n, u - 1, .inr ⟨Nat.le_refl _, by omega⟩, lT, RL, .inr (.inl ⟨by omega, by omega, ?_⟩)⟩
    rw [mp, ypt]
    have := b4 (ay x (ax x (m : Int)).p).turns g Rm GG n h0 hroom (Nat.le_trans Pf.length_le hG) h4
    have e2 : ay y (ax x (m : Int)).p = ay z (ax x (m : Int)).p := by unfold ay; rw [Z3]
    rw [e2]
    exact HO this Pf
   ·have := h2 _ (List.mem_of_getElem? hmk); omega
  ·rcases h2 with h2 | ⟨h2, h3, h4⟩ | ⟨h2, _⟩
   ·exact .inl ⟨Ne.symm e, mc, by rw [ymc m e]; exact h1, .inl h2⟩
   ·refine .inl ⟨Ne.symm e, mc, by rw [ymc m e]; exact h1, .inr (.inl ⟨h2, h3, ?_⟩)⟩
    rw [RM _ (Ww h1 h2 e)]
    exact HO h4 (b1.trans Pf)
   ·have := h2 _ (List.mem_of_getElem? hmk); omega
 ·have hj' : j < x.ps.length := by rw [Z3, z2] at hj; exact hj
  by_cases e : j = (ax x (k : Int)).p.toNat
  ·exact .inr ⟨k, lT, RL, by omega⟩
  ·rcases hv.hold j hj' with hh | ⟨c, mc, h1, h2⟩
   ·rw [RM _ (by omega)]; exact .inl hh
   ·have hc : c ≠ k := by
     rintro rfl
     rw [hmk] at h1
     obtain rfl := Option.some.inj h1
     omega
    exact .inr ⟨c, mc, by rw [ymc c hc]; exact h1, h2⟩
 ·rw [Z3] at hp
  exact b3 Rm hroom pr hp
 ·rw [Lg] at hm
  rw [yc]
  rcases List.mem_or_eq_of_mem_set hm with hm | rfl
  ·exact hv.left mc hm
  ·exact Int.le_trans ml (hv.left _ (List.mem_of_getElem? hmk))
theorem run_shape {e : Ev} {d0 : jz} (h : Sc.run p { x with d := d0 } a = some (z, .ev e)) : ∃ (l : List Int) (w : Wd) (d : jz) (keep : Bool), (Sc.gM (l.foldl (aE a) { x with w := w, d := d }) a (ax x a).g keep l).1 = z ∧ e.kind = 7 ∧ e.g = (ax x a).g := by
 have on : ∀ {d' : jz} {w : Wd} {rest : Bool}, fk { x with d := d0 } a (ax x a).g d' w rest = some (z, .ev e) → _ := fun {d' w rest} hh => by
  unfold fk at hh
  split at hh
  ·simp only [Option.some.injEq, Prod.mk.injEq, gW.ev.injEq] at hh
   refine (⟨w.ready, w, d', g9 w (ax x a).g rest, hh.1, ?_⟩ : ∃ (l : List Int) (w : Wd) (d : jz) (keep : Bool), (Sc.gM (l.foldl (aE a) { x with w := w, d := d }) a (ax x a).g keep l).1 = z ∧ e.kind = 7 ∧ e.g = (ax x a).g)
   rw [← hh.2]
   unfold Sc.gM
   split <;> exact ⟨rfl, rfl⟩
  ·cases hh
 unfold Sc.run at h
 have em : ax { x with d := d0 } a = ax x a := rfl
 rw [em] at h
 split at h
 ·split at h
  ·split at h
   ·cases h
   ·simp at h
   ·exact on h
   ·exact on h
  ·cases h
 ·cases h
theorem Pj (hs : SV p N x) (hv : HV Rm x) (V6 : x.w.gs.length ≤ GG) (hS : x.c.S = (S : Int)) {e : Ev} (hy : x.step p = some (y, .ev e)) (hst : x.status = 0) (hys : SV p (N + 1) y) (hyG : y.w.gs.length ≤ GG) :
  ∃ d' k, x.d.draw 1 (x.c.M + 1) = (d', .num k) ∧ 0 ≤ k ∧ k ≤ x.ms.length ∧ HV Rm y ∧ (∀ g m n u, 0 ≤ g → (e.kind = 7 → e.g ≠ g) → m < x.ms.length → Lf Rm GG x g m n u → nY Rm GG S y g k.toNat m n u) := by
 unfold Sc.step at hy
 split at hy
 ·rw [if_neg (by rw [hst]; decide)] at hy
  split at hy
  ·simp at hy
  ·rename_i d' k jM
   have PM := eF hs.k jM
   have hM := hs.cM
   have hM1 := hs.M1
   rw [show gU (x.c.M + 1) = x.c.M + 1 from by unfold gU; rw [if_neg (by omega)]] at PM
   refine ⟨d', k, jM, PM.1, by omega, ?_⟩
   have hsd : SV p (N + 1) { x with d := d' } := hs.draw (by
    have h1 := va (k := 1) (n := x.c.M + 1) hs.k
    rw [jM] at h1
    have := hs.tk
    dsimp only at h1
    omega) (by have := lP (kind := 1) (n := x.c.M + 1) hs.k; rw [jM] at this; exact this)
   have Zx : HV Rm { x with d := d' } := ⟨hv.hold, hv.room, hv.left⟩
   have hin : ∀ (z : Sc) (g : Int) (pk m n u : Nat) (t : Int), nY Rm GG S z g pk m n u → nY Rm GG S { z with steps := t } g pk m n u := fun z g pk m n u t hh => hh
   have hih : ∀ (z : Sc) (t : Int), HV Rm z → HV Rm { z with steps := t } := fun z t hh => ⟨hh.hold, hh.room, hh.left⟩
   unfold Sc.act at hy
   split at hy
   ·rename_i hk
    split at hy
    ·simp only [Option.map_some, Option.some.injEq, hJ, Prod.mk.injEq, gW.ev.injEq] at hy
     rw [← hy.1]
     refine ⟨hih _ _ (RK hv x.w.tick.ready x.w.tick d'), fun g m n u h0 _ hm hp => ?_⟩
     refine .inl ⟨?_, ?_⟩
     ·dsimp only at hk; omega
     ·exact Pc hp x.w.tick.ready x.w.tick d'
    ·simp at hy
   ·rename_i hkM
    have OU : k.toNat < x.ms.length := by dsimp only at hkM; omega
    have hkk : ((k.toNat : Nat) : Int) = k := by omega
    split at hy
    ·rename_i hp
     simp only [Option.map_some, Option.some.injEq, hJ, Prod.mk.injEq, gW.ev.injEq] at hy
     rw [← hy.1]
     have hb := fun g m n u => Pd (S := S) (GG := GG) (g := g) (m := m) (n := n) (u := u) (k := k.toNat) hsd Zx (x := { x with d := d' }) OU (by rw [hkk]; exact hp)
     rw [hkk] at hb
     exact ⟨hih _ _ (hb 0 0 0 0).2, fun g m n u h0 _ hm xe => hin _ _ _ _ _ _ _ ((hb g m n u).1 h0 xe)⟩
    ·rename_i hp
     split at hy
     ·rename_i hg
      split at hy
      ·rename_i hfo
       generalize JY : Sc.find { x with d := d' } k = r at hy
       obtain ⟨z, o⟩ := r
       cases o with
       | cT l => simp [hJ] at hy
       | ev e2 =>
        simp only [Option.map_some, Option.some.injEq, hJ, Prod.mk.injEq, gW.ev.injEq] at hy
        rw [← hy.1]
        have hb := fun g m n u => Pg (g := g) (m := m) (n := n) (u := u) (k := k.toNat) hsd Zx (x := { x with d := d' }) V6 OU (by rw [hkk]; exact hp) (by rw [hkk]; exact hg) hS (by rw [hkk]; exact JY)
        exact ⟨hih _ _ (hb 0 0 0 0).2, fun g m n u h0 _ hm xe => hin _ _ _ _ _ _ _ ((hb g m n u).1 h0 xe)⟩
      ·simp at hy
     ·rename_i hg
      have KE : 0 ≤ (ax x k).g := by
       have hmk := gA (x := x) (m := k) (by omega) (by omega)
       rcases hs.ms _ (List.mem_of_getElem? hmk) with e | e
       ·exact absurd e.2.1 hg
       ·have : (ax x k).g ≠ -1 := hg
        omega
      generalize Cp : Sc.run p { x with d := d' } k = r at hy
      cases r with
      | none => simp at hy
      | some r =>
       obtain ⟨z, o⟩ := r
       cases o with
       | cT l => simp [hJ] at hy
       | ev e2 =>
        simp only [Option.map_some, Option.some.injEq, hJ, Prod.mk.injEq, gW.ev.injEq] at hy
        have hzG : z.gl.length ≤ GG := by
         have h1 := hys.Dz (l := y.gl) (fun a => by unfold jP; omega)
         rw [← hy.1] at h1 hyG
         exact Nat.le_trans h1 hyG
        obtain ⟨l, w, d2, keep, q1, q2⟩ := run_shape Cp
        rw [← hy.1]
        have hb := fun g m n u => HQ (S := S) (GG := GG) (g := g) (m := m) (n := n) (u := u) (k := k.toNat) hsd Zx (x := { x with d := d' }) OU (by rw [hkk]; exact hp) (by rw [hkk]; exact KE) (l := l) (w := w) (d := d2) (keep := keep) (y := z) (by rw [hkk]; exact q1) hzG
        refine ⟨hih _ _ (hb 0 0 0 0).2, fun g m n u h0 hne hm xe => hin _ _ _ _ _ _ _ ((hb g m n u).1 h0 (fun e3 => ?_) xe)⟩
        rw [← hy.2] at hne
        rw [hkk] at e3
        exact hne q2.1 (q2.2.trans e3.symm)
 ·simp at hy
end
section
variable {p : b7} {N Rm GG m n u k S : Nat} {x y z : Sc} {i g a kind v : Int}
theorem wE {m : Nat} : ∀ (q p : List (Int × Int)), (∀ r ∈ q, 0 ≤ r.2) → iH (fT m p) m ≤ iH (fT m (p ++ q)) m
 | [], p, _ => by rw [List.append_nil]; exact Int.le_refl _
 | r :: q, p, h => by
  have e : p ++ r :: q = (p ++ [r]) ++ q := by simp
  rw [e]
  refine Int.le_trans ?_ (wE q (p ++ [r]) (fun r hr => h r (List.mem_cons_of_mem _ hr)))
  rw [qA]
  by_cases h1 : r.1 = 1
  ·exact (J0 (uh m p) h1 (h r (by simp))).1
  ·unfold dJ; rw [if_neg h1]; exact Int.le_refl _
theorem xg {m : Nat} : ∀ (q p : List (Int × Int)), (∀ r ∈ q, r.1 ≠ 1) → fT m (p ++ q) = fT m p
 | [], p, _ => by rw [List.append_nil]
 | r :: q, p, h => by
  have e : p ++ r :: q = (p ++ [r]) ++ q := by simp
  rw [e, xg q (p ++ [r]) (fun r hr => h r (List.mem_cons_of_mem _ hr)), qA]
  unfold dJ
  rw [if_neg (h r (by simp))]
def PO (rest : List (Int × Int)) : Prop := ∀ r ∈ rest, r.1 ≠ 1 ∧ 0 ≤ r.2
theorem Ag (hk : x.d.k.Ok) : ∃ rest, (x.find a).1.d.taken = x.d.taken ++ rest ∧ PO rest := by
 unfold Sc.find
 dsimp only
 split
 ·exact ⟨[], by simp [Sc.gV, Sc.bT], by intro r hr; cases hr⟩
 ·have hd : (x.own (ax x a).p).1.d = x.d := rfl
  rw [hd]
  split
  ·split
   ·rename_i d' l jM
    exact ⟨[], by rw [(qo jM).1]; simp, by intro r hr; cases hr⟩
   ·rename_i d' v jM
    have hn := eF hk jM
    refine ⟨[(2, v)], ?_, ?_⟩
    ·rw [← hn.2.2]
     try dsimp only
     split <;> rw [Ci] <;> rfl
    ·intro r hr
     rw [List.mem_singleton] at hr
     subst hr
     exact ⟨by dsimp only; omega, hn.1⟩
  ·exact ⟨[], by rw [Ci]; simp [hd], by intro r hr; cases hr⟩
theorem Cq (hk : x.d.k.Ok) {o : gW} (he : x.run p a = some (y, o)) : ∃ rest, y.d.taken = x.d.taken ++ rest ∧ PO rest := by
 have hq : ∃ rest, (dh x.d (asks p { x.w with ready := [] } (ax x a).g)).1.taken = x.d.taken ++ rest ∧ PO rest := by
  generalize jL : asks p { x.w with ready := [] } (ax x a).g = q
  cases q with
  | none => exact ⟨[], by simp [dh], by intro r hr; cases hr⟩
  | some q =>
   obtain ⟨kd, n⟩ := q
   have hkd : kd = 3 ∨ kd = 4 := by
    unfold asks at jL
    split at jL
    ·split at jL
     ·cases jL
     ·split at jL
      ·cases jL; exact .inr rfl
      ·split at jL
       ·split at jL
        ·cases jL
        ·cases jL; exact .inl rfl
       ·cases jL
    ·cases jL
   unfold dh
   dsimp only
   generalize jM : x.d.draw kd n = r
   obtain ⟨d', o⟩ := r
   cases o with
   | cT l => exact ⟨[], by rw [(qo jM).1]; simp, by intro r hr; cases hr⟩
   | num v =>
    have hn := eF hk jM
    refine ⟨[(kd, v)], hn.2.2, ?_⟩
    intro r hr
    rw [List.mem_singleton] at hr
    subst hr
    exact ⟨by dsimp only; omega, hn.1⟩
 unfold Sc.run at he
 split at he
 ·rename_i hpre
  obtain ⟨m0, m1, i0, i1, _⟩ := hpre
  split at he
  ·split at he
   ·cases he
   ·simp only [Option.some.injEq, Prod.mk.injEq] at he
    rw [← he.1]
    exact hq
   ·rw [I9 he i0 i1]; exact hq
   ·rw [I9 he i0 i1]; exact hq
  ·cases he
 ·cases he
theorem tF (hk : x.d.k.Ok) (hst : x.status = 0) {e : Ev} (hy : x.step p = some (y, .ev e)) {d' : jz} {k : Int} (hd : x.d.draw 1 (x.c.M + 1) = (d', .num k)) : ∃ rest, y.d.taken = x.d.taken ++ (1, k) :: rest ∧ PO rest ∧ 0 ≤ k := by
 have hn := eF hk hd
 have hk' : d'.k.Ok := by have := lP (kind := 1) (n := x.c.M + 1) hk; rw [hd] at this; exact this
 have fin : ∀ rest, y.d.taken = d'.taken ++ rest → PO rest → ∃ rest, y.d.taken = x.d.taken ++ (1, k) :: rest ∧ PO rest ∧ 0 ≤ k := fun rest h1 h2 => ⟨rest, by rw [h1, hn.2.2]; simp, h2, hn.1⟩
 unfold Sc.step at hy
 split at hy
 ·rw [if_neg (by rw [hst]; decide), hd] at hy
  dsimp only at hy
  unfold Sc.act at hy
  have no : PO [] := by intro r hr; cases hr
  split at hy
  ·split at hy
   ·simp only [Option.map_some, Option.some.injEq, hJ, Prod.mk.injEq] at hy
    refine fin [] ?_ no
    rw [← hy.1, List.append_nil]
    rfl
   ·cases hy
  ·split at hy
   ·simp only [Option.map_some, Option.some.injEq, hJ, Prod.mk.injEq] at hy
    refine fin [] ?_ no
    rw [← hy.1, List.append_nil]
    unfold Sc.hold
    dsimp only
    split <;> rfl
   ·split at hy
    ·split at hy
     ·obtain ⟨rest, h1, h2⟩ := Ag (x := { x with d := d' }) (a := k) hk'
      refine fin rest ?_ h2
      rw [← h1]
      simp only [Option.map_some, Option.some.injEq] at hy
      generalize Sc.find { x with d := d' } k = r at hy
      obtain ⟨z, o⟩ := r
      cases o <;> simp only [hJ, Prod.mk.injEq] at hy <;> rw [← hy.1]
     ·cases hy
    ·generalize Cp : Sc.run p { x with d := d' } k = r at hy
     cases r with
     | none => cases hy
     | some r =>
      obtain ⟨z, o⟩ := r
      obtain ⟨rest, h1, h2⟩ := Cq (x := { x with d := d' }) hk' Cp
      refine fin rest ?_ h2
      rw [← h1]
      simp only [Option.map_some, Option.some.injEq] at hy
      cases o <;> simp only [hJ, Prod.mk.injEq] at hy <;> rw [← hy.1]
 ·cases hy
theorem Lh {d' : jz} (hk' : d'.k.Ok) {o : gW} (hy : Sc.act p { x with d := d' } a = some (y, o)) : ∃ rest, y.d.taken = d'.taken ++ rest ∧ PO rest := by
 have no : PO [] := by intro r hr; cases hr
 unfold Sc.act at hy
 split at hy
 ·split at hy
  ·simp only [Option.some.injEq, Prod.mk.injEq] at hy
   exact ⟨[], by rw [← hy.1, List.append_nil]; rfl, no⟩
  ·cases hy
 ·split at hy
  ·simp only [Option.some.injEq, Prod.mk.injEq] at hy
   refine ⟨[], ?_, no⟩
   rw [← hy.1, List.append_nil]
   unfold Sc.hold
   dsimp only
   split <;> rfl
  ·split at hy
   ·split at hy
    ·obtain ⟨rest, h1, h2⟩ := Ag (x := { x with d := d' }) (a := a) hk'
     simp only [Option.some.injEq] at hy
     rw [hy] at h1
     exact ⟨rest, h1, h2⟩
    ·cases hy
   ·exact Cq (x := { x with d := d' }) hk' hy
theorem Cr (hs : SV p N x) (hp : dn p) {l : List PanicEntry} (hst : x.status = 0) (hy : x.step p = some (y, .cT l)) : y.steps = x.steps ∧ y.w.gs = x.w.gs ∧ ∃ rest : List (Int × Int), y.d.taken = x.d.taken ++ rest ∧ ∀ r ∈ rest, 0 ≤ r.2 := by
 unfold Sc.step at hy
 split at hy
 ·rw [if_neg (by rw [hst]; decide)] at hy
  split at hy
  ·rename_i d' l' jM
   simp only [Option.some.injEq, Prod.mk.injEq] at hy
   rw [← hy.1]
   exact ⟨rfl, rfl, [], by rw [(qo jM).1]; simp, by intro r hr; cases hr⟩
  ·rename_i d' k jM
   have hn := eF hs.k jM
   have hk' : d'.k.Ok := by have := lP (kind := 1) (n := x.c.M + 1) hs.k; rw [jM] at this; exact this
   have hM := hs.cM
   have hM1 := hs.M1
   rw [show gU (x.c.M + 1) = x.c.M + 1 from by unfold gU; rw [if_neg (by omega)]] at hn
   generalize hac : Sc.act p { x with d := d' } k = r at hy
   cases r with
   | none => cases hy
   | some r =>
    obtain ⟨z, o⟩ := r
    simp only [Option.map_some, Option.some.injEq] at hy
    cases o with
    | ev e => cases hy
    | cT l2 =>
     simp only [hJ, Prod.mk.injEq] at hy
     rw [← hy.1]
     obtain ⟨rest, t1, t2⟩ := Lh hk' hac
     have hT : ∃ rest : List (Int × Int), z.d.taken = x.d.taken ++ rest ∧ ∀ r ∈ rest, 0 ≤ r.2 := ⟨(1, k) :: rest, by rw [t1, hn.2.2]; simp, by
      intro r hr
      rcases List.mem_cons.1 hr with rfl | hr
      ·exact hn.1
      ·exact (t2 r hr).2⟩
     refine ⟨?_, ?_, hT⟩
     all_goals
      clear hT t1 t2
      unfold Sc.act at hac
      split at hac
      ·split at hac <;> cases hac
      ·split at hac
       ·cases hac
       ·split at hac
        ·split at hac
         ·simp only [Option.some.injEq] at hac
          unfold Sc.find at hac
          dsimp only at hac
          split at hac
          ·cases hac
          ·split at hac
           ·split at hac
            ·cases hac; rfl
            ·split at hac <;> cases hac
           ·cases hac
         ·cases hac
        ·rename_i hmp PN
         have KE : 0 ≤ (ax x k).g := by
          have hmk := gA (x := x) (m := k) (by omega) (by dsimp only at *; omega)
          rcases hs.ms _ (List.mem_of_getElem? hmk) with e | e
          ·exact absurd e.2.1 PN
          ·have : (ax x k).g ≠ -1 := PN
           omega
         unfold Sc.run at hac
         have em : ax { x with d := d' } k = ax x k := rfl
         rw [em] at hac
         split at hac
         ·split at hac
          ·obtain ⟨r, rest, hex, hres⟩ := zZ (d := (dh d' (asks p { x.w with ready := [] } (ax x k).g)).2) hs.w hp KE (fun v kd n e1 e2 => by
            rw [e2] at e1
            unfold dh at e1
            dsimp only at e1
            generalize hq : d'.draw kd n = q at e1
            obtain ⟨d3, o3⟩ := q
            dsimp only at e1
            subst e1
            have := eF hk' hq
            have hb := Dw hp e2
            rw [show gU n = n from by unfold gU; rw [if_neg (by omega)]] at this
            exact ⟨this.1, this.2.1⟩)
           dsimp only at hac
           rw [hex] at hac
           rcases hres with ⟨hres, _⟩ | ⟨l, e1, e3, _⟩
           ·cases r with
            | on y' => unfold fk at hac; dsimp only at hac; split at hac <;> cases hac
            | eC n y' => unfold fk at hac; dsimp only at hac; split at hac <;> cases hac
            | cT l y' => exact hres.elim
           ·subst e3
            cases hac; rfl
          ·cases hac
         ·cases hac
 ·cases hy
theorem Cs {d' : jz} {o : gW} (hy : Sc.act p { x with d := d' } a = some (y, o)) : y.steps = x.steps ∧ y.c = x.c := by
 have fe : ∀ (z : Sc) (i kind g : Int) (t : Bool), (z.be a i kind g t).1.steps = z.steps ∧ (z.be a i kind g t).1.c = z.c := fun z i kind g t => by
  unfold Sc.be; split <;> exact ⟨rfl, rfl⟩
 unfold Sc.act at hy
 split at hy
 ·split at hy
  ·cases hy; exact ⟨rfl, rfl⟩
  ·cases hy
 ·split at hy
  ·simp only [Option.some.injEq, Prod.mk.injEq] at hy
   rw [← hy.1]
   unfold Sc.hold
   dsimp only
   split <;> exact ⟨rfl, rfl⟩
  ·split at hy
   ·split at hy
    ·simp only [Option.some.injEq] at hy
     have hf : (Sc.find { x with d := d' } a).1.steps = x.steps ∧ (Sc.find { x with d := d' } a).1.c = x.c := by
      unfold Sc.find
      dsimp only
      split
      ·exact ⟨rfl, rfl⟩
      ·split
       ·split
        ·exact ⟨rfl, rfl⟩
        ·split <;> exact fe _ _ _ _ _
       ·exact fe _ _ _ _ _
     rw [hy] at hf
     exact hf
    ·cases hy
   ·unfold Sc.run at hy
    split at hy
    ·rename_i hpre
     obtain ⟨m0, m1, i0, i1, _⟩ := hpre
     have on : ∀ {w : Wd} {d2 : jz} {rest : Bool}, fk { x with d := d' } a (ax { x with d := d' } a).g d2 w rest = some (y, o) → y.steps = x.steps ∧ y.c = x.c := fun {w d2 rest} hh => by
      unfold fk at hh
      split at hh
      ·simp only [Option.some.injEq, Prod.mk.injEq] at hh
       have f1 := fE (m := a) w.ready { x with w := w, d := d2 } i0 i1
       rw [← hh.1]
       unfold Sc.gM
       split <;> exact ⟨f1.2.2.2.2.2.1, f1.2.2.2.2.1⟩
      ·cases hh
     split at hy
     ·split at hy
      ·cases hy
      ·cases hy; exact ⟨rfl, rfl⟩
      ·exact on hy
      ·exact on hy
     ·cases hy
    ·cases hy
theorem Li {e : Ev} (hst : x.status = 0) (hy : x.step p = some (y, .ev e)) : y.steps = x.steps + 1 ∧ y.c = x.c := by
 unfold Sc.step at hy
 split at hy
 ·rw [if_neg (by rw [hst]; decide)] at hy
  split at hy
  ·cases hy
  ·rename_i d' k jM
   generalize hac : Sc.act p { x with d := d' } k = r at hy
   cases r with
   | none => cases hy
   | some r =>
    obtain ⟨z, o⟩ := r
    have := Cs hac
    cases o with
    | cT l => cases hy
    | ev e2 =>
     cases hy
     exact ⟨by show z.steps + 1 = _; rw [this.1], this.2⟩
 ·cases hy
theorem tG (hs : SV p N x) (hp : dn p) {e : Ev} (hy : x.step p = some (y, .ev e)) (hst : x.status = 0) : x.w.gs.length ≤ y.w.gs.length ∧ (∀ g ∈ e.ready, At y.w g 1) := by
 unfold Sc.step at hy
 split at hy
 ·rw [if_neg (by rw [hst]; decide)] at hy
  split at hy
  ·cases hy
  ·rename_i d' k jM
   have PM := eF hs.k jM
   have hM := hs.cM
   have hM1 := hs.M1
   rw [show gU (x.c.M + 1) = x.c.M + 1 from by unfold gU; rw [if_neg (by omega)]] at PM
   unfold Sc.act at hy
   split at hy
   ·split at hy
    ·simp only [Option.map_some, Option.some.injEq, hJ, Prod.mk.injEq, gW.ev.injEq] at hy
     obtain ⟨t1, t2, t3, t4⟩ := Jh hs.w
     obtain ⟨a1, l, a2, a3, a4, a5⟩ := t3
     rw [List.nil_append] at a2
     rw [← hy.1, ← hy.2]
     refine ⟨?_, fun g hg => ?_⟩
     ·show x.w.gs.length ≤ x.w.tick.gs.length
      rw [a1]; exact Nat.le_refl _
     ·have Ax : g ∈ x.w.tick.ready := hg
      rw [a2] at Ax
      obtain ⟨c1, c2, c3, c4⟩ := a4 g Ax
      exact ⟨c1, by show g < (x.w.tick.gs.length : Int); rw [a1]; exact c2, c4⟩
    ·cases hy
   ·have fw : ∀ (z : Sc) (i kind g : Int) (t : Bool), (z.be k i kind g t).1.w = z.w ∧ (z.be k i kind g t).2.ready = [] := fun z i kind g t => by
     unfold Sc.be; split <;> exact ⟨rfl, rfl⟩
    split at hy
    ·simp only [Option.map_some, Option.some.injEq, hJ, Prod.mk.injEq, gW.ev.injEq] at hy
     rw [← hy.1, ← hy.2]
     unfold Sc.hold
     dsimp only
     split <;> exact ⟨Nat.le_refl _, fun g hg => by cases hg⟩
    ·rename_i hmp
     split at hy
     ·split at hy
      ·have hf : (Sc.find { x with d := d' } k).1.w = x.w ∧ ∀ e, (Sc.find { x with d := d' } k).2 = .ev e → e.ready = [] := by
        unfold Sc.find
        dsimp only
        split
        ·exact ⟨rfl, fun e he => by cases he; rfl⟩
        ·split
         ·split
          ·exact ⟨rfl, fun e he => by cases he⟩
          ·split
           ·exact ⟨(fw _ _ _ _ _).1, fun e he => by cases he; exact (fw _ _ _ _ _).2⟩
           ·exact ⟨(fw _ _ _ _ _).1, fun e he => by cases he; exact (fw _ _ _ _ _).2⟩
         ·exact ⟨(fw _ _ _ _ _).1, fun e he => by cases he; exact (fw _ _ _ _ _).2⟩
       generalize Sc.find { x with d := d' } k = r at hy hf
       obtain ⟨z, o⟩ := r
       cases o with
       | cT l => simp [hJ] at hy
       | ev e2 =>
        simp only [Option.map_some, Option.some.injEq, hJ, Prod.mk.injEq, gW.ev.injEq] at hy
        dsimp only at hf
        rw [← hy.1, ← hy.2, hf.2 _ rfl]
        refine ⟨?_, fun g hg => by cases hg⟩
        dsimp only
        rw [hf.1]; exact Nat.le_refl _
      ·cases hy
     ·rename_i PN
      have KE : 0 ≤ (ax x k).g := by
       have hmk := gA (x := x) (m := k) (by omega) (by dsimp only at *; omega)
       rcases hs.ms _ (List.mem_of_getElem? hmk) with e | e
       ·exact absurd e.2.1 PN
       ·have : (ax x k).g ≠ -1 := PN
        omega
      generalize Cp : Sc.run p { x with d := d' } k = r at hy
      cases r with
      | none => cases hy
      | some r =>
       obtain ⟨z, o⟩ := r
       cases o with
       | cT l => simp [hJ] at hy
       | ev e2 =>
        simp only [Option.map_some, Option.some.injEq, hJ, Prod.mk.injEq, gW.ev.injEq] at hy
        have hk' : d'.k.Ok := by have := lP (kind := 1) (n := x.c.M + 1) hs.k; rw [jM] at this; exact this
        rw [← hy.1, ← hy.2]
        have on : ∀ {w' : Wd} {d2 : jz} {rest : Bool}, hU (ax x k).g { x.w with ready := [] } w' → 0 ≤ (ax x k).p → (ax x k).p < x.ps.length → fk { x with d := d' } k (ax x k).g d2 w' rest = some (z, .ev e2) → x.w.gs.length ≤ z.w.gs.length ∧ ∀ g ∈ e2.ready, At z.w g 1 := fun {w' d2 rest} hr i0 i1 hh => by
         unfold fk at hh
         split at hh
         ·simp only [Option.some.injEq, Prod.mk.injEq, gW.ev.injEq] at hh
          have f1 := (fE (m := k) w'.ready { x with w := w', d := d2 } i0 i1).2.2.1
          have hw : z.w = w' ∧ e2.ready = w'.ready := by
           rw [← hh.1, ← hh.2]
           unfold Sc.gM
           split <;> exact ⟨f1, rfl⟩
          rw [hw.1, hw.2]
          exact ⟨hr.2.2.2.2.1, fun g hg => by have := hr.2.2.1 g hg; exact ⟨this.1, this.2.1, this.2.2.2⟩⟩
         ·cases hh
        unfold Sc.run at Cp
        have em : ax { x with d := d' } k = ax x k := rfl
        rw [em] at Cp
        split at Cp
        ·rename_i hpre
         obtain ⟨m0, m1, i0, i1, _⟩ := hpre
         split at Cp
         ·obtain ⟨r, rest, hex, hres⟩ := zZ (d := (dh d' (asks p { x.w with ready := [] } (ax x k).g)).2) hs.w hp KE (fun v kd n e1 e2 => by
           rw [e2] at e1
           unfold dh at e1
           dsimp only at e1
           generalize hq : d'.draw kd n = q at e1
           obtain ⟨d3, o3⟩ := q
           dsimp only at e1
           subst e1
           have := eF hk' hq
           have hb := Dw hp e2
           rw [show gU n = n from by unfold gU; rw [if_neg (by omega)]] at this
           exact ⟨this.1, this.2.1⟩)
          dsimp only at Cp
          rw [hex] at Cp
          rcases hres with ⟨hres, _⟩ | ⟨l, e1, e3, _⟩
          ·cases r with
           | on y' => exact on hres.2 i0 i1 Cp
           | eC n y' => exact on (hres.2.Jf (z := { y' with end_ := 2, code := n }) rfl rfl fun _ _ _ => rfl) i0 i1 Cp
           | cT l y' => exact hres.elim
          ·subst e3
           simp at Cp
         ·cases Cp
        ·cases Cp
 ·cases hy
theorem Fq (hs : SV p N x) (hv : HV Rm x) (hS : x.c.S = (S : Int)) (hG : x.w.gs.length ≤ GG) (hg : At x.w g 1) : ∃ m, m < x.ms.length ∧ Lf Rm GG x g m (2 * Rm + 2 + (7 * GG + 7)) (2 * S + 1) := by
 have h1 := hs.one g hg
 have h0 := hg.1
 have hu : ∀ {m : Nat} {mc : uZ}, x.ms[m]? = some mc → uM mc ≤ 2 * S + 1 := fun h => by
  have := hv.left _ (List.mem_of_getElem? h)
  unfold uM; split <;> omega
 have hM1 := hs.M1
 have lt : ∀ {m : Nat} {mc : uZ}, x.ms[m]? = some mc → m < x.ms.length := fun h => (List.getElem?_eq_some_iff.1 h).1
 have W8 := hs.Dz (l := x.gl) (fun a => by unfold jP; omega)
 by_cases c1 : 0 < x.gl.count g
 ·obtain ⟨j, hj, hjv⟩ := List.getElem_of_mem (List.count_pos_iff.1 c1)
  have hjq : x.gl[j]? = some g := by rw [List.getElem?_eq_getElem hj, hjv]
  by_cases ha : ∀ c ∈ x.ms, c.p = -1
  ·have hm0 : x.ms[0]? = some (x.ms[0]'(by omega)) := List.getElem?_eq_getElem (by omega)
   exact ⟨0, by omega, _, hm0, .inr (.inr ⟨ha, j, hjq, by omega⟩)⟩
  ·simp only [Classical.not_forall] at ha
   obtain ⟨mc, hm, hne⟩ := ha
   obtain ⟨m, SS, Rl⟩ := List.getElem_of_mem hm
   have hmq : x.ms[m]? = some mc := by rw [List.getElem?_eq_getElem SS, Rl]
   exact ⟨m, SS, mc, hmq, .inr (.inl ⟨hne, hu hmq, .inr (.inr ⟨j, hjq, by have := ve (ay x mc.p).turns; omega⟩)⟩)⟩
 ·by_cases c2 : 0 < Bh x.ms g
  ·unfold Bh at c2
   obtain ⟨mc, hm, Db⟩ := List.mem_flatMap.1 (List.count_pos_iff.1 c2)
   obtain ⟨m, SS, Rl⟩ := List.getElem_of_mem hm
   have hmq : x.ms[m]? = some mc := by rw [List.getElem?_eq_getElem SS, Rl]
   refine ⟨m, SS, mc, hmq, .inl ?_⟩
   unfold jy at Db
   split at Db
   ·rw [List.mem_singleton] at Db; exact Db.symm
   ·cases Db
  ·have c3 : 0 < jO x.ps g := by unfold jP at h1; omega
   unfold jO at c3
   obtain ⟨q, hq, lI⟩ := List.mem_flatMap.1 (List.count_pos_iff.1 c3)
   obtain ⟨pr, jC, rfl⟩ := List.mem_map.1 hq
   obtain ⟨i, hi1, Kw⟩ := List.getElem_of_mem jC
   have Fo : ay x (i : Int) = pr := by unfold ay; rw [Int.toNat_natCast, List.getD_eq_getElem?_getD, List.getElem?_eq_getElem hi1, Kw]; rfl
   have ZU := hv.room pr jC
   have Wx := hs.room pr jC
   have hin : (ay x (i : Int)).q.next = g ∨ ∃ k, (ay x (i : Int)).q.l[k]? = some g ∧ k < Rm := by
    rw [Fo]
    unfold Loc.all at lI
    rcases List.mem_append.1 lI with lI | lI
    ·split at lI
     ·cases lI
     ·rw [List.mem_singleton] at lI; exact .inl lI.symm
    ·obtain ⟨k, OU, hk2⟩ := List.getElem_of_mem lI
     exact .inr ⟨k, by rw [List.getElem?_eq_getElem OU, hk2], by have := Wx.1; omega⟩
   rcases hv.hold i hi1 with ⟨_, e1, e2⟩ | ⟨m, mc, h2, h3⟩
   ·exfalso
    rcases hin with e | ⟨k, e, _⟩
    ·omega
    ·rw [e2] at e; cases e
   ·refine ⟨m, lt h2, mc, h2, .inr (.inl ⟨by omega, hu h2, ?_⟩)⟩
    rw [h3]
    rcases hin with e | ⟨k, e, hk⟩
    ·exact .inl ⟨e, Nat.le_refl _⟩
    ·exact .inr (.inl ⟨k, e, by have := Dx (ay x (i : Int)).turns; omega⟩)
end
theorem vf {x : Sc} {m g : Int} {kp : Bool} {r : List Int} : (x.gM m g kp r).2.ready = r := by unfold Sc.gM; split <;> rfl
theorem Fs {p : b7} {x y : Sc} {e : Ev} (h : x.step p = some (y, .ev e)) : e.ready.length ≤ 1000000 := by
 unfold Sc.step at h
 split at h
 ·split at h
  ·cases h; simp
  ·split at h
   ·cases h
   ·rename_i d' m hd
    cases hz : Sc.act p { x with d := d' } m with
    | none => rw [hz] at h; cases h
    | some z =>
     obtain ⟨z, o⟩ := z
     rw [hz] at h
     cases o with
     | cT l => cases h
     | ev e' =>
      cases h
      unfold Sc.act at hz
      split at hz
      ·split at hz
       ·rename_i ht
        cases hz
        have := ht.2.2
        show (Sc.tick { x with d := d' }).2.ready.length ≤ _
        unfold Sc.tick
        dsimp only at this ⊢
        omega
       ·cases hz
      ·split at hz
       ·cases hz
        unfold Sc.hold
        split <;> simp
       ·split at hz
        ·split at hz
         ·simp only [Option.some.injEq] at hz
          unfold Sc.find at hz
          dsimp only at hz
          split at hz
          ·cases hz; simp
          ·split at hz
           ·split at hz
            ·cases hz
            ·split at hz
             ·cases hz; unfold Sc.be; split <;> simp
             ·cases hz; unfold Sc.be; split <;> simp
           ·cases hz; unfold Sc.be; split <;> simp
         ·cases hz
        ·unfold Sc.run at hz
         split at hz
         ·split at hz
          ·split at hz
           ·cases hz
           ·cases hz
           ·unfold fk at hz
            split at hz
            ·rename_i hr
             cases hz
             rw [vf]; omega
            ·cases hz
           ·unfold fk at hz
            split at hz
            ·rename_i hr
             cases hz
             rw [vf]; omega
            ·cases hz
          ·cases hz
         ·cases hz
 ·cases h
def aG (n m : Int) : Int := if m < 1 then 0 else Int.tmod (IntKind.wrap .i64 (Int.tmod n m + m)) m
theorem cX {n m : Int} (hm : 1 ≤ m) (hb : m < 4611686018427387904) : 0 ≤ aG n m ∧ aG n m < m := by
 have h1 := Int.tmod_lt_of_pos n (show 0 < m by omega)
 have h2 := Int.lt_tmod_of_pos n (show 0 < m by omega)
 unfold aG
 rw [if_neg (by omega), cQ (by omega) (by omega)]
 have h3 : 0 ≤ Int.tmod n m + m := by omega
 exact ⟨Int.tmod_nonneg m h3, Int.tmod_lt_of_pos _ (by omega)⟩
def xh (nf nc ia lk lf : Int) (x : cI) : cI :=
 if aG x.op 23 = 1 then ⟨1, aG x.a 8, x.b, 0⟩
 else if aG x.op 23 = 2 then ⟨2, aG x.a 8, aG x.b 8, 0⟩
 else if aG x.op 23 = 3 then ⟨aG x.op 23, aG x.a 8, aG x.b 8, aG x.c 8⟩
 else if aG x.op 23 = 4 then ⟨aG x.op 23, aG x.a 8, aG x.b 8, aG x.c 8⟩
 else if aG x.op 23 = 5 then ⟨aG x.op 23, aG x.a 8, aG x.b 8, aG x.c 8⟩
 else if aG x.op 23 = 6 then ⟨aG x.op 23, aG x.a 8, aG x.b 8, aG x.c 8⟩
 else if aG x.op 23 = 7 then ⟨7, aG x.a lf, 0, 0⟩
 else if aG x.op 23 = 8 then ⟨8, aG x.a 8, aG x.b lf, 0⟩
 else if aG x.op 23 = 9 then ⟨aG x.op 23, aG x.a nf, aG x.b 8, aG x.c 8⟩
 else if aG x.op 23 = 11 then ⟨aG x.op 23, aG x.a nf, aG x.b 8, aG x.c 8⟩
 else if aG x.op 23 = 10 then ⟨aG x.op 23, aG x.a 8, 0, 0⟩
 else if aG x.op 23 = 17 then ⟨aG x.op 23, aG x.a 8, 0, 0⟩
 else if aG x.op 23 = 20 then ⟨aG x.op 23, aG x.a 8, 0, 0⟩
 else if aG x.op 23 = 13 then (if nc = 0 then .zero else ⟨aG x.op 23, aG x.a nc, aG x.b 8, 0⟩)
 else if aG x.op 23 = 14 then (if nc = 0 then .zero else ⟨aG x.op 23, aG x.a nc, aG x.b 8, aG x.c 8⟩)
 else if aG x.op 23 = 15 then (if nc = 0 then .zero else ⟨aG x.op 23, aG x.a nc, 0, 0⟩)
 else if aG x.op 23 = 16 then (if ia = 0 then .zero else ⟨16, aG x.a ia, 1 + aG x.b (ia - aG x.a ia), aG x.c 8⟩)
 else if aG x.op 23 = 18 then (if lk = 0 then .zero else ⟨aG x.op 23, aG x.a lk, 0, 0⟩)
 else if aG x.op 23 = 19 then (if lk = 0 then .zero else ⟨aG x.op 23, aG x.a lk, 0, 0⟩)
 else if aG x.op 23 = 21 then ⟨21, aG x.a 8, 1 + aG x.b 1000, 0⟩
 else if aG x.op 23 = 22 then ⟨22, aG x.a 1000, 0, 0⟩
 else ⟨aG x.op 23, 0, 0, 0⟩
def cR (nf nc ia lk lf : Int) (i : cI) : Prop := 0 ≤ i.op ∧ i.op < 23 ∧ i.cw ∧ (i.op = 7 → 0 ≤ i.a ∧ i.a < lf) ∧ (i.op = 8 → 0 ≤ i.b ∧ i.b < lf) ∧
 (i.op = 9 ∨ i.op = 11 → 0 ≤ i.a ∧ i.a < nf ∧ aU i.b ∧ aU i.c) ∧ (i.op = 10 ∨ i.op = 17 ∨ i.op = 20 ∨ i.op = 21 → aU i.a) ∧
 (i.op = 13 ∨ i.op = 14 ∨ i.op = 15 → 0 ≤ i.a ∧ i.a < nc) ∧ (i.op = 13 ∨ i.op = 14 → aU i.b) ∧ (i.op = 14 ∨ i.op = 16 → aU i.c) ∧
 (i.op = 16 → 0 ≤ i.a ∧ 1 ≤ i.b ∧ i.a + i.b ≤ ia) ∧ (i.op = 18 ∨ i.op = 19 → 0 ≤ i.a ∧ i.a < lk) ∧ (i.op = 21 → 1 ≤ i.b ∧ i.b < 1099511627776)
theorem cR.ok {p : b7} {f : List cI} {i : cI} (h : cR p.funcs.length p.eG.length p.cases.length p.aL f.length i) : jV p f i := h
theorem cR.zero {nf nc ia lk lf : Int} : cR nf nc ia lk lf .zero := by
 simp [cR, cI.cw, cI.zero]
theorem ji {nf nc ia lk lf : Int} {p : Prop} [Decidable p] {x y : cI} (h1 : p → cR nf nc ia lk lf x) (h2 : ¬ p → cR nf nc ia lk lf y) : cR nf nc ia lk lf (if p then x else y) := by
 split
 ·exact h1 ‹_›
 ·exact h2 ‹_›
theorem Pk {nf nc ia lk lf : Int} {x : cI} (hf : 1 ≤ nf ∧ nf ≤ 5) (hc : 0 ≤ nc ∧ nc ≤ 4) (hcs : 0 ≤ ia ∧ ia ≤ 8) (hl : 0 ≤ lk ∧ lk ≤ 3) (hlf : 1 ≤ lf ∧ lf ≤ 20) : cR nf nc ia lk lf (xh nf nc ia lk lf x) := by
 have a8 := cX (n := x.a) (m := 8) (by omega) (by omega)
 have b8 := cX (n := x.b) (m := 8) (by omega) (by omega)
 have c8 := cX (n := x.c) (m := 8) (by omega) (by omega)
 have o23 := cX (n := x.op) (m := 23) (by omega) (by omega)
 have af := cX (n := x.a) (m := lf) (by omega) (by omega)
 have bf := cX (n := x.b) (m := lf) (by omega) (by omega)
 have an := cX (n := x.a) (m := nf) (by omega) (by omega)
 have Z4 := cX (n := x.b) (m := 1000) (by omega) (by omega)
 have ac : nc ≠ 0 → _ := fun e => cX (n := x.a) (m := nc) (by omega) (by omega)
 have al : lk ≠ 0 → _ := fun e => cX (n := x.a) (m := lk) (by omega) (by omega)
 have xJ : ia ≠ 0 → _ := fun e => cX (n := x.a) (m := ia) (by omega) (by omega)
 have Ah : ia ≠ 0 → _ := fun e => cX (n := x.b) (m := ia - aG x.a ia) (by have := xJ e; omega) (by have := xJ e; omega)
 have p1 : cR nf nc ia lk lf ⟨1, aG x.a 8, x.b, 0⟩ := by clear ac al xJ Ah; simp [cR, cI.cw, aU] <;> omega
 have p2 : cR nf nc ia lk lf ⟨2, aG x.a 8, aG x.b 8, 0⟩ := by clear ac al xJ Ah; simp [cR, cI.cw, aU] <;> omega
 have p3 : cR nf nc ia lk lf ⟨3, aG x.a 8, aG x.b 8, aG x.c 8⟩ := by clear ac al xJ Ah; simp [cR, cI.cw, aU] <;> omega
 have p4 : cR nf nc ia lk lf ⟨4, aG x.a 8, aG x.b 8, aG x.c 8⟩ := by clear ac al xJ Ah; simp [cR, cI.cw, aU] <;> omega
 have p5 : cR nf nc ia lk lf ⟨5, aG x.a 8, aG x.b 8, aG x.c 8⟩ := by clear ac al xJ Ah; simp [cR, cI.cw, aU] <;> omega
 have p6 : cR nf nc ia lk lf ⟨6, aG x.a 8, aG x.b 8, aG x.c 8⟩ := by clear ac al xJ Ah; simp [cR, cI.cw, aU] <;> omega
 have p7 : cR nf nc ia lk lf ⟨7, aG x.a lf, 0, 0⟩ := by clear ac al xJ Ah; simp [cR, cI.cw, aU] <;> omega
 have p8 : cR nf nc ia lk lf ⟨8, aG x.a 8, aG x.b lf, 0⟩ := by clear ac al xJ Ah; simp [cR, cI.cw, aU] <;> omega
 have p9 : cR nf nc ia lk lf ⟨9, aG x.a nf, aG x.b 8, aG x.c 8⟩ := by clear ac al xJ Ah; simp [cR, cI.cw, aU] <;> omega
 have p11 : cR nf nc ia lk lf ⟨11, aG x.a nf, aG x.b 8, aG x.c 8⟩ := by clear ac al xJ Ah; simp [cR, cI.cw, aU] <;> omega
 have p10 : cR nf nc ia lk lf ⟨10, aG x.a 8, 0, 0⟩ := by clear ac al xJ Ah; simp [cR, cI.cw, aU] <;> omega
 have p17 : cR nf nc ia lk lf ⟨17, aG x.a 8, 0, 0⟩ := by clear ac al xJ Ah; simp [cR, cI.cw, aU] <;> omega
 have p20 : cR nf nc ia lk lf ⟨20, aG x.a 8, 0, 0⟩ := by clear ac al xJ Ah; simp [cR, cI.cw, aU] <;> omega
 have p13 : nc ≠ 0 → cR nf nc ia lk lf ⟨13, aG x.a nc, aG x.b 8, 0⟩ := fun z => by have := ac z; clear ac al xJ Ah; simp [cR, cI.cw, aU] <;> omega
 have p14 : nc ≠ 0 → cR nf nc ia lk lf ⟨14, aG x.a nc, aG x.b 8, aG x.c 8⟩ := fun z => by have := ac z; clear ac al xJ Ah; simp [cR, cI.cw, aU] <;> omega
 have p15 : nc ≠ 0 → cR nf nc ia lk lf ⟨15, aG x.a nc, 0, 0⟩ := fun z => by have := ac z; clear ac al xJ Ah; simp [cR, cI.cw, aU] <;> omega
 have p16 : ia ≠ 0 → cR nf nc ia lk lf ⟨16, aG x.a ia, 1 + aG x.b (ia - aG x.a ia), aG x.c 8⟩ := fun z => by have := xJ z; have := Ah z; clear ac al xJ Ah; simp [cR, cI.cw, aU] <;> omega
 have p18 : lk ≠ 0 → cR nf nc ia lk lf ⟨18, aG x.a lk, 0, 0⟩ := fun z => by have := al z; clear ac al xJ Ah; simp [cR, cI.cw, aU] <;> omega
 have p19 : lk ≠ 0 → cR nf nc ia lk lf ⟨19, aG x.a lk, 0, 0⟩ := fun z => by have := al z; clear ac al xJ Ah; simp [cR, cI.cw, aU] <;> omega
 have p21 : cR nf nc ia lk lf ⟨21, aG x.a 8, 1 + aG x.b 1000, 0⟩ := by clear ac al xJ Ah; simp [cR, cI.cw, aU] <;> omega
 have p22 : cR nf nc ia lk lf ⟨22, aG x.a 1000, 0, 0⟩ := by clear ac al xJ Ah; simp [cR, cI.cw, aU] <;> omega
 clear a8 b8 c8 af bf an Z4 ac al xJ Ah
 unfold xh
 refine ji (fun e => p1) fun n1 => ?_
 refine ji (fun e => p2) fun n2 => ?_
 refine ji (fun e => e ▸ p3) fun n3 => ?_
 refine ji (fun e => e ▸ p4) fun n4 => ?_
 refine ji (fun e => e ▸ p5) fun n5 => ?_
 refine ji (fun e => e ▸ p6) fun n6 => ?_
 refine ji (fun e => p7) fun n7 => ?_
 refine ji (fun e => p8) fun n8 => ?_
 refine ji (fun e => e ▸ p9) fun n9 => ?_
 refine ji (fun e => e ▸ p11) fun iI => ?_
 refine ji (fun e => e ▸ p10) fun iZ => ?_
 refine ji (fun e => e ▸ p17) fun iQ => ?_
 refine ji (fun e => e ▸ p20) fun gd => ?_
 refine ji (fun e => ji (fun _ => cR.zero) fun z => e ▸ p13 z) fun j7 => ?_
 refine ji (fun e => ji (fun _ => cR.zero) fun z => e ▸ p14 z) fun lY => ?_
 refine ji (fun e => ji (fun _ => cR.zero) fun z => e ▸ p15 z) fun kZ => ?_
 refine ji (fun e => ji (fun _ => cR.zero) fun z => p16 z) fun nh => ?_
 refine ji (fun e => ji (fun _ => cR.zero) fun z => e ▸ p18 z) fun lq => ?_
 refine ji (fun e => ji (fun _ => cR.zero) fun z => e ▸ p19 z) fun yQ => ?_
 refine ji (fun e => p21) fun sK => ?_
 refine ji (fun e => p22) fun wT => ?_
 generalize aG x.op 23 = o at *
 have : o = 0 ∨ o = 12 := by omega
 rcases this with rfl | rfl <;> simp [cR, cI.cw]
section
variable {M : Mem} {K : Value → Mem → Prop} {Kp : List PanicEntry → Mem → Prop}
theorem bx {n m : Int} (k : K (.int .i64 (aG n m)) M) : aa Tryz.prog 66 #[.int .i64 n, .int .i64 m] M K Kp := by
 refine rY ?_
 unfold aG at k
 exact aM.2 ⟨fun h => by rw [if_pos h] at k; exact k, fun h => ⟨by omega, by omega, by rw [if_neg h] at k; exact k⟩⟩
variable {R : Mem} {L : List HP}
abbrev insV (i : cI) : Value := .agg #[.int .i64 i.op, .int .i64 i.a, .int .i64 i.b, .int .i64 i.c]
theorem RP {A B C F : Option Addr} {nf cf nc cc ia ccs lf cl : Nat} {lk o a b c : Int} (h : Hp R L M) (hcs : ia ≤ 8)
  (k : ∀ M', Hp R L M' → K (insV (xh nf nc ia lk lf ⟨o, a, b, c⟩)) M') :
  aa Tryz.prog 67 #[.agg #[.slice A nf cf, .slice B nc cc, .int .i64 lk, .slice C ia ccs], .slice F lf cl, .agg #[.int .i64 o, .int .i64 a, .int .i64 b, .int .i64 c]] M K Kp := by
 refine rZ ?_
 have Z5 : IntKind.wrap .i64 (1 + aG b 1000) = 1 + aG b 1000 := by
  have := cX (n := b) (m := 1000) (by omega) (by omega)
  exact cQ (by omega) (by omega)
 have as_ : (ia : Int) ≠ 0 → IntKind.wrap .i64 ((ia : Int) - aG a ia) = ia - aG a ia ∧ IntKind.wrap .i64 (1 + aG b (ia - aG a ia)) = 1 + aG b (ia - aG a ia) := fun e => by
  have h1 := cX (n := a) (m := (ia : Int)) (by omega) (by omega)
  have h2 := cX (n := b) (m := (ia : Int) - aG a ia) (by omega) (by omega)
  exact ⟨cQ (by omega) (by omega), cQ (by omega) (by omega)⟩
 unfold xh at k
 dsimp only at k
 repeat (first|refine bx ?_|(refine aq h ?_;clear h;intro kb M h)|(refine au h ?_;clear h;intro M h)|refine St.to h ?_|(apply Exists.intro;(repeat apply Exists.intro);refine And.intro rfl ?_)|refine av ?_|refine ae ?_|refine ai ?_)
 refine aR.2 ⟨fun e => ?_, fun e => ?_⟩
 ·rw [if_pos e] at k
  repeat (first|refine bx ?_|(refine aq h ?_;clear h;intro kb M h)|(refine au h ?_;clear h;intro M h)|refine St.to h ?_|(apply Exists.intro;(repeat apply Exists.intro);refine And.intro rfl ?_)|refine av ?_|refine ae ?_|refine ai ?_)
  exact k _ (h.sub bD)
 rw [if_neg e] at k
 clear e
 refine aR.2 ⟨fun e => ?_, fun e => ?_⟩
 ·rw [if_pos e] at k
  repeat (first|refine bx ?_|(refine aq h ?_;clear h;intro kb M h)|(refine au h ?_;clear h;intro M h)|refine St.to h ?_|(apply Exists.intro;(repeat apply Exists.intro);refine And.intro rfl ?_)|refine av ?_|refine ae ?_|refine ai ?_)
  exact k _ (h.sub bD)
 rw [if_neg e] at k
 clear e
 refine aR.2 ⟨fun e => ?_, fun e => ?_⟩
 ·rw [if_pos e] at k
  repeat (first|refine bx ?_|(refine aq h ?_;clear h;intro kb M h)|(refine au h ?_;clear h;intro M h)|refine St.to h ?_|(apply Exists.intro;(repeat apply Exists.intro);refine And.intro rfl ?_)|refine av ?_|refine ae ?_|refine ai ?_)
  exact k _ (h.sub bD)
 rw [if_neg e] at k
 clear e
 refine aR.2 ⟨fun e => ?_, fun e => ?_⟩
 ·rw [if_pos e] at k
  repeat (first|refine bx ?_|(refine aq h ?_;clear h;intro kb M h)|(refine au h ?_;clear h;intro M h)|refine St.to h ?_|(apply Exists.intro;(repeat apply Exists.intro);refine And.intro rfl ?_)|refine av ?_|refine ae ?_|refine ai ?_)
  exact k _ (h.sub bD)
 rw [if_neg e] at k
 clear e
 refine aR.2 ⟨fun e => ?_, fun e => ?_⟩
 ·rw [if_pos e] at k
  repeat (first|refine bx ?_|(refine aq h ?_;clear h;intro kb M h)|(refine au h ?_;clear h;intro M h)|refine St.to h ?_|(apply Exists.intro;(repeat apply Exists.intro);refine And.intro rfl ?_)|refine av ?_|refine ae ?_|refine ai ?_)
  exact k _ (h.sub bD)
 rw [if_neg e] at k
 clear e
 refine aR.2 ⟨fun e => ?_, fun e => ?_⟩
 ·rw [if_pos e] at k
  repeat (first|refine bx ?_|(refine aq h ?_;clear h;intro kb M h)|(refine au h ?_;clear h;intro M h)|refine St.to h ?_|(apply Exists.intro;(repeat apply Exists.intro);refine And.intro rfl ?_)|refine av ?_|refine ae ?_|refine ai ?_)
  exact k _ (h.sub bD)
 rw [if_neg e] at k
 clear e
 refine aR.2 ⟨fun e => ?_, fun e => ?_⟩
 ·rw [if_pos e] at k
  repeat (first|refine bx ?_|(refine aq h ?_;clear h;intro kb M h)|(refine au h ?_;clear h;intro M h)|refine St.to h ?_|(apply Exists.intro;(repeat apply Exists.intro);refine And.intro rfl ?_)|refine av ?_|refine ae ?_|refine ai ?_)
  exact k _ (h.sub bD)
 rw [if_neg e] at k
 clear e
 refine aR.2 ⟨fun e => ?_, fun e => ?_⟩
 ·rw [if_pos e] at k
  repeat (first|refine bx ?_|(refine aq h ?_;clear h;intro kb M h)|(refine au h ?_;clear h;intro M h)|refine St.to h ?_|(apply Exists.intro;(repeat apply Exists.intro);refine And.intro rfl ?_)|refine av ?_|refine ae ?_|refine ai ?_)
  exact k _ (h.sub bD)
 rw [if_neg e] at k
 clear e
 refine aR.2 ⟨fun e => ?_, fun e => ?_⟩
 ·rw [if_pos e] at k
  repeat (first|refine bx ?_|(refine aq h ?_;clear h;intro kb M h)|(refine au h ?_;clear h;intro M h)|refine St.to h ?_|(apply Exists.intro;(repeat apply Exists.intro);refine And.intro rfl ?_)|refine av ?_|refine ae ?_|refine ai ?_)
  exact k _ (h.sub bD)
 rw [if_neg e] at k
 clear e
 refine aR.2 ⟨fun e => ?_, fun e => ?_⟩
 ·rw [if_pos e] at k
  repeat (first|refine bx ?_|(refine aq h ?_;clear h;intro kb M h)|(refine au h ?_;clear h;intro M h)|refine St.to h ?_|(apply Exists.intro;(repeat apply Exists.intro);refine And.intro rfl ?_)|refine av ?_|refine ae ?_|refine ai ?_)
  exact k _ (h.sub bD)
 rw [if_neg e] at k
 clear e
 refine aR.2 ⟨fun e => ?_, fun e => ?_⟩
 ·rw [if_pos e] at k
  repeat (first|refine bx ?_|(refine aq h ?_;clear h;intro kb M h)|(refine au h ?_;clear h;intro M h)|refine St.to h ?_|(apply Exists.intro;(repeat apply Exists.intro);refine And.intro rfl ?_)|refine av ?_|refine ae ?_|refine ai ?_)
  exact k _ (h.sub bD)
 rw [if_neg e] at k
 clear e
 refine aR.2 ⟨fun e => ?_, fun e => ?_⟩
 ·rw [if_pos e] at k
  repeat (first|refine bx ?_|(refine aq h ?_;clear h;intro kb M h)|(refine au h ?_;clear h;intro M h)|refine St.to h ?_|(apply Exists.intro;(repeat apply Exists.intro);refine And.intro rfl ?_)|refine av ?_|refine ae ?_|refine ai ?_)
  exact k _ (h.sub bD)
 rw [if_neg e] at k
 clear e
 refine aR.2 ⟨fun e => ?_, fun e => ?_⟩
 ·rw [if_pos e] at k
  repeat (first|refine bx ?_|(refine aq h ?_;clear h;intro kb M h)|(refine au h ?_;clear h;intro M h)|refine St.to h ?_|(apply Exists.intro;(repeat apply Exists.intro);refine And.intro rfl ?_)|refine av ?_|refine ae ?_|refine ai ?_)
  exact k _ (h.sub bD)
 rw [if_neg e] at k
 clear e
 refine aR.2 ⟨fun e => ?_, fun e => ?_⟩
 ·rw [if_pos e] at k
  refine aR.2 ⟨fun z => ?_, fun z => ?_⟩
  ·rw [if_pos z] at k
   repeat (first|refine bx ?_|(refine aq h ?_;clear h;intro kb M h)|(refine au h ?_;clear h;intro M h)|refine St.to h ?_|(apply Exists.intro;(repeat apply Exists.intro);refine And.intro rfl ?_)|refine av ?_|refine ae ?_|refine ai ?_)
   exact k _ (h.sub bD)
  rw [if_neg z] at k
  repeat (first|refine bx ?_|(refine aq h ?_;clear h;intro kb M h)|(refine au h ?_;clear h;intro M h)|refine St.to h ?_|(apply Exists.intro;(repeat apply Exists.intro);refine And.intro rfl ?_)|refine av ?_|refine ae ?_|refine ai ?_)
  refine aM.2 ⟨fun _ => ?_, fun e2 => absurd (show aG o 23 < 15 by omega) e2⟩
  repeat (first|refine bx ?_|(refine aq h ?_;clear h;intro kb M h)|(refine au h ?_;clear h;intro M h)|refine St.to h ?_|(apply Exists.intro;(repeat apply Exists.intro);refine And.intro rfl ?_)|refine av ?_|refine ae ?_|refine ai ?_)
  refine aR.2 ⟨fun e2 => absurd e2 (by omega), fun _ => ?_⟩
  repeat (first|refine bx ?_|(refine aq h ?_;clear h;intro kb M h)|(refine au h ?_;clear h;intro M h)|refine St.to h ?_|(apply Exists.intro;(repeat apply Exists.intro);refine And.intro rfl ?_)|refine av ?_|refine ae ?_|refine ai ?_)
  exact k _ (h.sub bD)
 rw [if_neg e] at k
 clear e
 refine aR.2 ⟨fun e => ?_, fun e => ?_⟩
 ·rw [if_pos e] at k
  refine aR.2 ⟨fun z => ?_, fun z => ?_⟩
  ·rw [if_pos z] at k
   repeat (first|refine bx ?_|(refine aq h ?_;clear h;intro kb M h)|(refine au h ?_;clear h;intro M h)|refine St.to h ?_|(apply Exists.intro;(repeat apply Exists.intro);refine And.intro rfl ?_)|refine av ?_|refine ae ?_|refine ai ?_)
   exact k _ (h.sub bD)
  rw [if_neg z] at k
  repeat (first|refine bx ?_|(refine aq h ?_;clear h;intro kb M h)|(refine au h ?_;clear h;intro M h)|refine St.to h ?_|(apply Exists.intro;(repeat apply Exists.intro);refine And.intro rfl ?_)|refine av ?_|refine ae ?_|refine ai ?_)
  refine aM.2 ⟨fun _ => ?_, fun e2 => absurd (show aG o 23 < 15 by omega) e2⟩
  repeat (first|refine bx ?_|(refine aq h ?_;clear h;intro kb M h)|(refine au h ?_;clear h;intro M h)|refine St.to h ?_|(apply Exists.intro;(repeat apply Exists.intro);refine And.intro rfl ?_)|refine av ?_|refine ae ?_|refine ai ?_)
  refine aR.2 ⟨fun _ => ?_, fun e2 => absurd e e2⟩
  repeat (first|refine bx ?_|(refine aq h ?_;clear h;intro kb M h)|(refine au h ?_;clear h;intro M h)|refine St.to h ?_|(apply Exists.intro;(repeat apply Exists.intro);refine And.intro rfl ?_)|refine av ?_|refine ae ?_|refine ai ?_)
  exact k _ (h.sub bD)
 rw [if_neg e] at k
 clear e
 refine aR.2 ⟨fun e => ?_, fun e => ?_⟩
 ·rw [if_pos e] at k
  refine aR.2 ⟨fun z => ?_, fun z => ?_⟩
  ·rw [if_pos z] at k
   repeat (first|refine bx ?_|(refine aq h ?_;clear h;intro kb M h)|(refine au h ?_;clear h;intro M h)|refine St.to h ?_|(apply Exists.intro;(repeat apply Exists.intro);refine And.intro rfl ?_)|refine av ?_|refine ae ?_|refine ai ?_)
   exact k _ (h.sub bD)
  rw [if_neg z] at k
  repeat (first|refine bx ?_|(refine aq h ?_;clear h;intro kb M h)|(refine au h ?_;clear h;intro M h)|refine St.to h ?_|(apply Exists.intro;(repeat apply Exists.intro);refine And.intro rfl ?_)|refine av ?_|refine ae ?_|refine ai ?_)
  refine aM.2 ⟨fun e2 => absurd e2 (by omega), fun _ => ?_⟩
  repeat (first|refine bx ?_|(refine aq h ?_;clear h;intro kb M h)|(refine au h ?_;clear h;intro M h)|refine St.to h ?_|(apply Exists.intro;(repeat apply Exists.intro);refine And.intro rfl ?_)|refine av ?_|refine ae ?_|refine ai ?_)
  refine aR.2 ⟨fun e2 => absurd e2 (by omega), fun _ => ?_⟩
  repeat (first|refine bx ?_|(refine aq h ?_;clear h;intro kb M h)|(refine au h ?_;clear h;intro M h)|refine St.to h ?_|(apply Exists.intro;(repeat apply Exists.intro);refine And.intro rfl ?_)|refine av ?_|refine ae ?_|refine ai ?_)
  exact k _ (h.sub bD)
 rw [if_neg e] at k
 clear e
 refine aR.2 ⟨fun e => ?_, fun e => ?_⟩
 ·rw [if_pos e] at k
  refine aR.2 ⟨fun z => ?_, fun z => ?_⟩
  ·rw [if_pos z] at k
   repeat (first|refine bx ?_|(refine aq h ?_;clear h;intro kb M h)|(refine au h ?_;clear h;intro M h)|refine St.to h ?_|(apply Exists.intro;(repeat apply Exists.intro);refine And.intro rfl ?_)|refine av ?_|refine ae ?_|refine ai ?_)
   exact k _ (h.sub bD)
  rw [if_neg z] at k
  obtain ⟨e1, e2⟩ := as_ z
  repeat (first|refine bx ?_|(refine aq h ?_;clear h;intro kb M h)|(refine au h ?_;clear h;intro M h)|refine St.to h ?_|(apply Exists.intro;(repeat apply Exists.intro);refine And.intro rfl ?_)|refine av ?_|refine ae ?_|refine ai ?_)
  rw [e1]
  repeat (first|refine bx ?_|(refine aq h ?_;clear h;intro kb M h)|(refine au h ?_;clear h;intro M h)|refine St.to h ?_|(apply Exists.intro;(repeat apply Exists.intro);refine And.intro rfl ?_)|refine av ?_|refine ae ?_|refine ai ?_)
  rw [e2]
  repeat (first|refine bx ?_|(refine aq h ?_;clear h;intro kb M h)|(refine au h ?_;clear h;intro M h)|refine St.to h ?_|(apply Exists.intro;(repeat apply Exists.intro);refine And.intro rfl ?_)|refine av ?_|refine ae ?_|refine ai ?_)
  exact k _ (h.sub bD)
 rw [if_neg e] at k
 clear e
 refine aR.2 ⟨fun e => ?_, fun e => ?_⟩
 ·rw [if_pos e] at k
  repeat (first|refine bx ?_|(refine aq h ?_;clear h;intro kb M h)|(refine au h ?_;clear h;intro M h)|refine St.to h ?_|(apply Exists.intro;(repeat apply Exists.intro);refine And.intro rfl ?_)|refine av ?_|refine ae ?_|refine ai ?_)
  refine aR.2 ⟨fun z => ?_, fun z => ?_⟩
  ·rw [if_pos z] at k
   repeat (first|refine bx ?_|(refine aq h ?_;clear h;intro kb M h)|(refine au h ?_;clear h;intro M h)|refine St.to h ?_|(apply Exists.intro;(repeat apply Exists.intro);refine And.intro rfl ?_)|refine av ?_|refine ae ?_|refine ai ?_)
   exact k _ (h.sub bD)
  rw [if_neg z] at k
  repeat (first|refine bx ?_|(refine aq h ?_;clear h;intro kb M h)|(refine au h ?_;clear h;intro M h)|refine St.to h ?_|(apply Exists.intro;(repeat apply Exists.intro);refine And.intro rfl ?_)|refine av ?_|refine ae ?_|refine ai ?_)
  exact k _ (h.sub bD)
 rw [if_neg e] at k
 clear e
 refine aR.2 ⟨fun e => ?_, fun e => ?_⟩
 ·rw [if_pos e] at k
  repeat (first|refine bx ?_|(refine aq h ?_;clear h;intro kb M h)|(refine au h ?_;clear h;intro M h)|refine St.to h ?_|(apply Exists.intro;(repeat apply Exists.intro);refine And.intro rfl ?_)|refine av ?_|refine ae ?_|refine ai ?_)
  refine aR.2 ⟨fun z => ?_, fun z => ?_⟩
  ·rw [if_pos z] at k
   repeat (first|refine bx ?_|(refine aq h ?_;clear h;intro kb M h)|(refine au h ?_;clear h;intro M h)|refine St.to h ?_|(apply Exists.intro;(repeat apply Exists.intro);refine And.intro rfl ?_)|refine av ?_|refine ae ?_|refine ai ?_)
   exact k _ (h.sub bD)
  rw [if_neg z] at k
  repeat (first|refine bx ?_|(refine aq h ?_;clear h;intro kb M h)|(refine au h ?_;clear h;intro M h)|refine St.to h ?_|(apply Exists.intro;(repeat apply Exists.intro);refine And.intro rfl ?_)|refine av ?_|refine ae ?_|refine ai ?_)
  exact k _ (h.sub bD)
 rw [if_neg e] at k
 clear e
 refine aR.2 ⟨fun e => ?_, fun e => ?_⟩
 ·rw [if_pos e] at k
  repeat (first|refine bx ?_|(refine aq h ?_;clear h;intro kb M h)|(refine au h ?_;clear h;intro M h)|refine St.to h ?_|(apply Exists.intro;(repeat apply Exists.intro);refine And.intro rfl ?_)|refine av ?_|refine ae ?_|refine ai ?_)
  rw [Z5]
  exact k _ (h.sub bD)
 rw [if_neg e] at k
 clear e
 refine aR.2 ⟨fun e => ?_, fun e => ?_⟩
 ·rw [if_pos e] at k
  repeat (first|refine bx ?_|(refine aq h ?_;clear h;intro kb M h)|(refine au h ?_;clear h;intro M h)|refine St.to h ?_|(apply Exists.intro;(repeat apply Exists.intro);refine And.intro rfl ?_)|refine av ?_|refine ae ?_|refine ai ?_)
  exact k _ (h.sub bD)
 rw [if_neg e] at k
 clear e
 repeat (first|refine bx ?_|(refine aq h ?_;clear h;intro kb M h)|(refine au h ?_;clear h;intro M h)|refine St.to h ?_|(apply Exists.intro;(repeat apply Exists.intro);refine And.intro rfl ?_)|refine av ?_|refine ae ?_|refine ai ?_)
 exact k _ (h.sub bD)
end
end Go.Proofs
namespace Go.Proofs
open Go.AF Go.Deep
def Ft : List IntKind := [.i64, .i64, .i64, .i64]
def S9 : List IntKind := [.i64, .i64, .i64]
def Ta (g : Nat → Int) : cI := ⟨g 0, g 1, g 2, g 3⟩
def Tb (g : Nat → Int) : om := ⟨g 0, g 1, g 2⟩
theorem Lj (l : List (Nat → Int)) : (kE Ft).cells l = je.cells (l.map Ta) := by
 induction l with
 | nil => rfl
 | cons g l ih => rw [iz.bU, List.map_cons, iz.bU, ih]; rfl
theorem Ll (l : List (Nat → Int)) : (kE S9).cells l = g6.cells (l.map Tb) := by
 induction l with
 | nil => rfl
 | cons g l ih => rw [iz.bU, List.map_cons, iz.bU, ih]; rfl
theorem Lm (l : List (Nat → Int)) : (kE [.i64]).cells l = bB.cells (l.map (· 0)) := by
 induction l with
 | nil => rfl
 | cons g l ih => rw [iz.bU, List.map_cons, iz.bU, ih]; rfl
structure tH (M : Mem) (pa : PA) (p : b7) : Prop where
 n1 : p.funcs.length ≤ 9223372036854775807
 n2 : p.eG.length ≤ 9223372036854775807
 n3 : p.cases.length ≤ 9223372036854775807
 ZT : p.funcs.length ≤ pa.fc
 funcs : 0 < p.funcs.length → ∃ ts : List (Option Addr × Nat × Nat), RS zu M pa.f pa.fc ts ∧ ts.length = p.funcs.length ∧ ∀ (i : Nat) t f, ts[i]? = some t → p.funcs[i]? = some f → t.2.1 = f.length ∧ f.length ≤ 9223372036854775807 ∧ f.length ≤ t.2.2 ∧ (0 < f.length → RS je M t.1 t.2.2 f)
 eG : 0 < p.eG.length → RS bB M pa.c pa.cc p.eG
 cases : 0 < p.cases.length → RS g6 M pa.k pa.kc p.cases
theorem tH.le {M M' : Mem} {pa : PA} {p : b7} (h : tH M pa p) (hle : M.le M') : tH M' pa p := by
 obtain ⟨a1, a2, a3, a4, a5, a6, a7⟩ := h
 refine ⟨a1, a2, a3, a4, fun h0 => ?_, fun h0 => (a6 h0).le hle, fun h0 => (a7 h0).le hle⟩
 obtain ⟨ts, t1, t2, t3⟩ := a5 h0
 exact ⟨ts, t1.le hle, t2, fun i t f a b => ⟨(t3 i t f a b).1, (t3 i t f a b).2.1, (t3 i t f a b).2.2.1, fun h => ((t3 i t f a b).2.2.2 h).le hle⟩⟩
theorem mF.rs {α : Type} {E : iz α} {M : Mem} {A : Option Addr} {n c : Nat} {ks : List IntKind} (h : mF M A n c ks) (f : (Nat → Int) → α) (hc : ∀ l, (kE ks).cells l = E.cells (l.map f)) : ∃ l : List α, l.length = n ∧ n ≤ c ∧ n ≤ 9223372036854775807 ∧ (0 < n → RS E M A c l) := by
 obtain ⟨l, rfl, h1, h2, h3, _⟩ := h
 refine ⟨l.map f, by simp, h1, Nat.le_trans h2 (by decide), fun h0 => ⟨?_, by simpa using h1⟩⟩
 rw [← hc]
 exact h3 h0
section
variable {H : Type} {enc : TypeId × Value → H} {P : Program} {w : World} {base : Nat} {spare : Nat → Bool} {held : Bool}
theorem Bj {t e e2 : TypeId} {A : Option Addr} {n c fuel : Nat} {x : DataW H × List MemPlace} (ht : P.underlying t = some (.slice e)) (he : P.underlying e = some (.slice e2)) (W9 : P.cellsOf e = 1) (hk : iF P 8 e2 = some Ft) (hc : P.cellsOf e2 = Ft.length ∧ 0 < Ft.length)
  (h : DataW.trod enc P w base spare held fuel t [.slice A n c] = some x) : ∃ fs : List (List cI), fs.length = n ∧ n ≤ c ∧ n ≤ 9223372036854775807 ∧ (0 < n → ∃ ts : List (Option Addr × Nat × Nat), RS zu (jr w) A c ts ∧ ts.length = n ∧ ∀ (i : Nat) t f, ts[i]? = some t → fs[i]? = some f → t.2.1 = f.length ∧ f.length ≤ 9223372036854775807 ∧ f.length ≤ t.2.2 ∧ (0 < f.length → RS je (jr w) t.1 t.2.2 f)) := by
 rcases open_slice1 ht W9 h with ⟨h0, _⟩ | ⟨a, len, cap, m, n', V, D, Pl, hcs, hb, hl, hm, Gm, hx, hel⟩
 ·cases h0
  exact ⟨[], rfl, Nat.le_refl _, by omega, fun h => absurd h (by omega)⟩
 ·cases hcs
  have hlm : n ≤ m := by rw [Gm]; split <;> omega
  have each : ∀ i, i < n → ∃ q : (Option Addr × Nat × Nat) × List cI, w.cell? (a.add i) = some (.slice q.1.1 q.1.2.1 q.1.2.2) ∧ q.1.2.1 = q.2.length ∧ q.2.length ≤ 9223372036854775807 ∧ q.2.length ≤ q.1.2.2 ∧ (0 < q.2.length → RS je (jr w) q.1.1 q.1.2.2 q.2) := by
   intro i hi
   obtain ⟨h1, h2⟩ := hel i (by omega)
   rcases Go.Deep.open_slice he h2 with ⟨h0, _⟩ | ⟨a', len', cap', _, _, _, _, ME, _, _, _, _, _, _⟩
   ·refine ⟨((none, 0, 0), []), ?_, rfl, by simp, by simp, fun h => by simp at h⟩
    rw [h1]; simpa using h0
   ·have hv : V i = .slice (some a') len' cap' := by simpa using ME
    rw [hv] at h2 h1
    obtain ⟨l, l1, l2, l3, l4⟩ := mF.rs (E := je) (mF.ud he hk hc ⟨n', h2⟩) Ta Lj
    subst l1
    exact ⟨((some a', l.length, cap'), l), h1, rfl, l3, l2, l4⟩
  obtain ⟨q, hq⟩ := Go.Deep.choose_lt each
  refine ⟨(List.range n).map fun i => (q i).2, by simp, hl, Nat.le_trans hl (Nat.le_trans hm (by decide)), fun hn => ⟨(List.range n).map fun i => (q i).1, ⟨?_, by simpa using hl⟩, by simp, fun i t f h1 h2 => ?_⟩⟩
  ·have hs := World.cell?_spot (hq 0 hn).1
   obtain ⟨b, o, sp⟩ := a
   have hsp : sp = none := by simpa [Addr.add] using hs
   subst hsp
   intro i hi
   rw [iz.dy, List.length_map, List.length_range] at hi
   have hi' : i < n := by simpa [zu] using hi
   have h3 := (hq i hi').1
   rw [add_eq] at h3
   show (jr w).ld ⟨b, o + i, none⟩ = _
   have h4 := iz.mE (E := zu) (l := (List.range n).map fun i => (q i).1) (i := i) (j := 0) (a := (q i).1) (by rw [List.getElem?_map, List.getElem?_range hi']; rfl) rfl
   have e : i * zu.z + 0 = i := by simp [zu]
   rw [e] at h4
   rw [h4]
   exact h3
  ·rw [List.getElem?_map] at h1 h2
   obtain ⟨j, hj, rfl⟩ := Option.map_eq_some_iff.1 h1
   obtain ⟨j', hj', rfl⟩ := Option.map_eq_some_iff.1 h2
   obtain ⟨hl1, e1⟩ := List.getElem?_eq_some_iff.1 hj
   rw [hj] at hj'
   cases hj'
   have Si : j < n := by rw [← e1]; simpa using hl1
   exact (hq j Si).2
theorem Fu {t t1 t2 t3 t4 e1 e11 e2 e4 : TypeId} {fs : Array Field} {v : Value} {d : DataW H} {ps : List MemPlace} (hu : P.underlying t = some (.struct fs)) (hf : fs.toList.map (fun (f : Field) => (f.offset, f.type)) = [(0, t1), (1, t2), (2, t3), (3, t4)])
  (u1 : P.underlying t1 = some (.slice e1)) (u11 : P.underlying e1 = some (.slice e11)) (u2 : P.underlying t2 = some (.slice e2)) (u3 : P.underlying t3 = some (.int .i64)) (u4 : P.underlying t4 = some (.slice e4))
  (c1 : P.cellsOf t1 = 1) (c2 : P.cellsOf t2 = 1) (c3 : P.cellsOf t3 = 1) (c4 : P.cellsOf t4 = 1) (c11 : P.cellsOf e1 = 1) (k1 : iF P 8 e11 = some Ft) (k2 : iF P 8 e2 = some [.i64]) (k4 : iF P 8 e4 = some S9)
  (d1 : P.cellsOf e11 = 4) (d2 : P.cellsOf e2 = 1) (d4 : P.cellsOf e4 = 3) (ct : P.cellsOf t = 4)
  (hs : ∃ cs, v = .agg cs ∧ cs.size = P.cellsOf t)
  (h : DataW.Trod enc P w base spare held t v d ps) : ∃ (pa : PA) (p : b7), v = .agg #[.slice pa.f p.funcs.length pa.fc, .slice pa.c p.eG.length pa.cc, .int .i64 p.aL, .slice pa.k p.cases.length pa.kc] ∧ tH (jr w) pa p := by
 obtain ⟨cs, rfl, hsz⟩ := hs
 obtain ⟨fuel, hh⟩ := h
 obtain ⟨xs, m, _, _, hl, Sh, JY⟩ := DataW.trod_struct hu hh
 have e0 : (Value.agg cs).cells = cs := rfl
 rw [e0] at JY hl
 rw [ct] at hsz
 obtain ⟨cl⟩ := cs
 simp only [List.size_toArray] at hsz
 have hfl : fs.size = 4 := by have := congrArg List.length hf; simpa using this
 have fld : ∀ (i o : Nat) (ty : TypeId), ([(0, t1), (1, t2), (2, t3), (3, t4)] : List (Nat × TypeId))[i]? = some (o, ty) → ∃ (f : Field) (x : DataW H × List MemPlace), fs[i]? = some f ∧ f.offset = o ∧ f.type = ty ∧ DataW.trod enc P w base spare held m ty ((cl.drop o).take (P.cellsOf ty)) = some x := by
  intro i o ty hi
  rw [← hf, List.getElem?_map] at hi
  obtain ⟨f, JI, D4⟩ := Option.map_eq_some_iff.1 hi
  cases D4
  have hf3 : fs[i]? = some f := by simpa using JI
  have := JY i f hf3
  have hi4 : i < xs.length := by rw [Sh]; exact (Array.getElem?_eq_some_iff.1 hf3).1
  rw [List.getElem?_eq_getElem hi4] at this
  exact ⟨f, _, hf3, rfl, rfl, this⟩
 match cl, hsz with
 | [w0, w1, w2, w3], _ =>
  obtain ⟨_, x1, _, _, _, a1⟩ := fld 0 0 t1 rfl
  obtain ⟨_, x2, _, _, _, a2⟩ := fld 1 1 t2 rfl
  obtain ⟨_, x3, _, _, _, a3⟩ := fld 2 2 t3 rfl
  obtain ⟨_, x4, _, _, _, a4⟩ := fld 3 3 t4 rfl
  rw [c1] at a1
  rw [c2] at a2
  rw [c3] at a3
  rw [c4] at a4
  have sl : ∀ {ty e : TypeId} {u : Value} {x : DataW H × List MemPlace}, P.underlying ty = some (.slice e) → DataW.trod enc P w base spare held m ty [u] = some x → ∃ A n c, u = .slice A n c := by
   intro ty e u x hu h
   rcases Go.Deep.open_slice hu h with ⟨h0, _⟩ | ⟨a, len, cap, _, _, _, _, h0, _⟩
   ·cases h0; exact ⟨_, _, _, rfl⟩
   ·cases h0; exact ⟨_, _, _, rfl⟩
  obtain ⟨A1, n1, q1, rfl⟩ := sl u1 a1
  obtain ⟨A2, n2, q2, rfl⟩ := sl u2 a2
  obtain ⟨A4, n4, q4, rfl⟩ := sl u4 a4
  obtain ⟨lk, b3, _⟩ := DataW.trod_int u3 a3
  have b3' : w2 = .int .i64 lk := by simpa using b3
  subst b3'
  obtain ⟨fs', f1, f2, f3, f4⟩ := Bj u1 u11 c11 k1 ⟨d1, by decide⟩ a1
  obtain ⟨l2, g1, g2, g3, g4⟩ := mF.rs (E := bB) (mF.ud u2 k2 ⟨d2, by decide⟩ ⟨m, a2⟩) (· 0) Lm
  obtain ⟨l4, j1, j2, j3, j4⟩ := mF.rs (E := g6) (mF.ud u4 k4 ⟨d4, by decide⟩ ⟨m, a4⟩) Tb Ll
  subst f1; subst g1; subst j1
  exact ⟨⟨A1, q1, A2, q2, A4, q4⟩, ⟨fs', l2, lk, l4⟩, rfl, ⟨f3, g3, j3, f2, f4, g4, j4⟩⟩
end
end Go.Proofs
namespace Go.Proofs
open Go.AF
set_option maxRecDepth 100000
set_option maxHeartbeats 1000000
attribute [local irreducible] aJ de fm cy aB dZ aF aK bh aY bA aO
def cD (p : b7) : List Int := (p.eG.take 4).map (aG · 4)
def jW (nc : Nat) (c : om) : om := if nc = 0 then ⟨2, 0, 0⟩ else ⟨aG c.way 3, aG c.ch nc, aG c.bQ 8⟩
def fF (p : b7) : List om := (p.cases.take 8).map (jW (cD p).length)
def da (p : b7) : List (List cI) := if (p.funcs.take 5).length = 0 then [[.zero]] else p.funcs.take 5
def gB (f : List cI) : List cI := if (f.take 20).length = 0 then [.zero] else f.take 20
def tI (p : b7) (f : List cI) : List cI := (gB f).map (xh (da p).length (cD p).length (fF p).length (aG p.aL 4) (gB f).length)
def fG (p : b7) : b7 := ⟨(da p).map (tI p), cD p, aG p.aL 4, fF p⟩
theorem wF (p : b7) : 1 ≤ (da p).length ∧ (da p).length ≤ 5 := by
 unfold da
 split
 ·simp
 ·rename_i h; rw [List.length_take] at h ⊢; omega
theorem Ct (f : List cI) : 1 ≤ (gB f).length ∧ (gB f).length ≤ 20 := by
 unfold gB
 split
 ·simp
 ·rename_i h; rw [List.length_take] at h ⊢; omega
theorem Cu (p : b7) : (cD p).length ≤ 4 := by unfold cD; rw [List.length_map, List.length_take]; omega
theorem Cv (p : b7) : (fF p).length ≤ 8 := by unfold fF; rw [List.length_map, List.length_take]; omega
theorem lk10 (p : b7) : 0 ≤ aG p.aL 4 ∧ aG p.aL 4 ≤ 3 := by have := cX (n := p.aL) (m := 4) (by omega) (by omega); omega
theorem Ln (p : b7) : dn (fG p) := by
 have h1 := wF p
 have h2 := Cu p
 have h3 := Cv p
 have h4 := lk10 p
 refine ⟨by simp [fG]; omega, by show (cD p).length ≤ 8; omega, by show 0 ≤ aG p.aL 4 ∧ aG p.aL 4 ≤ 8; omega, by show (fF p).length ≤ 32; omega, fun c hc => ?_, fun f hf => ?_⟩
 ·obtain ⟨c0, _, rfl⟩ := List.mem_map.1 hc
  have a3 := cX (n := c0.way) (m := 3) (by omega) (by omega)
  have a8 := cX (n := c0.bQ) (m := 8) (by omega) (by omega)
  unfold jW
  split
  ·exact ⟨⟨by decide, by decide, fun h => absurd rfl h⟩, by decide, by decide⟩
  ·rename_i hn
   have ac := cX (n := c0.ch) (m := ((cD p).length : Int)) (by omega) (by omega)
   exact ⟨⟨by dsimp only; omega, by dsimp only; omega, fun _ => ⟨ac.1, ac.2, a8.1, a8.2⟩⟩, a8.1, a8.2⟩
 ·obtain ⟨f0, _, rfl⟩ := List.mem_map.1 hf
  have h5 := Ct f0
  have hl : (tI p f0).length = (gB f0).length := by simp [tI]
  refine ⟨by omega, by omega, fun i hi => ?_⟩
  obtain ⟨i0, _, rfl⟩ := List.mem_map.1 hi
  refine cR.ok ?_
  have e1 : (fG p).funcs.length = (da p).length := by simp [fG]
  rw [e1, hl]
  show cR _ ((cD p).length : Nat) ((fF p).length : Nat) (aG p.aL 4) _ _
  exact Pk (by omega) (by omega) (by omega) h4 (by omega)
theorem RQ : bn Tryz.prog 61 63 4 32 [.int .i64 0, .int .i64 0, .int .i64 0, .int .i64 0] := bn.mk' (zv := .agg #[.int .i64 0, .int .i64 0, .int .i64 0, .int .i64 0]) (by kernel_rfl) (by kernel_rfl) rfl (by omega)
theorem RR : bn Tryz.prog 57 163 3 24 [.int .i64 0, .int .i64 0, .int .i64 0] := bn.mk' (zv := .agg #[.int .i64 0, .int .i64 0, .int .i64 0]) (by kernel_rfl) (by kernel_rfl) rfl (by omega)
theorem Wy : bn Tryz.prog 56 61 1 24 [.slice none 0 0] := bn.mk' (zv := .slice none 0 0) (by kernel_rfl) (by kernel_rfl) rfl (by omega)
abbrev DB (pa : PA) (p : b7) : Value := .agg #[.slice pa.f p.funcs.length pa.fc, .slice pa.c p.eG.length pa.cc, .int .i64 p.aL, .slice pa.k p.cases.length pa.kc]
abbrev Z6 (A : Option Addr) (n c : Nat) (B : Option Addr) (m d : Nat) (lk : Int) (C : Option Addr) (q e : Nat) : List Value := [.slice A n c, .slice B m d, .int .i64 lk, .slice C q e]
section
variable {R : Mem} {L L' : List HP} {M : Mem} {K : Value → Mem → Prop} {Kp : List PanicEntry → Mem → Prop} {pa : PA} {p : b7}
theorem take_succ {α : Type} {l : List α} {j : Nat} {v : α} (h : l[j]? = some v) : l.take (j + 1) = l.take j ++ [v] := by
 obtain ⟨hj, rfl⟩ := List.getElem?_eq_some_iff.1 h
 rw [List.take_add_one, List.getElem?_eq_getElem hj]; rfl
def xj (R : Mem) (A : Option Addr) (c : Nat) (fs : List (List cI)) : Prop := ∃ ts : List (Option Addr × Nat × Nat), RS zu R A c ts ∧ ts.length = fs.length ∧ ∀ (i : Nat) t f, ts[i]? = some t → fs[i]? = some f → t.2.1 = f.length ∧ f.length ≤ 9223372036854775807 ∧ f.length ≤ t.2.2 ∧ (0 < f.length → RS je R t.1 t.2.2 f)
theorem xj.le {R R' : Mem} {A : Option Addr} {c : Nat} {fs : List (List cI)} (h : xj R A c fs) (hle : R.le R') : xj R' A c fs := by
 obtain ⟨ts, h1, h2, h3⟩ := h
 exact ⟨ts, h1.le hle, h2, fun i t f a b => ⟨(h3 i t f a b).1, (h3 i t f a b).2.1, (h3 i t f a b).2.2.1, fun h => ((h3 i t f a b).2.2.2 h).le hle⟩⟩
theorem xj.cut {R : Mem} {A : Option Addr} {c : Nat} {fs : List (List cI)} (h : xj R A c fs) (q : Nat) : xj R (lp A 0 c 1) (c - 0) (fs.take q) := by
 obtain ⟨ts, h1, h2, h3⟩ := h
 have h4 := (h1.drop 0 (Nat.zero_le _)).take q
 rw [List.drop_zero] at h4
 refine ⟨ts.take q, h4, by rw [List.length_take, List.length_take, h2], fun i t f a b => ?_⟩
 rw [List.getElem?_take] at a b
 split at a
 ·rename_i hi
  rw [if_pos hi] at b
  exact h3 i t f a b
 ·cases a
theorem RS.cut {α : Type} {E : iz α} {R : Mem} {A : Option Addr} {c : Nat} {l : List α} (h : RS E R A c l) (q : Nat) : RS E R (lp A 0 c E.z) (c - 0) (l.take q) := by
 have h4 := (h.drop 0 (Nat.zero_le _)).take q
 rwa [List.drop_zero] at h4
abbrev dw (k : Nat) (A : Option Addr) (n c : Nat) (B : Option Addr) (m d : Nat) (lk : Int) (C : Option Addr) (q e : Nat) : HP := pt k (Z6 A n c B m d lk C q e) 59
theorem Lo (h : Hp R L M) (ha : tH R pa p) (k : ∀ R' Fv q us M', R.le R' → Fv.f = some ⟨q, 0, none⟩ → us.length = (fG p).funcs.length → (∀ (i : Nat) t f, us[i]? = some t → (fG p).funcs[i]? = some f → RS je R' t.1 t.2.2 f ∧ t.2.1 = f.length) → RS g6 R' Fv.k Fv.kc (fG p).cases → RS bB R' Fv.c Fv.cc (fG p).eG →
  Hp R' (bR zu 61 (some ⟨q, 0, none⟩) Fv.fc us :: L) M' → K (DB Fv (fG p)) M') :
  aa Tryz.prog 24 #[DB pa p] M K Kp := by
 refine pV ?_
 have SM := Cu p
 have hkl := Cv p
 have n1 := ha.n1
 have n2 := ha.n2
 have n3 := ha.n3
 have ZT := ha.ZT
 refine aq h ?_
 clear h
 intro k1 M h
 refine aq h ?_
 clear h
 intro k3 M h
 refine aI h (bx (cG ?_))
 refine aq h ?_
 clear h
 intro k9 M h
 repeat (refine au h ?_; clear h; intro M h)
 generalize hlk : aG p.aL 4 = lk at h
 have h0 : Hp R (bR bB 3 none 0 [] :: dw k9 none 0 0 none 0 0 lk none 0 0 :: dw k3 none 0 0 none 0 0 0 none 0 0 :: dw k1 pa.f p.funcs.length pa.fc pa.c p.eG.length pa.cc p.aL pa.k p.cases.length pa.kc :: L) M := h.cC bB 3
 clear h
 refine ⟨fun vs M => vs = [] ∧ ∃ B c, Hp R (bR bB 3 B c (cD p) :: dw k9 none 0 0 B (cD p).length c lk none 0 0 :: dw k3 none 0 0 none 0 0 0 none 0 0 :: dw k1 pa.f p.funcs.length pa.fc pa.c p.eG.length pa.cc p.aL pa.k p.cases.length pa.kc :: L) M,
  ⟨fun dd vs M => ∃ (j : Nat) (B : Option Addr) (c : Nat), vs = [.int .i64 (j : Int)] ∧ dd = 4 - j ∧ j ≤ 4 ∧ j ≤ p.eG.length ∧ Hp R (bR bB 3 B c ((p.eG.take j).map (aG · 4)) :: dw k9 none 0 0 B j c lk none 0 0 :: dw k3 none 0 0 none 0 0 0 none 0 0 :: dw k1 pa.f p.funcs.length pa.fc pa.c p.eG.length pa.cc p.aL pa.k p.cases.length pa.kc :: L) M, ⟨_, 0, none, 0, rfl, rfl, by omega, by omega, h0⟩, ?_⟩, ?_⟩
 ·clear h0
  rintro dd _ nn M ⟨j, B, c, he, hd, hj, Gf, h⟩
  simp only [List.cons.injEq, Value.int.injEq, and_true, true_and] at he
  subst he
  have hlen : ((p.eG.take j).map (aG · 4)).length = j := by rw [List.length_map, List.length_take]; omega
  have hout : ¬ (j < p.eG.length ∧ j < 4) → (p.eG.take j).map (aG · 4) = cD p ∧ j = (cD p).length := fun hn => by
   have e : p.eG.take j = p.eG.take 4 := by
    rcases Nat.lt_or_ge j 4 with h4 | h4
    ·rw [List.take_of_length_le (by omega), List.take_of_length_le (by omega)]
    ·rw [show j = 4 from by omega]
   refine ⟨by rw [cD, e], ?_⟩
   rw [← hlen, e]; rfl
  refine aS h ?_
  by_cases hc : j < p.eG.length ∧ j < 4
  ·obtain ⟨c1, c2⟩ := hc
   refine vE (by simp; omega) (vE (by simp; omega) ?_)
   have hr := ha.eG (by omega)
   obtain ⟨b, o, hb⟩ := hr.some (by omega) (by decide)
   rw [hb] at hr h
   obtain ⟨v, hv⟩ := aP c1
   have RT : (p.eG.take (j + 1)).map (aG · 4) = (p.eG.take j).map (aG · 4) ++ [aG v 4] := by rw [take_succ hv, List.map_append]; rfl
   have hstep : ∀ M B c, Hp R (bR bB 3 B c ((p.eG.take j).map (aG · 4) ++ [aG v 4]) :: dw k9 none 0 0 B (j + 1) c lk none 0 0 :: dw k3 none 0 0 none 0 0 0 none 0 0 :: dw k1 pa.f p.funcs.length pa.fc (some ⟨b, o, none⟩) p.eG.length pa.cc p.aL pa.k p.cases.length pa.kc :: L) M →
     ∃ (j' : Nat) (B : Option Addr) (c : Nat), [Value.int .i64 (IntKind.wrap .i64 ((j : Int) + 1))] = [.int .i64 (j' : Int)] ∧ 4 - (j + 1) = 4 - j' ∧ j' ≤ 4 ∧ j' ≤ p.eG.length ∧ Hp R (bR bB 3 B c ((p.eG.take j').map (aG · 4)) :: dw k9 none 0 0 B j' c lk none 0 0 :: dw k3 none 0 0 none 0 0 0 none 0 0 :: dw k1 pa.f p.funcs.length pa.fc pa.c p.eG.length pa.cc p.aL pa.k p.cases.length pa.kc :: L) M := by
    intro M B c h
    refine ⟨j + 1, B, c, by rw [aV (by omega)], rfl, by omega, by omega, ?_⟩
    rw [RT, hb]
    exact h
   refine ⟨fun vs M => vs = [] ∧ ∃ B c, Hp R (bR bB 3 B c ((p.eG.take j).map (aG · 4) ++ [aG v 4]) :: dw k9 none 0 0 B (j + 1) c lk none 0 0 :: dw k3 none 0 0 none 0 0 0 none 0 0 :: dw k1 pa.f p.funcs.length pa.fc (some ⟨b, o, none⟩) p.eG.length pa.cc p.aL pa.k p.cases.length pa.kc :: L) M, ?_, ?_⟩
   ·refine aS h ⟨by omega, by omega, bp ?_⟩
    refine aZ (Src.at hr.src h (i := j) (j := 0) hv rfl (by simp [bB])) ?_
    refine ⟨?_, ?_, trivial⟩
    ·refine aS h (bx (cG ?_))
     refine aq h ?_
     clear h
     intro jS M h
     refine h.gS (A := B) pG [aG v 4] rfl hlen.symm rfl (by simp; omega) ?_
     clear h; intro A' c' M h
     refine bk ?_
     refine au h ?_
     clear h
     intro M h
     exact ⟨rfl, _, _, h.sub bD⟩
    ·refine bx (cG (aS h ?_))
     refine aq h ?_
     clear h
     intro jS M h
     refine h.gS (A := B) pG [aG v 4] rfl hlen.symm rfl (by simp; omega) ?_
     clear h; intro A' c' M h
     refine bk ?_
     refine au h ?_
     clear h
     intro M h
     exact ⟨rfl, _, _, h.sub bD⟩
   ·clear h
    rintro nn M ⟨_, B', c', h⟩
    exact ⟨4 - (j + 1), by omega, hstep M B' c' h⟩
  ·have ho := hout hc
   obtain ⟨e1, e2⟩ := ho
   rw [e1] at h
   refine IF ⟨rfl, B, c, ?_⟩ fun h1 h2 => absurd ⟨by omega, by omega⟩ hc
   rw [← e2]; exact h
 clear h0
 rintro nn M ⟨_, B, c, h⟩
 clear nn
 have h0 : Hp R (bR g6 163 none 0 [] :: bR bB 3 B c (cD p) :: dw k9 none 0 0 B (cD p).length c lk none 0 0 :: dw k3 none 0 0 none 0 0 0 none 0 0 :: dw k1 pa.f p.funcs.length pa.fc pa.c p.eG.length pa.cc p.aL pa.k p.cases.length pa.kc :: L) M := h.cC g6 _
 clear h
 refine ⟨fun vs M => vs = [] ∧ ∃ C d, Hp R (bR g6 163 C d (fF p) :: bR bB 3 B c (cD p) :: dw k9 none 0 0 B (cD p).length c lk C (fF p).length d :: dw k3 none 0 0 none 0 0 0 none 0 0 :: dw k1 pa.f p.funcs.length pa.fc pa.c p.eG.length pa.cc p.aL pa.k p.cases.length pa.kc :: L) M,
  ⟨fun dd vs M => ∃ (j : Nat) (C : Option Addr) (d : Nat), vs = [.int .i64 (j : Int)] ∧ dd = 8 - j ∧ j ≤ 8 ∧ j ≤ p.cases.length ∧ Hp R (bR g6 163 C d ((p.cases.take j).map (jW (cD p).length)) :: bR bB 3 B c (cD p) :: dw k9 none 0 0 B (cD p).length c lk C j d :: dw k3 none 0 0 none 0 0 0 none 0 0 :: dw k1 pa.f p.funcs.length pa.fc pa.c p.eG.length pa.cc p.aL pa.k p.cases.length pa.kc :: L) M, ⟨_, 0, none, 0, rfl, rfl, by omega, by omega, h0⟩, ?_⟩, ?_⟩
 ·clear h0
  rintro dd _ nn M ⟨j, C, d, he, hd, hj, Gf, h⟩
  simp only [List.cons.injEq, Value.int.injEq, and_true, true_and] at he
  subst he
  have hlen : ((p.cases.take j).map (jW (cD p).length)).length = j := by rw [List.length_map, List.length_take]; omega
  have hout : ¬ (j < p.cases.length ∧ j < 8) → (p.cases.take j).map (jW (cD p).length) = fF p ∧ j = (fF p).length := fun hn => by
   have e : p.cases.take j = p.cases.take 8 := by
    rcases Nat.lt_or_ge j 8 with h4 | h4
    ·rw [List.take_of_length_le (by omega), List.take_of_length_le (by omega)]
    ·rw [show j = 8 from by omega]
   refine ⟨by rw [fF, e], ?_⟩
   rw [← hlen, e]; rfl
  refine aS h ?_
  by_cases hc : j < p.cases.length ∧ j < 8
  ·obtain ⟨c1, c2⟩ := hc
   refine vE (by simp; omega) (vE (by simp; omega) ?_)
   have hr := ha.cases (by omega)
   obtain ⟨b, o, hb⟩ := hr.some (by omega) (by decide)
   rw [hb] at hr h
   obtain ⟨v, hv⟩ := aP c1
   have RT : (p.cases.take (j + 1)).map (jW (cD p).length) = (p.cases.take j).map (jW (cD p).length) ++ [jW (cD p).length v] := by rw [take_succ hv, List.map_append]; rfl
   refine aS h ⟨by omega, by omega, bp ?_⟩
   refine aZ (Src.at hr.src h (i := j) (j := 0) hv rfl (by simp [g6])) ?_
   refine aZ (Src.at hr.src h (i := j) (j := 1) hv rfl (by simp [g6]; omega)) ?_
   refine aZ (Src.at hr.src h (i := j) (j := 2) hv rfl (by simp [g6]; omega)) ?_
   refine aq h ?_
   clear h
   intro Nl M h
   repeat (first|refine bx ?_|(refine aq h ?_;clear h;intro kb M h)|(refine au h ?_;clear h;intro M h)|refine St.to h ?_|(apply Exists.intro;(repeat apply Exists.intro);refine And.intro rfl ?_)|refine av ?_|refine ae ?_|refine ai ?_)
   refine ⟨fun vs M => vs = [] ∧ Hp R (pt kb (g6.f (jW (cD p).length v)) 163 :: bR g6 163 C d ((p.cases.take j).map (jW (cD p).length)) :: bR bB 3 B c (cD p) :: dw k9 none 0 0 B (cD p).length c lk C j d :: dw k3 none 0 0 none 0 0 0 none 0 0 :: dw k1 pa.f p.funcs.length pa.fc pa.c p.eG.length pa.cc p.aL (some ⟨b, o, none⟩) p.cases.length pa.kc :: L) M, ?_, ?_⟩
   ·refine aR.2 ⟨fun hz => ?_, fun hz => ?_⟩
    ·have ez : jW (cD p).length v = ⟨2, 0, 0⟩ := by unfold jW; rw [if_pos (by omega)]
     rw [ez]
     repeat (first|(refine aq h ?_;clear h;intro kb M h)|(refine au h ?_;clear h;intro M h)|refine St.to h ?_|(apply Exists.intro;(repeat apply Exists.intro);refine And.intro rfl ?_)|refine av ?_|refine ae ?_|refine ai ?_)
     exact h.sub bD
    ·have ez : jW (cD p).length v = ⟨aG v.way 3, aG v.ch (cD p).length, aG v.bQ 8⟩ := by unfold jW; rw [if_neg (by omega)]
     rw [ez]
     exact ⟨rfl, h.sub bD⟩
   ·clear h
    rintro nn M ⟨_, h⟩
    generalize jW (cD p).length v = w at h RT
    have h : Hp R (pt kb [.int .i64 w.way, .int .i64 w.ch, .int .i64 w.bQ] 163 :: bR g6 163 C d ((p.cases.take j).map (jW (cD p).length)) :: bR bB 3 B c (cD p) :: dw k9 none 0 0 B (cD p).length c lk C j d :: dw k3 none 0 0 none 0 0 0 none 0 0 :: dw k1 pa.f p.funcs.length pa.fc pa.c p.eG.length pa.cc p.aL (some ⟨b, o, none⟩) p.cases.length pa.kc :: L) M := h
    refine aS h (aI h (aI h (aI h ?_)))
    refine aq h ?_
    clear h
    intro W0 M h
    refine h.gS (A := C) RR [w] rfl hlen.symm rfl (by simp; omega) ?_
    clear h; intro C' d' M h
    refine bk ?_
    refine au h ?_
    clear h
    intro M h
    refine ⟨8 - (j + 1), by omega, j + 1, C', d', by rw [aV (by omega)], rfl, by omega, by omega, ?_⟩
    rw [RT, hb]
    exact h.sub bD
  ·have ho := hout hc
   obtain ⟨e1, e2⟩ := ho
   rw [e1] at h
   refine IF ⟨rfl, C, d, ?_⟩ fun h1 h2 => absurd ⟨by omega, by omega⟩ hc
   rw [← e2]; exact h
 clear h0
 rintro nn M ⟨_, C, d, h⟩
 clear nn
 obtain ⟨R1, l1, rC, h1⟩ := h.gE C
 obtain ⟨R2, l2, rB, h2⟩ := h1.gE B
 clear h h1
 replace rC := rC.le l2
 have kT : R.le R2 := Mem.le_trans l1 l2
 replace h := h2
 clear h2 l1 l2
 have e5 : Int.toNat (if (5 : Int) < ((p.funcs.length : Nat) : Int) then 5 else ((p.funcs.length : Nat) : Int)) - 0 = min 5 p.funcs.length := by split <;> omega
 refine aS h (aS h ⟨by omega, by omega, by split <;> omega, by split <;> omega, by omega, by split <;> omega, ?_⟩)
 simp only [e5, Int.toNat_natCast]
 refine ⟨fun vs M => ∃ R' A c', vs = [.slice A (da p).length c'] ∧ R2.le R' ∧ xj R' A c' (da p) ∧ Hp R' (dw k9 none 0 0 B (cD p).length c lk C (fF p).length d :: dw k3 none 0 0 none 0 0 0 none 0 0 :: dw k1 pa.f p.funcs.length pa.fc pa.c p.eG.length pa.cc p.aL pa.k p.cases.length pa.kc :: L) M, ?_, ?_⟩
 ·refine aR.2 ⟨fun hz => ?_, fun hz => ?_⟩
  ·have ez : da p = [[.zero]] := by unfold da; rw [if_pos (by rw [List.length_take]; omega)]
   rw [ez]
   refine aq h ?_
   clear h
   intro ka M h
   obtain ⟨R3, l3, r3, h3⟩ := ((h.pt ka).lV (E := je) (l := [.zero]) rfl).gE (some ⟨ka, 0, none⟩)
   clear h
   refine aq h3 ?_
   clear h3; intro kb M h
   obtain ⟨R4, l4, r4, h4⟩ := ((h.pt kb).lV (E := zu) (l := [(some ⟨ka, 0, none⟩, 1, 1)]) rfl).gE (some ⟨kb, 0, none⟩)
   clear h
   refine ⟨R4, _, _, rfl, Mem.le_trans l3 l4, ⟨_, r4, rfl, fun i t f a b => ?_⟩, h4⟩
   match i, a, b with
   | 0, a, b => cases a; cases b; exact ⟨rfl, by simp, by simp, fun _ => r3.le l4⟩
   | i + 1, a, b => simp at a
  ·have ez : da p = p.funcs.take 5 := by unfold da; rw [if_neg (by rw [List.length_take]; omega)]
   have hf : xj R pa.f pa.fc p.funcs := ha.funcs (by omega)
   rw [ez]
   refine ⟨R2, _, _, by rw [List.length_take], Mem.le_refl _, (hf.cut 5).le kT, h⟩
 clear h
 rintro nn A' n' c' M ⟨R3, A, cA, he, l3, Z7, h⟩
 simp only [List.cons.injEq, Value.slice.injEq, and_true] at he
 obtain ⟨rfl, rfl, rfl⟩ := he
 clear nn e5
 replace rC := rC.le l3
 replace rB := rB.le l3
 have PK : R.le R3 := Mem.le_trans kT l3
 clear l3 kT
 have hfl := wF p
 refine h.xP (E := zu) (a := (none, 0, 0)) Wy (by omega) ?_
 clear h; intro q M h
 refine bk ?_
 refine au h ?_
 clear h
 intro M h
 obtain ⟨ts, hts1, hts2, hts3⟩ := Z7
 refine ⟨fun dd vs M => ∃ (j : Nat) (R4 : Mem) (us : List (Option Addr × Nat × Nat)), vs = [.int .i64 (j : Int)] ∧ dd = (da p).length - j ∧ j ≤ (da p).length ∧ R3.le R4 ∧ us.length = (da p).length ∧ (∀ (i : Nat) t f, i < j → us[i]? = some t → (da p)[i]? = some f → RS je R4 t.1 t.2.2 (tI p f) ∧ t.2.1 = (tI p f).length) ∧
  Hp R4 (bR zu 61 (some ⟨q, 0, none⟩) (da p).length us :: dw k9 (some ⟨q, 0, none⟩) (da p).length (da p).length B (cD p).length c lk C (fF p).length d :: dw k3 none 0 0 none 0 0 0 none 0 0 :: dw k1 pa.f p.funcs.length pa.fc pa.c p.eG.length pa.cc p.aL pa.k p.cases.length pa.kc :: L) M,
  ⟨_, 0, R3, List.replicate (da p).length (none, 0, 0), rfl, rfl, by omega, Mem.le_refl _, by simp, fun i t f hi => absurd hi (by omega), h.sub bD⟩, ?_⟩
 clear h
 rintro dd _ nn M ⟨j, R4, us, he, hd, hj, l4, Tc, Fw, h⟩
 simp only [List.cons.injEq, Value.int.injEq, and_true, true_and] at he
 subst he
 refine aM.2 ⟨fun hlt => ?_, fun hge => ?_⟩
 ·obtain ⟨t, ht⟩ := aP (l := ts) (i := j) (by omega)
  obtain ⟨f, hf⟩ := aP (l := da p) (i := j) (by omega)
  obtain ⟨u1, u2, u3, u4⟩ := hts3 j t f ht hf
  obtain ⟨tA, tn, tc⟩ := t
  dsimp only at u1 u3 u4
  subst u1
  have HR := hts1.le l4
  obtain ⟨b, o, hb⟩ := HR.some (by omega) (by decide)
  rw [hb] at HR
  rw [hb]
  refine ⟨by omega, hlt, bp ?_⟩
  refine Gi (Src.at HR.src h (i := j) (j := 0) ht rfl (by simp [zu])) ?_
  dsimp only
  have e20 : Int.toNat (if (20 : Int) < ((f.length : Nat) : Int) then 20 else ((f.length : Nat) : Int)) - 0 = min 20 f.length := by split <;> omega
  refine ⟨by omega, by omega, by split <;> omega, by split <;> omega, by omega, by split <;> omega, ?_⟩
  simp only [e20, Int.toNat_natCast]
  refine ⟨fun vs M => ∃ R' A c', vs = [.slice A (gB f).length c'] ∧ R4.le R' ∧ RS je R' A c' (gB f) ∧ Hp R' (bR zu 61 (some ⟨q, 0, none⟩) (da p).length us :: dw k9 (some ⟨q, 0, none⟩) (da p).length (da p).length B (cD p).length c lk C (fF p).length d :: dw k3 none 0 0 none 0 0 0 none 0 0 :: dw k1 pa.f p.funcs.length pa.fc pa.c p.eG.length pa.cc p.aL pa.k p.cases.length pa.kc :: L) M, ?_, ?_⟩
  ·refine aR.2 ⟨fun hz => ?_, fun hz => ?_⟩
   ·have ez : gB f = [.zero] := by unfold gB; rw [if_pos (by rw [List.length_take]; omega)]
    rw [ez]
    refine aq h ?_
    clear h
    intro ka M h
    obtain ⟨R5, l5, r5, h5⟩ := ((h.pt ka).lV (E := je) (l := [.zero]) rfl).gE (some ⟨ka, 0, none⟩)
    clear h
    exact ⟨R5, _, _, rfl, l5, r5, h5⟩
   ·have ez : gB f = f.take 20 := by unfold gB; rw [if_neg (by rw [List.length_take]; omega)]
    rw [ez]
    refine ⟨R4, _, _, by rw [List.length_take]; rfl, Mem.le_refl _, RS.le (RS.cut (E := je) (u4 (by omega)) 20) l4, h⟩
  clear h
  rintro nn RU Az Z8 M ⟨R5, F, cF, he, l5, hF, h⟩
  simp only [List.cons.injEq, Value.slice.injEq, and_true] at he
  obtain ⟨rfl, rfl, rfl⟩ := he
  clear nn e20
  have h5 := Ct f
  refine aq h ?_
  clear h
  intro kr M h
  have h0 := (h.pt kr).lV (E := je) (l := []) rfl
  clear h
  refine ⟨fun dd vs M => ∃ (i : Nat) (A : Option Addr) (c' : Nat), vs = [.slice A i c', .int .i64 (i : Int)] ∧ dd = (gB f).length - i ∧ i ≤ (gB f).length ∧ Hp R5 (bR je 63 A c' (((gB f).take i).map (xh (da p).length (cD p).length (fF p).length lk (gB f).length)) :: bR zu 61 (some ⟨q, 0, none⟩) (da p).length us :: dw k9 (some ⟨q, 0, none⟩) (da p).length (da p).length B (cD p).length c lk C (fF p).length d :: dw k3 none 0 0 none 0 0 0 none 0 0 :: dw k1 pa.f p.funcs.length pa.fc pa.c p.eG.length pa.cc p.aL pa.k p.cases.length pa.kc :: L) M,
   ⟨_, 0, _, _, rfl, rfl, by omega, h0⟩, ?_⟩
  clear h0
  rintro dd _ RU Az Z8 nn M ⟨i, A2, c2, he, Rr, hi, h⟩
  simp only [List.cons.injEq, Value.int.injEq, Value.slice.injEq, and_true, true_and] at he
  obtain ⟨⟨rfl, rfl, rfl⟩, rfl⟩ := he
  have hlen : (((gB f).take Az).map (xh (da p).length (cD p).length (fF p).length lk (gB f).length)).length = Az := by rw [List.length_map, List.length_take]; omega
  refine aM.2 ⟨fun HA => ?_, fun Wf => ?_⟩
  ·obtain ⟨x, hx⟩ := aP (l := gB f) (i := Az) (by omega)
   obtain ⟨b', o', hb'⟩ := hF.some (by omega) (by decide)
   rw [hb'] at hF
   rw [hb']
   refine ⟨by omega, HA, bp ?_⟩
   refine aZ (Src.at hF.src h (i := Az) (j := 0) hx rfl (by simp [je])) ?_
   refine aZ (Src.at hF.src h (i := Az) (j := 1) hx rfl (by simp [je]; omega)) ?_
   refine aZ (Src.at hF.src h (i := Az) (j := 2) hx rfl (by simp [je]; omega)) ?_
   refine aZ (Src.at hF.src h (i := Az) (j := 3) hx rfl (by simp [je]; omega)) ?_
   repeat (first|(refine aq h ?_;clear h;intro kb M h)|(refine au h ?_;clear h;intro M h)|refine St.to h ?_|(apply Exists.intro;(repeat apply Exists.intro);refine And.intro rfl ?_)|refine av ?_|refine ae ?_|refine ai ?_)
   refine RP h (by omega) ?_
   clear h; intro M h
   refine ⟨_, _, _, _, rfl, ?_⟩
   refine aq h ?_
   clear h
   intro kz M h
   refine h.gS (A := RU) RQ [xh (da p).length (cD p).length (fF p).length lk (gB f).length x] rfl hlen.symm rfl (by simp; omega) ?_
   clear h; intro A3 c3 M h
   refine bk ⟨(gB f).length - (Az + 1), by omega, Az + 1, A3, c3, ?_, rfl, by omega, ?_⟩
   ·rw [aV (by omega)]
   ·rw [take_succ hx, List.map_append]
    exact h.sub bD
  ·have hin : Az = (gB f).length := by omega
   subst hin
   rw [List.take_of_length_le (Nat.le_refl _)] at h
   obtain ⟨R6, l6, r6, h6⟩ := h.gE RU
   clear h
   refine aS h6 ⟨by omega, by omega, bp ?_⟩
   obtain ⟨u, hu⟩ := aP (l := us) (i := j) (by omega)
   refine gH (a' := (RU, (gB f).length, Z8)) j 0 h6 hu (by decide) rfl (by simp [zu]) ?_
   clear h6; intro M h
   refine ⟨(da p).length - (j + 1), by omega, j + 1, R6, _, by rw [aV (by omega)], rfl, by omega, Mem.le_trans l4 (Mem.le_trans l5 l6), ?_, ?_, h.sub bD⟩
   ·simp [Tc]
   ·intro i t' f' hi' ht' FZ
    by_cases hij : i = j
    ·subst hij
     rw [List.getElem?_set_self (by omega)] at ht'
     cases ht'
     rw [hf] at FZ
     cases FZ
     subst hlk
     exact ⟨r6, by simp [tI]⟩
    ·rw [List.getElem?_set_ne (by omega)] at ht'
     obtain ⟨g1, g2⟩ := Fw i t' f' (by omega) ht' FZ
     exact ⟨g1.le (Mem.le_trans l5 l6), g2⟩
 ·have h5 : Hp R4 (dw k9 (some ⟨q, 0, none⟩) (da p).length (da p).length B (cD p).length c lk C (fF p).length d :: dw k3 none 0 0 none 0 0 0 none 0 0 :: bR zu 61 (some ⟨q, 0, none⟩) (da p).length us :: L) M := h.sub bD
  clear h
  replace h := h5
  clear h5
  repeat (first|(refine aq h ?_;clear h;intro kb M h)|(refine au h ?_;clear h;intro M h)|refine St.to h ?_|(apply Exists.intro;(repeat apply Exists.intro);refine And.intro rfl ?_)|refine av ?_|refine ae ?_|refine ai ?_)
  subst hlk
  have ef : (fG p).funcs.length = (da p).length := by simp [fG]
  have hk := k R4 ⟨some ⟨q, 0, none⟩, (da p).length, B, c, C, d⟩ q us M (Mem.le_trans PK l4) rfl (by rw [Tc, ef]) (fun i t f a b => ?_) (rC.le l4) (rB.le l4) (h.sub bD)
  ·rw [DB, ef] at hk
   exact hk
  ·have b' : ((da p).map (tI p))[i]? = some f := b
   rw [List.getElem?_map] at b'
   obtain ⟨f0, b1, rfl⟩ := Option.map_eq_some_iff.1 b'
   exact Fw i t f0 (by have := (List.getElem?_eq_some_iff.1 b1).1; omega) a b1
theorem Pm (h : Hp R L M) (ha : tH R pa p) (k : ∀ R' Fv M', R.le R' → oM R' Fv (fG p) → RS bB R' Fv.c Fv.cc (fG p).eG → Hp R' L M' → K (DB Fv (fG p)) M') :
  aa Tryz.prog 24 #[DB pa p] M K Kp := by
 refine Lo h ha ?_
 clear h; intro R1 pa1 q us M l1 e Tc hd rC rB h
 obtain ⟨R2, l2, r2, h2⟩ := h.gE (some ⟨q, 0, none⟩)
 refine k R2 pa1 M (Mem.le_trans l1 l2) ⟨⟨us, by rw [e]; exact r2, Tc, fun i t f a b => ?_⟩, rC.le l2⟩ (rB.le l2) h2
 obtain ⟨g1, g2⟩ := hd i t f a b
 exact ⟨g1.le l2, g2⟩
end
theorem RV : bn Tryz.prog 28 27 4 32 [.int .i64 0, .int .i64 0, .int .i64 0, .int .i64 0] := bn.mk' (zv := .agg #[.int .i64 0, .int .i64 0, .int .i64 0, .int .i64 0]) (by kernel_rfl) (by kernel_rfl) rfl (by omega)
theorem RW : bn Tryz.prog 37 165 3 24 [.int .i64 0, .int .i64 0, .int .i64 0] := bn.mk' (zv := .agg #[.int .i64 0, .int .i64 0, .int .i64 0]) (by kernel_rfl) (by kernel_rfl) rfl (by omega)
theorem Wz : bn Tryz.prog 35 28 1 24 [.slice none 0 0] := bn.mk' (zv := .slice none 0 0) (by kernel_rfl) (by kernel_rfl) rfl (by omega)
theorem HS {A : Option Addr} {b o : Nat} {G : Nat → Nat → Prop} (e : A = some ⟨b, o, none⟩) (g : G b o) : aF A G := by subst e; exact bp g
abbrev Bk (k : Nat) (A : Option Addr) (n c : Nat) (B : Option Addr) (m d : Nat) (lk : Int) (C : Option Addr) (q e : Nat) : HP := pt k (Z6 A n c B m d lk C q e) 39
section
variable {R : Mem} {L L' : List HP} {M : Mem} {K : Value → Mem → Prop} {Kp : List PanicEntry → Mem → Prop} {pa : PA} {p : b7}
theorem RX (h : Hp R L M) (ha : oM R pa p) (hc : RS bB R pa.c pa.cc p.eG) (hp : dn p) (hfn : p.funcs.length ≤ 1000000) (k : ∀ R' Fv M', R.le R' → oM R' Fv p → RS bB R' Fv.c Fv.cc p.eG → Hp R' L M' → K (DB Fv p) M') :
  aa Tryz.prog 25 #[DB pa p] M K Kp := by
 refine rX ?_
 have p1 := hp.ch
 have p2 := hp.cs
 obtain ⟨ts, t1, t2, t3⟩ := ha.funcs
 have t4 := t1.2
 refine aq h ?_
 clear h
 intro k1 M h
 refine aq h ?_
 clear h
 intro k3 M h
 refine aS h (aI h ?_)
 refine aq h ?_
 clear h
 intro k9 M h
 refine ⟨trivial, ?_⟩
 refine h.j5 bB pG p.eG hc.src rfl (by omega) ?_
 clear h; intro B c M h
 refine bk ⟨bM h, ?_⟩
 refine aq h ?_
 clear h
 intro fH M h
 repeat (refine au h ?_; clear h; intro M h)
 refine ⟨bM h, aS h ?_⟩
 obtain ⟨R1, l1, rB, h1⟩ := h.gE B
 clear h
 have h0 : Hp R1 (bR zu 28 none 0 [] :: Bk fH none 0 0 B p.eG.length c p.aL none 0 0 :: Bk k3 none 0 0 none 0 0 0 none 0 0 :: dw k1 pa.f p.funcs.length pa.fc pa.c p.eG.length pa.cc p.aL pa.k p.cases.length pa.kc :: L) M := (h1.cC zu _).sub bD
 clear h1
 refine ⟨fun dd vs M => ∃ (j : Nat) (R2 : Mem) (A : Option Addr) (cA : Nat) (us : List (Option Addr × Nat × Nat)), vs = [.int .i64 (j : Int)] ∧ dd = p.funcs.length - j ∧ j ≤ p.funcs.length ∧ R1.le R2 ∧ us.length = j ∧ (∀ (i : Nat) t f, us[i]? = some t → p.funcs[i]? = some f → RS je R2 t.1 t.2.2 f ∧ t.2.1 = f.length) ∧
  Hp R2 (bR zu 28 A cA us :: Bk fH A j cA B p.eG.length c p.aL none 0 0 :: Bk k3 none 0 0 none 0 0 0 none 0 0 :: dw k1 pa.f p.funcs.length pa.fc pa.c p.eG.length pa.cc p.aL pa.k p.cases.length pa.kc :: L) M,
  ⟨_, 0, R1, none, 0, [], rfl, rfl, by omega, Mem.le_refl _, rfl, fun i t f a => by simp at a, h0⟩, ?_⟩
 clear h0
 rintro dd _ nn M ⟨j, R2, A, cA, us, he, hd, hj, l2, Tc, Fw, h⟩
 simp only [List.cons.injEq, Value.int.injEq, and_true, true_and] at he
 subst he
 refine aM.2 ⟨fun hlt => ?_, fun hge => ?_⟩
 ·obtain ⟨t, ht⟩ := aP (l := ts) (i := j) (by omega)
  obtain ⟨f, hf⟩ := aP (l := p.funcs) (i := j) (by omega)
  obtain ⟨u1, u2⟩ := t3 j t f ht hf
  have hfl := (hp.code f (List.mem_of_getElem? hf)).2.1
  obtain ⟨tA, tn, tc⟩ := t
  dsimp only at u1 u2
  subst u2
  have HR := t1.le (Mem.le_trans l1 l2)
  obtain ⟨b, o, hb⟩ := HR.some (by omega) (by decide)
  rw [hb] at HR
  refine ⟨by omega, hlt, HS hb ?_⟩
  refine Gi (Src.at HR.src h (i := j) (j := 0) ht rfl (by simp [zu])) ?_
  dsimp only
  have hF := u1.le (Mem.le_trans l1 l2)
  refine aq h ?_
  clear h
  intro kr M h
  have h0 := (h.pt kr).lV (E := je) (l := []) rfl
  clear h
  refine ⟨fun dd vs M => ∃ (i : Nat) (A2 : Option Addr) (c' : Nat), vs = [.slice A2 i c', .int .i64 (i : Int)] ∧ dd = f.length - i ∧ i ≤ f.length ∧ Hp R2 (bR je 27 A2 c' (f.take i) :: bR zu 28 A cA us :: Bk fH A j cA B p.eG.length c p.aL none 0 0 :: Bk k3 none 0 0 none 0 0 0 none 0 0 :: dw k1 pa.f p.funcs.length pa.fc pa.c p.eG.length pa.cc p.aL pa.k p.cases.length pa.kc :: L) M,
   ⟨_, 0, _, _, rfl, rfl, by omega, h0⟩, ?_⟩
  clear h0
  rintro dd _ RU Az Z8 nn M ⟨i, A2, c2, he, Rr, hi, h⟩
  simp only [List.cons.injEq, Value.int.injEq, Value.slice.injEq, and_true, true_and] at he
  obtain ⟨⟨rfl, rfl, rfl⟩, rfl⟩ := he
  have hlen : (f.take Az).length = Az := by rw [List.length_take]; omega
  refine aM.2 ⟨fun HA => ?_, fun Wf => ?_⟩
  ·obtain ⟨x, hx⟩ := aP (l := f) (i := Az) (by omega)
   obtain ⟨b', o', hb'⟩ := hF.some (by omega) (by decide)
   rw [hb'] at hF
   refine ⟨by omega, HA, HS hb' ?_⟩
   refine aZ (Src.at hF.src h (i := Az) (j := 0) hx rfl (by simp [je])) ?_
   refine aZ (Src.at hF.src h (i := Az) (j := 1) hx rfl (by simp [je]; omega)) ?_
   refine aZ (Src.at hF.src h (i := Az) (j := 2) hx rfl (by simp [je]; omega)) ?_
   refine aZ (Src.at hF.src h (i := Az) (j := 3) hx rfl (by simp [je]; omega)) ?_
   repeat (first|(refine aq h ?_;clear h;intro kb M h)|(refine au h ?_;clear h;intro M h)|refine St.to h ?_|(apply Exists.intro;(repeat apply Exists.intro);refine And.intro rfl ?_)|refine av ?_|refine ae ?_|refine ai ?_)
   refine h.gS (A := RU) RV [x] rfl hlen.symm rfl (by simp; omega) ?_
   clear h; intro A3 c3 M h
   refine bk ⟨f.length - (Az + 1), by omega, Az + 1, A3, c3, ?_, rfl, by omega, ?_⟩
   ·rw [aV (by omega)]
   ·rw [take_succ hx]
    exact h.sub bD
  ·have hin : Az = f.length := by omega
   subst hin
   rw [List.take_of_length_le (Nat.le_refl _)] at h
   obtain ⟨R6, l6, r6, h6⟩ := h.gE RU
   clear h
   refine aS h6 ?_
   refine aq h6 ?_
   clear h6; intro kz M h
   refine h.gS (A := A) Wz [(RU, f.length, Z8)] rfl Tc.symm rfl (by simp; omega) ?_
   clear h; intro A3 c3 M h
   refine bk ?_
   refine au h ?_
   clear h
   intro M h
   refine ⟨p.funcs.length - (j + 1), by omega, j + 1, R6, A3, c3, us ++ [(RU, f.length, Z8)], by rw [aV (by omega)], rfl, by omega, Mem.le_trans l2 l6, by simp [Tc], ?_, h.sub bD⟩
   intro i t' f' ht' FZ
   rcases Nat.lt_or_ge i us.length with hi' | hi'
   ·rw [List.getElem?_append_left hi'] at ht'
    obtain ⟨g1, g2⟩ := Fw i t' f' ht' FZ
    exact ⟨g1.le l6, g2⟩
   ·rw [List.getElem?_append_right hi'] at ht'
    have hi0 : i - us.length = 0 := by
     rcases Nat.eq_zero_or_pos (i - us.length) with e | e
     ·exact e
     ·rw [List.getElem?_eq_none (by simp; omega)] at ht'; cases ht'
    rw [hi0] at ht'
    cases ht'
    have : i = j := by omega
    subst this
    rw [hf] at FZ
    cases FZ
    exact ⟨r6, rfl⟩
 ·have Lu : j = p.funcs.length := by omega
  subst Lu
  obtain ⟨R3, l3, rA, h3⟩ := h.gE A
  clear h
  refine aS h3 ?_
  have h0 : Hp R3 (bR g6 165 none 0 [] :: Bk fH A p.funcs.length cA B p.eG.length c p.aL none 0 0 :: Bk k3 none 0 0 none 0 0 0 none 0 0 :: dw k1 pa.f p.funcs.length pa.fc pa.c p.eG.length pa.cc p.aL pa.k p.cases.length pa.kc :: L) M := h3.cC g6 _
  clear h3
  have Z9 := Mem.le_trans l1 (Mem.le_trans l2 l3)
  have hk := ha.cases.le Z9
  refine ⟨fun dd vs M => ∃ (i : Nat) (A2 : Option Addr) (c' : Nat), vs = [.int .i64 (i : Int)] ∧ dd = p.cases.length - i ∧ i ≤ p.cases.length ∧ Hp R3 (bR g6 165 A2 c' (p.cases.take i) :: Bk fH A p.funcs.length cA B p.eG.length c p.aL A2 i c' :: Bk k3 none 0 0 none 0 0 0 none 0 0 :: dw k1 pa.f p.funcs.length pa.fc pa.c p.eG.length pa.cc p.aL pa.k p.cases.length pa.kc :: L) M,
   ⟨_, 0, none, 0, rfl, rfl, by omega, h0⟩, ?_⟩
  clear h0
  rintro dd _ nn M ⟨i, A2, c2, he, Rr, hi, h⟩
  simp only [List.cons.injEq, Value.int.injEq, and_true, true_and] at he
  subst he
  have hlen : (p.cases.take i).length = i := by rw [List.length_take]; omega
  refine aM.2 ⟨fun HA => ?_, fun Wf => ?_⟩
  ·obtain ⟨x, hx⟩ := aP (l := p.cases) (i := i) (by omega)
   obtain ⟨b', o', hb'⟩ := hk.some (by omega) (by decide)
   rw [hb'] at hk
   refine ⟨by omega, HA, HS hb' ?_⟩
   refine aZ (Src.at hk.src h (i := i) (j := 0) hx rfl (by simp [g6])) ?_
   refine aZ (Src.at hk.src h (i := i) (j := 1) hx rfl (by simp [g6]; omega)) ?_
   refine aZ (Src.at hk.src h (i := i) (j := 2) hx rfl (by simp [g6]; omega)) ?_
   repeat (first|(refine aq h ?_;clear h;intro kb M h)|(refine au h ?_;clear h;intro M h)|refine St.to h ?_|(apply Exists.intro;(repeat apply Exists.intro);refine And.intro rfl ?_)|refine av ?_|refine ae ?_|refine ai ?_)
   refine h.gS (A := A2) RW [x] rfl hlen.symm rfl (by simp; omega) ?_
   clear h; intro A3 c3 M h
   refine bk ?_
   refine au h ?_
   clear h
   intro M h
   refine ⟨p.cases.length - (i + 1), by omega, i + 1, A3, c3, ?_, rfl, by omega, ?_⟩
   ·rw [aV (by omega)]
   ·rw [take_succ hx]
    exact h.sub bD
  ·have hin : i = p.cases.length := by omega
   subst hin
   rw [List.take_of_length_le (Nat.le_refl _)] at h
   obtain ⟨R6, l6, r6, h6⟩ := h.gE A2
   clear h
   replace h := h6
   clear h6
   repeat (first|(refine aq h ?_;clear h;intro kb M h)|(refine au h ?_;clear h;intro M h)|refine St.to h ?_|(apply Exists.intro;(repeat apply Exists.intro);refine And.intro rfl ?_)|refine av ?_|refine ae ?_|refine ai ?_)
   have l16 := Mem.le_trans Z9 l6
   refine k R6 ⟨A, cA, B, c, A2, c2⟩ _ l16 ⟨⟨us, rA.le l6, Tc, fun i t f a b => ?_⟩, r6⟩ (rB.le (Mem.le_trans l2 (Mem.le_trans l3 l6))) (h.sub bD)
   obtain ⟨g1, g2⟩ := Fw i t f a b
   exact ⟨g1.le (Mem.le_trans l3 l6), g2⟩
end
def PR : jE := ⟨⟨[(0, -1, 0)], 1⟩, 0⟩
def jE.fin (c : jE) (y : Sc) : jE := (List.range y.w.gs.length).foldl (fun (c : jE) (g : Nat) => c.wait (g : Int) (IntKind.wrap .i64 (y.steps - 1))) c
section
variable {R : Mem} {L L' L2 : List HP} {M : Mem} {K : Value → Mem → Prop} {Kp : List PanicEntry → Mem → Prop} {pa : PA} {p : b7} {b cb wb db : Nat} {x x0 y : Sc} {c c0 : jE} {g now : Int}
theorem Pn {N : Nat} {e : Ev} (hs : SV p N x) (hp : dn p) (hst : x.status = 0) (hy : x.step p = some (y, .ev e)) (hk : e.kind = 7) : 0 ≤ e.g ∧ e.g < y.w.gs.length := by
 have hw := (tG hs hp hy hst).1
 unfold Sc.step at hy
 split at hy
 ·rw [if_neg (by rw [hst]; decide)] at hy
  split at hy
  ·cases hy
  ·rename_i d' k jM
   unfold Sc.act at hy
   split at hy
   ·split at hy
    ·simp only [Option.map_some, Option.some.injEq, hJ, Prod.mk.injEq, gW.ev.injEq] at hy
     rw [← hy.2] at hk; cases hk
    ·cases hy
   ·have fw : ∀ (z : Sc) (i kind g : Int) (t : Bool), (z.be k i kind g t).2.kind = kind ∨ (z.be k i kind g t).2.kind = 6 := fun z i kind g t => by
     unfold Sc.be; split
     ·exact .inl rfl
     ·exact .inr rfl
    have n7 : ∀ (z : Sc) (i kind g : Int) (t : Bool), kind = 4 ∨ kind = 5 → (z.be k i kind g t).2.kind ≠ 7 := fun z i kind g t h => by
     have := fw z i kind g t; omega
    split at hy
    ·simp only [Option.map_some, Option.some.injEq, hJ, Prod.mk.injEq, gW.ev.injEq] at hy
     rw [← hy.2] at hk
     unfold Sc.hold at hk
     split at hk <;> cases hk
    ·split at hy
     ·split at hy
      ·have hf : ∀ e, (Sc.find { x with d := d' } k).2 = .ev e → e.kind ≠ 7 := by
        unfold Sc.find
        dsimp only
        split
        ·intro e he; cases he; dsimp only; omega
        ·split
         ·split
          ·intro e he; cases he
          ·split
           ·intro e he; cases he; exact n7 _ _ _ _ _ (.inr rfl)
           ·intro e he; cases he; exact n7 _ _ _ _ _ (.inr rfl)
         ·intro e he; cases he; exact n7 _ _ _ _ _ (.inl rfl)
       generalize Sc.find { x with d := d' } k = r at hy hf
       obtain ⟨z, o⟩ := r
       cases o with
       | cT l => simp [hJ] at hy
       | ev e2 =>
        simp only [Option.map_some, Option.some.injEq, hJ, Prod.mk.injEq, gW.ev.injEq] at hy
        rw [← hy.2] at hk
        exact absurd hk (hf _ rfl)
      ·cases hy
     ·rename_i PN
      generalize Cp : Sc.run p { x with d := d' } k = r at hy
      cases r with
      | none => cases hy
      | some r =>
       obtain ⟨z, o⟩ := r
       cases o with
       | cT l => simp [hJ] at hy
       | ev e2 =>
        simp only [Option.map_some, Option.some.injEq, hJ, Prod.mk.injEq, gW.ev.injEq] at hy
        obtain ⟨_, _, _, _, _, _, q2⟩ := run_shape Cp
        have hpre : wv p { x with d := d' } k := by
         unfold Sc.run at Cp
         split at Cp
         ·rename_i h; exact h
         ·cases Cp
        have h9 : 0 ≤ (ax x k).g := hpre.2.2.2.2.2.2.2.2
        have Fo := hs.mg (List.mem_of_getElem? (gA (x := x) hpre.1 hpre.2.1)) h9
        rw [← hy.2, q2]
        have := Fo.2.1
        exact ⟨h9, by omega⟩
 ·cases hy
theorem DC {k5 iq jS : Nat} {most : Int} (hp : oM R pa p) (hok : dn p) (h0 : SV p 0 x0) (hm : most ≤ 999999) :
  Dr R (az (eU pa p wb db) b x0 :: az kX cb c0 :: pt k5 [.int .i64 most] 3 :: pt iq [.pointer (some ⟨b, 0, none⟩)] 33 :: pt jS [.pointer (some ⟨cb, 0, none⟩)] 169 :: L)
   (.func (.func 71) #[] #[.pointer (some ⟨k5, 0, none⟩), .pointer (some ⟨iq, 0, none⟩), .pointer (some ⟨jS, 0, none⟩)])
   (fun R' L2 => R.le R' ∧ ∃ y c, Ad p x0 c0 most.toNat y c ∧ L2 = az (eU pa p wb db) b y :: az kX cb c :: pt k5 [.int .i64 most] 3 :: pt iq [.pointer (some ⟨b, 0, none⟩)] 33 :: pt jS [.pointer (some ⟨cb, 0, none⟩)] 169 :: L)
   (fun R' l L2 => R.le R' ∧ (∃ e vs, oO l e vs) ∧ ∃ y c, Ad p x0 c0 most.toNat y c ∧ L2 = az (eU pa p wb db) b y :: az kX cb c :: pt k5 [.int .i64 most] 3 :: pt iq [.pointer (some ⟨b, 0, none⟩)] 33 :: pt jS [.pointer (some ⟨cb, 0, none⟩)] 169 :: L) := by
 intro Q M K Kp h kk kd
 refine KC (args := []) ⟨by decide, by show _ < 255; decide⟩ ?_
 refine xE ?_
 refine aI h ?_
 have e0 : (if (0 : Int) > most then 0 else most) = ((most.toNat : Nat) : Int) := by split <;> omega
 rw [e0]
 have hm' : most.toNat ≤ 999999 := by omega
 have key : ∀ (R' : Mem) (M' : Mem), R.le R' → ∀ y c, Ad p x0 c0 most.toNat y c → Hp R' (Q :: az (eU pa p wb db) b y :: az kX cb c :: pt k5 [.int .i64 most] 3 :: pt iq [.pointer (some ⟨b, 0, none⟩)] 33 :: pt jS [.pointer (some ⟨cb, 0, none⟩)] 169 :: L) M' → K (.tuple #[]) M' := fun R' M' hle y c hw h => kk R' _ M' ⟨hle, y, c, hw, rfl⟩ h
 refine ⟨fun dd vs M' => ∃ (j : Nat) (x : Sc) (c : jE) (R' : Mem), vs = [.int .i64 (j : Int)] ∧ dd = most.toNat - j ∧ j ≤ most.toNat ∧ R.le R' ∧ WR p x0 c0 j x c ∧ Hp R' (Q :: az (eU pa p wb db) b x :: az kX cb c :: pt k5 [.int .i64 most] 3 :: pt iq [.pointer (some ⟨b, 0, none⟩)] 33 :: pt jS [.pointer (some ⟨cb, 0, none⟩)] 169 :: L) M', ⟨_, 0, x0, c0, R, rfl, rfl, by omega, Mem.le_refl _, .zero, h⟩, ?_⟩
 clear h
 rintro dd _ nn M8 ⟨j, x, c, R3, he, hd, hj, Fx, hw, h⟩
 simp only [List.cons.injEq, Value.int.injEq, and_true, true_and] at he
 subst he
 have hv := hw.sv h0 hok (by omega)
 refine aM.2 ⟨fun hlt => ?_, fun hge => key R3 M8 Fx x c (.O4 hw hj) h⟩
 refine kO h ?_
 have xl := hv.w.n2
 refine u5 (b := b) h (by omega) (cG ?_)
 refine eJ.2 ⟨fun _ => key R3 M8 Fx x c (.O4 hw hj) h, fun hst => ?_⟩
 have hst : x.status = 0 := by simpa using hst
 refine kO h (kO h (kO h ?_))
 obtain ⟨y, o, hstep, Ls⟩ := hv.step hok (by omega)
 refine HH (b := b) h (hp.le Fx) hv.k hstep ?_
 cases o with
 | cT l =>
  intro M9 h9
  exact kd R3 l _ M9 ⟨Fx, OK hstep, y, c, .cT hw (by omega) hst hstep, rfl⟩ (h9.sub bD)
 | ev e =>
  intro R4 A4 c4 M9 hle4 yb h9
  clear h
  have h := h9
  clear h9
  refine ⟨_, _, _, _, _, _, rfl, bM h, bM h, ?_⟩
  have h2 : Hp R4 (az (eU pa p wb db) b y :: az kX cb c :: Q :: pt k5 [.int .i64 most] 3 :: pt iq [.pointer (some ⟨b, 0, none⟩)] 33 :: pt jS [.pointer (some ⟨cb, 0, none⟩)] 169 :: L) M9 := h.sub bD
  clear h
  refine Ld h2 yb (Fs hstep) (fun hk => Pn hv hok hst hstep hk) ?_
  clear h2
  intro M h
  refine ⟨rfl, bM h, bM h, ?_⟩
  exact ⟨most.toNat - (j + 1), by omega, j + 1, y, c.step e y, R4, by rw [aV (by omega)], rfl, by omega, Mem.le_trans Fx hle4, .succ hw hst hstep, h.sub bD⟩
theorem Ad.sv {most : Nat} (h : Ad p x0 c0 most y c) (h0 : SV p 0 x0) (hp : dn p) (hm : most ≤ 999999) : ∃ N, N ≤ most ∧ SV p (N + 1) y := by
 cases h with
 | O4 hw hj => exact ⟨_, hj, (hw.sv h0 hp (by omega)).mono (by omega)⟩
 | cT hw hj hst Po =>
  obtain ⟨y', o, h1, h2⟩ := (hw.sv h0 hp (by omega)).step hp (by omega)
  rw [Po] at h1
  cases h1
  exact ⟨_, by omega, h2⟩
theorem Pp (h : Hp R L M) [q : qg b L pa p wb db x L'] (ht : x.d.taken.length ≤ 100000000) (k : ∀ A c M', Hp R (me A c x.d.taken :: az (eU pa p wb db) b x :: L') M' → K (.slice A x.d.taken.length c) M') :
  aa Tryz.prog 76 #[.pointer (some ⟨db, 0, none⟩)] M K Kp := by
 have h' := fj h (b := b)
 clear h
 obtain ⟨a, hla, h⟩ := h'
 refine Dp (KY := .nilFunc) (b := db) h ht ?_
 clear h; intro A c M h
 have h2 : Hp R (gI (dQ b wb db a x) x.gl :: az (bI pa p) wb x.w :: az (cK .nilFunc) db x.d :: iP a x (me A c x.d.taken :: L')) M := h.sub bD
 exact k A c M ((hH hla h2).sub bD)
theorem HT {cf : OB} {B : Option Addr} {m cB : Nat} {l : List Int} {most : Int} (h : Hp R L M) (hp : oM R pa p) (xZ : RS bB R pa.c pa.cc p.eG) (hok : dn p) (hP : 1 ≤ cf.P ∧ cf.P ≤ 64) (hM : 1 ≤ cf.M ∧ cf.M ≤ 64) (hS : 1 ≤ cf.S ∧ cf.S ≤ 1024)
  (hB : RS Eh R B cB l) (hm : m = l.length) (hl : (gT.lA l 0).Ok) (hll : l.length ≤ 1000000000) (hmost : most ≤ 100000) (hT : ∀ y c, Ad p (Sc.new p cf ⟨.lA l 0, []⟩) PR most.toNat y c → ∀ r ∈ y.d.taken, 0 ≤ r.2)
  (k : ∀ R' y c M', R.le R' → Ad p (Sc.new p cf ⟨.lA l 0, []⟩) PR most.toNat y c → Hp R' L M' → K (.agg #[.int .i64 y.steps, .int .i64 (y.w.gs.length : Int), .int .i64 (sI cf.M.toNat y.d.taken), .int .i64 (c.fin y).bY]) M') :
  aa Tryz.prog 29 #[DB pa p, .agg #[.int .i64 cf.P, .int .i64 cf.M, .int .i64 cf.R, .int .i64 cf.S], .slice B m cB, .int .i64 most] M K Kp := by
 refine AT ?_
 subst hm
 have h0 : SV p 0 (Sc.new p cf ⟨.lA l 0, []⟩) := SV.new hok hP hM hS rfl hl
 refine aq h ?_
 clear h
 intro k1 M h
 refine aq h ?_
 clear h
 intro k3 M h
 refine aq h ?_
 clear h
 intro k5 M h
 refine aq h ?_
 clear h
 intro k7 M h
 refine Be (l := l) h hB.src rfl hll ?_
 clear h; intro db M h
 refine js (aS h (aS h (aI h (aS h (aI h (aI h (aI h (aI h ?_))))))))
 refine K7 (p := p) (pa := pa) (c := cf) h xZ (by have := hok.ch; omega) (by have := hok.lk; omega) (by omega) (by omega) ?_
 clear h; intro b wb M h
 refine js ?_
 refine aq h ?_
 clear h
 intro iq M h
 refine au h ?_
 clear h; intro M h
 refine Mp (o := iX ⟨[], 0⟩) h ?_
 clear h; intro uo M h
 refine Hi (r := uo) h O1 O2 ?_
 clear h; intro M h
 refine aq h ?_
 clear h
 intro cb M h
 refine aq h ?_
 clear h
 intro jS M h
 refine au h ?_
 clear h; intro M h
 have h1 : Hp R (az kX cb PR :: az (eU pa p wb db) b (Sc.new p cf ⟨.lA l 0, []⟩) :: pt k5 [.int .i64 most] 3 :: pt iq [.pointer (some ⟨b, 0, none⟩)] 33 :: pt jS [.pointer (some ⟨cb, 0, none⟩)] 169 :: pt k3 [.int .i64 cf.P, .int .i64 cf.M, .int .i64 cf.R, .int .i64 cf.S] 29 :: pt k7 [.int .i64 0, .int .i64 0, .int .i64 0, .int .i64 0] 70 :: L) M := Aa (r := uo) (h.sub bD)
 clear h
 refine Ds (h1.sub bD) (DC (most := most) (b := b) (wb := wb) (db := db) (cb := cb) (k5 := k5) (iq := iq) (jS := jS) (c0 := PR) hp hok h0 (by omega) (L := pt k3 [.int .i64 cf.P, .int .i64 cf.M, .int .i64 cf.R, .int .i64 cf.S] 29 :: pt k7 [.int .i64 0, .int .i64 0, .int .i64 0, .int .i64 0] 70 :: L)) (fun _ _ _ h => h.2.1) ?_ ?_
 all_goals
  clear h1
  first
   | (rintro R' _ M ⟨hle, y, c, hw, rfl⟩ h)
   | (rintro R' l' _ M e a q n kx xx ⟨hle, _, y, c, hw, rfl⟩ _ h)
  refine ⟨_, _, _, _, _, _, rfl, kO h ?_⟩
  obtain ⟨N, hN, hv⟩ := hw.sv h0 hok (by omega)
  have xl := hv.w.n2
  have hst := hv.st
  have Rp := hv.tk
  have hTy := hT y c hw
  refine qh (b := b) h ?_
  refine js ?_
  refine O3 (b := b) h ?_
  clear h; intro M h
  refine cG ?_
  have h2 : Hp R' (az (eU pa p wb db) b y :: az kX cb c :: pt k5 [.int .i64 most] 3 :: pt iq [.pointer (some ⟨b, 0, none⟩)] 33 :: pt jS [.pointer (some ⟨cb, 0, none⟩)] 169 :: pt k3 [.int .i64 cf.P, .int .i64 cf.M, .int .i64 cf.R, .int .i64 cf.S] 29 :: pt k7 [.int .i64 0, .int .i64 0, .int .i64 0, .int .i64 0] 70 :: L) M := h.sub bD
  clear h
  refine ⟨fun dd vs M' => ∃ j : Nat, vs = [.int .i64 (j : Int)] ∧ dd = y.w.gs.length - j ∧ j ≤ y.w.gs.length ∧ Hp R' (az (eU pa p wb db) b y :: az kX cb ((List.range j).foldl (fun (c : jE) (g : Nat) => c.wait (g : Int) (IntKind.wrap .i64 (y.steps - 1))) c) :: pt k5 [.int .i64 most] 3 :: pt iq [.pointer (some ⟨b, 0, none⟩)] 33 :: pt jS [.pointer (some ⟨cb, 0, none⟩)] 169 :: pt k3 [.int .i64 cf.P, .int .i64 cf.M, .int .i64 cf.R, .int .i64 cf.S] 29 :: pt k7 [.int .i64 0, .int .i64 0, .int .i64 0, .int .i64 0] 70 :: L) M', ⟨_, 0, rfl, rfl, by omega, h2⟩, ?_⟩
  clear h2
  rintro dd _ nn M8 ⟨j, he, hd, hj, h⟩
  simp only [List.cons.injEq, Value.int.injEq, and_true, true_and] at he
  subst he
  refine aM.2 ⟨fun hlt => ?_, fun hge => ?_⟩
  ·refine kO h (kO h ?_)
   refine qi (b := b) h ?_
   refine cG ⟨bM h, ?_⟩
   refine Co (b := cb) h ?_
   clear h; intro M h
   refine ⟨rfl, bM h, y.w.gs.length - (j + 1), by omega, j + 1, by rw [aV (by omega)], rfl, by omega, ?_⟩
   rw [List.range_succ, List.foldl_append]
   exact h.sub bD
  ·obtain rfl : j = y.w.gs.length := by omega
   have k2 := k R' y c
   unfold jE.fin at k2
   generalize (List.range y.w.gs.length).foldl (fun (c : jE) (g : Nat) => c.wait (g : Int) (IntKind.wrap .i64 (y.steps - 1))) c = c2 at h k2
   have h' := vb h (b := cb)
   clear h
   obtain ⟨r2, h⟩ := h'
   refine kO h (kO h (aI h (kO h (bp (aI h ?_)))))
   refine qi (b := b) h ?_
   refine cG ⟨bM h, bM h, bM h, bM h, ?_⟩
   refine qh (b := b) h ?_
   refine js ⟨bM h, bM h, bM h, bM h, ?_⟩
   refine O3 (b := b) h ?_
   clear h; intro M h
   refine cG ⟨bM h, bM h, bM h, bM h, ?_⟩
   refine Pp (b := b) h (by omega) ?_
   clear h; intro A cA M h
   refine bk ⟨bM h, bM h, bM h, bM h, ?_⟩
   refine xd (l := y.d.taken) h (Src.row (A := A)) rfl (by omega) (by omega) hTy ?_
   clear h; intro M h
   refine cG ⟨bM h, bM h, bM h, bM h, ?_⟩
   refine au h ?_
   clear h; intro M h
   refine au h ?_
   clear h; intro M h
   refine au h ?_
   clear h; intro M h
   refine au h ?_
   clear h; intro M h
   refine ⟨bM h, bM h, bM h, bM h, ?_⟩
   refine aI h (aI h (aI h (aI h ?_)))
   exact k2 M hle hw (h.sub bD)
end
def xk (x : Sc) (m : Nat) : Int := (fT x.ms.length x.d.taken).at_ - (fT x.ms.length x.d.taken).last m
theorem Fy {k v k' : Int} {c : Nat} : ∀ {l : SL}, fW (tx l k v c) k' = if k' = k then some v else fW l k'
 | [] => by simp [tx, fW]
 | (a, w, b) :: l => by
  simp only [tx]
  split
  ·rename_i e
   subst e
   simp only [fW]
   split <;> rfl
  ·rename_i e
   simp only [fW, Fy (l := l)]
   by_cases h : k' = a
   ·subst h
    rw [if_pos rfl, if_pos rfl, if_neg (Ne.symm e)]
   ·rw [if_neg h, if_neg h]
theorem Cw {k : Int} : ∀ {l : SL}, k ∉ l.map (·.1) → fW l k = none
 | [], _ => rfl
 | (a, w, b) :: l, h => by
  simp only [List.map_cons, List.mem_cons, not_or] at h
  simp only [fW, if_neg h.1]
  exact Cw h.2
theorem Cy {k : Int} : ∀ {l : SL}, (xF l k).map (·.1) = (l.map (·.1)).erase k
 | [] => rfl
 | (a, w, b) :: l => by
  simp only [xF]
  split
  ·rename_i e; subst e; simp
  ·rename_i e
   simp only [List.map_cons, Cy (l := l)]
   rw [List.erase_cons_tail (by simpa using Ne.symm e)]
theorem Fz {k k' : Int} : ∀ {l : SL}, (l.map (·.1)).Nodup → fW (xF l k) k' = if k' = k then none else fW l k'
 | [], _ => by simp [xF, fW]
 | (a, w, b) :: l, h => by
  simp only [List.map_cons, List.nodup_cons] at h
  simp only [xF]
  split
  ·rename_i e
   subst e
   by_cases h2 : k' = k
   ·subst h2; rw [if_pos rfl]; exact Cw h.1
   ·rw [if_neg h2]; simp only [fW, if_neg h2]
  ·rename_i e
   simp only [fW, Fz (l := l) h.2]
   by_cases h2 : k' = a
   ·subst h2; rw [if_pos rfl, if_pos rfl, if_neg (Ne.symm e)]
   ·rw [if_neg h2, if_neg h2]
theorem Cz {k v : Int} {c : Nat} : ∀ {l : SL}, (l.map (·.1)).Nodup → ((tx l k v c).map (·.1)).Nodup ∧ ∀ a, a ∈ (tx l k v c).map (·.1) → a = k ∨ a ∈ l.map (·.1)
 | [], _ => by simp [tx]
 | (a, w, b) :: l, h => by
  simp only [List.map_cons, List.nodup_cons] at h
  simp only [tx]
  split
  ·rename_i e
   subst e
   simp only [List.map_cons, List.nodup_cons]
   exact ⟨h, fun x hx => .inr hx⟩
  ·rename_i e
   obtain ⟨h1, h2⟩ := Cz (k := k) (v := v) (c := c) h.2
   simp only [List.map_cons, List.nodup_cons]
   refine ⟨⟨fun hm => ?_, h1⟩, fun x hx => ?_⟩
   ·rcases h2 a hm with e2 | e2
    ·exact e e2.symm
    ·exact h.1 e2
   ·rcases List.mem_cons.1 hx with rfl | hx
    ·exact .inr (by simp)
    ·rcases h2 x hx with e2 | e2
     ·exact .inl e2
     ·exact .inr (List.mem_cons_of_mem _ e2)
structure FI (W GG S Rm : Nat) (B : Int) (x : Sc) (c : jE) : Prop where
 hv : HV Rm x
 cS : x.c.S = (S : Int)
 nd : (c.m.l.map (·.1)).Nodup
 wt : ∀ g f, fW c.m.l g = some f → 0 ≤ g ∧ -1 ≤ f ∧ f ≤ x.steps - 1 ∧ ∃ m n u, m < x.ms.length ∧ Lf Rm GG x g m n u ∧ (x.steps - 1 - f) + ((W * ((2 * S + 2) * n + u) : Nat) : Int) + ((W : Int) + 1 - xk x m) ≤ B
 lg : 0 ≤ c.bY ∧ c.bY ≤ B
section
variable {p : b7} {N W GG S Rm : Nat} {B : Int} {x y : Sc} {c : jE} {g f : Int}
theorem Ai {m : Nat} (hm : m < x.ms.length) (hW : iH (fT x.ms.length x.d.taken) x.ms.length ≤ W) : 1 ≤ xk x m ∧ xk x m ≤ W := by
 have h1 := (kC (s := fT x.ms.length x.d.taken) (k := x.ms.length)).2 m hm
 have h2 := uh x.ms.length x.d.taken
 obtain ⟨a1, a2, a3, a4, a5⟩ := h2
 have h3 := a3 m
 unfold xk
 omega
theorem FA {k : Int} {rest : List (Int × Int)} (PL : y.ms.length = x.ms.length) (ht : y.d.taken = x.d.taken ++ (1, k) :: rest) (ho : PO rest) (k0 : 0 ≤ k) (k1 : k ≤ x.ms.length) (m : Nat) (hm : m < x.ms.length) : xk y m = if k.toNat = m then 1 else xk x m + 1 := by
 have e : fT y.ms.length y.d.taken = dJ x.ms.length (fT x.ms.length x.d.taken) (1, k) := by
  rw [PL, ht, show x.d.taken ++ (1, k) :: rest = (x.d.taken ++ [(1, k)]) ++ rest by simp, xg rest _ (fun r hr => (ho r hr).1), qA]
 unfold xk
 rw [e]
 unfold dJ
 dsimp only
 rw [if_pos rfl]
 by_cases h1 : k < (x.ms.length : Int)
 ·rw [if_pos h1]
  dsimp only
  by_cases h2 : k.toNat = m
  ·rw [if_pos h2, if_pos h2.symm]; omega
  ·rw [if_neg h2, if_neg (Ne.symm h2)]; omega
 ·rw [if_neg h1]
  dsimp only
  rw [if_neg (by omega)]; omega
theorem FB {now : Int} (hn : (c.m.l.map (·.1)).Nodup) : ((c.wait g now).m.l.map (·.1)).Nodup ∧ ∀ k v, fW (c.wait g now).m.l k = some v → k ≠ g ∧ fW c.m.l k = some v := by
 unfold jE.wait
 split
 ·rename_i h
  refine ⟨hn, fun k v hv => ⟨fun e => ?_, hv⟩⟩
  rw [e, h] at hv; cases hv
 ·refine ⟨?_, fun k v hv => ?_⟩
  ·unfold FO.del
   dsimp only
   rw [Cy]
   exact hn.erase _
  ·unfold FO.del at hv
   dsimp only at hv
   rw [Fz hn] at hv
   split at hv
   ·cases hv
   ·rename_i h; exact ⟨h, hv⟩
theorem CA {now : Int} (hn : (c.m.l.map (·.1)).Nodup) : ((c.since g now).m.l.map (·.1)).Nodup ∧ (c.since g now).bY = c.bY ∧ ∀ k v, fW (c.since g now).m.l k = some v → (k = g ∧ v = now) ∨ fW c.m.l k = some v := by
 refine ⟨(Cz hn).1, rfl, fun k v hv => ?_⟩
 have R0 : fW (tx c.m.l g now c.m.ck) k = some v := hv
 rw [Fy] at R0
 split at R0
 ·rename_i e; cases R0; exact .inl ⟨e, rfl⟩
 ·exact .inr R0
theorem nZ {now : Int} : ∀ (l : List Int) (c : jE), (c.m.l.map (·.1)).Nodup → ((l.foldl (fun (c : jE) g => c.since g now) c).m.l.map (·.1)).Nodup ∧ (l.foldl (fun (c : jE) g => c.since g now) c).bY = c.bY ∧ ∀ k v, fW (l.foldl (fun (c : jE) g => c.since g now) c).m.l k = some v → (k ∈ l ∧ v = now) ∨ fW c.m.l k = some v
 | [], c, h => ⟨h, rfl, fun k v hv => .inr hv⟩
 | g :: l, c, h => by
  obtain ⟨a1, a2, a3⟩ := CA (c := c) (g := g) (now := now) h
  obtain ⟨b1, b2, b3⟩ := nZ l (c.since g now) a1
  rw [List.foldl_cons]
  refine ⟨b1, b2.trans a2, fun k v hv => ?_⟩
  rcases b3 k v hv with ⟨e1, e2⟩ | e
  ·exact .inl ⟨List.mem_cons_of_mem _ e1, e2⟩
  ·rcases a3 k v e with ⟨e1, e2⟩ | e
   ·exact .inl ⟨by rw [e1]; simp, e2⟩
   ·exact .inr e
theorem Pq {e : Ev} (hn : (c.m.l.map (·.1)).Nodup) : ((c.step e y).m.l.map (·.1)).Nodup ∧
  ((c.step e y).bY = c.bY ∨ e.kind = 7 ∧ ∃ f, fW c.m.l e.g = some f ∧ (c.step e y).bY = if IntKind.wrap .i64 (IntKind.wrap .i64 (y.steps - 1) - f) > c.bY then IntKind.wrap .i64 (IntKind.wrap .i64 (y.steps - 1) - f) else c.bY) ∧
  ∀ k v, fW (c.step e y).m.l k = some v → (v = IntKind.wrap .i64 (y.steps - 1) ∧ (k ∈ e.ready ∨ e.kind = 7 ∧ k = e.g ∧ (aj y.w k).st = 1)) ∨ (fW c.m.l k = some v ∧ (e.kind = 7 → e.g ≠ k)) := by
 unfold jE.step
 generalize IntKind.wrap .i64 (y.steps - 1) = now
 have hw := FB (c := c) (g := e.g) (now := now) hn
 have lw : (c.wait e.g now).bY = c.bY ∨ ∃ f, fW c.m.l e.g = some f ∧ (c.wait e.g now).bY = if IntKind.wrap .i64 (now - f) > c.bY then IntKind.wrap .i64 (now - f) else c.bY := by
  unfold jE.wait
  split
  ·exact .inl rfl
  ·rename_i f h; exact .inr ⟨f, h, rfl⟩
 split
 ·rename_i h7
  split
  ·rename_i hst
   obtain ⟨a1, a2, a3⟩ := CA (c := c.wait e.g now) (g := e.g) (now := now) hw.1
   obtain ⟨b1, b2, b3⟩ := nZ (now := now) e.ready ((c.wait e.g now).since e.g now) a1
   refine ⟨b1, ?_, fun k v hv => ?_⟩
   ·rw [b2, a2]
    rcases lw with h | h
    ·exact .inl h
    ·exact .inr ⟨h7, h⟩
   ·rcases b3 k v hv with ⟨e1, e2⟩ | h
    ·exact .inl ⟨e2, .inl e1⟩
    ·rcases a3 k v h with ⟨e1, e2⟩ | h
     ·exact .inl ⟨e2, .inr ⟨h7, e1, by rw [e1]; exact hst⟩⟩
     ·obtain ⟨h1, h2⟩ := hw.2 k v h
      exact .inr ⟨h2, fun _ => Ne.symm h1⟩
  ·obtain ⟨b1, b2, b3⟩ := nZ (now := now) e.ready (c.wait e.g now) hw.1
   refine ⟨b1, ?_, fun k v hv => ?_⟩
   ·rw [b2]
    rcases lw with h | h
    ·exact .inl h
    ·exact .inr ⟨h7, h⟩
   ·rcases b3 k v hv with ⟨e1, e2⟩ | h
    ·exact .inl ⟨e2, .inl e1⟩
    ·obtain ⟨h1, h2⟩ := hw.2 k v h
     exact .inr ⟨h2, fun _ => Ne.symm h1⟩
 ·rename_i h7
  obtain ⟨b1, b2, b3⟩ := nZ (now := now) e.ready c hn
  refine ⟨b1, .inl b2, fun k v hv => ?_⟩
  rcases b3 k v hv with ⟨e1, e2⟩ | h
  ·exact .inl ⟨e2, .inl e1⟩
  ·exact .inr ⟨h, fun e => absurd e h7⟩
theorem FI.step {e : Ev} (h : FI W GG S Rm B x c) (hs : SV p N x) (hp : dn p) (hN : N ≤ 1000000) (hst : x.status = 0) (hy : x.step p = some (y, .ev e)) (hys : SV p (N + 1) y)
  (hW : iH (fT y.ms.length y.d.taken) y.ms.length ≤ W) (Td : iH (fT x.ms.length x.d.taken) x.ms.length ≤ W) (hG : y.w.gs.length ≤ GG) (hB : ((W * ((2 * S + 2) * (2 * Rm + 2 + (7 * GG + 7)) + (2 * S + 1)) : Nat) : Int) + W ≤ B) : FI W GG S Rm B y (c.step e y) := by
 have hw := tG hs hp hy hst
 have hgx : x.w.gs.length ≤ GG := Nat.le_trans hw.1 hG
 obtain ⟨d', k, q1, q2, q3, q4, q5⟩ := Pj (GG := GG) hs h.hv hgx h.cS hy hst hys hG
 obtain ⟨rest, r1, r2, _⟩ := tF hs.k hst hy q1
 obtain ⟨s1, s2⟩ := Li hst hy
 have PL : y.ms.length = x.ms.length := by
  have e1 := hys.cM
  have e2 := hs.cM
  rw [s2] at e1; omega
 have hx := hs.st
 have hnow : IntKind.wrap .i64 (y.steps - 1) = x.steps := by rw [fZ (by omega) (by omega)]; omega
 obtain ⟨c1, c2, c3⟩ := Pq (c := c) (y := y) (e := e) h.nd
 rw [hnow] at c2 c3
 have WB : ∀ g, At y.w g 1 → ∃ m n u, m < y.ms.length ∧ Lf Rm GG y g m n u ∧ (y.steps - 1 - x.steps) + ((W * ((2 * S + 2) * n + u) : Nat) : Int) + ((W : Int) + 1 - xk y m) ≤ B := fun g hg => by
  obtain ⟨m, m1, m2⟩ := Fq hys q4 (by rw [s2]; exact h.cS) hG hg
  have := (Ai m1 hW).1
  exact ⟨m, _, _, m1, m2, by omega⟩
 refine ⟨q4, by rw [s2]; exact h.cS, c1, fun g f hf => ?_, ?_⟩
 ·rcases c3 g f hf with ⟨e1, e2⟩ | ⟨e1, e2⟩
  ·subst e1
   have Fo : At y.w g 1 := by
    rcases e2 with e2 | ⟨e2, e3, e4⟩
    ·exact hw.2 g e2
    ·have := Pn hs hp hst hy e2
     rw [← e3] at this
     exact ⟨this.1, this.2, e4⟩
   exact ⟨Fo.1, by omega, by omega, WB g Fo⟩
  ·obtain ⟨a1, a2, a3, m, n, u, m1, m2, m3⟩ := h.wt g f e1
   refine ⟨a1, a2, by omega, ?_⟩
   have hax := Ai m1 Td
   rcases q5 g m n u a1 e2 m1 m2 with ⟨b1, b2⟩ | ⟨n', u', b1, b2⟩
   ·have := FA PL r1 r2 q2 q3 m m1
    rw [if_neg b1] at this
    exact ⟨m, n, u, by omega, b2, by omega⟩
   ·have hk : k.toNat < x.ms.length := by
     obtain ⟨mc, jD, _⟩ := b2
     have := (List.getElem?_eq_some_iff.1 jD).1
     omega
    have := FA PL r1 r2 q2 q3 k.toNat hk
    rw [if_pos rfl] at this
    refine ⟨k.toNat, n', u', by omega, b2, ?_⟩
    have hmul : W * ((2 * S + 2) * n' + u') + W ≤ W * ((2 * S + 2) * n + u) := by
     have h1 : (2 * S + 2) * n' + u' + 1 ≤ (2 * S + 2) * n + u := by
      rcases b1 with ⟨b1, b3⟩ | ⟨b1, b3⟩
      ·have := Nat.mul_le_mul_left (2 * S + 2) b1
       rw [Nat.mul_add] at this
       omega
      ·have := Nat.mul_le_mul_left (2 * S + 2) b1
       omega
     have := Nat.mul_le_mul_left W h1
     rw [Nat.mul_add, Nat.mul_one] at this
     exact this
    omega
 ·rcases c2 with e1 | ⟨e7, f, e1, e2⟩
  ·rw [e1]; exact h.lg
  ·obtain ⟨a1, a2, a3, m, n, u, m1, m2, m3⟩ := h.wt e.g f e1
   have hax := Ai m1 Td
   have hl := h.lg
   rw [fZ (by omega) (by omega)] at e2
   rw [e2]
   split <;> omega
theorem Pr {o : gW} (hst : x.status = 0) (hy : x.step p = some (y, o)) : y.c = x.c := by
 unfold Sc.step at hy
 split at hy
 ·rw [if_neg (by rw [hst]; decide)] at hy
  split at hy
  ·cases hy; rfl
  ·rename_i d' k jM
   generalize hac : Sc.act p { x with d := d' } k = r at hy
   cases r with
   | none => cases hy
   | some r =>
    obtain ⟨z, o2⟩ := r
    have := Cs hac
    cases o2 <;> · cases hy; exact this.2
 ·cases hy
theorem Ps {x0 : Sc} {c0 : jE} {j : Nat} (h : WR p x0 c0 j x c) (h0 : SV p 0 x0) (hp : dn p) (hj : j ≤ 1000000) : (∀ r ∈ x.d.taken, 0 ≤ r.2) ∨ ∃ r ∈ x0.d.taken, r.2 < 0 := by
 induction h with
 | zero =>
  by_cases e : ∀ r ∈ x0.d.taken, 0 ≤ r.2
  ·exact .inl e
  ·simp only [Classical.not_forall] at e
   obtain ⟨r, h1, h2⟩ := e
   exact .inr ⟨r, h1, by omega⟩
 | succ hw hs he ih =>
  rename_i j x y c e
  rcases ih (by omega) with ih | ih
  ·left
   have hv := hw.sv h0 hp (by omega)
   have hpk : ∃ d' k, x.d.draw 1 (x.c.M + 1) = (d', .num k) := by
    unfold Sc.step at he
    split at he
    ·rw [if_neg (by rw [hs]; decide)] at he
     split at he
     ·cases he
     ·rename_i d' k jM; exact ⟨d', k, jM⟩
    ·cases he
   obtain ⟨d', k, hd⟩ := hpk
   obtain ⟨rest, r1, r2, r3⟩ := tF hv.k hs he hd
   rw [r1]
   intro r hr
   rcases List.mem_append.1 hr with hr | hr
   ·exact ih r hr
   ·rcases List.mem_cons.1 hr with rfl | hr
    ·exact r3
    ·exact (r2 r hr).2
  ·exact .inr ih
theorem FI.run {x0 : Sc} {c0 : jE} {j : Nat} (h : WR p x0 c0 j x c) (h0 : SV p 0 x0) (hp : dn p) (hj : j ≤ 1000000) (hB : ((W * ((2 * S + 2) * (2 * Rm + 2 + (7 * GG + 7)) + (2 * S + 1)) : Nat) : Int) + W ≤ B)
  (hi : x0.w.gs.length ≤ GG → iH (fT x0.ms.length x0.d.taken) x0.ms.length ≤ W → FI W GG S Rm B x0 c0) (hW : iH (fT x.ms.length x.d.taken) x.ms.length ≤ W) (hG : x.w.gs.length ≤ GG) : FI W GG S Rm B x c := by
 induction h with
 | zero => exact hi hG hW
 | succ hw hs he ih =>
  rename_i j x y c e
  have hv := hw.sv h0 hp (by omega)
  have Ls := (WR.succ hw hs he).sv h0 hp hj
  have hpk : ∃ d' k, x.d.draw 1 (x.c.M + 1) = (d', .num k) := by
   unfold Sc.step at he
   split at he
   ·rw [if_neg (by rw [hs]; decide)] at he
    split at he
    ·cases he
    ·rename_i d' k jM; exact ⟨d', k, jM⟩
   ·cases he
  obtain ⟨d', k, hd⟩ := hpk
  obtain ⟨rest, r1, r2, r3⟩ := tF hv.k hs he hd
  have PL : y.ms.length = x.ms.length := by
   have e1 := Ls.cM
   have e2 := hv.cM
   rw [Pr hs he] at e1; omega
  have Td : iH (fT x.ms.length x.d.taken) x.ms.length ≤ W := by
   refine Int.le_trans ?_ hW
   rw [PL, r1]
   refine wE _ _ (fun r hr => ?_)
   rcases List.mem_cons.1 hr with rfl | hr
   ·exact r3
   ·exact (r2 r hr).2
  exact (ih (by omega) Td (Nat.le_trans (tG hv hp he hs).1 hG)).step hv hp (by omega) hs he Ls hW Td hG hB
theorem Pt {now : Int} : ∀ (l : List Nat) (c : jE), (c.m.l.map (·.1)).Nodup → 0 ≤ c.bY → c.bY ≤ B → (∀ g f, fW c.m.l g = some f → -1 ≤ f ∧ f ≤ 1000000 ∧ now - f ≤ B) → -1 ≤ now → now ≤ 1000000 →
  (l.foldl (fun (c : jE) (g : Nat) => c.wait (g : Int) now) c).bY ≤ B
 | [], c, _, _, h, _, _, _ => h
 | g :: l, c, hn, h0, h1, h2, h3, h4 => by
  rw [List.foldl_cons]
  obtain ⟨w1, w2⟩ := FB (c := c) (g := (g : Int)) (now := now) hn
  have w3 : 0 ≤ (c.wait (g : Int) now).bY ∧ (c.wait (g : Int) now).bY ≤ B := by
   unfold jE.wait
   split
   ·exact ⟨h0, h1⟩
   ·rename_i f hf
    have := h2 _ f hf
    dsimp only
    rw [fZ (by omega) (by omega)]
    by_cases hc : now - f > c.bY
    ·rw [if_pos hc]; omega
    ·rw [if_neg hc]; omega
  exact Pt l _ w1 w3.1 w3.2 (fun k v hv => h2 k v (w2 k v hv).2) h3 h4
end
theorem Pu (W S R G : Nat) : ((W * ((2 * S + 2) * (2 * R + 2 + (7 * G + 7)) + (2 * S + 1)) : Nat) : Int) + W ≤ (2 * (S : Int) + 2) * W * (7 * ((G : Int) + 2) + 4 * ((R : Int) + 2)) + 8 * W := by
 have h : W * ((2 * S + 2) * (2 * R + 2 + (7 * G + 7)) + (2 * S + 1)) + W ≤ (2 * S + 2) * W * (7 * (G + 2) + 4 * (R + 2)) + 8 * W := by
  have e1 : W * ((2 * S + 2) * (2 * R + 2 + (7 * G + 7)) + (2 * S + 1)) + W = (2 * S + 2) * W * (2 * R + 2 + (7 * G + 7) + 1) := by
   generalize 2 * R + 2 + (7 * G + 7) = A
   rw [Nat.mul_add, Nat.mul_add ((2 * S + 2) * W), Nat.mul_one, ← Nat.mul_assoc, Nat.mul_comm W (2 * S + 2), Nat.add_assoc, Nat.mul_comm W (2 * S + 1)]
   have : (2 * S + 1) * W + W = (2 * S + 2) * W := by rw [show 2 * S + 2 = (2 * S + 1) + 1 by omega, Nat.add_mul (2 * S + 1) 1 W, Nat.one_mul]
   rw [this]
  rw [e1]
  refine Nat.le_trans (Nat.mul_le_mul_left _ (show 2 * R + 2 + (7 * G + 7) + 1 ≤ 7 * (G + 2) + 4 * (R + 2) by omega)) (Nat.le_add_right _ _)
 have h2 := Int.ofNat_le.2 h
 simpa [Int.natCast_add, Int.natCast_mul] using h2
section
variable {p : b7} {x y : Sc} {c : jE}
theorem Pv {cf : OB} {l : List Int} {most R S : Nat} (hok : dn p) (hP : 1 ≤ cf.P ∧ cf.P ≤ 64) (hM : 1 ≤ cf.M ∧ cf.M ≤ 64) (hS : cf.S = (S : Int)) (hS1 : 1 ≤ S ∧ S ≤ 1024) (hR : cf.R = (R : Int)) (hR1 : 1 ≤ R ∧ R ≤ 1024) (hm : most ≤ 999999) (hl : (gT.lA l 0).Ok)
  (h : Ad p (Sc.new p cf ⟨.lA l 0, []⟩) PR most y c) (hw : sI cf.M.toNat y.d.taken ≠ 0) :
  (c.fin y).bY ≤ (2 * cf.S + 2) * (sI cf.M.toNat y.d.taken) * (7 * ((y.w.gs.length : Int) + 2) + 4 * (cf.R + 2)) + 8 * sI cf.M.toNat y.d.taken := by
 have h0 : SV p 0 (Sc.new p cf ⟨.lA l 0, []⟩) := SV.new hok hP hM (by omega) rfl hl
 have hms0 : (Sc.new p cf ⟨.lA l 0, []⟩).ms.length = cf.M.toNat := by simp [Sc.new]
 have pre : ∃ (j : Nat) (x : Sc), j ≤ most ∧ WR p (Sc.new p cf ⟨.lA l 0, []⟩) PR j x c ∧ y.steps = x.steps ∧ y.w.gs.length = x.w.gs.length ∧ ∃ rest : List (Int × Int), y.d.taken = x.d.taken ++ rest ∧ ∀ r ∈ rest, 0 ≤ r.2 := by
  cases h with
  | O4 hw hj => exact ⟨_, y, hj, hw, rfl, rfl, [], by simp, by intro r hr; cases hr⟩
  | cT hw hj hst Po =>
   obtain ⟨a1, a2, a3⟩ := Cr (hw.sv h0 hok (by omega)) hok hst Po
   exact ⟨_, _, by omega, hw, a1, by rw [a2], a3⟩
 obtain ⟨j, x, hj, hwr, ys, yg, rest, yt, yr⟩ := pre
 have hv := hwr.sv h0 hok (by omega)
 have hc : x.c = cf := by
  clear ys yg yt yr hv hw h
  induction hwr with
  | zero => rfl
  | succ hw hs he ih => exact (Pr hs he).trans (ih (by omega))
 have PL : x.ms.length = cf.M.toNat := by have := hv.cM; rw [hc] at this; omega
 have hW : iH (fT cf.M.toNat y.d.taken) cf.M.toNat = sI cf.M.toNat y.d.taken := by
  unfold sI at hw ⊢
  split at hw
  ·rename_i e; rw [if_pos e]
  ·exact absurd rfl hw
 have hWp : 0 ≤ sI cf.M.toNat y.d.taken := by
  rw [← hW]
  have h1 := (kC (s := fT cf.M.toNat y.d.taken) (k := cf.M.toNat)).1
  have h2 := (uh cf.M.toNat y.d.taken).2.2.2.1
  omega
 obtain ⟨W, hWn⟩ := Int.eq_ofNat_of_zero_le hWp
 rw [hWn] at hW ⊢
 rw [hS, hR]
 have hB := Pu W S R y.w.gs.length
 generalize (2 * (S : Int) + 2) * (W : Int) * (7 * ((y.w.gs.length : Int) + 2) + 4 * ((R : Int) + 2)) + 8 * (W : Int) = B at hB ⊢
 have Td : iH (fT x.ms.length x.d.taken) x.ms.length ≤ W := by
  rw [PL, ← hW, yt]
  exact wE _ _ yr
 have hcap : fN cf.R = R := by unfold fN; omega
 have WB : (Sc.new p cf ⟨.lA l 0, []⟩).w.gs.length ≤ y.w.gs.length → iH (fT (Sc.new p cf ⟨.lA l 0, []⟩).ms.length (Sc.new p cf ⟨.lA l 0, []⟩).d.taken) (Sc.new p cf ⟨.lA l 0, []⟩).ms.length ≤ W → FI W y.w.gs.length S R B (Sc.new p cf ⟨.lA l 0, []⟩) PR := fun hg hw0 => by
  have hv0 : HV R (Sc.new p cf ⟨.lA l 0, []⟩) := by
   refine ⟨fun i hi => .inl ?_, fun pr jC => ?_, fun mc jD => ?_⟩
   ·have e : ay (Sc.new p cf ⟨.lA l 0, []⟩) (i : Int) = ⟨⟨-1, fN cf.R, []⟩, 0, -1⟩ := by
     unfold ay Sc.new at *
     dsimp only at hi ⊢
     rw [List.length_replicate] at hi
     simp [hi]
    rw [e]
    exact ⟨rfl, rfl, rfl⟩
   ·rw [List.eq_of_mem_replicate jC]; exact hcap
   ·rw [List.eq_of_mem_replicate jD]
    show (0 : Int) ≤ cf.S
    omega
  refine ⟨hv0, hS, by decide, fun g f hf => ?_, ⟨by decide, ?_⟩⟩
  ·unfold PR at hf
   simp only [fW] at hf
   split at hf
   ·rename_i e
    subst e
    cases hf
    have Fo : At (Sc.new p cf ⟨.lA l 0, []⟩).w 0 1 := ⟨by decide, by simp [Sc.new, Wd.new], rfl⟩
    obtain ⟨m, m1, m2⟩ := Fq h0 hv0 hS hg Fo
    have := (Ai m1 hw0).1
    have e0 : (Sc.new p cf ⟨.lA l 0, []⟩).steps = 0 := rfl
    refine ⟨by decide, by decide, by rw [e0]; decide, m, _, _, m1, m2, ?_⟩
    rw [e0]
    omega
   ·cases hf
  ·show (0 : Int) ≤ B
   have : (0 : Int) ≤ ((W * ((2 * S + 2) * (2 * R + 2 + (7 * y.w.gs.length + 7)) + (2 * S + 1)) : Nat) : Int) := Int.natCast_nonneg _
   omega
 have xl := hv.w.n2
 have hF : FI W y.w.gs.length S R B x c := FI.run hwr h0 hok (by omega) hB WB Td (by omega)
 have hst := hv.st
 unfold jE.fin
 rw [ys, fZ (by omega) (by omega)]
 refine Pt _ c hF.nd hF.lg.1 hF.lg.2 (fun g f hf => ?_) (by omega) (by omega)
 obtain ⟨a1, a2, a3, m, n, u, m1, m2, m3⟩ := hF.wt g f hf
 have hax := Ai m1 Td
 have : (0 : Int) ≤ ((W * ((2 * S + 2) * n + u) : Nat) : Int) := Int.natCast_nonneg _
 generalize (W * ((2 * S + 2) * n + u) : Nat) = zz at m3
 exact ⟨a2, by omega, by omega⟩
end
def qO (s r w g : Nat) : Nat := (2 * s + 2) * w * (7 * (g + 2) + 4 * (r + 2)) + 8 * w
section
variable {R : Mem} {L L' : List HP} {M : Mem} {K : Value → Mem → Prop} {Kp : List PanicEntry → Mem → Prop}
theorem HU {s r w g : Nat} (hs : s ≤ 20) (hr : r ≤ 20) (hw : w ≤ 100000) (hg : g ≤ 100000) : (2 * s + 2) * w ≤ 4200000 ∧ (2 * s + 2) * w * (7 * (g + 2) + 4 * (r + 2)) ≤ 4200000 * 800000 := by
 have h1 : (2 * s + 2) * w ≤ 42 * 100000 := Nat.mul_le_mul (by omega) hw
 exact ⟨h1, Nat.mul_le_mul h1 (by omega)⟩
theorem Aj {x0 x1 : Int} {s r w g : Nat} (h : Hp R L M) (hs : s ≤ 20) (hr : r ≤ 20) (hw : w ≤ 100000) (hg : g ≤ 100000) (k : ∀ M', Hp R L M' → K (.int .i64 (qO s r w g : Nat)) M') :
  aa Tryz.prog 30 #[.agg #[.int .i64 x0, .int .i64 x1, .int .i64 (r : Int), .int .i64 (s : Int)], .int .i64 (w : Int), .int .i64 (g : Int)] M K Kp := by
 refine AU ?_
 obtain ⟨b1, b2⟩ := HU hs hr hw hg
 repeat (first|(refine aq h ?_;clear h;intro kb M h)|(refine au h ?_;clear h;intro M h)|refine St.to h ?_|(apply Exists.intro;(repeat apply Exists.intro);refine And.intro rfl ?_)|refine av ?_|refine ae ?_|refine ai ?_)
 have a1 : IntKind.wrap .i64 (2 * (s : Int)) = ((2 * s : Nat) : Int) := wn (by simp) (by omega)
 have a2 : IntKind.wrap .i64 (((2 * s : Nat) : Int) + 2) = ((2 * s + 2 : Nat) : Int) := wn (by simp) (by omega)
 have a3 : IntKind.wrap .i64 (((2 * s + 2 : Nat) : Int) * (w : Int)) = (((2 * s + 2) * w : Nat) : Int) := wn (Int.natCast_mul _ _).symm (by omega)
 have a4 : IntKind.wrap .i64 ((g : Int) + 2) = ((g + 2 : Nat) : Int) := wn (by simp) (by omega)
 have a5 : IntKind.wrap .i64 (7 * ((g + 2 : Nat) : Int)) = ((7 * (g + 2) : Nat) : Int) := wn (by omega) (by omega)
 have a6 : IntKind.wrap .i64 ((r : Int) + 2) = ((r + 2 : Nat) : Int) := wn (by simp) (by omega)
 have a7 : IntKind.wrap .i64 (4 * ((r + 2 : Nat) : Int)) = ((4 * (r + 2) : Nat) : Int) := wn (by omega) (by omega)
 have a8 : IntKind.wrap .i64 (((7 * (g + 2) : Nat) : Int) + ((4 * (r + 2) : Nat) : Int)) = ((7 * (g + 2) + 4 * (r + 2) : Nat) : Int) := wn (by omega) (by omega)
 have a9 : IntKind.wrap .i64 ((((2 * s + 2) * w : Nat) : Int) * ((7 * (g + 2) + 4 * (r + 2) : Nat) : Int)) = (((2 * s + 2) * w * (7 * (g + 2) + 4 * (r + 2)) : Nat) : Int) := wn (Int.natCast_mul _ _).symm (by omega)
 have XK : IntKind.wrap .i64 (8 * (w : Int)) = ((8 * w : Nat) : Int) := wn (by omega) (by omega)
 have XL : IntKind.wrap .i64 ((((2 * s + 2) * w * (7 * (g + 2) + 4 * (r + 2)) : Nat) : Int) + ((8 * w : Nat) : Int)) = (qO s r w g : Nat) := wn (by rw [qO, Int.natCast_add]) (by unfold qO; omega)
 simp only [a1, a2, a3, a4, a5, a6, a7, a8, a9, XK, XL]
 exact k _ h.pA
theorem FC (h : Hp R L M) (k : ∀ M', Hp R L M' → K (.bool true) M') : aa Tryz.prog 36 #[] M K Kp := by
 refine oL ?_
 repeat (first|(refine aq h ?_;clear h;intro kb M h)|(refine au h ?_;clear h;intro M h)|refine St.to h ?_|(apply Exists.intro;(repeat apply Exists.intro);refine And.intro rfl ?_)|refine av ?_|refine ae ?_|refine ai ?_)
 replace h := (h.pt kb).lV (E := Dl) (l := [(1, 0), (1, 1), (1, 0)]) rfl
 refine xd (x := 2) h (Src.row) rfl (by simp) (by omega) (by simp) ?_
 clear h
 intro M h
 have e : sI (2 : Int).toNat [(1, 0), (1, 1), (1, 0)] = 2 := by decide
 rw [e]
 repeat (first|(refine aq h ?_;clear h;intro kb M h)|(refine au h ?_;clear h;intro M h)|refine St.to h ?_|(apply Exists.intro;(repeat apply Exists.intro);refine And.intro rfl ?_)|refine av ?_|refine ae ?_|refine ai ?_)
 refine Aj (s := 1) (r := 2) (w := 1) (g := 1) h (by omega) (by omega) (by omega) (by omega) ?_
 clear h
 intro M h
 repeat (first|(refine aq h ?_;clear h;intro kb M h)|(refine au h ?_;clear h;intro M h)|refine St.to h ?_|(apply Exists.intro;(repeat apply Exists.intro);refine And.intro rfl ?_)|refine av ?_|refine ae ?_|refine ai ?_)
 exact k _ h.pA
end
section
variable {p : b7} {x y : Sc} {c : jE}
theorem Lp {cf : OB} {l : List Int} {most : Nat} (hok : dn p) (hP : 1 ≤ cf.P ∧ cf.P ≤ 64) (hM : 1 ≤ cf.M ∧ cf.M ≤ 64) (hS1 : 1 ≤ cf.S ∧ cf.S ≤ 20) (hR1 : 1 ≤ cf.R ∧ cf.R ≤ 20) (hm : most ≤ 30000) (hl : (gT.lA l 0).Ok)
  (h : Ad p (Sc.new p cf ⟨.lA l 0, []⟩) PR most y c) :
  (∀ r ∈ y.d.taken, 0 ≤ r.2) ∧ ∃ w : Nat, sI cf.M.toNat y.d.taken = (w : Int) ∧ w ≤ 100000 ∧ (w ≠ 0 → (c.fin y).bY ≤ ((qO cf.S.toNat cf.R.toNat w y.w.gs.length : Nat) : Int)) := by
 have h0 : SV p 0 (Sc.new p cf ⟨.lA l 0, []⟩) := SV.new hok hP hM (by omega) rfl hl
 have hT : ∀ r ∈ y.d.taken, 0 ≤ r.2 := by
  have nn : ∀ {j : Nat} {x : Sc} {c : jE}, WR p (Sc.new p cf ⟨.lA l 0, []⟩) PR j x c → j ≤ 1000000 → ∀ r ∈ x.d.taken, 0 ≤ r.2 := fun hw hj => by
   rcases Ps hw h0 hok hj with h | ⟨r, h1, _⟩
   ·exact h
   ·simp [Sc.new] at h1
  cases h with
  | O4 hw hj => exact nn hw (by omega)
  | cT hw hj hst Po =>
   obtain ⟨_, _, rest, e1, e2⟩ := Cr (hw.sv h0 hok (by omega)) hok hst Po
   rw [e1]
   intro r hr
   rcases List.mem_append.1 hr with hr | hr
   ·exact nn hw (by omega) r hr
   ·exact e2 r hr
 refine ⟨hT, ?_⟩
 have hb : 0 ≤ sI cf.M.toNat y.d.taken ∧ sI cf.M.toNat y.d.taken ≤ 100000 := by
  obtain ⟨N, hN, hv⟩ := h.sv h0 hok (by omega)
  have Rp := hv.tk
  obtain ⟨a1, a2, a3, a4, a5⟩ := uh cf.M.toNat y.d.taken
  unfold sI
  split
  ·have h1 := (kC (s := fT cf.M.toNat y.d.taken) (k := cf.M.toNat)).1
   refine ⟨by omega, lE.2 ⟨by omega, fun j hj => ?_⟩⟩
   have := a3 j
   omega
  ·omega
 obtain ⟨w, hw⟩ := Int.eq_ofNat_of_zero_le hb.1
 refine ⟨w, hw, by omega, fun hne => ?_⟩
 have := Pv (S := cf.S.toNat) (R := cf.R.toNat) hok hP hM (by omega) (by omega) (by omega) (by omega) (by omega) hl h (by rw [hw]; omega)
 rw [hw] at this
 refine Int.le_trans this (Int.le_of_eq ?_)
 have e1 : cf.S = (cf.S.toNat : Int) := by omega
 have e2 : cf.R = (cf.R.toNat : Int) := by omega
 rw [e1, e2]
 unfold qO
 simp [Int.natCast_add, Int.natCast_mul]
end
end Go.Proofs
