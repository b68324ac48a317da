/- A part of proofs about one program. -/
import Derived.Test.YtnnlgknlialpmaaGreatZShunterChat5
set_option linter.unusedVariables false
namespace Go.Proofs
open Go.AF
set_option maxRecDepth 100000
set_option maxHeartbeats 1000000
attribute [local irreducible] aH cK dM b8 az dD aF aI aX aN bl aM
section
variable {p : cj} {N Rm GG m n u k S : Nat} {x y z : Sc} {i g a kind v : Int}
theorem SV.other (h : SV p N x) {mc : tZ} {c : Nat} (k1 : k < x.ms.length) (hk : (av x (k : Int)).p ≠ -1) (h1 : x.ms[c]? = some mc) (hp : mc.p ≠ -1) (hc : c ≠ k) : mc.p.toNat ≠ (av x (k : Int)).p.toNat := by
 have hmk := fY (x := x) (m := (k : Int)) (by omega) (by omega)
 rw [Int.toNat_natCast] at hmk
 intro e
 have a1 : 0 ≤ mc.p := by rcases h.mv h1 with e | e; exact absurd e.1 hp; omega
 have a2 : 0 ≤ (av x (k : Int)).p := by rcases h.mv hmk with e | e; exact absurd e.1 hk; omega
 exact hc (h.apart h1 hmk hp (by omega))
theorem CT (hs : SV p N x) (k1 : k < x.ms.length) (hk : (av x (k : Int)).p = i) (i0 : 0 ≤ i) (i1 : i < x.ps.length) (hS : x.c.S = (S : Int)) {fA : List c9} {zy : List Int} {dz : iO} (hl : fA.length = x.ps.length) (Yj : 0 ≤ v)
  (NZ : (av x (k : Int)).g = -1) (h0 : 0 ≤ g) (h : Kw Rm GG x g m n u) (ht : ∀ j : Nat, (fA.getD j cF).turns = (x.ps.getD j cF).turns)
  (H1 : ∀ j : Int, 0 ≤ j → j < x.ps.length → j ≠ i → Lv Rm GG (ax x j).q x.gl (ax x j).turns g n → Lv Rm GG (fA.getD j.toNat cF).q zy (ax x j).turns g n ∨ v = g ∨ ∃ n', n' + 1 ≤ n ∧ Lv Rm GG (fA.getD i.toNat cF).q zy ((ax x i).turns + 1) g n')
  (H2 : Lv Rm GG (ax x i).q x.gl (ax x i).turns g n → v = g ∨ ∃ n', n' + 1 ≤ n ∧ Lv Rm GG (fA.getD i.toNat cF).q zy ((ax x i).turns + 1) g n') :
  nk Rm GG S (Sc.aT { x with ps := fA, gl := zy, d := dz } (k : Int) i kind v true).1 g k m n u := by
 have hmk := fY (x := x) (m := (k : Int)) (by omega) (by omega)
 rw [Int.toNat_natCast] at hmk
 generalize hz : (Sc.aT { x with ps := fA, gl := zy, d := dz } (k : Int) i kind v true).1 = y
 have hy : y = ((({ x with ps := fA, gl := zy, d := dz } : Sc).bO i { fA.getD i.toNat cF with turns := (fA.getD i.toNat cF).turns + 1 }).gB (k : Int) ⟨(av x (k : Int)).p, v, x.c.S⟩) := by rw [← hz]; rfl
 have Kx : ∀ c, c ≠ k → y.ms[c]? = x.ms[c]? := fun c hc => by rw [hy]; show (x.ms.set (k : Int).toNat _)[c]? = _; rw [Int.toNat_natCast, jH hc]
 have QI : y.ms[k]? = some ⟨(av x (k : Int)).p, v, x.c.S⟩ := by rw [hy]; show (x.ms.set (k : Int).toNat _)[k]? = _; rw [Int.toNat_natCast, List.getElem?_set_self k1]
 have N0 : y.gl = zy := by rw [hy]; rfl
 have ypi : ax y i = { fA.getD i.toNat cF with turns := (fA.getD i.toNat cF).turns + 1 } := by rw [hy]; exact bB (show i.toNat < fA.length by omega)
 have QJ : ∀ j : Int, j.toNat ≠ i.toNat → ax y j = fA.getD j.toNat cF := fun j hj => by rw [hy]; exact getD_set_ne hj
 have OA : (fA.getD i.toNat cF).turns = (ax x i).turns := ht i.toNat
 have won : (v = g ∨ ∃ n', n' + 1 ≤ n ∧ Lv Rm GG (fA.getD i.toNat cF).q zy ((ax x i).turns + 1) g n') → 1 ≤ u → nk Rm GG S y g k m n u := by
  rintro (e | ⟨n', e1, e2⟩) hu
  ·exact .inr ⟨n, u - 1, .inr ⟨Nat.le_refl _, by omega⟩, _, QI, .inl e⟩
  ·refine .inr ⟨n', 2 * S, .inl ⟨e1, by omega⟩, _, QI, .inr (.inl ⟨by show (av x (k : Int)).p ≠ -1; omega, ?_, ?_⟩)⟩
   ·unfold uM
    dsimp only
    rw [if_neg (by omega), hS]; simp
   ·dsimp only
    rw [hk, ypi, N0]
    dsimp only
    rw [OA]
    exact e2
 obtain ⟨mc, h1, h2⟩ := h
 have ze := hs.mv h1
 by_cases e : m = k
 ·subst e
  rw [hmk] at h1
  obtain rfl := Option.some.inj h1
  rcases h2 with h2 | ⟨h2, h3, h4⟩ | ⟨h2, _⟩
  ·omega
  ·rw [hk] at h4
   exact won (H2 h4) (Nat.le_trans (NV ze) h3)
  ·have := h2 _ (List.mem_of_getElem? hmk); omega
 ·rcases h2 with h2 | ⟨h2, h3, h4⟩ | ⟨h2, _⟩
  ·exact .inl ⟨Ne.symm e, mc, by rw [Kx m e]; exact h1, .inl h2⟩
  ·have hne := hs.other k1 (by omega) h1 h2 e
   rw [hk] at hne
   have hb : 0 ≤ mc.p ∧ mc.p < x.ps.length := by rcases ze with e | e; exact absurd e.1 h2; omega
   rcases H1 mc.p hb.1 hb.2 (fun e => hne (by rw [e])) h4 with h5 | h5
   ·refine .inl ⟨Ne.symm e, mc, by rw [Kx m e]; exact h1, .inr (.inl ⟨h2, h3, ?_⟩)⟩
    rw [QJ _ hne, N0, ht]
    exact h5
   ·exact won h5 (Nat.le_trans (NV ze) h3)
  ·have := h2 _ (List.mem_of_getElem? hmk); omega
theorem zh (hs : SV p N x) (k1 : k < x.ms.length) (hk : (av x (k : Int)).p = i) (i0 : 0 ≤ i) (i1 : i < x.ps.length) {fA : List c9} {zy : List Int} {dz : iO} (hl : fA.length = x.ps.length)
  (NZ : (av x (k : Int)).g = -1) (h0 : 0 ≤ g) (h : Kw Rm GG x g m n u) (ht : ∀ j : Nat, (fA.getD j cF).turns = (x.ps.getD j cF).turns)
  (H1 : ∀ j : Int, 0 ≤ j → j < x.ps.length → j ≠ i → Lv Rm GG (ax x j).q x.gl (ax x j).turns g n → Lv Rm GG (fA.getD j.toNat cF).q zy (ax x j).turns g n)
  (H2 : ¬ Lv Rm GG (ax x i).q x.gl (ax x i).turns g n) :
  nk Rm GG S (Sc.aT { x with ps := fA, gl := zy, d := dz } (k : Int) i kind v false).1 g k m n u := by
 have hmk := fY (x := x) (m := (k : Int)) (by omega) (by omega)
 rw [Int.toNat_natCast] at hmk
 generalize hz : (Sc.aT { x with ps := fA, gl := zy, d := dz } (k : Int) i kind v false).1 = y
 have hy : y = ((({ x with ps := fA, gl := zy, d := dz } : Sc).bO i { fA.getD i.toNat cF with eD := -1 }).gB (k : Int) ⟨-1, -1, 0⟩) := by rw [← hz]; rfl
 have Kx : ∀ c, c ≠ k → y.ms[c]? = x.ms[c]? := fun c hc => by rw [hy]; show (x.ms.set (k : Int).toNat _)[c]? = _; rw [Int.toNat_natCast, jH hc]
 have N0 : y.gl = zy := by rw [hy]; rfl
 have QJ : ∀ j : Int, j.toNat ≠ i.toNat → ax y j = fA.getD j.toNat cF := fun j hj => by rw [hy]; exact getD_set_ne hj
 obtain ⟨mc, h1, h2⟩ := h
 have ze := hs.mv h1
 by_cases e : m = k
 ·subst e
  rw [hmk] at h1
  obtain rfl := Option.some.inj h1
  rcases h2 with h2 | ⟨h2, h3, h4⟩ | ⟨h2, _⟩
  ·omega
  ·rw [hk] at h4
   exact absurd h4 H2
  ·have := h2 _ (List.mem_of_getElem? hmk); omega
 ·rcases h2 with h2 | ⟨h2, h3, h4⟩ | ⟨h2, _⟩
  ·exact .inl ⟨Ne.symm e, mc, by rw [Kx m e]; exact h1, .inl h2⟩
  ·have hne := hs.other k1 (by omega) h1 h2 e
   rw [hk] at hne
   have hb : 0 ≤ mc.p ∧ mc.p < x.ps.length := by rcases ze with e | e; exact absurd e.1 h2; omega
   refine .inl ⟨Ne.symm e, mc, by rw [Kx m e]; exact h1, .inr (.inl ⟨h2, h3, ?_⟩)⟩
   rw [QJ _ hne, N0, ht]
   exact H1 mc.p hb.1 hb.2 (fun e => hne (by rw [e])) h4
  ·have := h2 _ (List.mem_of_getElem? hmk); omega
theorem vC (hv : HV Rm x) (hs : SV p N x) (k1 : k < x.ms.length) (hk : (av x (k : Int)).p = i) (i0 : 0 ≤ i) (i1 : i < x.ps.length) {fA : List c9} {zy : List Int} {dz : iO} {t : Bool} (hl : fA.length = x.ps.length)
  (hr : ∀ pr ∈ fA, pr.q.room = Rm) (hb : ∀ j : Nat, (fA.getD j cF).eD = (x.ps.getD j cF).eD)
  (he : ∀ j : Nat, j ≠ i.toNat → (x.ps.getD j cF).q.next = -1 → (x.ps.getD j cF).q.l = [] → (fA.getD j cF).q.next = -1 ∧ (fA.getD j cF).q.l = [])
  (hS0 : 0 ≤ x.c.S) (hf : t = false → (fA.getD i.toNat cF).q.next = -1 ∧ (fA.getD i.toNat cF).q.l = []) : HV Rm (Sc.aT { x with ps := fA, gl := zy, d := dz } (k : Int) i kind v t).1 := by
 have hmk := fY (x := x) (m := (k : Int)) (by omega) (by omega)
 rw [Int.toNat_natCast] at hmk
 have hmem : fA.getD i.toNat cF ∈ fA := by
  rw [List.getD_eq_getElem?_getD, List.getElem?_eq_getElem (by omega)]; exact List.getElem_mem _
 unfold Sc.aT
 cases t with
 | true =>
  rw [if_pos rfl]
  refine ⟨fun j hj => ?_, fun pr hp => ?_, fun mc hm => ?_⟩
  ·have hj' : j < x.ps.length := by have : j < (fA.set i.toNat { fA.getD i.toNat cF with turns := (fA.getD i.toNat cF).turns + 1 }).length := hj; simpa [hl] using this
   by_cases e : j = i.toNat
   ·subst e
    exact .inr ⟨k, _, by show (x.ms.set (k : Int).toNat _)[k]? = _; rw [Int.toNat_natCast, List.getElem?_set_self k1], by show (av x (k : Int)).p = _; omega⟩
   ·rcases hv.hold j hj' with hh | ⟨c, mc, h1, h2⟩
    ·refine .inl ?_
     show ((fA.set i.toNat _).getD (j : Int).toNat cF).eD = -1 ∧ ((fA.set i.toNat _).getD (j : Int).toNat cF).q.next = -1 ∧ ((fA.set i.toNat _).getD (j : Int).toNat cF).q.l = []
     rw [Int.toNat_natCast, getD_set_ne e]
     exact ⟨(hb j).trans hh.1, he j e hh.2.1 hh.2.2⟩
    ·have hc : c ≠ k := by
      rintro rfl
      rw [hmk] at h1
      obtain rfl := Option.some.inj h1
      omega
     exact .inr ⟨c, mc, by show (x.ms.set (k : Int).toNat _)[c]? = _; rw [Int.toNat_natCast, jH hc]; exact h1, h2⟩
  ·have wg : pr ∈ fA.set i.toNat { fA.getD i.toNat cF with turns := (fA.getD i.toNat cF).turns + 1 } := hp
   rcases List.mem_or_eq_of_mem_set wg with wg | rfl
   ·exact hr pr wg
   ·exact hr (fA.getD i.toNat cF) hmem
  ·have hm' : mc ∈ x.ms.set (k : Int).toNat ⟨(av x (k : Int)).p, v, x.c.S⟩ := hm
   rcases List.mem_or_eq_of_mem_set hm' with hm' | rfl
   ·exact hv.left mc hm'
   ·exact Int.le_refl _
 | false =>
  rw [if_neg (by decide)]
  refine ⟨fun j hj => ?_, fun pr hp => ?_, fun mc hm => ?_⟩
  ·have hj' : j < x.ps.length := by have : j < (fA.set i.toNat { fA.getD i.toNat cF with eD := -1 }).length := hj; simpa [hl] using this
   by_cases e : j = i.toNat
   ·subst e
    refine .inl ?_
    show ((fA.set i.toNat _).getD ((i.toNat : Nat) : Int).toNat cF).eD = -1 ∧ ((fA.set i.toNat _).getD ((i.toNat : Nat) : Int).toNat cF).q.next = -1 ∧ ((fA.set i.toNat _).getD ((i.toNat : Nat) : Int).toNat cF).q.l = []
    rw [Int.toNat_natCast, bB (by omega)]
    exact ⟨rfl, hf rfl⟩
   ·rcases hv.hold j hj' with hh | ⟨c, mc, h1, h2⟩
    ·refine .inl ?_
     show ((fA.set i.toNat _).getD (j : Int).toNat cF).eD = -1 ∧ ((fA.set i.toNat _).getD (j : Int).toNat cF).q.next = -1 ∧ ((fA.set i.toNat _).getD (j : Int).toNat cF).q.l = []
     rw [Int.toNat_natCast, getD_set_ne e]
     exact ⟨(hb j).trans hh.1, he j e hh.2.1 hh.2.2⟩
    ·have hc : c ≠ k := by
      rintro rfl
      rw [hmk] at h1
      obtain rfl := Option.some.inj h1
      omega
     exact .inr ⟨c, mc, by show (x.ms.set (k : Int).toNat _)[c]? = _; rw [Int.toNat_natCast, jH hc]; exact h1, h2⟩
  ·have wg : pr ∈ fA.set i.toNat { fA.getD i.toNat cF with eD := -1 } := hp
   rcases List.mem_or_eq_of_mem_set wg with wg | rfl
   ·exact hr pr wg
   ·exact hr (fA.getD i.toNat cF) hmem
  ·have hm' : mc ∈ x.ms.set (k : Int).toNat ⟨-1, -1, 0⟩ := hm
   rcases List.mem_or_eq_of_mem_set hm' with hm' | rfl
   ·exact hv.left mc hm'
   ·exact hS0
end
section
variable {p : cj} {N Rm GG m n u k S : Nat} {x y z : Sc} {i g a kind v : Int}
theorem U7 {q : Loc} {t : Int} {gl : List Int} {j : Nat} (h : gl[j]? = some g) : (fJ q t gl).2.2.1 = g ∨ ∃ j', j' ≤ j ∧ (fJ q t gl).2.1[j']? = some g := by
 obtain ⟨hn, _, hp⟩ := qd q gl
 have h := xg hp h
 unfold fJ
 generalize q.dy gl = r at hn h
 obtain ⟨q1, g1, n1⟩ := r
 dsimp only at hn h ⊢
 clear hp
 split
 ·cases g1 with
  | nil => simp at h
  | cons v l =>
   cases j with
   | zero => exact .inl (by simpa using h)
   | succ j => exact .inr ⟨j, by omega, by simpa using h⟩
 ·split
  ·exact .inr ⟨j, Nat.le_refl _, h⟩
  ·rw [CR]
   cases g1 with
   | nil => simp at h
   | cons v l =>
    cases j with
    | zero => exact .inl (by simpa using h)
    | succ j => exact .inr ⟨j, by omega, by simpa using h⟩
theorem QK {ps : List c9} {j : Nat} {pr : c9} (h : ps[j]? = some pr) : pr.q.all.count a ≤ js ps a := by
 unfold js
 exact nj Loc.all _ pr.q (List.mem_map.2 ⟨pr, List.mem_of_getElem? h, rfl⟩)
theorem SV.QL (hs : SV p N x) (i0 : 0 ≤ i) (i1 : i < x.ps.length) : ((ax x i).q.dy x.gl).2.1.length ≤ x.w.gs.length := hs.CS fun a => by
 have h1 := Eh (ax x i).q x.gl a
 have h2 := QK (a := a) (lz i0 i1)
 unfold jt
 omega
theorem N1 (hs : SV p N x) (hv : HV Rm x) (RM : x.w.gs.length ≤ GG) (k1 : k < x.ms.length) (hk : (av x (k : Int)).p ≠ -1) (NZ : (av x (k : Int)).g = -1) (hS : x.c.S = (S : Int)) {e : Ev} (hf : x.find (k : Int) = (y, .ev e)) :
  (0 ≤ g → Kw Rm GG x g m n u → nk Rm GG S y g k m n u) ∧ HV Rm y := by
 have hmk := fY (x := x) (m := (k : Int)) (by omega) (by omega)
 rw [Int.toNat_natCast] at hmk
 have ze := hs.mv hmk
 have hr : 0 ≤ (av x (k : Int)).p ∧ (av x (k : Int)).p < x.ps.length ∧ 0 ≤ (av x (k : Int)).left := by
  rcases ze with e | e
  ·exact absurd e.1 hk
  ·omega
 obtain ⟨i0, i1, l0⟩ := hr
 have U8 : ∀ {mc : tZ} {c : Nat}, x.ms[c]? = some mc → mc.p ≠ -1 → c ≠ k → mc.p.toNat ≠ (av x (k : Int)).p.toNat := fun h1 hp hc => hs.other k1 hk h1 hp hc
 have jh := lz i0 i1
 have R6 := List.mem_of_getElem? jh
 have ht := (hs.dy _ R6).1
 have hroom := hv.room _ R6
 have U9 := hs.room _ R6
 have Vw := hs.QL i0 i1
 have hcP := hs.cP
 unfold Sc.find at hf
 dsimp only at hf
 generalize hi : (av x (k : Int)).p = i at *
 split at hf
 ·
  rename_i hn
  simp only [Prod.mk.injEq] at hf
  obtain ⟨hf, _⟩ := hf
  have eg : (ax x i).q.get = ({ (ax x i).q with next := -1 }, (ax x i).q.next) := by unfold Loc.get; rw [if_pos hn.2]
  rw [eg] at hf
  dsimp only at hf
  have Kx : ∀ c, c ≠ k → y.ms[c]? = x.ms[c]? := fun c hc => by rw [← hf]; show (x.ms.set (k : Int).toNat _)[c]? = _; rw [Int.toNat_natCast, jH hc]
  have QI : y.ms[k]? = some ⟨i, (ax x i).q.next, (av x (k : Int)).left⟩ := by rw [← hf]; show (x.ms.set (k : Int).toNat _)[k]? = _; rw [Int.toNat_natCast, List.getElem?_set_self k1]
  have N0 : y.gl = x.gl := by rw [← hf]; rfl
  have ypi : ax y i = { ax x i with q := { (ax x i).q with next := -1 } } := by rw [← hf]; exact bB (by omega)
  have QJ : ∀ j : Int, j.toNat ≠ i.toNat → ax y j = ax x j := fun j hj => by rw [← hf]; exact getD_set_ne hj
  refine ⟨fun h0 h => ?_, ⟨fun j hj => ?_, fun pr hp => ?_, fun mc hm => ?_⟩⟩
  ·obtain ⟨mc, h1, h2⟩ := h
   by_cases e : m = k
   ·subst e
    rw [hmk] at h1
    obtain rfl := Option.some.inj h1
    rcases h2 with h2 | ⟨h2, h3, h4⟩ | ⟨h2, _⟩
    ·omega
    ·rw [hi] at h4
     have hu : uM (av x (m : Int)) = 2 * (av x (m : Int)).left.toNat + 1 := by unfold uM; rw [if_pos NZ]
     rcases h4 with ⟨h4, _⟩ | h4
     ·exact .inr ⟨n, u - 1, .inr ⟨Nat.le_refl _, by omega⟩, _, QI, .inl h4⟩
     ·refine .inr ⟨n, u - 1, .inr ⟨Nat.le_refl _, by omega⟩, _, QI, .inr (.inl ⟨by dsimp only; omega, ?_, ?_⟩)⟩
      ·unfold uM; dsimp only; rw [if_neg hn.2]; omega
      ·dsimp only
       rw [ypi, N0]
       exact .inr h4
    ·have := h2 _ (List.mem_of_getElem? hmk); omega
   ·rcases h2 with h2 | ⟨h2, h3, h4⟩ | ⟨h2, _⟩
    ·exact .inl ⟨Ne.symm e, mc, by rw [Kx m e]; exact h1, .inl h2⟩
    ·refine .inl ⟨Ne.symm e, mc, by rw [Kx m e]; exact h1, .inr (.inl ⟨h2, h3, ?_⟩)⟩
     rw [QJ _ (U8 h1 h2 e), N0]
     exact h4
    ·have := h2 _ (List.mem_of_getElem? hmk); omega
  ·have hj' : j < x.ps.length := by rw [← hf] at hj; simpa [Sc.bO, Sc.gB] using hj
   by_cases e : j = i.toNat
   ·exact .inr ⟨k, _, QI, by dsimp only; omega⟩
   ·rcases hv.hold j hj' with hh | ⟨c, mc, h1, h2⟩
    ·rw [QJ _ (by omega)]; exact .inl hh
    ·have hc : c ≠ k := by
      rintro rfl
      rw [hmk] at h1
      obtain rfl := Option.some.inj h1
      omega
     exact .inr ⟨c, mc, by rw [Kx c hc]; exact h1, h2⟩
  ·have wg : pr ∈ x.ps.set i.toNat { ax x i with q := { (ax x i).q with next := -1 } } := by rw [← hf] at hp; exact hp
   rcases List.mem_or_eq_of_mem_set wg with wg | rfl
   ·exact hv.room pr wg
   ·exact hroom
  ·have hm' : mc ∈ x.ms.set (k : Int).toNat ⟨i, (ax x i).q.next, (av x (k : Int)).left⟩ := by rw [← hf] at hm; exact hm
   have ec : y.c = x.c := by rw [← hf]; rfl
   rw [ec]
   rcases List.mem_or_eq_of_mem_set hm' with hm' | rfl
   ·exact hv.left mc hm'
   ·exact hv.left (av x (k : Int)) (List.mem_of_getElem? hmk)
 ·have hown : Sc.own x i = ({ x with ps := x.ps.set i.toNat { ax x i with q := (fJ (ax x i).q (ax x i).turns x.gl).1 }, gl := (fJ (ax x i).q (ax x i).turns x.gl).2.1 }, (fJ (ax x i).q (ax x i).turns x.gl).2.2.1, (fJ (ax x i).q (ax x i).turns x.gl).2.2.2) := rfl
  rw [hown] at hf
  have olv : ∀ {n}, 0 ≤ g → Lv Rm GG (ax x i).q x.gl (ax x i).turns g n → _ := fun h0 hh => U5 hh h0 ht hroom (Nat.le_trans Vw RM)
  have ono := NT (q := (ax x i).q) (t := (ax x i).turns) (gl := x.gl)
  have YM := NU (q := (ax x i).q) (t := (ax x i).turns) (gl := x.gl)
  have ogl : ∀ {j}, x.gl[j]? = some g → _ := fun hh => U7 (q := (ax x i).q) (t := (ax x i).turns) hh
  have osv := Il (t := (ax x i).turns) (hs.NI R6) U9 hs.R5
  generalize fJ (ax x i).q (ax x i).turns x.gl = r at *
  obtain ⟨q1, g1, v1, has⟩ := r
  dsimp only at hf olv ono YM ogl osv
  obtain ⟨_, _, o3, o4⟩ := osv
  have gi : ∀ b : c9, (x.ps.set i.toNat b).getD i.toNat cF = b := fun b => bB (by omega)
  have gj : ∀ (b : c9) (j : Nat), j ≠ i.toNat → (x.ps.set i.toNat b).getD j cF = x.ps.getD j cF := fun b j hj => getD_set_ne hj
  have RP : ∀ j : Nat, ((x.ps.set i.toNat { ax x i with q := q1 }).getD j cF).turns = (x.ps.getD j cF).turns := fun j => by
   by_cases e : j = i.toNat
   ·subst e; rw [gi]; rfl
   ·rw [gj _ j e]
  have vJ : ∀ j : Nat, ((x.ps.set i.toNat { ax x i with q := q1 }).getD j cF).eD = (x.ps.getD j cF).eD := fun j => by
   by_cases e : j = i.toNat
   ·subst e; rw [gi]; rfl
   ·rw [gj _ j e]
  have tU : ∀ pr ∈ x.ps.set i.toNat { ax x i with q := q1 }, pr.q.room = Rm := fun pr hp => by
   rcases List.mem_or_eq_of_mem_set hp with hp | rfl
   ·exact hv.room pr hp
   ·exact YM.trans hroom
  have zX : ∀ j : Nat, j ≠ i.toNat → (x.ps.getD j cF).q.next = -1 → (x.ps.getD j cF).q.l = [] → ((x.ps.set i.toNat { ax x i with q := q1 }).getD j cF).q.next = -1 ∧ ((x.ps.set i.toNat { ax x i with q := q1 }).getD j cF).q.l = [] := fun j hj a b => by
   rw [gj _ j hj]; exact ⟨a, b⟩
  have N2 : has = false → 0 ≤ g → (∀ n, ¬ Lv Rm GG (ax x i).q x.gl (ax x i).turns g n) ∧ ∀ j : Int, Lv Rm GG (ax x j).q x.gl (ax x j).turns g n → (∀ CH, Lv Rm GG (ax x j).q CH (ax x j).turns g n) := fun e h0 => by
   have n1 : ∀ n, ¬ Lv Rm GG (ax x i).q x.gl (ax x i).turns g n := fun n hh => by
    have := (olv h0 hh).1
    rw [e] at this; cases this
   refine ⟨n1, fun j hh CH => ?_⟩
   rcases hh with hh | hh | ⟨c, c1, c2⟩
   ·exact .inl hh
   ·exact .inr (.inl hh)
   ·exact absurd (.inr (.inr ⟨c, c1, Nat.le_refl _⟩)) (n1 _)
  split at hf
  ·rename_i hh
   have nb := N2 hh.1
   obtain ⟨Ya, VI, _, on4⟩ := ono hh.1
   split at hf
   ·simp at hf
   ·rename_i d2 w iU
    have OD := ei hs.k iU
    have OJ : gn x.c.P = x.c.P := by unfold gn; rw [if_neg (by omega)]
    rw [OJ] at OD
    try dsimp only at hf
    split at hf
    ·simp only [Prod.mk.injEq] at hf
     rw [← hf.1]
     refine ⟨fun h0 h => zh hs k1 hi i0 i1 (by simp) NZ h0 h RP (fun j j0 j1 Yb hj => ?_) ((nb h0).1 n), vC hv hs k1 hi i0 i1 (by simp) tU vJ zX (by omega) (fun _ => by rw [gi]; exact ⟨Ya, VI⟩)⟩
     rw [gj _ _ (by omega)]
     exact (nb h0).2 j hj _
    ·rename_i XO
     have hne : w.toNat ≠ i.toNat := by omega
     have epi : ax { x with ps := x.ps.set i.toNat { ax x i with q := q1 }, gl := g1, d := d2 } i = { ax x i with q := q1 } := bB (by omega)
     have epv : ax { x with ps := x.ps.set i.toNat { ax x i with q := q1 }, gl := g1, d := d2 } w = ax x w := getD_set_ne hne
     rw [epi, epv] at hf
     dsimp only at hf
     have GH := lz (x := x) (i := w) OD.1 (by omega)
     have R7 := List.mem_of_getElem? GH
     have GO := hs.room _ R7
     have hvR := hv.room _ R7
     have hst := Kv (q := q1) (f := (ax x w).q) VI (YM.trans hroom) (by have := GO.1; omega) Ya
     have hsp := AZ (x := q1) (hs.NI R7) (by rw [VI]; simp)
     generalize q1.cT (ax x w).q = s at hst hf hsp
     obtain ⟨s1, s2, s3⟩ := s
     dsimp only at hf hsp
     have hz : Sc.bO (Sc.bO { x with ps := x.ps.set i.toNat { ax x i with q := q1 }, gl := g1, d := d2 } i { ax x i with q := s1 }) w { ax x w with q := s2 } = { x with ps := (x.ps.set i.toNat { ax x i with q := s1 }).set w.toNat { ax x w with q := s2 }, gl := g1, d := d2 } := by
      unfold Sc.bO
      dsimp only
      rw [List.set_set]
     rw [hz] at hf
     simp only [Prod.mk.injEq] at hf
     rw [← hf.1]
     have zi : ((x.ps.set i.toNat { ax x i with q := s1 }).set w.toNat { ax x w with q := s2 }).getD i.toNat cF = { ax x i with q := s1 } := by rw [getD_set_ne (Ne.symm hne)]; exact gi _
     have zw : ((x.ps.set i.toNat { ax x i with q := s1 }).set w.toNat { ax x w with q := s2 }).getD w.toNat cF = { ax x w with q := s2 } := bB (by simp; omega)
     have zj : ∀ j : Nat, j ≠ i.toNat → j ≠ w.toNat → ((x.ps.set i.toNat { ax x i with q := s1 }).set w.toNat { ax x w with q := s2 }).getD j cF = x.ps.getD j cF := fun j a b => by rw [getD_set_ne b]; exact gj _ j a
     have RQ : ∀ j : Nat, (((x.ps.set i.toNat { ax x i with q := s1 }).set w.toNat { ax x w with q := s2 }).getD j cF).turns = (x.ps.getD j cF).turns := fun j => by
      by_cases e : j = i.toNat
      ·subst e; rw [zi]; rfl
      ·by_cases e2 : j = w.toNat
       ·subst e2; rw [zw]; rfl
       ·rw [zj j e e2]
     have EW : ∀ j : Nat, (((x.ps.set i.toNat { ax x i with q := s1 }).set w.toNat { ax x w with q := s2 }).getD j cF).eD = (x.ps.getD j cF).eD := fun j => by
      by_cases e : j = i.toNat
      ·subst e; rw [zi]; rfl
      ·by_cases e2 : j = w.toNat
       ·subst e2; rw [zw]; rfl
       ·rw [zj j e e2]
     rcases hst with ⟨fe, st⟩ | ⟨v0, out, rest, fe, st⟩
     ·
      simp only [Prod.mk.injEq] at st
      obtain ⟨rfl, rfl, rfl⟩ := st
      have Nf : ∀ pr ∈ (x.ps.set i.toNat { ax x i with q := s1 }).set w.toNat { ax x w with q := { (ax x w).q with next := -1 } }, pr.q.room = Rm := fun pr hp => by
       rcases List.mem_or_eq_of_mem_set hp with hp | rfl
       ·exact tU pr hp
       ·exact hvR
      have si : ∀ j : Nat, j ≠ i.toNat → (x.ps.getD j cF).q.next = -1 → (x.ps.getD j cF).q.l = [] → (((x.ps.set i.toNat { ax x i with q := s1 }).set w.toNat { ax x w with q := { (ax x w).q with next := -1 } }).getD j cF).q.next = -1 ∧ (((x.ps.set i.toNat { ax x i with q := s1 }).set w.toNat { ax x w with q := { (ax x w).q with next := -1 } }).getD j cF).q.l = [] := fun j hj a b => by
       by_cases e2 : j = w.toNat
       ·subst e2; rw [zw]; exact ⟨rfl, fe⟩
       ·rw [zj j hj e2]; exact ⟨a, b⟩
      have hsh : fz (ax x w).q (ax x w).q.next = ((ax x w).q.next != -1) := by unfold fz; rw [fe]; simp
      rw [hsh]
      by_cases OC : (ax x w).q.next = -1
      ·rw [show ((ax x w).q.next != -1) = false by rw [OC]; rfl]
       refine ⟨fun h0 h => zh hs k1 hi i0 i1 (by simp) NZ h0 h RQ (fun j j0 j1 Yb hj => ?_) ((nb h0).1 n), vC hv hs k1 hi i0 i1 (by simp) Nf EW si (by omega) (fun _ => by rw [zi]; exact ⟨Ya, VI⟩)⟩
       have I9 := (nb h0).2 j hj g1
       by_cases e2 : j.toNat = w.toNat
       ·have ej : j = w := by omega
        subst ej
        rw [zw]
        dsimp only
        rw [show ({ (ax x j).q with next := -1 } : Loc) = (ax x j).q by rw [← OC]]
        exact I9
       ·rw [zj _ (by omega) e2]
        exact I9
      ·rw [show ((ax x w).q.next != -1) = true by simpa using OC]
       have hnx0 : 0 ≤ (ax x w).q.next := by have := (hs.NI R7).1; omega
       refine ⟨fun h0 h => CT hs k1 hi i0 i1 hS (by simp) hnx0 NZ h0 h RQ (fun j j0 j1 Yb hj => ?_) (fun hj => absurd hj ((nb h0).1 n)), vC hv hs k1 hi i0 i1 (by simp) Nf EW si (by omega) (fun e => by cases e)⟩
       by_cases e2 : j.toNat = w.toNat
       ·have ej : j = w := by omega
        subst ej
        rcases hj with ⟨hj, _⟩ | ⟨c, c1, _⟩ | ⟨c, c1, _⟩
        ·exact .inr (.inl hj)
        ·rw [fe] at c1; simp at c1
        ·exact absurd (.inr (.inr ⟨c, c1, Nat.le_refl _⟩)) ((nb h0).1 _)
       ·rw [zj _ (by omega) e2]
        exact .inl ((nb h0).2 j hj g1)
     ·simp only [Prod.mk.injEq] at st
      obtain ⟨rfl, rfl, rfl⟩ := st
      have Nf : ∀ pr ∈ (x.ps.set i.toNat { ax x i with q := { q1 with l := out } }).set w.toNat { ax x w with q := { (ax x w).q with l := rest } }, pr.q.room = Rm := fun pr hp => by
       rcases List.mem_or_eq_of_mem_set hp with hp | rfl
       ·rcases List.mem_or_eq_of_mem_set hp with hp | rfl
        ·exact hv.room pr hp
        ·exact YM.trans hroom
       ·exact hvR
      have si : ∀ j : Nat, j ≠ i.toNat → (x.ps.getD j cF).q.next = -1 → (x.ps.getD j cF).q.l = [] → (((x.ps.set i.toNat { ax x i with q := { q1 with l := out } }).set w.toNat { ax x w with q := { (ax x w).q with l := rest } }).getD j cF).q.next = -1 ∧ (((x.ps.set i.toNat { ax x i with q := { q1 with l := out } }).set w.toNat { ax x w with q := { (ax x w).q with l := rest } }).getD j cF).q.l = [] := fun j hj a b => by
       by_cases e2 : j = w.toNat
       ·subst e2
        have b' : (ax x w).q.l = [] := b
        rw [fe] at b'; cases b'
       ·rw [zj j hj e2]; exact ⟨a, b⟩
      have hsh : fz (ax x w).q s3 = true := by unfold fz; rw [fe]; simp
      rw [hsh]
      have hs3 : 0 ≤ s3 := by
       rcases hsp with ⟨e, _⟩ | ⟨_, e⟩
       ·rw [fe] at e; cases e
       ·exact e
      refine ⟨fun h0 h => CT hs k1 hi i0 i1 hS (by simp) hs3 NZ h0 h RQ (fun j j0 j1 Yb hj => ?_) (fun hj => absurd hj ((nb h0).1 n)), vC hv hs k1 hi i0 i1 (by simp) Nf EW si (by omega) (fun e => by cases e)⟩
      by_cases e2 : j.toNat = w.toNat
      ·have ej : j = w := by omega
       subst ej
       rw [zw, zi]
       dsimp only
       rcases hj with hj | ⟨c, c1, c2⟩ | ⟨c, c1, _⟩
       ·exact .inl (.inl hj)
       ·rw [fe] at c1
        cases c with
        | zero => exact .inr (.inl (by simpa using c1))
        | succ c =>
         rw [List.getElem?_cons_succ] at c1
         by_cases hc : c < out.length
         ·rw [List.getElem?_append_left hc] at c1
          have h7 := CQ ((ax x i).turns + 1)
          exact .inr (.inr ⟨2 * c + 1 + (7 * GG + 7), by omega, .inr (.inl ⟨c, c1, by omega⟩)⟩)
         ·rw [List.getElem?_append_right (by omega)] at c1
          exact .inl (.inr (.inl ⟨c - out.length, c1, by omega⟩))
       ·exact absurd (.inr (.inr ⟨c, c1, Nat.le_refl _⟩)) ((nb h0).1 _)
      ·rw [zj _ (by omega) e2]
       exact .inl ((nb h0).2 j hj g1)
  ·rename_i hh
   simp only [Prod.mk.injEq] at hf
   rw [← hf.1]
   cases has with
   | false =>
    have nb := N2 rfl
    obtain ⟨Ya, VI, _, on4⟩ := ono rfl
    refine ⟨fun h0 h => zh (dz := x.d) hs k1 hi i0 i1 (by simp) NZ h0 h RP (fun j j0 j1 Yb hj => ?_) ((nb h0).1 n), vC (dz := x.d) hv hs k1 hi i0 i1 (by simp) tU vJ zX (by omega) (fun _ => by rw [gi]; exact ⟨Ya, VI⟩)⟩
    rw [gj _ _ (by omega)]
    exact (nb h0).2 j hj _
   | true =>
    refine ⟨fun h0 h => CT (dz := x.d) hs k1 hi i0 i1 hS (by simp) (o3 rfl) NZ h0 h RP (fun j j0 j1 Yb hj => ?_) (fun hj => ?_), vC (dz := x.d) hv hs k1 hi i0 i1 (by simp) tU vJ zX (by omega) (fun e => by cases e)⟩
    ·rw [gj _ _ (by omega)]
     rcases hj with hj | hj | ⟨c, c1, c2⟩
     ·exact .inl (.inl hj)
     ·exact .inl (.inr (.inl hj))
     ·rcases ogl c1 with e | ⟨c', e1, e2⟩
      ·exact .inr (.inl e)
      ·exact .inl (.inr (.inr ⟨c', e2, by omega⟩))
    ·rw [gi]
     exact (olv h0 hj).2
end
section
variable {p : cj} {N Rm GG m n u k S : Nat} {x y z : Sc} {i g a kind v : Int}
theorem Iq : ∀ (l : List Int) (z : Sc), 0 ≤ (av z a).p → (av z a).p < z.ps.length →
  z.gl <+: (l.foldl (aD a) z).gl ∧ (∀ j : Nat, j ≠ (av z a).p.toNat → (l.foldl (aD a) z).ps.getD j cF = z.ps.getD j cF) ∧
  (∀ Rm, (∀ pr ∈ z.ps, pr.q.room = Rm) → (∀ pr ∈ (l.foldl (aD a) z).ps, pr.q.room = Rm)) ∧
  (∀ (t g : Int) (Rm GG n : Nat), 0 ≤ g → (∀ pr ∈ z.ps, pr.q.room = Rm) → (l.foldl (aD a) z).gl.length ≤ GG → Lv Rm GG (ax z (av z a).p).q z.gl t g n → Lv Rm GG (ax (l.foldl (aD a) z) (av z a).p).q (l.foldl (aD a) z).gl t g n)
 | [], z, _, _ => ⟨List.prefix_refl _, fun _ _ => rfl, fun _ h => h, fun _ _ _ _ _ _ _ _ h => h⟩
 | r :: l, z, h0, h1 => by
  have jh := lz (x := z) h0 h1
  have hps : (aD a z r).ps.length = z.ps.length := by simp [aD, Sc.bO]
  have ji : av (aD a z r) a = av z a := rfl
  obtain ⟨a1, a2, a3, a4⟩ := Iq l (aD a z r) (by rw [ji]; exact h0) (by rw [ji, hps]; exact h1)
  obtain ⟨n1, n2, n3⟩ := GR (ax z (av z a).p).q r z.gl
  have egl : (aD a z r).gl = ((ax z (av z a).p).q.ready r z.gl).2.1 := rfl
  have eq : (ax (aD a z r) (av z a).p).q = ((ax z (av z a).p).q.ready r z.gl).1 := by
   show ((z.ps.set (av z a).p.toNat _).getD (av z a).p.toNat cF).q = _
   rw [bB (by omega)]
  have X3 : ∀ Rm, (∀ pr ∈ z.ps, pr.q.room = Rm) → ∀ pr ∈ (aD a z r).ps, pr.q.room = Rm := fun Rm hr pr hp => by
   have wg : pr ∈ z.ps.set (av z a).p.toNat { ax z (av z a).p with q := ((ax z (av z a).p).q.ready r z.gl).1 } := hp
   rcases List.mem_or_eq_of_mem_set wg with wg | rfl
   ·exact hr pr wg
   ·exact n2.trans (hr _ (List.mem_of_getElem? jh))
  rw [List.foldl_cons]
  refine ⟨?_, fun j hj => ?_, fun Rm hr => a3 Rm (X3 Rm hr), fun t g Rm GG n g0 hr hG hl => ?_⟩
  ·exact (egl ▸ n3 : z.gl <+: (aD a z r).gl).trans a1
  ·rw [a2 j hj]
   show (z.ps.set (av z a).p.toNat _).getD j cF = _
   exact getD_set_ne hj
  ·refine a4 t g Rm GG n g0 (X3 Rm hr) hG ?_
   rw [ji, eq, egl]
   refine NR hl g0 (hr _ (List.mem_of_getElem? jh)) ?_
   rw [← egl]
   exact Nat.le_trans a1.length_le hG
theorem GU (hs : SV p N x) (hv : HV Rm x) (k1 : k < x.ms.length) (hk : (av x (k : Int)).p ≠ -1) (NZ : 0 ≤ (av x (k : Int)).g) {l : List Int} {w : Wd} {d : iO} {keep : Bool}
  (hy : (Sc.fW (l.foldl (aD (k : Int)) { x with w := w, d := d }) (k : Int) (av x (k : Int)).g keep l).1 = y) (hG : y.gl.length ≤ GG) : (0 ≤ g → g ≠ (av x (k : Int)).g → Kw Rm GG x g m n u → nk Rm GG S y g k m n u) ∧ HV Rm y := by
 have hmk := fY (x := x) (m := (k : Int)) (by omega) (by omega)
 rw [Int.toNat_natCast] at hmk
 have ze := hs.mv hmk
 have hr : 0 ≤ (av x (k : Int)).p ∧ (av x (k : Int)).p < x.ps.length ∧ 1 ≤ (av x (k : Int)).left := by
  rcases ze with e | e
  ·exact absurd e.1 hk
  ·have := e.2.2.2.2.2 NZ; omega
 obtain ⟨i0, i1, l0⟩ := hr
 have U8 : ∀ {mc : tZ} {c : Nat}, x.ms[c]? = some mc → mc.p ≠ -1 → c ≠ k → mc.p.toNat ≠ (av x (k : Int)).p.toNat := fun h1 hp hc => hs.other k1 hk h1 hp hc
 have f1 := eA (m := (k : Int)) l { x with w := w, d := d } i0 i1
 have f2 := Iq (a := (k : Int)) l { x with w := w, d := d } i0 i1
 have f3 := vA (m := (k : Int)) l { x with w := w, d := d } i0 i1
 have em : av { x with w := w, d := d } (k : Int) = av x (k : Int) := rfl
 have ep : ∀ j, ax { x with w := w, d := d } j = ax x j := fun _ => rfl
 rw [em] at f2
 simp only [ep] at f2
 have f3 : ∀ j : Nat, ((l.foldl (aD (k : Int)) { x with w := w, d := d }).ps.getD j cF).eD = (x.ps.getD j cF).eD ∧ ((l.foldl (aD (k : Int)) { x with w := w, d := d }).ps.getD j cF).turns = (x.ps.getD j cF).turns := by
  clear f3 f1 f2
  have : ∀ (l : List Int) (z : Sc), 0 ≤ (av z (k : Int)).p → (av z (k : Int)).p < z.ps.length → ∀ j : Nat, ((l.foldl (aD (k : Int)) z).ps.getD j cF).eD = (z.ps.getD j cF).eD ∧ ((l.foldl (aD (k : Int)) z).ps.getD j cF).turns = (z.ps.getD j cF).turns := by
   intro l
   induction l with
   | nil => exact fun z _ _ j => ⟨rfl, rfl⟩
   | cons r l ih =>
    intro z z0 z1 j
    have hps : (aD (k : Int) z r).ps.length = z.ps.length := by simp [aD, Sc.bO]
    have ji : av (aD (k : Int) z r) (k : Int) = av z (k : Int) := rfl
    obtain ⟨b1, b2⟩ := ih (aD (k : Int) z r) (by rw [ji]; exact z0) (by rw [ji, hps]; exact z1) j
    rw [List.foldl_cons, b1, b2]
    show ((z.ps.set (av z (k : Int)).p.toNat _).getD j cF).eD = _ ∧ ((z.ps.set (av z (k : Int)).p.toNat _).getD j cF).turns = _
    by_cases e : j = (av z (k : Int)).p.toNat
    ·subst e
     rw [bB (by omega)]
     exact ⟨rfl, rfl⟩
    ·rw [getD_set_ne e]
     exact ⟨rfl, rfl⟩
  exact this l { x with w := w, d := d } i0 i1
 generalize List.foldl (aD (k : Int)) { x with w := w, d := d } l = z at *
 obtain ⟨z1, z2, z3, z4, z5, z6, _⟩ := f1
 obtain ⟨b1, b2, b3, b4⟩ := f2
 try dsimp only at z1 z2 b1 b2 b3 b4
 have emz : av z (k : Int) = av x (k : Int) := by unfold av; rw [z1]
 have all : ∃ kV, y.c = x.c ∧ kV.left ≤ (av x (k : Int)).left ∧ y.ms = x.ms.set k kV ∧ kV.p = (av x (k : Int)).p ∧ uM kV + 1 ≤ uM (av x (k : Int)) ∧ y.ps = z.ps ∧ z.gl <+: y.gl := by
  have hu : uM (av x (k : Int)) = 2 * (av x (k : Int)).left.toNat := by unfold uM; rw [if_neg (by omega)]
  rw [hu]
  unfold Sc.fW at hy
  rw [emz] at hy
  split at hy
  ·refine ⟨{ av x (k : Int) with left := (av x (k : Int)).left - 1 }, by rw [← hy]; exact z5, by dsimp only; omega, ?_, rfl, ?_, ?_, ?_⟩
   ·rw [← hy]; show z.ms.set (k : Int).toNat _ = _; rw [z1, Int.toNat_natCast]
   ·unfold uM; dsimp only; rw [if_neg (by omega)]; omega
   ·rw [← hy]; rfl
   ·rw [← hy]; exact List.prefix_refl _
  ·refine ⟨{ av x (k : Int) with left := (av x (k : Int)).left - 1, g := -1 }, by rw [← hy]; exact z5, by dsimp only; omega, ?_, rfl, ?_, ?_, ?_⟩
   ·rw [← hy]; show z.ms.set (k : Int).toNat _ = _; rw [z1, Int.toNat_natCast]
   ·unfold uM; dsimp only; rw [if_pos rfl]; omega
   ·rw [← hy]; rfl
   ·rw [← hy]
    dsimp only
    split
    ·exact List.prefix_append _ _
    ·exact List.prefix_refl _
 obtain ⟨kV, yc, ml, Kx, mp, mu, Yc, N0⟩ := all
 have QI : y.ms[k]? = some kV := by rw [Kx, List.getElem?_set_self k1]
 have ymc : ∀ c, c ≠ k → y.ms[c]? = x.ms[c]? := fun c hc => by rw [Kx, jH hc]
 have QJ : ∀ j : Int, j.toNat ≠ (av x (k : Int)).p.toNat → ax y j = ax x j := fun j hj => by
  show y.ps.getD j.toNat cF = _
  rw [Yc, b2 _ hj]; rfl
 have ypt : ∀ j : Int, (ax y j).turns = (ax x j).turns := fun j => by
  show (y.ps.getD j.toNat cF).turns = _
  rw [Yc, (f3 _).2]; rfl
 have hroom : ∀ pr ∈ x.ps, pr.q.room = Rm := hv.room
 refine ⟨fun h0 hgk h => ?_, ⟨fun j hj => ?_, fun pr hp => ?_, fun mc hm => ?_⟩⟩
 ·obtain ⟨mc, h1, h2⟩ := h
  by_cases e : m = k
  ·subst e
   rw [hmk] at h1
   obtain rfl := Option.some.inj h1
   rcases h2 with h2 | ⟨h2, h3, h4⟩ | ⟨h2, _⟩
   ·exact absurd h2.symm hgk
   ·refine .inr ⟨n, u - 1, .inr ⟨Nat.le_refl _, by omega⟩, kV, QI, .inr (.inl ⟨by omega, by omega, ?_⟩)⟩
    rw [mp, ypt]
    have := b4 (ax x (av x (m : Int)).p).turns g Rm GG n h0 hroom (Nat.le_trans N0.length_le hG) h4
    have e2 : ax y (av x (m : Int)).p = ax z (av x (m : Int)).p := by unfold ax; rw [Yc]
    rw [e2]
    exact GS this N0
   ·have := h2 _ (List.mem_of_getElem? hmk); omega
  ·rcases h2 with h2 | ⟨h2, h3, h4⟩ | ⟨h2, _⟩
   ·exact .inl ⟨Ne.symm e, mc, by rw [ymc m e]; exact h1, .inl h2⟩
   ·refine .inl ⟨Ne.symm e, mc, by rw [ymc m e]; exact h1, .inr (.inl ⟨h2, h3, ?_⟩)⟩
    rw [QJ _ (U8 h1 h2 e)]
    exact GS h4 (b1.trans N0)
   ·have := h2 _ (List.mem_of_getElem? hmk); omega
 ·have hj' : j < x.ps.length := by rw [Yc, z2] at hj; exact hj
  by_cases e : j = (av x (k : Int)).p.toNat
  ·exact .inr ⟨k, kV, QI, by omega⟩
  ·rcases hv.hold j hj' with hh | ⟨c, mc, h1, h2⟩
   ·rw [QJ _ (by omega)]; exact .inl hh
   ·have hc : c ≠ k := by
     rintro rfl
     rw [hmk] at h1
     obtain rfl := Option.some.inj h1
     omega
    exact .inr ⟨c, mc, by rw [ymc c hc]; exact h1, h2⟩
 ·rw [Yc] at hp
  exact b3 Rm hroom pr hp
 ·rw [Kx] at hm
  rw [yc]
  rcases List.mem_or_eq_of_mem_set hm with hm | rfl
  ·exact hv.left mc hm
  ·exact Int.le_trans ml (hv.left _ (List.mem_of_getElem? hmk))
theorem run_shape {e : Ev} {d0 : iO} (h : Sc.run p { x with d := d0 } a = some (z, .ev e)) : ∃ (l : List Int) (w : Wd) (d : iO) (keep : Bool), (Sc.fW (l.foldl (aD a) { x with w := w, d := d }) a (av x a).g keep l).1 = z ∧ e.kind = 7 ∧ e.g = (av x a).g := by
 have on : ∀ {d' : iO} {w : Wd} {rest : Bool}, en { x with d := d0 } a (av x a).g d' w rest = some (z, .ev e) → _ := fun {d' w rest} hh => by
  unfold en at hh
  split at hh
  ·simp only [Option.some.injEq, Prod.mk.injEq, gC.ev.injEq] at hh
   refine (⟨w.ready, w, d', gJ w (av x a).g rest, hh.1, ?_⟩ : ∃ (l : List Int) (w : Wd) (d : iO) (keep : Bool), (Sc.fW (l.foldl (aD a) { x with w := w, d := d }) a (av x a).g keep l).1 = z ∧ e.kind = 7 ∧ e.g = (av x a).g)
   rw [← hh.2]
   unfold Sc.fW
   split <;> exact ⟨rfl, rfl⟩
  ·cases hh
 unfold Sc.run at h
 have em : av { x with d := d0 } a = av x a := rfl
 rw [em] at h
 split at h
 ·split at h
  ·split at h
   ·cases h
   ·simp at h
   ·exact on h
   ·exact on h
  ·cases h
 ·cases h
theorem N3 (hs : SV p N x) (hv : HV Rm x) (RM : x.w.gs.length ≤ GG) (hS : x.c.S = (S : Int)) {e : Ev} (hy : x.step p = some (y, .ev e)) (hst : x.status = 0) (hys : SV p (N + 1) y) (hyG : y.w.gs.length ≤ GG) :
  ∃ d' k, x.d.draw 1 (x.c.M + 1) = (d', .num k) ∧ 0 ≤ k ∧ k ≤ x.ms.length ∧ HV Rm y ∧ (∀ g m n u, 0 ≤ g → (e.kind = 7 → e.g ≠ g) → m < x.ms.length → Kw Rm GG x g m n u → nk Rm GG S y g k.toNat m n u) := by
 unfold Sc.step at hy
 split at hy
 ·rw [if_neg (by rw [hst]; decide)] at hy
  split at hy
  ·simp at hy
  ·rename_i d' k iU
   have OD := ei hs.k iU
   have hM := hs.cM
   have U3 := hs.M1
   rw [show gn (x.c.M + 1) = x.c.M + 1 from by unfold gn; rw [if_neg (by omega)]] at OD
   refine ⟨d', k, iU, OD.1, by omega, ?_⟩
   have hsd : SV p (N + 1) { x with d := d' } := hs.draw (by
    have h1 := uh (k := 1) (n := x.c.M + 1) hs.k
    rw [iU] at h1
    have := hs.tk
    dsimp only at h1
    omega) (by have := kQ (kind := 1) (n := x.c.M + 1) hs.k; rw [iU] at this; exact this)
   have XH : HV Rm { x with d := d' } := ⟨hv.hold, hv.room, hv.left⟩
   have hin : ∀ (z : Sc) (g : Int) (pk m n u : Nat) (t : Int), nk Rm GG S z g pk m n u → nk Rm GG S { z with steps := t } g pk m n u := fun z g pk m n u t hh => hh
   have YN : ∀ (z : Sc) (t : Int), HV Rm z → HV Rm { z with steps := t } := fun z t hh => ⟨hh.hold, hh.room, hh.left⟩
   unfold Sc.act at hy
   split at hy
   ·rename_i hk
    split at hy
    ·simp only [Option.map_some, Option.some.injEq, gL, Prod.mk.injEq, gC.ev.injEq] at hy
     rw [← hy.1]
     refine ⟨YN _ _ (QH hv x.w.tick.ready x.w.tick d'), fun g m n u h0 _ hm hp => ?_⟩
     refine .inl ⟨?_, ?_⟩
     ·dsimp only at hk; omega
     ·exact NX hp x.w.tick.ready x.w.tick d'
    ·simp at hy
   ·rename_i hkM
    have NG : k.toNat < x.ms.length := by dsimp only at hkM; omega
    have hkk : ((k.toNat : Nat) : Int) = k := by omega
    split at hy
    ·rename_i hp
     simp only [Option.map_some, Option.some.injEq, gL, Prod.mk.injEq, gC.ev.injEq] at hy
     rw [← hy.1]
     have hb := fun g m n u => NY (S := S) (GG := GG) (g := g) (m := m) (n := n) (u := u) (k := k.toNat) hsd XH (x := { x with d := d' }) NG (by rw [hkk]; exact hp)
     rw [hkk] at hb
     exact ⟨YN _ _ (hb 0 0 0 0).2, fun g m n u h0 _ hm wg => hin _ _ _ _ _ _ _ ((hb g m n u).1 h0 wg)⟩
    ·rename_i hp
     split at hy
     ·rename_i hg
      split at hy
      ·rename_i hfo
       generalize Vo : Sc.find { x with d := d' } k = r at hy
       obtain ⟨z, o⟩ := r
       cases o with
       | cz l => simp [gL] at hy
       | ev e2 =>
        simp only [Option.map_some, Option.some.injEq, gL, Prod.mk.injEq, gC.ev.injEq] at hy
        rw [← hy.1]
        have hb := fun g m n u => N1 (g := g) (m := m) (n := n) (u := u) (k := k.toNat) hsd XH (x := { x with d := d' }) RM NG (by rw [hkk]; exact hp) (by rw [hkk]; exact hg) hS (by rw [hkk]; exact Vo)
        exact ⟨YN _ _ (hb 0 0 0 0).2, fun g m n u h0 _ hm wg => hin _ _ _ _ _ _ _ ((hb g m n u).1 h0 wg)⟩
      ·simp at hy
     ·rename_i hg
      have JN : 0 ≤ (av x k).g := by
       have hmk := fY (x := x) (m := k) (by omega) (by omega)
       rcases hs.ms _ (List.mem_of_getElem? hmk) with e | e
       ·exact absurd e.2.1 hg
       ·have : (av x k).g ≠ -1 := hg
        omega
      generalize Bs : Sc.run p { x with d := d' } k = r at hy
      cases r with
      | none => simp at hy
      | some r =>
       obtain ⟨z, o⟩ := r
       cases o with
       | cz l => simp [gL] at hy
       | ev e2 =>
        simp only [Option.map_some, Option.some.injEq, gL, Prod.mk.injEq, gC.ev.injEq] at hy
        have hzG : z.gl.length ≤ GG := by
         have h1 := hys.CS (l := y.gl) (fun a => by unfold jt; omega)
         rw [← hy.1] at h1 hyG
         exact Nat.le_trans h1 hyG
        obtain ⟨l, w, d2, keep, q1, q2⟩ := run_shape Bs
        rw [← hy.1]
        have hb := fun g m n u => GU (S := S) (GG := GG) (g := g) (m := m) (n := n) (u := u) (k := k.toNat) hsd XH (x := { x with d := d' }) NG (by rw [hkk]; exact hp) (by rw [hkk]; exact JN) (l := l) (w := w) (d := d2) (keep := keep) (y := z) (by rw [hkk]; exact q1) hzG
        refine ⟨YN _ _ (hb 0 0 0 0).2, fun g m n u h0 hne hm wg => hin _ _ _ _ _ _ _ ((hb g m n u).1 h0 (fun e3 => ?_) wg)⟩
        rw [← hy.2] at hne
        rw [hkk] at e3
        exact hne q2.1 (q2.2.trans e3.symm)
 ·simp at hy
end
section
variable {p : cj} {N Rm GG m n u k S : Nat} {x y z : Sc} {i g a kind v : Int}
theorem vD {m : Nat} : ∀ (q p : List (Int × Int)), (∀ r ∈ q, 0 ≤ r.2) → hO (eG m p) m ≤ hO (eG m (p ++ q)) m
 | [], p, _ => by rw [List.append_nil]; exact Int.le_refl _
 | r :: q, p, h => by
  have e : p ++ r :: q = (p ++ [r]) ++ q := by simp
  rw [e]
  refine Int.le_trans ?_ (vD q (p ++ [r]) (fun r hr => h r (List.mem_cons_of_mem _ hr)))
  rw [lM]
  by_cases h1 : r.1 = 1
  ·exact (Jj (pP m p) h1 (h r (by simp))).1
  ·unfold c6; rw [if_neg h1]; exact Int.le_refl _
theorem wh {m : Nat} : ∀ (q p : List (Int × Int)), (∀ r ∈ q, r.1 ≠ 1) → eG m (p ++ q) = eG m p
 | [], p, _ => by rw [List.append_nil]
 | r :: q, p, h => by
  have e : p ++ r :: q = (p ++ [r]) ++ q := by simp
  rw [e, wh q (p ++ [r]) (fun r hr => h r (List.mem_cons_of_mem _ hr)), lM]
  unfold c6
  rw [if_neg (h r (by simp))]
def OF (rest : List (Int × Int)) : Prop := ∀ r ∈ rest, r.1 ≠ 1 ∧ 0 ≤ r.2
theorem zk (hk : x.d.k.Ok) : ∃ rest, (x.find a).1.d.taken = x.d.taken ++ rest ∧ OF rest := by
 unfold Sc.find
 dsimp only
 split
 ·exact ⟨[], by simp [Sc.gB, Sc.bO], by intro r hr; cases hr⟩
 ·have hd : (x.own (av x a).p).1.d = x.d := rfl
  rw [hd]
  split
  ·split
   ·rename_i d' l iU
    exact ⟨[], by rw [(pE iU).1]; simp, by intro r hr; cases hr⟩
   ·rename_i d' v iU
    have hn := ei hk iU
    refine ⟨[(2, v)], ?_, ?_⟩
    ·rw [← hn.2.2]
     try dsimp only
     split <;> rw [Bl] <;> rfl
    ·intro r hr
     rw [List.mem_singleton] at hr
     subst hr
     exact ⟨by dsimp only; omega, hn.1⟩
  ·exact ⟨[], by rw [Bl]; simp [hd], by intro r hr; cases hr⟩
theorem Bt (hk : x.d.k.Ok) {o : gC} (he : x.run p a = some (y, o)) : ∃ rest, y.d.taken = x.d.taken ++ rest ∧ OF rest := by
 have hq : ∃ rest, (cZ x.d (asks p { x.w with ready := [] } (av x a).g)).1.taken = x.d.taken ++ rest ∧ OF rest := by
  generalize jq : asks p { x.w with ready := [] } (av x a).g = q
  cases q with
  | none => exact ⟨[], by simp [cZ], by intro r hr; cases hr⟩
  | some q =>
   obtain ⟨kd, n⟩ := q
   have hkd : kd = 3 ∨ kd = 4 := by
    unfold asks at jq
    split at jq
    ·split at jq
     ·cases jq
     ·split at jq
      ·cases jq; exact .inr rfl
      ·split at jq
       ·split at jq
        ·cases jq
        ·cases jq; exact .inl rfl
       ·cases jq
    ·cases jq
   unfold cZ
   dsimp only
   generalize iU : x.d.draw kd n = r
   obtain ⟨d', o⟩ := r
   cases o with
   | cz l => exact ⟨[], by rw [(pE iU).1]; simp, by intro r hr; cases hr⟩
   | num v =>
    have hn := ei hk iU
    refine ⟨[(kd, v)], hn.2.2, ?_⟩
    intro r hr
    rw [List.mem_singleton] at hr
    subst hr
    exact ⟨by dsimp only; omega, hn.1⟩
 unfold Sc.run at he
 split at he
 ·rename_i hpre
  obtain ⟨m0, m1, i0, i1, _⟩ := hpre
  split at he
  ·split at he
   ·cases he
   ·simp only [Option.some.injEq, Prod.mk.injEq] at he
    rw [← he.1]
    exact hq
   ·rw [H8 he i0 i1]; exact hq
   ·rw [H8 he i0 i1]; exact hq
  ·cases he
 ·cases he
theorem nm (hk : x.d.k.Ok) (hst : x.status = 0) {e : Ev} (hy : x.step p = some (y, .ev e)) {d' : iO} {k : Int} (hd : x.d.draw 1 (x.c.M + 1) = (d', .num k)) : ∃ rest, y.d.taken = x.d.taken ++ (1, k) :: rest ∧ OF rest ∧ 0 ≤ k := by
 have hn := ei hk hd
 have hk' : d'.k.Ok := by have := kQ (kind := 1) (n := x.c.M + 1) hk; rw [hd] at this; exact this
 have fin : ∀ rest, y.d.taken = d'.taken ++ rest → OF rest → ∃ rest, y.d.taken = x.d.taken ++ (1, k) :: rest ∧ OF rest ∧ 0 ≤ k := fun rest h1 h2 => ⟨rest, by rw [h1, hn.2.2]; simp, h2, hn.1⟩
 unfold Sc.step at hy
 split at hy
 ·rw [if_neg (by rw [hst]; decide), hd] at hy
  dsimp only at hy
  unfold Sc.act at hy
  have no : OF [] := by intro r hr; cases hr
  split at hy
  ·split at hy
   ·simp only [Option.map_some, Option.some.injEq, gL, Prod.mk.injEq] at hy
    refine fin [] ?_ no
    rw [← hy.1, List.append_nil]
    rfl
   ·cases hy
  ·split at hy
   ·simp only [Option.map_some, Option.some.injEq, gL, Prod.mk.injEq] at hy
    refine fin [] ?_ no
    rw [← hy.1, List.append_nil]
    unfold Sc.hold
    dsimp only
    split <;> rfl
   ·split at hy
    ·split at hy
     ·obtain ⟨rest, h1, h2⟩ := zk (x := { x with d := d' }) (a := k) hk'
      refine fin rest ?_ h2
      rw [← h1]
      simp only [Option.map_some, Option.some.injEq] at hy
      generalize Sc.find { x with d := d' } k = r at hy
      obtain ⟨z, o⟩ := r
      cases o <;> simp only [gL, Prod.mk.injEq] at hy <;> rw [← hy.1]
     ·cases hy
    ·generalize Bs : Sc.run p { x with d := d' } k = r at hy
     cases r with
     | none => cases hy
     | some r =>
      obtain ⟨z, o⟩ := r
      obtain ⟨rest, h1, h2⟩ := Bt (x := { x with d := d' }) hk' Bs
      refine fin rest ?_ h2
      rw [← h1]
      simp only [Option.map_some, Option.some.injEq] at hy
      cases o <;> simp only [gL, Prod.mk.injEq] at hy <;> rw [← hy.1]
 ·cases hy
theorem Ky {d' : iO} (hk' : d'.k.Ok) {o : gC} (hy : Sc.act p { x with d := d' } a = some (y, o)) : ∃ rest, y.d.taken = d'.taken ++ rest ∧ OF rest := by
 have no : OF [] := by intro r hr; cases hr
 unfold Sc.act at hy
 split at hy
 ·split at hy
  ·simp only [Option.some.injEq, Prod.mk.injEq] at hy
   exact ⟨[], by rw [← hy.1, List.append_nil]; rfl, no⟩
  ·cases hy
 ·split at hy
  ·simp only [Option.some.injEq, Prod.mk.injEq] at hy
   refine ⟨[], ?_, no⟩
   rw [← hy.1, List.append_nil]
   unfold Sc.hold
   dsimp only
   split <;> rfl
  ·split at hy
   ·split at hy
    ·obtain ⟨rest, h1, h2⟩ := zk (x := { x with d := d' }) (a := a) hk'
     simp only [Option.some.injEq] at hy
     rw [hy] at h1
     exact ⟨rest, h1, h2⟩
    ·cases hy
   ·exact Bt (x := { x with d := d' }) hk' hy
theorem qe (hs : SV p N x) (hp : cU p) {l : List PanicEntry} (hst : x.status = 0) (hy : x.step p = some (y, .cz l)) : y.steps = x.steps ∧ y.w.gs = x.w.gs ∧ ∃ rest : List (Int × Int), y.d.taken = x.d.taken ++ rest ∧ ∀ r ∈ rest, 0 ≤ r.2 := by
 unfold Sc.step at hy
 split at hy
 ·rw [if_neg (by rw [hst]; decide)] at hy
  split at hy
  ·rename_i d' l' iU
   simp only [Option.some.injEq, Prod.mk.injEq] at hy
   rw [← hy.1]
   exact ⟨rfl, rfl, [], by rw [(pE iU).1]; simp, by intro r hr; cases hr⟩
  ·rename_i d' k iU
   have hn := ei hs.k iU
   have hk' : d'.k.Ok := by have := kQ (kind := 1) (n := x.c.M + 1) hs.k; rw [iU] at this; exact this
   have hM := hs.cM
   have U3 := hs.M1
   rw [show gn (x.c.M + 1) = x.c.M + 1 from by unfold gn; rw [if_neg (by omega)]] at hn
   generalize hac : Sc.act p { x with d := d' } k = r at hy
   cases r with
   | none => cases hy
   | some r =>
    obtain ⟨z, o⟩ := r
    simp only [Option.map_some, Option.some.injEq] at hy
    cases o with
    | ev e => cases hy
    | cz l2 =>
     simp only [gL, Prod.mk.injEq] at hy
     rw [← hy.1]
     obtain ⟨rest, t1, t2⟩ := Ky hk' hac
     have hT : ∃ rest : List (Int × Int), z.d.taken = x.d.taken ++ rest ∧ ∀ r ∈ rest, 0 ≤ r.2 := ⟨(1, k) :: rest, by rw [t1, hn.2.2]; simp, by
      intro r hr
      rcases List.mem_cons.1 hr with rfl | hr
      ·exact hn.1
      ·exact (t2 r hr).2⟩
     refine ⟨?_, ?_, hT⟩
     all_goals
      clear hT t1 t2
      unfold Sc.act at hac
      split at hac
      ·split at hac <;> cases hac
      ·split at hac
       ·cases hac
       ·split at hac
        ·split at hac
         ·simp only [Option.some.injEq] at hac
          unfold Sc.find at hac
          dsimp only at hac
          split at hac
          ·cases hac
          ·split at hac
           ·split at hac
            ·cases hac; rfl
            ·split at hac <;> cases hac
           ·cases hac
         ·cases hac
        ·rename_i hmp OE
         have JN : 0 ≤ (av x k).g := by
          have hmk := fY (x := x) (m := k) (by omega) (by dsimp only at *; omega)
          rcases hs.ms _ (List.mem_of_getElem? hmk) with e | e
          ·exact absurd e.2.1 OE
          ·have : (av x k).g ≠ -1 := OE
           omega
         unfold Sc.run at hac
         have em : av { x with d := d' } k = av x k := rfl
         rw [em] at hac
         split at hac
         ·split at hac
          ·obtain ⟨r, rest, hex, hres⟩ := zc (d := (cZ d' (asks p { x.w with ready := [] } (av x k).g)).2) hs.w hp JN (fun v kd n e1 e2 => by
            rw [e2] at e1
            unfold cZ at e1
            dsimp only at e1
            generalize hq : d'.draw kd n = q at e1
            obtain ⟨d3, o3⟩ := q
            dsimp only at e1
            subst e1
            have := ei hk' hq
            have hb := CP hp e2
            rw [show gn n = n from by unfold gn; rw [if_neg (by omega)]] at this
            exact ⟨this.1, this.2.1⟩)
           dsimp only at hac
           rw [hex] at hac
           rcases hres with ⟨hres, _⟩ | ⟨l, e1, e3, _⟩
           ·cases r with
            | on y' => unfold en at hac; dsimp only at hac; split at hac <;> cases hac
            | dx n y' => unfold en at hac; dsimp only at hac; split at hac <;> cases hac
            | cz l y' => exact hres.elim
           ·subst e3
            cases hac; rfl
          ·cases hac
         ·cases hac
 ·cases hy
theorem Bu {d' : iO} {o : gC} (hy : Sc.act p { x with d := d' } a = some (y, o)) : y.steps = x.steps ∧ y.c = x.c := by
 have fe : ∀ (z : Sc) (i kind g : Int) (t : Bool), (z.aT a i kind g t).1.steps = z.steps ∧ (z.aT a i kind g t).1.c = z.c := fun z i kind g t => by
  unfold Sc.aT; split <;> exact ⟨rfl, rfl⟩
 unfold Sc.act at hy
 split at hy
 ·split at hy
  ·cases hy; exact ⟨rfl, rfl⟩
  ·cases hy
 ·split at hy
  ·simp only [Option.some.injEq, Prod.mk.injEq] at hy
   rw [← hy.1]
   unfold Sc.hold
   dsimp only
   split <;> exact ⟨rfl, rfl⟩
  ·split at hy
   ·split at hy
    ·simp only [Option.some.injEq] at hy
     have hf : (Sc.find { x with d := d' } a).1.steps = x.steps ∧ (Sc.find { x with d := d' } a).1.c = x.c := by
      unfold Sc.find
      dsimp only
      split
      ·exact ⟨rfl, rfl⟩
      ·split
       ·split
        ·exact ⟨rfl, rfl⟩
        ·split <;> exact fe _ _ _ _ _
       ·exact fe _ _ _ _ _
     rw [hy] at hf
     exact hf
    ·cases hy
   ·unfold Sc.run at hy
    split at hy
    ·rename_i hpre
     obtain ⟨m0, m1, i0, i1, _⟩ := hpre
     have on : ∀ {w : Wd} {d2 : iO} {rest : Bool}, en { x with d := d' } a (av { x with d := d' } a).g d2 w rest = some (y, o) → y.steps = x.steps ∧ y.c = x.c := fun {w d2 rest} hh => by
      unfold en at hh
      split at hh
      ·simp only [Option.some.injEq, Prod.mk.injEq] at hh
       have f1 := eA (m := a) w.ready { x with w := w, d := d2 } i0 i1
       rw [← hh.1]
       unfold Sc.fW
       split <;> exact ⟨f1.2.2.2.2.2.1, f1.2.2.2.2.1⟩
      ·cases hh
     split at hy
     ·split at hy
      ·cases hy
      ·cases hy; exact ⟨rfl, rfl⟩
      ·exact on hy
      ·exact on hy
     ·cases hy
    ·cases hy
theorem Bv {e : Ev} (hst : x.status = 0) (hy : x.step p = some (y, .ev e)) : y.steps = x.steps + 1 ∧ y.c = x.c := by
 unfold Sc.step at hy
 split at hy
 ·rw [if_neg (by rw [hst]; decide)] at hy
  split at hy
  ·cases hy
  ·rename_i d' k iU
   generalize hac : Sc.act p { x with d := d' } k = r at hy
   cases r with
   | none => cases hy
   | some r =>
    obtain ⟨z, o⟩ := r
    have := Bu hac
    cases o with
    | cz l => cases hy
    | ev e2 =>
     cases hy
     exact ⟨by show z.steps + 1 = _; rw [this.1], this.2⟩
 ·cases hy
theorem sA (hs : SV p N x) (hp : cU p) {e : Ev} (hy : x.step p = some (y, .ev e)) (hst : x.status = 0) : x.w.gs.length ≤ y.w.gs.length ∧ (∀ g ∈ e.ready, At y.w g 1) := by
 unfold Sc.step at hy
 split at hy
 ·rw [if_neg (by rw [hst]; decide)] at hy
  split at hy
  ·cases hy
  ·rename_i d' k iU
   have OD := ei hs.k iU
   have hM := hs.cM
   have U3 := hs.M1
   rw [show gn (x.c.M + 1) = x.c.M + 1 from by unfold gn; rw [if_neg (by omega)]] at OD
   unfold Sc.act at hy
   split at hy
   ·split at hy
    ·simp only [Option.map_some, Option.some.injEq, gL, Prod.mk.injEq, gC.ev.injEq] at hy
     obtain ⟨t1, t2, t3, t4⟩ := Ik hs.w
     obtain ⟨a1, l, a2, a3, a4, a5⟩ := t3
     rw [List.nil_append] at a2
     rw [← hy.1, ← hy.2]
     refine ⟨?_, fun g hg => ?_⟩
     ·show x.w.gs.length ≤ x.w.tick.gs.length
      rw [a1]; exact Nat.le_refl _
     ·have zx : g ∈ x.w.tick.ready := hg
      rw [a2] at zx
      obtain ⟨c1, c2, c3, c4⟩ := a4 g zx
      exact ⟨c1, by show g < (x.w.tick.gs.length : Int); rw [a1]; exact c2, c4⟩
    ·cases hy
   ·have fw : ∀ (z : Sc) (i kind g : Int) (t : Bool), (z.aT k i kind g t).1.w = z.w ∧ (z.aT k i kind g t).2.ready = [] := fun z i kind g t => by
     unfold Sc.aT; split <;> exact ⟨rfl, rfl⟩
    split at hy
    ·simp only [Option.map_some, Option.some.injEq, gL, Prod.mk.injEq, gC.ev.injEq] at hy
     rw [← hy.1, ← hy.2]
     unfold Sc.hold
     dsimp only
     split <;> exact ⟨Nat.le_refl _, fun g hg => by cases hg⟩
    ·rename_i hmp
     split at hy
     ·split at hy
      ·have hf : (Sc.find { x with d := d' } k).1.w = x.w ∧ ∀ e, (Sc.find { x with d := d' } k).2 = .ev e → e.ready = [] := by
        unfold Sc.find
        dsimp only
        split
        ·exact ⟨rfl, fun e he => by cases he; rfl⟩
        ·split
         ·split
          ·exact ⟨rfl, fun e he => by cases he⟩
          ·split
           ·exact ⟨(fw _ _ _ _ _).1, fun e he => by cases he; exact (fw _ _ _ _ _).2⟩
           ·exact ⟨(fw _ _ _ _ _).1, fun e he => by cases he; exact (fw _ _ _ _ _).2⟩
         ·exact ⟨(fw _ _ _ _ _).1, fun e he => by cases he; exact (fw _ _ _ _ _).2⟩
       generalize Sc.find { x with d := d' } k = r at hy hf
       obtain ⟨z, o⟩ := r
       cases o with
       | cz l => simp [gL] at hy
       | ev e2 =>
        simp only [Option.map_some, Option.some.injEq, gL, Prod.mk.injEq, gC.ev.injEq] at hy
        dsimp only at hf
        rw [← hy.1, ← hy.2, hf.2 _ rfl]
        refine ⟨?_, fun g hg => by cases hg⟩
        dsimp only
        rw [hf.1]; exact Nat.le_refl _
      ·cases hy
     ·rename_i OE
      have JN : 0 ≤ (av x k).g := by
       have hmk := fY (x := x) (m := k) (by omega) (by dsimp only at *; omega)
       rcases hs.ms _ (List.mem_of_getElem? hmk) with e | e
       ·exact absurd e.2.1 OE
       ·have : (av x k).g ≠ -1 := OE
        omega
      generalize Bs : Sc.run p { x with d := d' } k = r at hy
      cases r with
      | none => cases hy
      | some r =>
       obtain ⟨z, o⟩ := r
       cases o with
       | cz l => simp [gL] at hy
       | ev e2 =>
        simp only [Option.map_some, Option.some.injEq, gL, Prod.mk.injEq, gC.ev.injEq] at hy
        have hk' : d'.k.Ok := by have := kQ (kind := 1) (n := x.c.M + 1) hs.k; rw [iU] at this; exact this
        rw [← hy.1, ← hy.2]
        have on : ∀ {w' : Wd} {d2 : iO} {rest : Bool}, gN (av x k).g { x.w with ready := [] } w' → 0 ≤ (av x k).p → (av x k).p < x.ps.length → en { x with d := d' } k (av x k).g d2 w' rest = some (z, .ev e2) → x.w.gs.length ≤ z.w.gs.length ∧ ∀ g ∈ e2.ready, At z.w g 1 := fun {w' d2 rest} hr i0 i1 hh => by
         unfold en at hh
         split at hh
         ·simp only [Option.some.injEq, Prod.mk.injEq, gC.ev.injEq] at hh
          have f1 := (eA (m := k) w'.ready { x with w := w', d := d2 } i0 i1).2.2.1
          have hw : z.w = w' ∧ e2.ready = w'.ready := by
           rw [← hh.1, ← hh.2]
           unfold Sc.fW
           split <;> exact ⟨f1, rfl⟩
          rw [hw.1, hw.2]
          exact ⟨hr.2.2.2.2.1, fun g hg => by have := hr.2.2.1 g hg; exact ⟨this.1, this.2.1, this.2.2.2⟩⟩
         ·cases hh
        unfold Sc.run at Bs
        have em : av { x with d := d' } k = av x k := rfl
        rw [em] at Bs
        split at Bs
        ·rename_i hpre
         obtain ⟨m0, m1, i0, i1, _⟩ := hpre
         split at Bs
         ·obtain ⟨r, rest, hex, hres⟩ := zc (d := (cZ d' (asks p { x.w with ready := [] } (av x k).g)).2) hs.w hp JN (fun v kd n e1 e2 => by
           rw [e2] at e1
           unfold cZ at e1
           dsimp only at e1
           generalize hq : d'.draw kd n = q at e1
           obtain ⟨d3, o3⟩ := q
           dsimp only at e1
           subst e1
           have := ei hk' hq
           have hb := CP hp e2
           rw [show gn n = n from by unfold gn; rw [if_neg (by omega)]] at this
           exact ⟨this.1, this.2.1⟩)
          dsimp only at Bs
          rw [hex] at Bs
          rcases hres with ⟨hres, _⟩ | ⟨l, e1, e3, _⟩
          ·cases r with
           | on y' => exact on hres.2 i0 i1 Bs
           | dx n y' => exact on (hres.2.Ih (z := { y' with end_ := 2, code := n }) rfl rfl fun _ _ _ => rfl) i0 i1 Bs
           | cz l y' => exact hres.elim
          ·subst e3
           simp at Bs
         ·cases Bs
        ·cases Bs
 ·cases hy
theorem EM (hs : SV p N x) (hv : HV Rm x) (hS : x.c.S = (S : Int)) (hG : x.w.gs.length ≤ GG) (hg : At x.w g 1) : ∃ m, m < x.ms.length ∧ Kw Rm GG x g m (2 * Rm + 2 + (7 * GG + 7)) (2 * S + 1) := by
 have h1 := hs.one g hg
 have h0 := hg.1
 have hu : ∀ {m : Nat} {mc : tZ}, x.ms[m]? = some mc → uM mc ≤ 2 * S + 1 := fun h => by
  have := hv.left _ (List.mem_of_getElem? h)
  unfold uM; split <;> omega
 have U3 := hs.M1
 have lt : ∀ {m : Nat} {mc : tZ}, x.ms[m]? = some mc → m < x.ms.length := fun h => (List.getElem?_eq_some_iff.1 h).1
 have VE := hs.CS (l := x.gl) (fun a => by unfold jt; omega)
 by_cases c1 : 0 < x.gl.count g
 ·obtain ⟨j, hj, hjv⟩ := List.getElem_of_mem (List.count_pos_iff.1 c1)
  have hjq : x.gl[j]? = some g := by rw [List.getElem?_eq_getElem hj, hjv]
  by_cases ha : ∀ c ∈ x.ms, c.p = -1
  ·have hm0 : x.ms[0]? = some (x.ms[0]'(by omega)) := List.getElem?_eq_getElem (by omega)
   exact ⟨0, by omega, _, hm0, .inr (.inr ⟨ha, j, hjq, by omega⟩)⟩
  ·simp only [Classical.not_forall] at ha
   obtain ⟨mc, hm, hne⟩ := ha
   obtain ⟨m, RN, Ql⟩ := List.getElem_of_mem hm
   have YO : x.ms[m]? = some mc := by rw [List.getElem?_eq_getElem RN, Ql]
   exact ⟨m, RN, mc, YO, .inr (.inl ⟨hne, hu YO, .inr (.inr ⟨j, hjq, by have := uk (ax x mc.p).turns; omega⟩)⟩)⟩
 ·by_cases c2 : 0 < zZ x.ms g
  ·unfold zZ at c2
   obtain ⟨mc, hm, Co⟩ := List.mem_flatMap.1 (List.count_pos_iff.1 c2)
   obtain ⟨m, RN, Ql⟩ := List.getElem_of_mem hm
   have YO : x.ms[m]? = some mc := by rw [List.getElem?_eq_getElem RN, Ql]
   refine ⟨m, RN, mc, YO, .inl ?_⟩
   unfold je at Co
   split at Co
   ·rw [List.mem_singleton] at Co; exact Co.symm
   ·cases Co
  ·have c3 : 0 < js x.ps g := by unfold jt at h1; omega
   unfold js at c3
   obtain ⟨q, hq, kK⟩ := List.mem_flatMap.1 (List.count_pos_iff.1 c3)
   obtain ⟨pr, jh, rfl⟩ := List.mem_map.1 hq
   obtain ⟨i, hi1, JG⟩ := List.getElem_of_mem jh
   have EJ : ax x (i : Int) = pr := by unfold ax; rw [Int.toNat_natCast, List.getD_eq_getElem?_getD, List.getElem?_eq_getElem hi1, JG]; rfl
   have X3 := hv.room pr jh
   have U9 := hs.room pr jh
   have hin : (ax x (i : Int)).q.next = g ∨ ∃ k, (ax x (i : Int)).q.l[k]? = some g ∧ k < Rm := by
    rw [EJ]
    unfold Loc.all at kK
    rcases List.mem_append.1 kK with kK | kK
    ·split at kK
     ·cases kK
     ·rw [List.mem_singleton] at kK; exact .inl kK.symm
    ·obtain ⟨k, NG, YF⟩ := List.getElem_of_mem kK
     exact .inr ⟨k, by rw [List.getElem?_eq_getElem NG, YF], by have := U9.1; omega⟩
   rcases hv.hold i hi1 with ⟨_, e1, e2⟩ | ⟨m, mc, h2, h3⟩
   ·exfalso
    rcases hin with e | ⟨k, e, _⟩
    ·omega
    ·rw [e2] at e; cases e
   ·refine ⟨m, lt h2, mc, h2, .inr (.inl ⟨by omega, hu h2, ?_⟩)⟩
    rw [h3]
    rcases hin with e | ⟨k, e, hk⟩
    ·exact .inl ⟨e, Nat.le_refl _⟩
    ·exact .inr (.inl ⟨k, e, by have := CQ (ax x (i : Int)).turns; omega⟩)
end
theorem um {x : Sc} {m g : Int} {kp : Bool} {r : List Int} : (x.fW m g kp r).2.ready = r := by unfold Sc.fW; split <;> rfl
theorem EN {p : cj} {x y : Sc} {e : Ev} (h : x.step p = some (y, .ev e)) : e.ready.length ≤ 1000000 := by
 unfold Sc.step at h
 split at h
 ·split at h
  ·cases h; simp
  ·split at h
   ·cases h
   ·rename_i d' m hd
    cases hz : Sc.act p { x with d := d' } m with
    | none => rw [hz] at h; cases h
    | some z =>
     obtain ⟨z, o⟩ := z
     rw [hz] at h
     cases o with
     | cz l => cases h
     | ev e' =>
      cases h
      unfold Sc.act at hz
      split at hz
      ·split at hz
       ·rename_i ht
        cases hz
        have := ht.2.2
        show (Sc.tick { x with d := d' }).2.ready.length ≤ _
        unfold Sc.tick
        dsimp only at this ⊢
        omega
       ·cases hz
      ·split at hz
       ·cases hz
        unfold Sc.hold
        split <;> simp
       ·split at hz
        ·split at hz
         ·simp only [Option.some.injEq] at hz
          unfold Sc.find at hz
          dsimp only at hz
          split at hz
          ·cases hz; simp
          ·split at hz
           ·split at hz
            ·cases hz
            ·split at hz
             ·cases hz; unfold Sc.aT; split <;> simp
             ·cases hz; unfold Sc.aT; split <;> simp
           ·cases hz; unfold Sc.aT; split <;> simp
         ·cases hz
        ·unfold Sc.run at hz
         split at hz
         ·split at hz
          ·split at hz
           ·cases hz
           ·cases hz
           ·unfold en at hz
            split at hz
            ·rename_i hr
             cases hz
             rw [um]; omega
            ·cases hz
           ·unfold en at hz
            split at hz
            ·rename_i hr
             cases hz
             rw [um]; omega
            ·cases hz
          ·cases hz
         ·cases hz
 ·cases h
end Go.Proofs
namespace Go.Proofs
open Go.AF Go.Deep
theorem LF.rs {α : Type} {E : gW α} {M : Mem} {A : Option Addr} {n c : Nat} {ks : List IntKind} (h : LF M A n c ks) (f : (Nat → Int) → α) (hc : ∀ l, (kE ks).cells l = E.cells (l.map f)) : ∃ l : List α, l.length = n ∧ n ≤ c ∧ n ≤ 9223372036854775807 ∧ (0 < n → RS E M A c l) := by
 obtain ⟨l, rfl, h1, h2, h3, _⟩ := h
 refine ⟨l.map f, by simp, h1, Nat.le_trans h2 (by decide), fun h0 => ⟨?_, by simpa using h1⟩⟩
 rw [← hc]
 exact h3 h0
end Go.Proofs
namespace Go.Proofs
open Go.AF
set_option maxRecDepth 100000
set_option maxHeartbeats 1000000
attribute [local irreducible] aH cK dM b8 az dD aF aI aX aN bl aM
abbrev prgV (pa : PA) (p : cj) : Value := .agg #[.slice pa.f p.funcs.length pa.fc, .slice pa.c p.nY.length pa.cc, .int .i64 p.aU, .slice pa.k p.cases.length pa.kc]
section
variable {R : Mem} {L L' : List HP} {M : Mem} {K : Value → Mem → Prop} {Kp : List PanicEntry → Mem → Prop} {pa : PA} {p : cj}
theorem RS.cut {α : Type} {E : gW α} {R : Mem} {A : Option Addr} {c : Nat} {l : List α} (h : RS E R A c l) (q : Nat) : RS E R (lC A 0 c E.z) (c - 0) (l.take q) := by
 have h4 := (h.drop 0 (Nat.zero_le _)).take q
 rwa [List.drop_zero] at h4
end
def N4 : gE := ⟨⟨[(0, -1, 0)], 1⟩, 0⟩
def gE.fin (c : gE) (y : Sc) : gE := (List.range y.w.gs.length).foldl (fun (c : gE) (g : Nat) => c.wait (g : Int) (IntKind.wrap .i64 (y.steps - 1))) c
section
variable {R : Mem} {L L' L2 : List HP} {M : Mem} {K : Value → Mem → Prop} {Kp : List PanicEntry → Mem → Prop} {pa : PA} {p : cj} {b cb wb db : Nat} {x x0 y : Sc} {c c0 : gE} {g now : Int}
theorem N5 {N : Nat} {e : Ev} (hs : SV p N x) (hp : cU p) (hst : x.status = 0) (hy : x.step p = some (y, .ev e)) (hk : e.kind = 7) : 0 ≤ e.g ∧ e.g < y.w.gs.length := by
 have hw := (sA hs hp hy hst).1
 unfold Sc.step at hy
 split at hy
 ·rw [if_neg (by rw [hst]; decide)] at hy
  split at hy
  ·cases hy
  ·rename_i d' k iU
   unfold Sc.act at hy
   split at hy
   ·split at hy
    ·simp only [Option.map_some, Option.some.injEq, gL, Prod.mk.injEq, gC.ev.injEq] at hy
     rw [← hy.2] at hk; cases hk
    ·cases hy
   ·have fw : ∀ (z : Sc) (i kind g : Int) (t : Bool), (z.aT k i kind g t).2.kind = kind ∨ (z.aT k i kind g t).2.kind = 6 := fun z i kind g t => by
     unfold Sc.aT; split
     ·exact .inl rfl
     ·exact .inr rfl
    have n7 : ∀ (z : Sc) (i kind g : Int) (t : Bool), kind = 4 ∨ kind = 5 → (z.aT k i kind g t).2.kind ≠ 7 := fun z i kind g t h => by
     have := fw z i kind g t; omega
    split at hy
    ·simp only [Option.map_some, Option.some.injEq, gL, Prod.mk.injEq, gC.ev.injEq] at hy
     rw [← hy.2] at hk
     unfold Sc.hold at hk
     split at hk <;> cases hk
    ·split at hy
     ·split at hy
      ·have hf : ∀ e, (Sc.find { x with d := d' } k).2 = .ev e → e.kind ≠ 7 := by
        unfold Sc.find
        dsimp only
        split
        ·intro e he; cases he; dsimp only; omega
        ·split
         ·split
          ·intro e he; cases he
          ·split
           ·intro e he; cases he; exact n7 _ _ _ _ _ (.inr rfl)
           ·intro e he; cases he; exact n7 _ _ _ _ _ (.inr rfl)
         ·intro e he; cases he; exact n7 _ _ _ _ _ (.inl rfl)
       generalize Sc.find { x with d := d' } k = r at hy hf
       obtain ⟨z, o⟩ := r
       cases o with
       | cz l => simp [gL] at hy
       | ev e2 =>
        simp only [Option.map_some, Option.some.injEq, gL, Prod.mk.injEq, gC.ev.injEq] at hy
        rw [← hy.2] at hk
        exact absurd hk (hf _ rfl)
      ·cases hy
     ·rename_i OE
      generalize Bs : Sc.run p { x with d := d' } k = r at hy
      cases r with
      | none => cases hy
      | some r =>
       obtain ⟨z, o⟩ := r
       cases o with
       | cz l => simp [gL] at hy
       | ev e2 =>
        simp only [Option.map_some, Option.some.injEq, gL, Prod.mk.injEq, gC.ev.injEq] at hy
        obtain ⟨_, _, _, _, _, _, q2⟩ := run_shape Bs
        have hpre : vt p { x with d := d' } k := by
         unfold Sc.run at Bs
         split at Bs
         ·rename_i h; exact h
         ·cases Bs
        have h9 : 0 ≤ (av x k).g := hpre.2.2.2.2.2.2.2.2
        have EJ := hs.mg (List.mem_of_getElem? (fY (x := x) hpre.1 hpre.2.1)) h9
        rw [← hy.2, q2]
        have := EJ.2.1
        exact ⟨h9, by omega⟩
 ·cases hy
theorem CU {k5 gY jQ : Nat} {most : Int} (hp : oY R pa p) (hok : cU p) (h0 : SV p 0 x0) (hm : most ≤ 999999) :
  CJ R (ay (eH pa p wb db) b x0 :: ay j9 cb c0 :: pt k5 [.int .i64 most] 3 :: pt gY [.pointer (some ⟨b, 0, none⟩)] 33 :: pt jQ [.pointer (some ⟨cb, 0, none⟩)] 169 :: L)
   (.func (.func 71) #[] #[.pointer (some ⟨k5, 0, none⟩), .pointer (some ⟨gY, 0, none⟩), .pointer (some ⟨jQ, 0, none⟩)])
   (fun R' L2 => R.le R' ∧ ∃ y c, vB p x0 c0 most.toNat y c ∧ L2 = ay (eH pa p wb db) b y :: ay j9 cb c :: pt k5 [.int .i64 most] 3 :: pt gY [.pointer (some ⟨b, 0, none⟩)] 33 :: pt jQ [.pointer (some ⟨cb, 0, none⟩)] 169 :: L)
   (fun R' l L2 => R.le R' ∧ (∃ e vs, nU l e vs) ∧ ∃ y c, vB p x0 c0 most.toNat y c ∧ L2 = ay (eH pa p wb db) b y :: ay j9 cb c :: pt k5 [.int .i64 most] 3 :: pt gY [.pointer (some ⟨b, 0, none⟩)] 33 :: pt jQ [.pointer (some ⟨cb, 0, none⟩)] 169 :: L) := by
 intro Q M K Kp h kk kd
 refine JL (args := []) ⟨by decide, by show _ < 255; decide⟩ ?_
 refine wK ?_
 refine aG h ?_
 have e0 : (if (0 : Int) > most then 0 else most) = ((most.toNat : Nat) : Int) := by split <;> omega
 rw [e0]
 have hm' : most.toNat ≤ 999999 := by omega
 have key : ∀ (R' : Mem) (M' : Mem), R.le R' → ∀ y c, vB p x0 c0 most.toNat y c → Hp R' (Q :: ay (eH pa p wb db) b y :: ay j9 cb c :: pt k5 [.int .i64 most] 3 :: pt gY [.pointer (some ⟨b, 0, none⟩)] 33 :: pt jQ [.pointer (some ⟨cb, 0, none⟩)] 169 :: L) M' → K (.tuple #[]) M' := fun R' M' hle y c hw h => kk R' _ M' ⟨hle, y, c, hw, rfl⟩ h
 refine ⟨fun dd vs M' => ∃ (j : Nat) (x : Sc) (c : gE) (R' : Mem), vs = [.int .i64 (j : Int)] ∧ dd = most.toNat - j ∧ j ≤ most.toNat ∧ R.le R' ∧ WR p x0 c0 j x c ∧ Hp R' (Q :: ay (eH pa p wb db) b x :: ay j9 cb c :: pt k5 [.int .i64 most] 3 :: pt gY [.pointer (some ⟨b, 0, none⟩)] 33 :: pt jQ [.pointer (some ⟨cb, 0, none⟩)] 169 :: L) M', ⟨_, 0, x0, c0, R, rfl, rfl, by omega, Mem.le_refl _, .zero, h⟩, ?_⟩
 clear h
 rintro dd _ nn M8 ⟨j, x, c, R3, he, hd, hj, N6, hw, h⟩
 simp only [List.cons.injEq, Value.int.injEq, and_true, true_and] at he
 subst he
 have hv := hw.sv h0 hok (by omega)
 refine aJ.2 ⟨fun hlt => ?_, fun hge => key R3 M8 N6 x c (.GQ hw hj (.inl (by omega))) h⟩
 refine j2 h ?_
 have wq := hv.w.n2
 refine ua (b := b) h (by omega) (cy ?_)
 refine eu.2 ⟨fun hs0 => key R3 M8 N6 x c (.GQ hw hj (.inr hs0)) h, fun hst => ?_⟩
 have hst : x.status = 0 := by simpa using hst
 refine j2 h (j2 h (j2 h ?_))
 obtain ⟨y, o, hstep, KC⟩ := hv.step hok (by omega)
 refine GK (b := b) h (hp.le N6) hv.k hstep ?_
 cases o with
 | cz l =>
  intro M9 h9
  exact kd R3 l _ M9 ⟨N6, Nv hstep, y, c, .cz hw (by omega) hst hstep, rfl⟩ (h9.sub bM)
 | ev e =>
  intro R4 A4 c4 M9 hle4 w9 h9
  clear h
  have h := h9
  clear h9
  refine ⟨_, _, _, _, _, _, rfl, bH h, bH h, ?_⟩
  have h2 : Hp R4 (ay (eH pa p wb db) b y :: ay j9 cb c :: Q :: pt k5 [.int .i64 most] 3 :: pt gY [.pointer (some ⟨b, 0, none⟩)] 33 :: pt jQ [.pointer (some ⟨cb, 0, none⟩)] 169 :: L) M9 := h.sub bM
  clear h
  refine Ku h2 w9 (EN hstep) (fun hk => N5 hv hok hst hstep hk) ?_
  clear h2
  intro M h
  refine ⟨rfl, bH h, bH h, ?_⟩
  exact ⟨most.toNat - (j + 1), by omega, j + 1, y, c.step e y, R4, by rw [aS (by omega)], rfl, by omega, Mem.le_trans N6 hle4, .succ hw hst hstep, h.sub bM⟩
theorem vB.sv {most : Nat} (h : vB p x0 c0 most y c) (h0 : SV p 0 x0) (hp : cU p) (hm : most ≤ 999999) : ∃ N, N ≤ most ∧ SV p (N + 1) y := by
 cases h with
 | GQ hw hj _ => exact ⟨_, hj, (hw.sv h0 hp (by omega)).mono (by omega)⟩
 | cz hw hj hst GV =>
  obtain ⟨y', o, h1, h2⟩ := (hw.sv h0 hp (by omega)).step hp (by omega)
  rw [GV] at h1
  cases h1
  exact ⟨_, by omega, h2⟩
theorem N7 (h : Hp R L M) [q : pn b L pa p wb db x L'] (ht : x.d.taken.length ≤ 100000000) (k : ∀ A c M', Hp R (lu A c x.d.taken :: ay (eH pa p wb db) b x :: L') M' → K (.slice A x.d.taken.length c) M') :
  aa Tryz.prog 76 #[.pointer (some ⟨db, 0, none⟩)] M K Kp := by
 have h' := eR h (b := b)
 clear h
 obtain ⟨a, hla, h⟩ := h'
 refine CG (Kd := .nilFunc) (b := db) h ht ?_
 clear h; intro A c M h
 have h2 : Hp R (gq (dF b wb db a x) x.gl :: ay (bC pa p) wb x.w :: ay (cw .nilFunc) db x.d :: iu a x (lu A c x.d.taken :: L')) M := h.sub bM
 exact k A c M ((gK hla h2).sub bM)
theorem GW {cf : Kf} {B : Option Addr} {m cB : Nat} {l : List Int} {most : Int} (h : Hp R L M) (hp : oY R pa p) (w5 : RS bI R pa.c pa.cc p.nY) (hok : cU p) (hP : 1 ≤ cf.P ∧ cf.P ≤ 64) (hM : 1 ≤ cf.M ∧ cf.M ≤ 64) (hS : 1 ≤ cf.S ∧ cf.S ≤ 1024)
  (hB : RS Dy R B cB l) (hm : m = l.length) (hl : (gm.ir l 0).Ok) (Vy : l.length ≤ 1000000000) (hmost : most ≤ 100000) (hT : ∀ y c, vB p (Sc.new p cf ⟨.ir l 0, []⟩) N4 most.toNat y c → ∀ r ∈ y.d.taken, 0 ≤ r.2)
  (k : ∀ R' y c M', R.le R' → vB p (Sc.new p cf ⟨.ir l 0, []⟩) N4 most.toNat y c → Hp R' L M' → K (.agg #[.int .i64 y.steps, .int .i64 (y.w.gs.length : Int), .int .i64 (nC cf.M.toNat y.d.taken), .int .i64 (c.fin y).bR]) M') :
  aa Tryz.prog 29 #[prgV pa p, .agg #[.int .i64 cf.P, .int .i64 cf.M, .int .i64 cf.R, .int .i64 cf.S], .slice B m cB, .int .i64 most] M K Kp := by
 refine zQ ?_
 subst hm
 have h0 : SV p 0 (Sc.new p cf ⟨.ir l 0, []⟩) := SV.new hok hP hM hS rfl hl
 refine aj h ?_
 clear h
 intro k1 M h
 refine aj h ?_
 clear h
 intro k3 M h
 refine aj h ?_
 clear h
 intro k5 M h
 refine aj h ?_
 clear h
 intro k7 M h
 refine zW (l := l) h hB.src rfl Vy ?_
 clear h; intro db M h
 refine iY (be h (be h (aG h (be h (aG h (aG h (aG h (aG h ?_))))))))
 refine Km (p := p) (pa := pa) (c := cf) h w5 (by have := hok.ch; omega) (by have := hok.lk; omega) (by omega) (by omega) ?_
 clear h; intro b wb M h
 refine iY ?_
 refine aj h ?_
 clear h
 intro gY M h
 refine aq h ?_
 clear h; intro M h
 refine Lj (o := iA ⟨[], 0⟩) h ?_
 clear h; intro ur M h
 refine Gm (r := ur) h NN NO ?_
 clear h; intro M h
 refine aj h ?_
 clear h
 intro cb M h
 refine aj h ?_
 clear h
 intro jQ M h
 refine aq h ?_
 clear h; intro M h
 have h1 : Hp R (ay j9 cb N4 :: ay (eH pa p wb db) b (Sc.new p cf ⟨.ir l 0, []⟩) :: pt k5 [.int .i64 most] 3 :: pt gY [.pointer (some ⟨b, 0, none⟩)] 33 :: pt jQ [.pointer (some ⟨cb, 0, none⟩)] 169 :: pt k3 [.int .i64 cf.P, .int .i64 cf.M, .int .i64 cf.R, .int .i64 cf.S] 29 :: pt k7 [.int .i64 0, .int .i64 0, .int .i64 0, .int .i64 0] 70 :: L) M := zf (r := ur) (h.sub bM)
 clear h
 refine CK (h1.sub bM) (CU (most := most) (b := b) (wb := wb) (db := db) (cb := cb) (k5 := k5) (gY := gY) (jQ := jQ) (c0 := N4) hp hok h0 (by omega) (L := pt k3 [.int .i64 cf.P, .int .i64 cf.M, .int .i64 cf.R, .int .i64 cf.S] 29 :: pt k7 [.int .i64 0, .int .i64 0, .int .i64 0, .int .i64 0] 70 :: L)) (fun _ _ _ h => h.2.1) ?_ ?_
 all_goals
  clear h1
  first
   | (rintro R' _ M ⟨hle, y, c, hw, rfl⟩ h)
   | (rintro R' l' _ M e a q n kx xx ⟨hle, _, y, c, hw, rfl⟩ _ h)
  refine ⟨_, _, _, _, _, _, rfl, j2 h ?_⟩
  obtain ⟨N, hN, hv⟩ := hw.sv h0 hok (by omega)
  have wq := hv.w.n2
  have hst := hv.st
  have OB := hv.tk
  have hTy := hT y c hw
  refine po (b := b) h ?_
  refine iY ?_
  refine NP (b := b) h ?_
  clear h; intro M h
  refine cy ?_
  have h2 : Hp R' (ay (eH pa p wb db) b y :: ay j9 cb c :: pt k5 [.int .i64 most] 3 :: pt gY [.pointer (some ⟨b, 0, none⟩)] 33 :: pt jQ [.pointer (some ⟨cb, 0, none⟩)] 169 :: pt k3 [.int .i64 cf.P, .int .i64 cf.M, .int .i64 cf.R, .int .i64 cf.S] 29 :: pt k7 [.int .i64 0, .int .i64 0, .int .i64 0, .int .i64 0] 70 :: L) M := h.sub bM
  clear h
  refine ⟨fun dd vs M' => ∃ j : Nat, vs = [.int .i64 (j : Int)] ∧ dd = y.w.gs.length - j ∧ j ≤ y.w.gs.length ∧ Hp R' (ay (eH pa p wb db) b y :: ay j9 cb ((List.range j).foldl (fun (c : gE) (g : Nat) => c.wait (g : Int) (IntKind.wrap .i64 (y.steps - 1))) c) :: pt k5 [.int .i64 most] 3 :: pt gY [.pointer (some ⟨b, 0, none⟩)] 33 :: pt jQ [.pointer (some ⟨cb, 0, none⟩)] 169 :: pt k3 [.int .i64 cf.P, .int .i64 cf.M, .int .i64 cf.R, .int .i64 cf.S] 29 :: pt k7 [.int .i64 0, .int .i64 0, .int .i64 0, .int .i64 0] 70 :: L) M', ⟨_, 0, rfl, rfl, by omega, h2⟩, ?_⟩
  clear h2
  rintro dd _ nn M8 ⟨j, he, hd, hj, h⟩
  simp only [List.cons.injEq, Value.int.injEq, and_true, true_and] at he
  subst he
  refine aJ.2 ⟨fun hlt => ?_, fun hge => ?_⟩
  ·refine j2 h (j2 h ?_)
   refine pq (b := b) h ?_
   refine cy ⟨bH h, ?_⟩
   refine Br (b := cb) h ?_
   clear h; intro M h
   refine ⟨rfl, bH h, y.w.gs.length - (j + 1), by omega, j + 1, by rw [aS (by omega)], rfl, by omega, ?_⟩
   rw [List.range_succ, List.foldl_append]
   exact h.sub bM
  ·obtain rfl : j = y.w.gs.length := by omega
   have k2 := k R' y c
   unfold gE.fin at k2
   generalize (List.range y.w.gs.length).foldl (fun (c : gE) (g : Nat) => c.wait (g : Int) (IntKind.wrap .i64 (y.steps - 1))) c = c2 at h k2
   have h' := uj h (b := cb)
   clear h
   obtain ⟨r2, h⟩ := h'
   refine j2 h (j2 h (aG h (j2 h (bp (aG h ?_)))))
   refine pq (b := b) h ?_
   refine cy ⟨bH h, bH h, bH h, bH h, ?_⟩
   refine po (b := b) h ?_
   refine iY ⟨bH h, bH h, bH h, bH h, ?_⟩
   refine NP (b := b) h ?_
   clear h; intro M h
   refine cy ⟨bH h, bH h, bH h, bH h, ?_⟩
   refine N7 (b := b) h (by omega) ?_
   clear h; intro A cA M h
   refine bk ⟨bH h, bH h, bH h, bH h, ?_⟩
   refine EL (l := y.d.taken) h (Src.row (A := A)) rfl (by omega) (by omega) hTy ?_
   clear h; intro M h
   refine cy ⟨bH h, bH h, bH h, bH h, ?_⟩
   refine aq h ?_
   clear h; intro M h
   refine aq h ?_
   clear h; intro M h
   refine aq h ?_
   clear h; intro M h
   refine aq h ?_
   clear h; intro M h
   refine ⟨bH h, bH h, bH h, bH h, ?_⟩
   refine aG h (aG h (aG h (aG h ?_)))
   exact k2 M hle hw (h.sub bM)
end
def wj (x : Sc) (m : Nat) : Int := (eG x.ms.length x.d.taken).at_ - (eG x.ms.length x.d.taken).last m
theorem EO {k v k' : Int} {c : Nat} : ∀ {l : SL}, fH (sk l k v c) k' = if k' = k then some v else fH l k'
 | [] => by simp [sk, fH]
 | (a, w, b) :: l => by
  simp only [sk]
  split
  ·rename_i e
   subst e
   simp only [fH]
   split <;> rfl
  ·rename_i e
   simp only [fH, EO (l := l)]
   by_cases h : k' = a
   ·subst h
    rw [if_pos rfl, if_pos rfl, if_neg (Ne.symm e)]
   ·rw [if_neg h, if_neg h]
theorem Bw {k : Int} : ∀ {l : SL}, k ∉ l.map (·.1) → fH l k = none
 | [], _ => rfl
 | (a, w, b) :: l, h => by
  simp only [List.map_cons, List.mem_cons, not_or] at h
  simp only [fH, if_neg h.1]
  exact Bw h.2
theorem Bx {k : Int} : ∀ {l : SL}, (wM l k).map (·.1) = (l.map (·.1)).erase k
 | [] => rfl
 | (a, w, b) :: l => by
  simp only [wM]
  split
  ·rename_i e; subst e; simp
  ·rename_i e
   simp only [List.map_cons, Bx (l := l)]
   rw [List.erase_cons_tail (by simpa using Ne.symm e)]
theorem EP {k k' : Int} : ∀ {l : SL}, (l.map (·.1)).Nodup → fH (wM l k) k' = if k' = k then none else fH l k'
 | [], _ => by simp [wM, fH]
 | (a, w, b) :: l, h => by
  simp only [List.map_cons, List.nodup_cons] at h
  simp only [wM]
  split
  ·rename_i e
   subst e
   by_cases h2 : k' = k
   ·subst h2; rw [if_pos rfl]; exact Bw h.1
   ·rw [if_neg h2]; simp only [fH, if_neg h2]
  ·rename_i e
   simp only [fH, EP (l := l) h.2]
   by_cases h2 : k' = a
   ·subst h2; rw [if_pos rfl, if_pos rfl, if_neg (Ne.symm e)]
   ·rw [if_neg h2, if_neg h2]
theorem By {k v : Int} {c : Nat} : ∀ {l : SL}, (l.map (·.1)).Nodup → ((sk l k v c).map (·.1)).Nodup ∧ ∀ a, a ∈ (sk l k v c).map (·.1) → a = k ∨ a ∈ l.map (·.1)
 | [], _ => by simp [sk]
 | (a, w, b) :: l, h => by
  simp only [List.map_cons, List.nodup_cons] at h
  simp only [sk]
  split
  ·rename_i e
   subst e
   simp only [List.map_cons, List.nodup_cons]
   exact ⟨h, fun x hx => .inr hx⟩
  ·rename_i e
   obtain ⟨h1, h2⟩ := By (k := k) (v := v) (c := c) h.2
   simp only [List.map_cons, List.nodup_cons]
   refine ⟨⟨fun hm => ?_, h1⟩, fun x hx => ?_⟩
   ·rcases h2 a hm with e2 | e2
    ·exact e e2.symm
    ·exact h.1 e2
   ·rcases List.mem_cons.1 hx with rfl | hx
    ·exact .inr (by simp)
    ·rcases h2 x hx with e2 | e2
     ·exact .inl e2
     ·exact .inr (List.mem_cons_of_mem _ e2)
structure FI (W GG S Rm : Nat) (B : Int) (x : Sc) (c : gE) : Prop where
 hv : HV Rm x
 cS : x.c.S = (S : Int)
 nd : (c.m.l.map (·.1)).Nodup
 wt : ∀ g f, fH c.m.l g = some f → 0 ≤ g ∧ -1 ≤ f ∧ f ≤ x.steps - 1 ∧ ∃ m n u, m < x.ms.length ∧ Kw Rm GG x g m n u ∧ (x.steps - 1 - f) + ((W * ((2 * S + 2) * n + u) : Nat) : Int) + ((W : Int) + 1 - wj x m) ≤ B
 lg : 0 ≤ c.bR ∧ c.bR ≤ B
section
variable {p : cj} {N W GG S Rm : Nat} {B : Int} {x y : Sc} {c : gE} {g f : Int}
theorem zl {m : Nat} (hm : m < x.ms.length) (hW : hO (eG x.ms.length x.d.taken) x.ms.length ≤ W) : 1 ≤ wj x m ∧ wj x m ≤ W := by
 have h1 := (iL (s := eG x.ms.length x.d.taken) (k := x.ms.length)).2 m hm
 have h2 := pP x.ms.length x.d.taken
 obtain ⟨a1, a2, a3, a4, a5⟩ := h2
 have h3 := a3 m
 unfold wj
 omega
theorem ER {k : Int} {rest : List (Int × Int)} (H6 : y.ms.length = x.ms.length) (ht : y.d.taken = x.d.taken ++ (1, k) :: rest) (ho : OF rest) (k0 : 0 ≤ k) (k1 : k ≤ x.ms.length) (m : Nat) (hm : m < x.ms.length) : wj y m = if k.toNat = m then 1 else wj x m + 1 := by
 have e : eG y.ms.length y.d.taken = c6 x.ms.length (eG x.ms.length x.d.taken) (1, k) := by
  rw [H6, ht, show x.d.taken ++ (1, k) :: rest = (x.d.taken ++ [(1, k)]) ++ rest by simp, wh rest _ (fun r hr => (ho r hr).1), lM]
 unfold wj
 rw [e]
 unfold c6
 dsimp only
 rw [if_pos rfl]
 by_cases h1 : k < (x.ms.length : Int)
 ·rw [if_pos h1]
  dsimp only
  by_cases h2 : k.toNat = m
  ·rw [if_pos h2, if_pos h2.symm]; omega
  ·rw [if_neg h2, if_neg (Ne.symm h2)]; omega
 ·rw [if_neg h1]
  dsimp only
  rw [if_neg (by omega)]; omega
theorem ES {now : Int} (hn : (c.m.l.map (·.1)).Nodup) : ((c.wait g now).m.l.map (·.1)).Nodup ∧ ∀ k v, fH (c.wait g now).m.l k = some v → k ≠ g ∧ fH c.m.l k = some v := by
 unfold gE.wait
 split
 ·rename_i h
  refine ⟨hn, fun k v hv => ⟨fun e => ?_, hv⟩⟩
  rw [e, h] at hv; cases hv
 ·refine ⟨?_, fun k v hv => ?_⟩
  ·unfold E2.del
   dsimp only
   rw [Bx]
   exact hn.erase _
  ·unfold E2.del at hv
   dsimp only at hv
   rw [EP hn] at hv
   split at hv
   ·cases hv
   ·rename_i h; exact ⟨h, hv⟩
theorem Bz {now : Int} (hn : (c.m.l.map (·.1)).Nodup) : ((c.since g now).m.l.map (·.1)).Nodup ∧ (c.since g now).bR = c.bR ∧ ∀ k v, fH (c.since g now).m.l k = some v → (k = g ∧ v = now) ∨ fH c.m.l k = some v := by
 refine ⟨(By hn).1, rfl, fun k v hv => ?_⟩
 have QX : fH (sk c.m.l g now c.m.ck) k = some v := hv
 rw [EO] at QX
 split at QX
 ·rename_i e; cases QX; exact .inl ⟨e, rfl⟩
 ·exact .inr QX
theorem nq {now : Int} : ∀ (l : List Int) (c : gE), (c.m.l.map (·.1)).Nodup → ((l.foldl (fun (c : gE) g => c.since g now) c).m.l.map (·.1)).Nodup ∧ (l.foldl (fun (c : gE) g => c.since g now) c).bR = c.bR ∧ ∀ k v, fH (l.foldl (fun (c : gE) g => c.since g now) c).m.l k = some v → (k ∈ l ∧ v = now) ∨ fH c.m.l k = some v
 | [], c, h => ⟨h, rfl, fun k v hv => .inr hv⟩
 | g :: l, c, h => by
  obtain ⟨a1, a2, a3⟩ := Bz (c := c) (g := g) (now := now) h
  obtain ⟨b1, b2, b3⟩ := nq l (c.since g now) a1
  rw [List.foldl_cons]
  refine ⟨b1, b2.trans a2, fun k v hv => ?_⟩
  rcases b3 k v hv with ⟨e1, e2⟩ | e
  ·exact .inl ⟨List.mem_cons_of_mem _ e1, e2⟩
  ·rcases a3 k v e with ⟨e1, e2⟩ | e
   ·exact .inl ⟨by rw [e1]; simp, e2⟩
   ·exact .inr e
theorem N8 {e : Ev} (hn : (c.m.l.map (·.1)).Nodup) : ((c.step e y).m.l.map (·.1)).Nodup ∧
  ((c.step e y).bR = c.bR ∨ e.kind = 7 ∧ ∃ f, fH c.m.l e.g = some f ∧ (c.step e y).bR = if IntKind.wrap .i64 (IntKind.wrap .i64 (y.steps - 1) - f) > c.bR then IntKind.wrap .i64 (IntKind.wrap .i64 (y.steps - 1) - f) else c.bR) ∧
  ∀ k v, fH (c.step e y).m.l k = some v → (v = IntKind.wrap .i64 (y.steps - 1) ∧ (k ∈ e.ready ∨ e.kind = 7 ∧ k = e.g ∧ (ae y.w k).st = 1)) ∨ (fH c.m.l k = some v ∧ (e.kind = 7 → e.g ≠ k)) := by
 unfold gE.step
 generalize IntKind.wrap .i64 (y.steps - 1) = now
 have hw := ES (c := c) (g := e.g) (now := now) hn
 have lw : (c.wait e.g now).bR = c.bR ∨ ∃ f, fH c.m.l e.g = some f ∧ (c.wait e.g now).bR = if IntKind.wrap .i64 (now - f) > c.bR then IntKind.wrap .i64 (now - f) else c.bR := by
  unfold gE.wait
  split
  ·exact .inl rfl
  ·rename_i f h; exact .inr ⟨f, h, rfl⟩
 split
 ·rename_i h7
  split
  ·rename_i hst
   obtain ⟨a1, a2, a3⟩ := Bz (c := c.wait e.g now) (g := e.g) (now := now) hw.1
   obtain ⟨b1, b2, b3⟩ := nq (now := now) e.ready ((c.wait e.g now).since e.g now) a1
   refine ⟨b1, ?_, fun k v hv => ?_⟩
   ·rw [b2, a2]
    rcases lw with h | h
    ·exact .inl h
    ·exact .inr ⟨h7, h⟩
   ·rcases b3 k v hv with ⟨e1, e2⟩ | h
    ·exact .inl ⟨e2, .inl e1⟩
    ·rcases a3 k v h with ⟨e1, e2⟩ | h
     ·exact .inl ⟨e2, .inr ⟨h7, e1, by rw [e1]; exact hst⟩⟩
     ·obtain ⟨h1, h2⟩ := hw.2 k v h
      exact .inr ⟨h2, fun _ => Ne.symm h1⟩
  ·obtain ⟨b1, b2, b3⟩ := nq (now := now) e.ready (c.wait e.g now) hw.1
   refine ⟨b1, ?_, fun k v hv => ?_⟩
   ·rw [b2]
    rcases lw with h | h
    ·exact .inl h
    ·exact .inr ⟨h7, h⟩
   ·rcases b3 k v hv with ⟨e1, e2⟩ | h
    ·exact .inl ⟨e2, .inl e1⟩
    ·obtain ⟨h1, h2⟩ := hw.2 k v h
     exact .inr ⟨h2, fun _ => Ne.symm h1⟩
 ·rename_i h7
  obtain ⟨b1, b2, b3⟩ := nq (now := now) e.ready c hn
  refine ⟨b1, .inl b2, fun k v hv => ?_⟩
  rcases b3 k v hv with ⟨e1, e2⟩ | h
  ·exact .inl ⟨e2, .inl e1⟩
  ·exact .inr ⟨h, fun e => absurd e h7⟩
theorem FI.step {e : Ev} (h : FI W GG S Rm B x c) (hs : SV p N x) (hp : cU p) (hN : N ≤ 1000000) (hst : x.status = 0) (hy : x.step p = some (y, .ev e)) (hys : SV p (N + 1) y)
  (hW : hO (eG y.ms.length y.d.taken) y.ms.length ≤ W) (Sa : hO (eG x.ms.length x.d.taken) x.ms.length ≤ W) (hG : y.w.gs.length ≤ GG) (hB : ((W * ((2 * S + 2) * (2 * Rm + 2 + (7 * GG + 7)) + (2 * S + 1)) : Nat) : Int) + W ≤ B) : FI W GG S Rm B y (c.step e y) := by
 have hw := sA hs hp hy hst
 have hgx : x.w.gs.length ≤ GG := Nat.le_trans hw.1 hG
 obtain ⟨d', k, q1, q2, q3, q4, q5⟩ := N3 (GG := GG) hs h.hv hgx h.cS hy hst hys hG
 obtain ⟨rest, r1, r2, _⟩ := nm hs.k hst hy q1
 obtain ⟨s1, s2⟩ := Bv hst hy
 have H6 : y.ms.length = x.ms.length := by
  have e1 := hys.cM
  have e2 := hs.cM
  rw [s2] at e1; omega
 have hx := hs.st
 have hnow : IntKind.wrap .i64 (y.steps - 1) = x.steps := by rw [eJ (by omega) (by omega)]; omega
 obtain ⟨c1, c2, c3⟩ := N8 (c := c) (y := y) (e := e) h.nd
 rw [hnow] at c2 c3
 have Va : ∀ g, At y.w g 1 → ∃ m n u, m < y.ms.length ∧ Kw Rm GG y g m n u ∧ (y.steps - 1 - x.steps) + ((W * ((2 * S + 2) * n + u) : Nat) : Int) + ((W : Int) + 1 - wj y m) ≤ B := fun g hg => by
  obtain ⟨m, m1, m2⟩ := EM hys q4 (by rw [s2]; exact h.cS) hG hg
  have := (zl m1 hW).1
  exact ⟨m, _, _, m1, m2, by omega⟩
 refine ⟨q4, by rw [s2]; exact h.cS, c1, fun g f hf => ?_, ?_⟩
 ·rcases c3 g f hf with ⟨e1, e2⟩ | ⟨e1, e2⟩
  ·subst e1
   have EJ : At y.w g 1 := by
    rcases e2 with e2 | ⟨e2, e3, e4⟩
    ·exact hw.2 g e2
    ·have := N5 hs hp hst hy e2
     rw [← e3] at this
     exact ⟨this.1, this.2, e4⟩
   exact ⟨EJ.1, by omega, by omega, Va g EJ⟩
  ·obtain ⟨a1, a2, a3, m, n, u, m1, m2, m3⟩ := h.wt g f e1
   refine ⟨a1, a2, by omega, ?_⟩
   have hax := zl m1 Sa
   rcases q5 g m n u a1 e2 m1 m2 with ⟨b1, b2⟩ | ⟨n', u', b1, b2⟩
   ·have := ER H6 r1 r2 q2 q3 m m1
    rw [if_neg b1] at this
    exact ⟨m, n, u, by omega, b2, by omega⟩
   ·have hk : k.toNat < x.ms.length := by
     obtain ⟨mc, ji, _⟩ := b2
     have := (List.getElem?_eq_some_iff.1 ji).1
     omega
    have := ER H6 r1 r2 q2 q3 k.toNat hk
    rw [if_pos rfl] at this
    refine ⟨k.toNat, n', u', by omega, b2, ?_⟩
    have hmul : W * ((2 * S + 2) * n' + u') + W ≤ W * ((2 * S + 2) * n + u) := by
     have h1 : (2 * S + 2) * n' + u' + 1 ≤ (2 * S + 2) * n + u := by
      rcases b1 with ⟨b1, b3⟩ | ⟨b1, b3⟩
      ·have := Nat.mul_le_mul_left (2 * S + 2) b1
       rw [Nat.mul_add] at this
       omega
      ·have := Nat.mul_le_mul_left (2 * S + 2) b1
       omega
     have := Nat.mul_le_mul_left W h1
     rw [Nat.mul_add, Nat.mul_one] at this
     exact this
    omega
 ·rcases c2 with e1 | ⟨e7, f, e1, e2⟩
  ·rw [e1]; exact h.lg
  ·obtain ⟨a1, a2, a3, m, n, u, m1, m2, m3⟩ := h.wt e.g f e1
   have hax := zl m1 Sa
   have hl := h.lg
   rw [eJ (by omega) (by omega)] at e2
   rw [e2]
   split <;> omega
theorem N9 {o : gC} (hst : x.status = 0) (hy : x.step p = some (y, o)) : y.c = x.c := by
 unfold Sc.step at hy
 split at hy
 ·rw [if_neg (by rw [hst]; decide)] at hy
  split at hy
  ·cases hy; rfl
  ·rename_i d' k iU
   generalize hac : Sc.act p { x with d := d' } k = r at hy
   cases r with
   | none => cases hy
   | some r =>
    obtain ⟨z, o2⟩ := r
    have := Bu hac
    cases o2 <;> · cases hy; exact this.2
 ·cases hy
theorem Oa {x0 : Sc} {c0 : gE} {j : Nat} (h : WR p x0 c0 j x c) (h0 : SV p 0 x0) (hp : cU p) (hj : j ≤ 1000000) : (∀ r ∈ x.d.taken, 0 ≤ r.2) ∨ ∃ r ∈ x0.d.taken, r.2 < 0 := by
 induction h with
 | zero =>
  by_cases e : ∀ r ∈ x0.d.taken, 0 ≤ r.2
  ·exact .inl e
  ·simp only [Classical.not_forall] at e
   obtain ⟨r, h1, h2⟩ := e
   exact .inr ⟨r, h1, by omega⟩
 | succ hw hs he ih =>
  rename_i j x y c e
  rcases ih (by omega) with ih | ih
  ·left
   have hv := hw.sv h0 hp (by omega)
   have hpk : ∃ d' k, x.d.draw 1 (x.c.M + 1) = (d', .num k) := by
    unfold Sc.step at he
    split at he
    ·rw [if_neg (by rw [hs]; decide)] at he
     split at he
     ·cases he
     ·rename_i d' k iU; exact ⟨d', k, iU⟩
    ·cases he
   obtain ⟨d', k, hd⟩ := hpk
   obtain ⟨rest, r1, r2, r3⟩ := nm hv.k hs he hd
   rw [r1]
   intro r hr
   rcases List.mem_append.1 hr with hr | hr
   ·exact ih r hr
   ·rcases List.mem_cons.1 hr with rfl | hr
    ·exact r3
    ·exact (r2 r hr).2
  ·exact .inr ih
theorem FI.run {x0 : Sc} {c0 : gE} {j : Nat} (h : WR p x0 c0 j x c) (h0 : SV p 0 x0) (hp : cU p) (hj : j ≤ 1000000) (hB : ((W * ((2 * S + 2) * (2 * Rm + 2 + (7 * GG + 7)) + (2 * S + 1)) : Nat) : Int) + W ≤ B)
  (hi : x0.w.gs.length ≤ GG → hO (eG x0.ms.length x0.d.taken) x0.ms.length ≤ W → FI W GG S Rm B x0 c0) (hW : hO (eG x.ms.length x.d.taken) x.ms.length ≤ W) (hG : x.w.gs.length ≤ GG) : FI W GG S Rm B x c := by
 induction h with
 | zero => exact hi hG hW
 | succ hw hs he ih =>
  rename_i j x y c e
  have hv := hw.sv h0 hp (by omega)
  have KC := (WR.succ hw hs he).sv h0 hp hj
  have hpk : ∃ d' k, x.d.draw 1 (x.c.M + 1) = (d', .num k) := by
   unfold Sc.step at he
   split at he
   ·rw [if_neg (by rw [hs]; decide)] at he
    split at he
    ·cases he
    ·rename_i d' k iU; exact ⟨d', k, iU⟩
   ·cases he
  obtain ⟨d', k, hd⟩ := hpk
  obtain ⟨rest, r1, r2, r3⟩ := nm hv.k hs he hd
  have H6 : y.ms.length = x.ms.length := by
   have e1 := KC.cM
   have e2 := hv.cM
   rw [N9 hs he] at e1; omega
  have Sa : hO (eG x.ms.length x.d.taken) x.ms.length ≤ W := by
   refine Int.le_trans ?_ hW
   rw [H6, r1]
   refine vD _ _ (fun r hr => ?_)
   rcases List.mem_cons.1 hr with rfl | hr
   ·exact r3
   ·exact (r2 r hr).2
  exact (ih (by omega) Sa (Nat.le_trans (sA hv hp he hs).1 hG)).step hv hp (by omega) hs he KC hW Sa hG hB
theorem Ob {now : Int} : ∀ (l : List Nat) (c : gE), (c.m.l.map (·.1)).Nodup → 0 ≤ c.bR → c.bR ≤ B → (∀ g f, fH c.m.l g = some f → -1 ≤ f ∧ f ≤ 1000000 ∧ now - f ≤ B) → -1 ≤ now → now ≤ 1000000 →
  (l.foldl (fun (c : gE) (g : Nat) => c.wait (g : Int) now) c).bR ≤ B
 | [], c, _, _, h, _, _, _ => h
 | g :: l, c, hn, h0, h1, h2, h3, h4 => by
  rw [List.foldl_cons]
  obtain ⟨w1, w2⟩ := ES (c := c) (g := (g : Int)) (now := now) hn
  have w3 : 0 ≤ (c.wait (g : Int) now).bR ∧ (c.wait (g : Int) now).bR ≤ B := by
   unfold gE.wait
   split
   ·exact ⟨h0, h1⟩
   ·rename_i f hf
    have := h2 _ f hf
    dsimp only
    rw [eJ (by omega) (by omega)]
    by_cases hc : now - f > c.bR
    ·rw [if_pos hc]; omega
    ·rw [if_neg hc]; omega
  exact Ob l _ w1 w3.1 w3.2 (fun k v hv => h2 k v (w2 k v hv).2) h3 h4
end
theorem Oc (W S R G : Nat) : ((W * ((2 * S + 2) * (2 * R + 2 + (7 * G + 7)) + (2 * S + 1)) : Nat) : Int) + W ≤ (2 * (S : Int) + 2) * W * (7 * ((G : Int) + 2) + 4 * ((R : Int) + 2)) + 8 * W := by
 have h : W * ((2 * S + 2) * (2 * R + 2 + (7 * G + 7)) + (2 * S + 1)) + W ≤ (2 * S + 2) * W * (7 * (G + 2) + 4 * (R + 2)) + 8 * W := by
  have e1 : W * ((2 * S + 2) * (2 * R + 2 + (7 * G + 7)) + (2 * S + 1)) + W = (2 * S + 2) * W * (2 * R + 2 + (7 * G + 7) + 1) := by
   generalize 2 * R + 2 + (7 * G + 7) = A
   rw [Nat.mul_add, Nat.mul_add ((2 * S + 2) * W), Nat.mul_one, ← Nat.mul_assoc, Nat.mul_comm W (2 * S + 2), Nat.add_assoc, Nat.mul_comm W (2 * S + 1)]
   have : (2 * S + 1) * W + W = (2 * S + 2) * W := by rw [show 2 * S + 2 = (2 * S + 1) + 1 by omega, Nat.add_mul (2 * S + 1) 1 W, Nat.one_mul]
   rw [this]
  rw [e1]
  refine Nat.le_trans (Nat.mul_le_mul_left _ (show 2 * R + 2 + (7 * G + 7) + 1 ≤ 7 * (G + 2) + 4 * (R + 2) by omega)) (Nat.le_add_right _ _)
 have h2 := Int.ofNat_le.2 h
 simpa [Int.natCast_add, Int.natCast_mul] using h2
section
variable {p : cj} {x y : Sc} {c : gE}
theorem Od {cf : Kf} {l : List Int} {most R S : Nat} (hok : cU p) (hP : 1 ≤ cf.P ∧ cf.P ≤ 64) (hM : 1 ≤ cf.M ∧ cf.M ≤ 64) (hS : cf.S = (S : Int)) (hS1 : 1 ≤ S ∧ S ≤ 1024) (hR : cf.R = (R : Int)) (hR1 : 1 ≤ R ∧ R ≤ 1024) (hm : most ≤ 999999) (hl : (gm.ir l 0).Ok)
  (h : vB p (Sc.new p cf ⟨.ir l 0, []⟩) N4 most y c) (hw : nC cf.M.toNat y.d.taken ≠ 0) :
  (c.fin y).bR ≤ (2 * cf.S + 2) * (nC cf.M.toNat y.d.taken) * (7 * ((y.w.gs.length : Int) + 2) + 4 * (cf.R + 2)) + 8 * nC cf.M.toNat y.d.taken := by
 have h0 : SV p 0 (Sc.new p cf ⟨.ir l 0, []⟩) := SV.new hok hP hM (by omega) rfl hl
 have hms0 : (Sc.new p cf ⟨.ir l 0, []⟩).ms.length = cf.M.toNat := by simp [Sc.new]
 have pre : ∃ (j : Nat) (x : Sc), j ≤ most ∧ WR p (Sc.new p cf ⟨.ir l 0, []⟩) N4 j x c ∧ y.steps = x.steps ∧ y.w.gs.length = x.w.gs.length ∧ ∃ rest : List (Int × Int), y.d.taken = x.d.taken ++ rest ∧ ∀ r ∈ rest, 0 ≤ r.2 := by
  cases h with
  | GQ hw hj _ => exact ⟨_, y, hj, hw, rfl, rfl, [], by simp, by intro r hr; cases hr⟩
  | cz hw hj hst GV =>
   obtain ⟨a1, a2, a3⟩ := qe (hw.sv h0 hok (by omega)) hok hst GV
   exact ⟨_, _, by omega, hw, a1, by rw [a2], a3⟩
 obtain ⟨j, x, hj, hwr, ys, yg, rest, yt, yr⟩ := pre
 have hv := hwr.sv h0 hok (by omega)
 have hc : x.c = cf := by
  clear ys yg yt yr hv hw h
  induction hwr with
  | zero => rfl
  | succ hw hs he ih => exact (N9 hs he).trans (ih (by omega))
 have H6 : x.ms.length = cf.M.toNat := by have := hv.cM; rw [hc] at this; omega
 have hW : hO (eG cf.M.toNat y.d.taken) cf.M.toNat = nC cf.M.toNat y.d.taken := by
  unfold nC at hw ⊢
  split at hw
  ·rename_i e; rw [if_pos e]
  ·exact absurd rfl hw
 have hWp : 0 ≤ nC cf.M.toNat y.d.taken := by
  rw [← hW]
  have h1 := (iL (s := eG cf.M.toNat y.d.taken) (k := cf.M.toNat)).1
  have h2 := (pP cf.M.toNat y.d.taken).2.2.2.1
  omega
 obtain ⟨W, hWn⟩ := Int.eq_ofNat_of_zero_le hWp
 rw [hWn] at hW ⊢
 rw [hS, hR]
 have hB := Oc W S R y.w.gs.length
 generalize (2 * (S : Int) + 2) * (W : Int) * (7 * ((y.w.gs.length : Int) + 2) + 4 * ((R : Int) + 2)) + 8 * (W : Int) = B at hB ⊢
 have Sa : hO (eG x.ms.length x.d.taken) x.ms.length ≤ W := by
  rw [H6, ← hW, yt]
  exact vD _ _ yr
 have hcap : fy cf.R = R := by unfold fy; omega
 have Va : (Sc.new p cf ⟨.ir l 0, []⟩).w.gs.length ≤ y.w.gs.length → hO (eG (Sc.new p cf ⟨.ir l 0, []⟩).ms.length (Sc.new p cf ⟨.ir l 0, []⟩).d.taken) (Sc.new p cf ⟨.ir l 0, []⟩).ms.length ≤ W → FI W y.w.gs.length S R B (Sc.new p cf ⟨.ir l 0, []⟩) N4 := fun hg hw0 => by
  have Yj : HV R (Sc.new p cf ⟨.ir l 0, []⟩) := by
   refine ⟨fun i hi => .inl ?_, fun pr jh => ?_, fun mc ji => ?_⟩
   ·have e : ax (Sc.new p cf ⟨.ir l 0, []⟩) (i : Int) = ⟨⟨-1, fy cf.R, []⟩, 0, -1⟩ := by
     unfold ax Sc.new at *
     dsimp only at hi ⊢
     rw [List.length_replicate] at hi
     simp [hi]
    rw [e]
    exact ⟨rfl, rfl, rfl⟩
   ·rw [List.eq_of_mem_replicate jh]; exact hcap
   ·rw [List.eq_of_mem_replicate ji]
    show (0 : Int) ≤ cf.S
    omega
  refine ⟨Yj, hS, by decide, fun g f hf => ?_, ⟨by decide, ?_⟩⟩
  ·unfold N4 at hf
   simp only [fH] at hf
   split at hf
   ·rename_i e
    subst e
    cases hf
    have EJ : At (Sc.new p cf ⟨.ir l 0, []⟩).w 0 1 := ⟨by decide, by simp [Sc.new, Wd.new], rfl⟩
    obtain ⟨m, m1, m2⟩ := EM h0 Yj hS hg EJ
    have := (zl m1 hw0).1
    have e0 : (Sc.new p cf ⟨.ir l 0, []⟩).steps = 0 := rfl
    refine ⟨by decide, by decide, by rw [e0]; decide, m, _, _, m1, m2, ?_⟩
    rw [e0]
    omega
   ·cases hf
  ·show (0 : Int) ≤ B
   have : (0 : Int) ≤ ((W * ((2 * S + 2) * (2 * R + 2 + (7 * y.w.gs.length + 7)) + (2 * S + 1)) : Nat) : Int) := Int.natCast_nonneg _
   omega
 have wq := hv.w.n2
 have hF : FI W y.w.gs.length S R B x c := FI.run hwr h0 hok (by omega) hB Va Sa (by omega)
 have hst := hv.st
 unfold gE.fin
 rw [ys, eJ (by omega) (by omega)]
 refine Ob _ c hF.nd hF.lg.1 hF.lg.2 (fun g f hf => ?_) (by omega) (by omega)
 obtain ⟨a1, a2, a3, m, n, u, m1, m2, m3⟩ := hF.wt g f hf
 have hax := zl m1 Sa
 have : (0 : Int) ≤ ((W * ((2 * S + 2) * n + u) : Nat) : Int) := Int.natCast_nonneg _
 generalize (W * ((2 * S + 2) * n + u) : Nat) = zz at m3
 exact ⟨a2, by omega, by omega⟩
end
def zm (y : gT) : List (Int × Int) := y.fs.map fun f => (f.fn, f.pc)
def sh (x : Wd) : List (List (Int × Int)) := x.gs.map zm
section
variable {p : cj} {x y : Wd} {g q k v : Int} {i : dB} {n : Nat}
theorem xh {z : gT} : sh (x.bh g z) = (sh x).set g.toNat (zm z) := by simp [sh, Wd.bh, List.map_set]
theorem Sb (h : g.toNat < x.gs.length) : (sh x)[g.toNat]? = some (zm (ae x g)) := by
 unfold sh ae
 rw [List.getElem?_map, List.getD_eq_getElem?_getD, List.getElem?_eq_getElem h]
 rfl
theorem CV {z : gT} (h : zm z = zm (ae x g)) : sh (x.bh g z) = sh x := by
 rw [xh, h]
 by_cases hl : g.toNat < x.gs.length
 ·refine List.ext_getElem? fun j => ?_
  by_cases e : j = g.toNat
  ·subst e
   rw [List.getElem?_set_self (by simpa [sh] using hl), Sb hl]
  ·rw [List.getElem?_set_ne (Ne.symm e)]
 ·rw [List.set_eq_of_length_le (by simp [sh]; omega)]
theorem sB {z : gT} {f : fM} : zm (z.bP f) = (zm z).set (z.fs.length - 1) (f.fn, f.pc) := by simp [zm, gT.bP, List.map_set]
theorem QM {z : gT} {f : fM} (h1 : f.fn = z.top.fn) (h2 : f.pc = z.top.pc) : zm (z.bP f) = zm z := by
 rw [sB, h1, h2]
 by_cases hl : 0 < z.fs.length
 ·refine List.ext_getElem? fun j => ?_
  by_cases e : j = z.fs.length - 1
  ·subst e
   rw [List.getElem?_set_self (by simp [zm]; omega)]
   unfold zm gT.top
   rw [List.getElem?_map, List.getD_eq_getElem?_getD, List.getElem?_eq_getElem (by omega)]
   rfl
  ·rw [List.getElem?_set_ne (Ne.symm e)]
 ·have : z.fs = [] := List.eq_nil_of_length_eq_zero (by omega)
  simp [zm, this]
theorem iP : sh (x.bg g q v) = sh x := CV (QM rfl rfl)
theorem xj : sh (x.dV g) = sh x := CV (x := x) (g := g) (z := { ae x g with st := 1 }) rfl
theorem ET : sh (x.block g i) = sh x := CV (x := x) (g := g) (z := { ae x g with st := 2, wt := i }) rfl
theorem BA : sh (x.fE g k) = sh x := iP (x := x)
theorem EU {w : Wt} : sh (x.received p w v) = sh x := by
 unfold Wd.received
 dsimp only
 rw [xj]
 split
 ·rw [BA, iP]
 ·rw [iP, iP]
theorem Ir {w : Wt} : sh (x.sent w) = sh x := by
 unfold Wd.sent
 rw [xj]
 split
 ·exact BA
 ·rfl
theorem iw {c : aP} : sh (x.bX k c) = sh x := rfl
theorem Oe : sh (x.get k).1 = sh x := by
 unfold Wd.get
 dsimp only
 split
 ·dsimp only; split
  ·rw [Ir, iw]
  ·rw [iw]
 ·dsimp only; split
  ·rw [Ir, iw]
  ·rw [iw]
def shO (s : List (List (Int × Int))) : Out Wd → Prop
 | .on y => sh y = s
 | .dx _ y => sh y = s
 | .cz _ y => sh y = s
theorem Vb : (∀ n y, x.put p k v = .dx n y → sh y = sh x) ∧ (∀ z, x.put p k v = .on z → sh z.1 = sh x) ∧ (∀ l y, x.put p k v = .cz l y → sh y = sh x) := by
 unfold Wd.put
 dsimp only
 split
 ·refine ⟨fun n y h => ?_, fun z h => ?_, fun l y h => ?_⟩
  ·cases h; exact iw
  ·cases h
  ·cases h
 ·refine ⟨fun n y h => ?_, fun z h => ?_, fun l y h => ?_⟩
  ·cases h
  ·simp only [Out.on.injEq] at h
   rw [← h]
   dsimp only
   split
   ·rw [EU, iw]
   ·rw [iw]
  ·cases h
theorem QN : shO (sh x) (x.send p g i) := by
 obtain ⟨a1, a2, a3⟩ := Vb (x := x) (p := p) (k := i.a) (v := aZ x g i.b)
 unfold Wd.send
 split
 ·rename_i h; exact a1 _ _ h
 ·rename_i h; exact a3 _ _ h
 ·rename_i h; exact a2 _ h
 ·rename_i h
  show sh (Wd.block _ _ _) = _
  rw [ET]
  unfold Wd.D7
  rw [iw]
  exact a2 _ h
theorem Is : sh (x.recv g i) = sh x := by
 unfold Wd.recv
 split
 ·rw [iP, iP, Oe]
 ·rw [ET]
  unfold Wd.D8
  rw [iw, Oe]
theorem It : ∀ (l : List Int) (x : Wd), sh (l.foldl Wd.dV x) = sh x
 | [], x => rfl
 | g :: l, x => by rw [List.foldl_cons, It l, xj]
theorem QO : sh x.tick = sh x := by
 by_cases he : x.end_ = 0
 ·rw [Ij he, It]; rfl
 ·unfold Wd.tick
  rw [if_pos he]
  rfl
end
theorem Vc {p : cj} {x y : Sc} {e : Ev} (hst : x.status = 0) (hy : x.step p = some (y, .ev e)) : y.w = x.w ∨ y.w = x.w.tick ∨ ∃ g d r rest, o6 p x.w g d = some (r, rest) ∧ (r = .on y.w ∨ ∃ n y', r = .dx n y' ∧ y.w = { y' with end_ := 2, code := n }) := by
 unfold Sc.step at hy
 split at hy
 ·rw [if_neg (by rw [hst]; decide)] at hy
  split at hy
  ·cases hy
  ·rename_i d' k iU
   generalize hac : Sc.act p { x with d := d' } k = r at hy
   cases r with
   | none => cases hy
   | some r =>
    obtain ⟨z, o⟩ := r
    cases o with
    | cz l => cases hy
    | ev e2 =>
     cases hy
     show z.w = x.w ∨ z.w = x.w.tick ∨ _
     have fw : ∀ (z : Sc) (i kind g : Int) (t : Bool), (z.aT k i kind g t).1.w = z.w := fun z i kind g t => by
      unfold Sc.aT; split <;> rfl
     unfold Sc.act at hac
     split at hac
     ·split at hac
      ·cases hac; exact .inr (.inl rfl)
      ·cases hac
     ·split at hac
      ·simp only [Option.some.injEq, Prod.mk.injEq] at hac
       rw [← hac.1]
       unfold Sc.hold
       dsimp only
       split <;> exact .inl rfl
      ·split at hac
       ·split at hac
        ·simp only [Option.some.injEq] at hac
         left
         have hf : (Sc.find { x with d := d' } k).1.w = x.w := by
          unfold Sc.find
          dsimp only
          split
          ·rfl
          ·split
           ·split
            ·rfl
            ·split <;> exact fw _ _ _ _ _
           ·exact fw _ _ _ _ _
         rw [hac] at hf
         exact hf
        ·cases hac
       ·unfold Sc.run at hac
        split at hac
        ·rename_i hpre
         obtain ⟨m0, m1, i0, i1, _⟩ := hpre
         have on : ∀ {w : Wd} {d2 : iO} {rest : Bool}, en { x with d := d' } k (av { x with d := d' } k).g d2 w rest = some (z, .ev e) → z.w = w := fun {w d2 rest} hh => by
          unfold en at hh
          split at hh
          ·simp only [Option.some.injEq, Prod.mk.injEq] at hh
           have f1 := eA (m := k) w.ready { x with w := w, d := d2 } i0 i1
           rw [← hh.1]
           unfold Sc.fW
           split <;> exact f1.2.2.1
          ·cases hh
         right; right
         split at hac
         ·split at hac
          ·cases hac
          ·cases hac
          ·rename_i hex
           exact ⟨_, _, _, _, hex, .inl (by rw [on hac])⟩
          ·rename_i hex
           exact ⟨_, _, _, _, hex, .inr ⟨_, _, rfl, on hac⟩⟩
         ·cases hac
        ·cases hac
 ·cases hy
def ju (n : Nat) : List dB := ⟨11, 1, 0, 1⟩ :: ⟨11, 2, 0, 1⟩ :: (List.replicate n ⟨11, 3, 0, 1⟩ ++ [⟨14, 2, 1, 2⟩])
def sC (n : Nat) : cj := ⟨[ju n, [⟨13, 0, 0, 0⟩, ⟨14, 1, 1, 2⟩, ⟨7, 0, 0, 0⟩], [⟨14, 0, 1, 2⟩, ⟨13, 1, 0, 0⟩, ⟨7, 0, 0, 0⟩], [⟨0, 0, 0, 0⟩, ⟨7, 0, 0, 0⟩]], [0, 0, 0], 0, []⟩
def CI (n : Nat) (x : Wd) : Prop := ∃ (pc : Nat) (rest : List (List (Int × Int))), sh x = [((0 : Int), (pc : Int))] :: rest ∧ (∀ s ∈ rest, ∃ f q, s = [(f, q)] ∧ 1 ≤ f ∧ f ≤ 3) ∧ rest.length ≤ pc ∧ rest.length ≤ n + 2
section
variable {n : Nat} {x y : Wd} {g : Int} {d : jf} {r : Out Wd} {t : Bool}
theorem CI.len (h : CI n x) : x.gs.length ≤ n + 3 := by
 obtain ⟨pc, rest, h1, h2, h3, h4⟩ := h
 have := congrArg List.length h1
 simp only [sh, List.length_map, List.length_cons] at this
 omega
theorem wk {z : Wd} (h : CI n x) (e : sh z = sh x) : CI n z := by
 unfold CI
 rw [e]; exact h
theorem Iu {pc : Nat} {i : dB} (h : (ju n)[pc]? = some i) : (pc < n + 2 ∧ i.op = 11 ∧ 1 ≤ i.a ∧ i.a ≤ 3) ∨ (pc = n + 2 ∧ i.op = 14) := by
 unfold ju at h
 match pc, h with
 | 0, h => simp at h; subst h; exact .inl ⟨by omega, rfl, by decide, by decide⟩
 | 1, h => simp at h; subst h; exact .inl ⟨by omega, rfl, by decide, by decide⟩
 | pc + 2, h =>
  simp only [List.getElem?_cons_succ] at h
  by_cases hl : pc < n
  ·rw [List.getElem?_append_left (by simpa using hl), List.getElem?_replicate, if_pos hl] at h
   cases h; exact .inl ⟨by omega, rfl, by decide, by decide⟩
  ·rw [List.getElem?_append_right (by simp; omega)] at h
   simp only [List.length_replicate] at h
   have h0 : pc - n = 0 := by
    have := (List.getElem?_eq_some_iff.1 h).1
    simp at this; omega
   rw [h0] at h
   simp at h; subst h; exact .inr ⟨by omega, rfl⟩
theorem Of {f : Int} {code : List dB} {k : Nat} {i : dB} (h0 : 1 ≤ f) (h3 : f ≤ 3) (h : (sC n).funcs[f.toNat]? = some code) (hi : code[k]? = some i) : i.op = 13 ∨ i.op = 14 ∨ i.op = 7 ∨ i.op = 0 := by
 have hf : f = 1 ∨ f = 2 ∨ f = 3 := by omega
 have hm := List.mem_of_getElem? hi
 rcases hf with rfl | rfl | rfl <;> · simp [sC] at h; subst h; simp at hm; rcases hm with rfl | rfl | rfl <;> simp
theorem QS (h : CI n x) (he : o6 (sC n) x g d = some (r, t)) : (∀ y, r = .on y → CI n y) ∧ (∀ c y, r = .dx c y → CI n y) := by
 obtain ⟨pc, rest, h1, h2, h3, h4⟩ := h
 have OS : CI n x := ⟨pc, rest, h1, h2, h3, h4⟩
 have same : ∀ {r' : Out Wd}, shO (sh x) r' → (∀ y, r' = .on y → CI n y) ∧ (∀ c y, r' = .dx c y → CI n y) := fun {r'} hs => ⟨fun y e => by subst e; exact wk OS hs, fun c y e => by subst e; exact wk OS hs⟩
 unfold o6 at he
 dsimp only at he
 split at he
 ·rename_i Kb
  obtain ⟨g0, g1, _, _⟩ := Kb
  have g1' : g.toNat < x.gs.length := by dsimp only at g1; omega
  have hgr : ae { x with ready := [] } g = ae x g := rfl
  rw [hgr] at he
  have hsh := Sb g1'
  rw [h1] at hsh
  have hcs : (g.toNat = 0 ∧ zm (ae x g) = [((0 : Int), (pc : Int))]) ∨ (∃ j f q, g.toNat = j + 1 ∧ rest[j]? = some (zm (ae x g)) ∧ zm (ae x g) = [(f, q)] ∧ 1 ≤ f ∧ f ≤ 3) := by
   cases hj : g.toNat with
   | zero => rw [hj] at hsh; simp at hsh; exact .inl ⟨rfl, hsh.symm⟩
   | succ j =>
    rw [hj, List.getElem?_cons_succ] at hsh
    obtain ⟨f, q, e1, e2, e3⟩ := h2 _ (List.mem_of_getElem? hsh)
    exact .inr ⟨j, f, q, rfl, hsh, e1, e2, e3⟩
  have one : ∀ {a b : Int}, zm (ae x g) = [(a, b)] → (ae x g).fs.length = 1 ∧ (ae x g).top.fn = a ∧ (ae x g).top.pc = b := fun {a b} e => by
   have hl := congrArg List.length e
   simp only [zm, List.length_map, List.length_singleton] at hl
   refine ⟨hl, ?_⟩
   obtain ⟨f, hf⟩ := List.length_eq_one_iff.1 hl
   unfold gT.top
   rw [hf]
   unfold zm at e
   rw [hf] at e
   simp at e
   exact e
  have Yd : ∀ {s : List (Int × Int)} {j : Nat}, g.toNat = j + 1 → (∃ f q, s = [(f, q)] ∧ 1 ≤ f ∧ f ≤ 3) → ∀ {z : Wd}, sh z = (sh x).set g.toNat s → CI n z := fun {s j} hj hs z hz => by
   rw [h1, hj, List.set_cons_succ] at hz
   refine ⟨pc, _, hz, fun s' hs' => ?_, by simpa using h3, by simpa using h4⟩
   rcases List.mem_or_eq_of_mem_set hs' with hs' | rfl
   ·exact h2 s' hs'
   ·exact hs
  split at he
  ·split at he
   ·cases he
   ·rename_i code iF
    split at he
    ·cases he; exact same rfl
    ·rename_i i hi
     rcases hcs with ⟨e0, es⟩ | ⟨j, f, q, ej, er, es, f1, f3⟩
     ·
      obtain ⟨l1, t1, t2⟩ := one es
      rw [t1] at iF
      have hc0 : code = ju n := by simpa [sC] using iF.symm
      rw [hc0, t2] at hi
      have hi' : (ju n)[pc]? = some i := by simpa using hi
      have OC : zm ((ae x g).bP (ae x g).top.next) = [((0 : Int), ((pc + 1 : Nat) : Int))] := by
       rw [sB, es, l1]
       simp only [Nat.sub_self, List.set_cons_zero, fM.next, t1, t2]
       rfl
      have hsx : sh (Wd.next { x with ready := [] } g) = [((0 : Int), ((pc + 1 : Nat) : Int))] :: rest := by
       show sh (Wd.bh { x with ready := [] } g _) = _
       rw [xh]
       show (sh x).set g.toNat (zm ((ae x g).bP (ae x g).top.next)) = _
       rw [OC, h1, e0]; rfl
      have VJ : CI n (Wd.next { x with ready := [] } g) := ⟨pc + 1, rest, hsx, h2, by omega, h4⟩
      have hop : i.op = 11 ∨ i.op = 14 := by rcases Iu hi' with h | h; exact .inl h.2.1; exact .inr h.2
      rw [if_neg (by omega), if_neg (by omega), if_neg (by omega)] at he
      split at he
      ·cases he
      ·rename_i r' hd
       have hr : r = r' := by split at he <;> cases he; rfl
       subst hr
       unfold lq at hd
       rw [if_neg (by omega)] at hd
       rcases Iu hi' with ⟨m1, m2, m3, m4⟩ | ⟨m1, m2⟩
       ·rw [if_pos m2] at hd
        split at hd
        ·cases hd
         unfold Wd.spawn
         split
         ·exact ⟨fun y e => (by cases e), fun c y e => (by cases e; exact VJ)⟩
         ·refine ⟨fun y e => ?_, fun c y e => by cases e⟩
          cases e
          refine ⟨pc + 1, rest ++ [[(i.a, 0)]], ?_, fun s hs => ?_, by simp; omega, by simp; omega⟩
          ·rw [iP, xj]
           have : sh { Wd.next { x with ready := [] } g with gs := (Wd.next { x with ready := [] } g).gs ++ [⟨0, [fM.begin i.a (aZ (Wd.next { x with ready := [] } g) g i.b)], .zero⟩] } = sh (Wd.next { x with ready := [] } g) ++ [[(i.a, 0)]] := by
            unfold sh
            dsimp only
            rw [List.map_append]
            rfl
           rw [this, hsx]
           rfl
          ·rcases List.mem_append.1 hs with hs | hs
           ·exact h2 s hs
           ·rw [List.mem_singleton] at hs
            exact ⟨i.a, 0, hs, m3, m4⟩
        ·cases hd
       ·rw [if_neg (by omega), if_neg (by omega), if_pos m2] at hd
        split at hd
        ·cases hd
         exact ⟨fun y e => by cases e; exact wk VJ Is, fun c y e => by cases e⟩
        ·cases hd
     ·
      obtain ⟨l1, t1, t2⟩ := one es
      rw [t1] at iF
      have hop := Of f1 f3 iF hi
      have OC : ∀ F : fM, F.fn = f → zm ((ae x g).bP F) = [(f, F.pc)] := fun F hF => by
       rw [sB, es, l1]
       simp [hF]
      split at he
      ·split at he
       ·cases he
        refine ⟨fun y e => ?_, fun c y e => by cases e⟩
        cases e
        have hfn : ((ae x g).top.next.pure i).fn = f := by
         rw [← t1]
         unfold fM.pure
         repeat' split
         all_goals rfl
        refine Yd (s := [(f, ((ae x g).top.next.pure i).pc)]) ej ⟨f, _, rfl, f1, f3⟩ (z := Wd.bh { x with ready := [] } g ((ae x g).bP ((ae x g).top.next.pure i))) ?_
        rw [xh]
        show (sh x).set g.toNat _ = _
        rw [OC _ hfn]
       ·cases he
      ·rw [if_neg (by omega), if_neg (by omega)] at he
       split at he
       ·cases he
       ·rename_i r' hd
        have hr : r = r' := by split at he <;> cases he; rfl
        subst hr
        have VJ : CI n (Wd.next { x with ready := [] } g) := by
         refine Yd (s := [(f, (ae x g).top.next.pc)]) ej ⟨f, _, rfl, f1, f3⟩ (z := Wd.next { x with ready := [] } g) ?_
         show sh (Wd.bh { x with ready := [] } g _) = _
         rw [xh]
         show (sh x).set g.toNat (zm ((ae x g).bP (ae x g).top.next)) = _
         rw [OC (ae x g).top.next t1]
        unfold lq at hd
        rw [if_neg (by omega), if_neg (by omega)] at hd
        by_cases RX : i.op = 13
        ·rw [if_pos RX] at hd
         obtain ⟨_, e⟩ := b9 hd
         have R9 := QN (p := sC n) (x := Wd.next { x with ready := [] } g) (g := g) (i := i)
         rw [← e] at R9
         exact ⟨fun y e => by rw [e] at R9; exact wk VJ R9, fun c y e => by rw [e] at R9; exact wk VJ R9⟩
        ·rw [if_neg RX, if_pos (show i.op = 14 by omega)] at hd
         obtain ⟨_, e⟩ := b9 hd
         rw [e]
         exact ⟨fun y e => by cases e; exact wk VJ Is, fun c y e => by cases e⟩
  ·cases he
 ·cases he; exact same rfl
end
section
variable {n : Nat} {x y : Sc} {e : Ev} {c : gE}
theorem QT (h : CI n x.w) (hst : x.status = 0) (hy : x.step (sC n) = some (y, .ev e)) : CI n y.w := by
 rcases Vc hst hy with h1 | h1 | ⟨g, d, r, t, h1, h2⟩
 ·rw [h1]; exact h
 ·rw [h1]; exact wk h QO
 ·obtain ⟨a1, a2⟩ := QS h h1
  rcases h2 with h2 | ⟨c, y', h2, h3⟩
  ·exact a1 _ h2
  ·rw [h3]; exact wk (a2 _ _ h2) rfl
theorem Og {x0 : Sc} {c0 : gE} {j : Nat} (h : WR (sC n) x0 c0 j x c) (h0 : CI n x0.w) : CI n x.w := by
 induction h with
 | zero => exact h0
 | succ hw hs he ih => exact QT ih hs he
theorem Vd {f : List dB} {i : dB} (hf : f ∈ (sC n).funcs) (hi : i ∈ f) : (f.length = n + 3 ∧ (i = ⟨11, 1, 0, 1⟩ ∨ i = ⟨11, 2, 0, 1⟩ ∨ i = ⟨11, 3, 0, 1⟩ ∨ i = ⟨14, 2, 1, 2⟩)) ∨ (2 ≤ f.length ∧ f.length ≤ 3 ∧ (i = ⟨13, 0, 0, 0⟩ ∨ i = ⟨14, 1, 1, 2⟩ ∨ i = ⟨7, 0, 0, 0⟩ ∨ i = ⟨14, 0, 1, 2⟩ ∨ i = ⟨13, 1, 0, 0⟩ ∨ i = ⟨0, 0, 0, 0⟩)) := by
 simp only [sC, List.mem_cons, List.not_mem_nil, or_false] at hf
 rcases hf with rfl | rfl | rfl | rfl
 ·left
  refine ⟨by simp [ju], ?_⟩
  simp only [ju, List.mem_append, List.mem_replicate, List.mem_cons, List.not_mem_nil, or_false] at hi
  rcases hi with h | h | h | h
  ·exact .inl h
  ·exact .inr (.inl h)
  ·exact .inr (.inr (.inl h.2))
  ·exact .inr (.inr (.inr h))
 all_goals
  right
  refine ⟨by simp, by simp, ?_⟩
  simp only [List.mem_cons, List.not_mem_nil, or_false] at hi
  first
   | (rcases hi with h | h | h <;> simp [h])
   | (rcases hi with h | h <;> simp [h])
theorem Sd (hn : n ≤ 4) : cU (sC n) := by
 refine ⟨by simp [sC], by simp [sC], by simp [sC], by simp [sC], fun c hc => by simp [sC] at hc, fun f hf => ⟨?_, ?_, fun i hi => ?_⟩⟩
 ·simp only [sC, List.mem_cons, List.not_mem_nil, or_false] at hf
  rcases hf with rfl | rfl | rfl | rfl <;> simp [ju]
 ·simp only [sC, List.mem_cons, List.not_mem_nil, or_false] at hf
  rcases hf with rfl | rfl | rfl | rfl
  ·simp [ju]; omega
  all_goals simp
 ·rcases Vd hf hi with ⟨hl, rfl | rfl | rfl | rfl⟩ | ⟨kq, hl, rfl | rfl | rfl | rfl | rfl | rfl⟩ <;> simp [jz, dB.kZ, bx, sC] <;> omega
end
def nt (s r w g : Nat) : Nat := (2 * s + 2) * w * (7 * (g + 2) + 4 * (r + 2)) + 8 * w
section
variable {R : Mem} {L L' : List HP} {M : Mem} {K : Value → Mem → Prop} {Kp : List PanicEntry → Mem → Prop}
theorem GX {s r w g : Nat} (hs : s ≤ 20) (hr : r ≤ 20) (hw : w ≤ 100000) (hg : g ≤ 100000) : (2 * s + 2) * w ≤ 4200000 ∧ (2 * s + 2) * w * (7 * (g + 2) + 4 * (r + 2)) ≤ 4200000 * 800000 := by
 have h1 : (2 * s + 2) * w ≤ 42 * 100000 := Nat.mul_le_mul (by omega) hw
 exact ⟨h1, Nat.mul_le_mul h1 (by omega)⟩
theorem GY {x0 x1 : Int} {s r w g : Nat} (h : Hp R L M) (hs : s ≤ 20) (hr : r ≤ 20) (hw : w ≤ 100000) (hg : g ≤ 100000) (k : ∀ M', Hp R L M' → K (.int .i64 (nt s r w g : Nat)) M') :
  aa Tryz.prog 30 #[.agg #[.int .i64 x0, .int .i64 x1, .int .i64 (r : Int), .int .i64 (s : Int)], .int .i64 (w : Int), .int .i64 (g : Int)] M K Kp := by
 refine zR ?_
 obtain ⟨b1, b2⟩ := GX hs hr hw hg
 repeat (first|(refine aj h ?_;clear h;intro kb M h)|(refine aq h ?_;clear h;intro M h)|refine St.to h ?_|(apply Exists.intro;(repeat apply Exists.intro);refine And.intro rfl ?_)|refine au ?_|refine af ?_|refine ai ?_)
 have a1 : IntKind.wrap .i64 (2 * (s : Int)) = ((2 * s : Nat) : Int) := wn (by simp) (by omega)
 have a2 : IntKind.wrap .i64 (((2 * s : Nat) : Int) + 2) = ((2 * s + 2 : Nat) : Int) := wn (by simp) (by omega)
 have a3 : IntKind.wrap .i64 (((2 * s + 2 : Nat) : Int) * (w : Int)) = (((2 * s + 2) * w : Nat) : Int) := wn (Int.natCast_mul _ _).symm (by omega)
 have a4 : IntKind.wrap .i64 ((g : Int) + 2) = ((g + 2 : Nat) : Int) := wn (by simp) (by omega)
 have a5 : IntKind.wrap .i64 (7 * ((g + 2 : Nat) : Int)) = ((7 * (g + 2) : Nat) : Int) := wn (by omega) (by omega)
 have a6 : IntKind.wrap .i64 ((r : Int) + 2) = ((r + 2 : Nat) : Int) := wn (by simp) (by omega)
 have a7 : IntKind.wrap .i64 (4 * ((r + 2 : Nat) : Int)) = ((4 * (r + 2) : Nat) : Int) := wn (by omega) (by omega)
 have a8 : IntKind.wrap .i64 (((7 * (g + 2) : Nat) : Int) + ((4 * (r + 2) : Nat) : Int)) = ((7 * (g + 2) + 4 * (r + 2) : Nat) : Int) := wn (by omega) (by omega)
 have a9 : IntKind.wrap .i64 ((((2 * s + 2) * w : Nat) : Int) * ((7 * (g + 2) + 4 * (r + 2) : Nat) : Int)) = (((2 * s + 2) * w * (7 * (g + 2) + 4 * (r + 2)) : Nat) : Int) := wn (Int.natCast_mul _ _).symm (by omega)
 have Wi : IntKind.wrap .i64 (8 * (w : Int)) = ((8 * w : Nat) : Int) := wn (by omega) (by omega)
 have Wj : IntKind.wrap .i64 ((((2 * s + 2) * w * (7 * (g + 2) + 4 * (r + 2)) : Nat) : Int) + ((8 * w : Nat) : Int)) = (nt s r w g : Nat) := wn (by rw [nt, Int.natCast_add]) (by unfold nt; omega)
 simp only [a1, a2, a3, a4, a5, a6, a7, a8, a9, Wi, Wj]
 exact k _ h.mJ
end
section
variable {p : cj} {x y : Sc} {c : gE}
theorem Kz {cf : Kf} {l : List Int} {most : Nat} (hok : cU p) (hP : 1 ≤ cf.P ∧ cf.P ≤ 64) (hM : 1 ≤ cf.M ∧ cf.M ≤ 64) (hS1 : 1 ≤ cf.S ∧ cf.S ≤ 20) (hR1 : 1 ≤ cf.R ∧ cf.R ≤ 20) (hm : most ≤ 30000) (hl : (gm.ir l 0).Ok)
  (h : vB p (Sc.new p cf ⟨.ir l 0, []⟩) N4 most y c) :
  (∀ r ∈ y.d.taken, 0 ≤ r.2) ∧ ∃ w : Nat, nC cf.M.toNat y.d.taken = (w : Int) ∧ w ≤ 100000 ∧ (w ≠ 0 → (c.fin y).bR ≤ ((nt cf.S.toNat cf.R.toNat w y.w.gs.length : Nat) : Int)) := by
 have h0 : SV p 0 (Sc.new p cf ⟨.ir l 0, []⟩) := SV.new hok hP hM (by omega) rfl hl
 have hT : ∀ r ∈ y.d.taken, 0 ≤ r.2 := by
  have nn : ∀ {j : Nat} {x : Sc} {c : gE}, WR p (Sc.new p cf ⟨.ir l 0, []⟩) N4 j x c → j ≤ 1000000 → ∀ r ∈ x.d.taken, 0 ≤ r.2 := fun hw hj => by
   rcases Oa hw h0 hok hj with h | ⟨r, h1, _⟩
   ·exact h
   ·simp [Sc.new] at h1
  cases h with
  | GQ hw hj _ => exact nn hw (by omega)
  | cz hw hj hst GV =>
   obtain ⟨_, _, rest, e1, e2⟩ := qe (hw.sv h0 hok (by omega)) hok hst GV
   rw [e1]
   intro r hr
   rcases List.mem_append.1 hr with hr | hr
   ·exact nn hw (by omega) r hr
   ·exact e2 r hr
 refine ⟨hT, ?_⟩
 have hb : 0 ≤ nC cf.M.toNat y.d.taken ∧ nC cf.M.toNat y.d.taken ≤ 100000 := by
  obtain ⟨N, hN, hv⟩ := h.sv h0 hok (by omega)
  have OB := hv.tk
  obtain ⟨a1, a2, a3, a4, a5⟩ := pP cf.M.toNat y.d.taken
  unfold nC
  split
  ·have h1 := (iL (s := eG cf.M.toNat y.d.taken) (k := cf.M.toNat)).1
   refine ⟨by omega, kG.2 ⟨by omega, fun j hj => ?_⟩⟩
   have := a3 j
   omega
  ·omega
 obtain ⟨w, hw⟩ := Int.eq_ofNat_of_zero_le hb.1
 refine ⟨w, hw, by omega, fun hne => ?_⟩
 have := Od (S := cf.S.toNat) (R := cf.R.toNat) hok hP hM (by omega) (by omega) (by omega) (by omega) (by omega) hl h (by rw [hw]; omega)
 rw [hw] at this
 refine Int.le_trans this (Int.le_of_eq ?_)
 have e1 : cf.S = (cf.S.toNat : Int) := by omega
 have e2 : cf.R = (cf.R.toNat : Int) := by omega
 rw [e1, e2]
 unfold nt
 simp [Int.natCast_add, Int.natCast_mul]
end
def zn (k : Nat) : List (Int × Int) := (List.range k).map fun (i : Nat) => ((1 : Int), (i : Int))
section
variable {p : cj} {N : Nat} {x y : Sc} {c : gE} {l : List Int} {i : Nat} {v : Int}
theorem BB (hs : SV p N x) (hN : N ≤ 1000000) (hst : x.status = 0) (hk : x.d.k = .ir l i) (hi : l[i]? = some v) (hv : 0 ≤ v ∧ v < x.ms.length) (hm : (av x v).p = -1) :
  ∃ z e, x.step p = some (z, .ev e) ∧ z.d = ⟨.ir l (i + 1), x.d.taken ++ [(1, v)]⟩ ∧ z.w = x.w ∧ ∀ m : Int, 0 ≤ m → m ≠ v → av z m = av x m := by
 have hM := hs.cM
 have U3 := hs.M1
 have hP1 := hs.P1
 have hst' := hs.st
 have OB := hs.tk
 have wq := hs.w.n2
 have yH : x.d.draw 1 (x.c.M + 1) = (⟨.ir l (i + 1), x.d.taken ++ [(1, v)]⟩, .num v) := by
  have OJ : gn (x.c.M + 1) = x.c.M + 1 := by unfold gn; rw [if_neg (by omega)]
  have hmod : Int.tmod v (x.c.M + 1) = v := by rw [Int.tmod_eq_emod_of_nonneg hv.1]; exact Int.emod_eq_of_lt hv.1 (by omega)
  unfold iO.draw
  rw [hk, OJ]
  unfold gm.next
  dsimp only
  rw [hi]
  dsimp only
  rw [hmod]
 refine ⟨{ (Sc.hold { x with d := ⟨.ir l (i + 1), x.d.taken ++ [(1, v)]⟩ } v).1 with steps := (Sc.hold { x with d := ⟨.ir l (i + 1), x.d.taken ++ [(1, v)]⟩ } v).1.steps + 1 }, (Sc.hold { x with d := ⟨.ir l (i + 1), x.d.taken ++ [(1, v)]⟩ } v).2, ?_, ?_, ?_, fun m m0 hne => ?_⟩
 ·unfold Sc.step
  rw [if_pos (show uc x from ⟨by omega, hM, by omega, by omega, by omega, hst'.1, by omega⟩), if_neg (by rw [hst]; decide), yH]
  dsimp only
  unfold Sc.act
  rw [if_neg (by dsimp only; omega)]
  rw [if_pos (show (av { x with d := ⟨.ir l (i + 1), x.d.taken ++ [(1, v)]⟩ } v).p = -1 from hm)]
  rfl
 ·unfold Sc.hold
  dsimp only
  split <;> rfl
 ·unfold Sc.hold
  dsimp only
  split <;> rfl
 ·unfold Sc.hold
  dsimp only
  split
  ·show (x.ms.set v.toNat _).getD m.toNat _ = _
   unfold av
   rw [List.getD_eq_getElem?_getD, List.getElem?_set_ne (by omega), ← List.getD_eq_getElem?_getD]
  ·rfl
theorem pI {x y : Sc} (h : y.w = x.w) : y.status = x.status := by unfold Sc.status; rw [h]
theorem GZ {x0 : Sc} {c0 : gE} : ∀ {j : Nat} {x y : Sc} {c c' : gE}, WR p x0 c0 j x c → WR p x0 c0 j y c' → x = y
 | 0, _, _, _, _, h1, h2 => by cases h1; cases h2; rfl
 | j + 1, _, _, _, _, h1, h2 => by
  cases h1 with
  | succ a1 a2 a3 =>
   cases h2 with
   | succ b1 b2 b3 =>
    have := GZ a1 b1
    subst this
    rw [a3] at b3
    cases b3
    rfl
theorem Oh {e : Ev} (hs : SV p N x) (hst : x.status = 0) (hy : x.step p = some (y, .ev e)) : ∃ rest : List (Int × Int), y.d.taken = x.d.taken ++ rest := by
 have he := hy
 unfold Sc.step at he
 split at he
 ·rw [if_neg (by rw [hst]; decide)] at he
  split at he
  ·cases he
  ·rename_i d' k iU
   obtain ⟨rest, r1, _⟩ := nm hs.k hst hy iU
   exact ⟨_, r1⟩
 ·cases he
theorem Oi {x0 z : Sc} {c0 c1 : gE} {k : Nat} (h0 : SV p 0 x0) (hp : cU p) (hz : WR p x0 c0 k z c1) : ∀ {j : Nat} {x : Sc} {c : gE}, k + j ≤ 1000000 → WR p x0 c0 (k + j) x c → ∃ rest, x.d.taken = z.d.taken ++ rest
 | 0, x, c, _, h => ⟨[], by rw [GZ h hz, List.append_nil]⟩
 | j + 1, x, c, hj, h => by
  cases h with
  | succ a1 a2 a3 =>
   obtain ⟨rest, h1⟩ := Oi h0 hp hz (by omega) a1
   obtain ⟨r2, h2⟩ := Oh (a1.sv h0 hp (show k + j ≤ 1000000 by omega)) a2 a3
   exact ⟨rest ++ r2, by rw [h2, h1, List.append_assoc]⟩
theorem wm {x0 : Sc} {c0 : gE} (h0 : SV p 0 x0) (hp : cU p) (hst : x0.status = 0) (hk : x0.d = ⟨.ir l 0, []⟩) (hi : ∀ m : Int, 0 ≤ m → (av x0 m).p = -1) (hl : ∀ i : Nat, i < x0.ms.length → l[i]? = some (i : Int)) : ∀ k : Nat, k ≤ x0.ms.length →
  ∃ z c1, WR p x0 c0 k z c1 ∧ z.w = x0.w ∧ z.ms.length = x0.ms.length ∧ z.d = ⟨.ir l k, zn k⟩ ∧ ∀ m : Int, k ≤ m → (av z m).p = -1
 | 0, _ => ⟨x0, c0, .zero, rfl, rfl, hk, fun m h => hi m (by omega)⟩
 | k + 1, hkl => by
  obtain ⟨z, c1, h1, h2, h3, h4, h5⟩ := wm (c0 := c0) h0 hp hst hk hi hl k (by omega)
  have U3 := h0.M1
  have hz := h1.sv h0 hp (by omega)
  obtain ⟨z', e, s1, s2, s3, s4⟩ := BB hz (by omega) (by rw [pI h2]; exact hst) (by rw [h4]) (hl k (by omega)) (by omega) (h5 k (by omega))
  have Vh := (WR.succ h1 (by rw [pI h2]; exact hst) s1).sv h0 hp (by omega)
  refine ⟨z', _, .succ h1 (by rw [pI h2]; exact hst) s1, by rw [s3, h2], ?_, ?_, fun m hm => ?_⟩
  ·have a1 := Vh.cM
   have a2 := hz.cM
   rw [(Bv (by rw [pI h2]; exact hst) s1).2] at a1
   omega
  ·rw [s2, h4]; unfold zn; rw [List.range_succ, List.map_append]; rfl
  ·rw [s4 m (by omega) (by omega)]
   exact h5 m (by omega)
theorem BC {m k : Nat} : ∀ (q p : List (Int × Int)), wall (eG m p) k = true → wall (eG m (p ++ q)) k = true
 | [], p, h => by rw [List.append_nil]; exact h
 | r :: q, p, h => by
  rw [show p ++ r :: q = (p ++ [r]) ++ q by simp]
  refine BC q _ ?_
  rw [lM]
  exact Jk h
theorem Oj {m : Nat} {q : List (Int × Int)} (hm : 0 < m) (h : wall (eG m q) m = true) : 0 < nC m q := by
 unfold nC
 rw [if_pos h]
 have h1 := (iL (s := eG m q) (k := m)).2 0 hm
 obtain ⟨a1, a2, a3, a4, a5⟩ := pP m q
 have := a3 0
 omega
theorem KA {x0 : Sc} {c0 : gE} {most : Nat} (h0 : SV p 0 x0) (hp : cU p) (hst : x0.status = 0) (hk : x0.d = ⟨.ir l 0, []⟩) (hi : ∀ m : Int, 0 ≤ m → (av x0 m).p = -1) (hl : ∀ i : Nat, i < x0.ms.length → l[i]? = some (i : Int)) (hm : most ≤ 999999) (hmM : x0.ms.length ≤ most)
  (h : vB p x0 c0 most y c) : ∃ rest, y.d.taken = zn x0.ms.length ++ rest := by
 have fp := wm (c0 := c0) h0 hp hst hk hi hl
 have U3 := h0.M1
 have on : ∀ {j : Nat} {x : Sc} {c : gE}, WR p x0 c0 j x c → j < x0.ms.length → x.status = 0 ∧ ∃ z e, x.step p = some (z, .ev e) := fun {j x c} hw hj => by
  obtain ⟨z, c1, h1, h2, h3, h4, h5⟩ := fp j (by omega)
  have := GZ hw h1
  subst this
  have hs := by rw [← pI h2] at hst; exact hst
  obtain ⟨z', e, s1, _⟩ := BB (hw.sv h0 hp (by omega)) (by omega) hs (by rw [h4]) (hl j hj) (by omega) (h5 j (by omega))
  exact ⟨hs, z', e, s1⟩
 have big : ∀ {j : Nat} {x : Sc} {c : gE}, WR p x0 c0 j x c → j ≤ most → x0.ms.length ≤ j → ∃ rest, x.d.taken = zn x0.ms.length ++ rest := fun {j x c} hw hj hge => by
  obtain ⟨z, c1, h1, h2, h3, h4, h5⟩ := fp x0.ms.length (Nat.le_refl _)
  obtain ⟨d, rfl⟩ := Nat.exists_eq_add_of_le hge
  obtain ⟨rest, hr⟩ := Oi h0 hp h1 (by omega) hw
  rw [h4] at hr
  exact ⟨rest, hr⟩
 cases h with
 | GQ hw hj he =>
  rename_i j
  by_cases hc : j < x0.ms.length
  ·have := on hw hc
   rcases he with e | e
   ·omega
   ·exact absurd this.1 e
  ·exact big hw hj (by omega)
 | cz hw hj GV hstep =>
  rename_i j x l2
  by_cases hc : j < x0.ms.length
  ·obtain ⟨_, z, e, h1⟩ := on hw hc
   rw [hstep] at h1; cases h1
  ·obtain ⟨rest, hr⟩ := big hw (by omega) (by omega)
   obtain ⟨_, _, r2, h2, _⟩ := qe (hw.sv h0 hp (by omega)) hp GV hstep
   exact ⟨rest ++ r2, by rw [h2, hr, List.append_assoc]⟩
theorem G0 {m : Nat} (h : 1 ≤ m) (h2 : m ≤ 2) : wall (eG m (zn m)) m = true := by
 have : m = 1 ∨ m = 2 := by omega
 rcases this with rfl | rfl <;> decide
end
theorem KB {n : Nat} {cf : Kf} {l : List Int} {y : Sc} {c : gE} (hn : n ≤ 4) (hP : 1 ≤ cf.P ∧ cf.P ≤ 64) (hM : 1 ≤ cf.M ∧ cf.M ≤ 2) (hS1 : 1 ≤ cf.S ∧ cf.S ≤ 20) (hR1 : 1 ≤ cf.R ∧ cf.R ≤ 20) (hl : (gm.ir l 0).Ok) (hli : ∀ i : Nat, i < cf.M.toNat → l[i]? = some (i : Int))
  (h : vB (sC n) (Sc.new (sC n) cf ⟨.ir l 0, []⟩) N4 4000 y c) : (∀ r ∈ y.d.taken, 0 ≤ r.2) ∧ y.w.gs.length ≤ n + 3 ∧ ∃ w : Nat, nC cf.M.toNat y.d.taken = (w : Int) ∧ 0 < w ∧ w ≤ 100000 ∧ (c.fin y).bR ≤ ((nt cf.S.toNat cf.R.toNat w y.w.gs.length : Nat) : Int) := by
 have hok := Sd hn
 have h0 : SV (sC n) 0 (Sc.new (sC n) cf ⟨.ir l 0, []⟩) := SV.new hok hP (by omega) (by omega) rfl hl
 obtain ⟨f1, w, f2, f3, f4⟩ := Kz hok hP (by omega) hS1 hR1 (by decide) hl h
 have H6 : (Sc.new (sC n) cf ⟨.ir l 0, []⟩).ms.length = cf.M.toNat := by simp [Sc.new]
 have hpk := KA h0 hok rfl rfl (fun m hm => by
  unfold av Sc.new
  dsimp only
  rw [List.getD_eq_getElem?_getD, List.getElem?_replicate]
  split <;> rfl) (by rw [H6]; exact hli) (by decide) (by rw [H6]; omega) h
 obtain ⟨rest, hr⟩ := hpk
 rw [H6] at hr
 have hpos : 0 < nC cf.M.toNat y.d.taken := by
  rw [hr]
  exact Oj (by omega) (BC rest _ (G0 (by omega) (by omega)))
 refine ⟨f1, ?_, w, f2, by omega, f3, f4 (by omega)⟩
 have ci0 : CI n (Sc.new (sC n) cf ⟨.ir l 0, []⟩).w := ⟨0, [], rfl, by simp, by simp, by simp⟩
 cases h with
 | GQ hw hj _ => exact (Og hw ci0).len
 | cz hw hj hst hstep =>
  rw [(qe (hw.sv h0 hok (by omega)) hok hst hstep).2.1]
  exact (Og hw ci0).len
def Iv (m j : Nat) : List Int := (List.range j).map fun (i : Nat) => ((i % m : Nat) : Int)
section
variable {R : Mem} {L L' : List HP} {M : Mem} {K : Value → Mem → Prop} {Kp : List PanicEntry → Mem → Prop}
theorem QU {R3 : Mem} {A1 : Option Addr} {n c1 k k2 k3 k4 : Nat} {c : Option Addr} {cc : Nat} (r1 : RS wD R3 A1 c1 (ju n)) (r2 : RS wD R3 (some ⟨k2, 0, none⟩) 3 [⟨13, 0, 0, 0⟩, ⟨14, 1, 1, 2⟩, ⟨7, 0, 0, 0⟩]) (r3 : RS wD R3 (some ⟨k3, 0, none⟩) 3 [⟨14, 0, 1, 2⟩, ⟨13, 1, 0, 0⟩, ⟨7, 0, 0, 0⟩]) (r4 : RS wD R3 (some ⟨k4, 0, none⟩) 2 [⟨0, 0, 0, 0⟩, ⟨7, 0, 0, 0⟩])
  (r : RS YD R3 (some ⟨k, 0, none⟩) 4 [(A1, n + 3, c1), (some ⟨k2, 0, none⟩, 3, 3), (some ⟨k3, 0, none⟩, 3, 3), (some ⟨k4, 0, none⟩, 2, 2)]) : oY R3 ⟨some ⟨k, 0, none⟩, 4, c, cc, none, 0⟩ (sC n) := ⟨⟨_, r, rfl, fun i t f a b => by
   match i, a, b with
   | 0, a, b => simp at a; simp [sC] at b; subst b; subst a; exact ⟨r1, by simp [ju]⟩
   | 1, a, b => simp at a; simp [sC] at b; subst b; subst a; exact ⟨r2, rfl⟩
   | 2, a, b => simp at a; simp [sC] at b; subst b; subst a; exact ⟨r3, rfl⟩
   | 3, a, b => simp at a; simp [sC] at b; subst b; subst a; exact ⟨r4, rfl⟩
   | i + 4, a, b => simp at a⟩, RS.nil _ _⟩
theorem Ol {m j : Nat} : Iv m (j + 1) = Iv m j ++ [((j % m : Nat) : Int)] := by unfold Iv; rw [List.range_succ, List.map_append]; rfl
theorem uo {m j : Nat} : (Iv m j).length = j := by simp [Iv]
theorem zo {x0 x1 x2 c0 c1 c2 c3 : Int} (k : ∀ M', mF [] M M' → K (.bool true) M') : aa Tryz.prog 5 #[.int .i64 x0, .int .i64 x1, .int .i64 x2, .agg #[.int .i64 c0, .int .i64 c1, .int .i64 c2, .int .i64 c3]] M K Kp := by
 refine ku ?_
 have k' : ∀ (R : Mem) (L : List HP) M', M.le R → Hp R L M' → K (.bool true) M' := fun R L M' hle h => k M' (nB.SG (fun b o hb => h.le b o (hle b o hb)) [])
 clear k
 obtain ⟨n, hn, n1, n4⟩ := CL x0 (b := 1) (m := 4) (q := 4) rfl (by omega) (by omega) (by omega)
 obtain ⟨sl, Zu, s1, s3⟩ := CL x1 (b := 1) (m := 3) (q := 3) rfl (by omega) (by omega) (by omega)
 obtain ⟨rg, VH, r1, r5⟩ := CL x2 (b := 2) (m := 4) (q := 4) rfl (by omega) (by omega) (by omega)
 simp only [hn, Zu, VH]
 refine aj (Hp.start M) ?_
 intro k1 Mx h
 refine ⟨by decide, aG h (aG h (aG h (aG h ?_)))⟩
 have cok := yZ ⟨c0, c1, c2, c3⟩
 refine GL (c := ⟨c0, c1, c2, c3⟩) h ?_
 clear h; intro Mx h
 generalize cI ⟨c0, c1, c2, c3⟩ = cf at *
 obtain ⟨P0, P1, M0, M1', R0, R1, S0, S1⟩ := cok
 have m2 : ∀ x : Int, 0 ≤ x → ∃ q : Nat, IntKind.wrap .i64 (1 + Int.tmod x 2) = (q : Int) ∧ 1 ≤ q ∧ q ≤ 2 := fun x hx => by
  rw [Int.tmod_eq_emod_of_nonneg hx, eJ (by omega) (by omega)]
  exact ⟨(1 + x % 2).toNat, by omega, by omega, by omega⟩
 obtain ⟨P, eP, p0, p1⟩ := m2 cf.P (by omega)
 obtain ⟨Mm, eM, q0, q1⟩ := m2 cf.M (by omega)
 refine ⟨_, _, _, _, rfl, ?_⟩
 refine aj h ?_
 clear h
 intro c7 Mx h
 iterate 4
  refine aq h ?_
  clear h; intro Mx h
 refine aG h ⟨by decide, aG h ⟨by decide, by decide, by decide, ?_⟩⟩
 rw [eP, eM]
 iterate 4
  refine aq h ?_
  clear h; intro Mx h
 refine aj h ?_
 clear h
 intro oB Mx h
 have Qj := (h.pt oB).hH (E := wD) (l := [⟨11, 1, 0, 1⟩, ⟨11, 2, 0, 1⟩]) rfl
 clear h
 have h : Hp M (cv wD 27 (some ⟨oB, 0, none⟩) 2 (⟨11, 1, 0, 1⟩ :: ⟨11, 2, 0, 1⟩ :: List.replicate 0 ⟨11, 3, 0, 1⟩) :: pt c7 [.int .i64 (P : Int), .int .i64 (Mm : Int), .int .i64 (rg : Int), .int .i64 (sl : Int)] 29 :: []) Mx := Qj.sub bM
 clear Qj
 refine ⟨fun dd vs M' => ∃ (j : Nat) (A : Option Addr) (c : Nat), vs = [.slice A (j + 2) c, .int .i64 (j : Int)] ∧ dd = n - j ∧ j ≤ n ∧ Hp M (cv wD 27 A c (⟨11, 1, 0, 1⟩ :: ⟨11, 2, 0, 1⟩ :: List.replicate j ⟨11, 3, 0, 1⟩) :: pt c7 [.int .i64 (P : Int), .int .i64 (Mm : Int), .int .i64 (rg : Int), .int .i64 (sl : Int)] 29 :: []) M', ⟨_, 0, _, 2, rfl, rfl, by omega, h⟩, ?_⟩
 clear h
 rintro dd _ A la c nn Mx ⟨j, A', c', he, hd, hj, h⟩
 simp only [List.cons.injEq, Value.int.injEq, Value.slice.injEq, and_true, true_and] at he
 obtain ⟨⟨rfl, rfl, rfl⟩, rfl⟩ := he
 refine aJ.2 ⟨fun hlt => ?_, fun hge => ?_⟩
 ·refine aj h ?_
  clear h
  intro gX Mx h
  refine h.lT (A := A) H9 [(⟨11, 3, 0, 1⟩ : dB)] rfl (by simp) rfl (by simp; omega) ?_
  clear h; intro A2 c2 Mx h
  refine bk ⟨n - (j + 1), by omega, j + 1, A2, c2, ?_, rfl, by omega, ?_⟩
  ·rw [aS (by omega)]
  ·rw [List.replicate_succ']; exact h
 have RH : j = n := by omega
 subst RH
 refine aj h ?_
 clear h
 intro Pc Mx h
 refine h.lT (A := A) H9 [(⟨14, 2, 1, 2⟩ : dB)] rfl (by simp) rfl (by simp; omega) ?_
 clear h; intro A1 c1' Mx h
 refine bk ?_
 have hm : (⟨11, 1, 0, 1⟩ : dB) :: ⟨11, 2, 0, 1⟩ :: List.replicate j ⟨11, 3, 0, 1⟩ ++ [⟨14, 2, 1, 2⟩] = ju j := rfl
 rw [hm] at h
 refine aj h ?_
 clear h
 intro B7 Mx h
 replace h := (h.pt B7).hH (E := bI) (l := [0, 0, 0]) rfl
 refine aj h ?_
 clear h
 intro pQ Mx h
 replace h := (h.pt pQ).hH (E := wD) (l := [⟨13, 0, 0, 0⟩, ⟨14, 1, 1, 2⟩, ⟨7, 0, 0, 0⟩]) rfl
 refine aj h ?_
 clear h
 intro HB Mx h
 replace h := (h.pt HB).hH (E := wD) (l := [⟨14, 0, 1, 2⟩, ⟨13, 1, 0, 0⟩, ⟨7, 0, 0, 0⟩]) rfl
 refine aj h ?_
 clear h
 intro xZ Mx h
 replace h := (h.pt xZ).hH (E := wD) (l := [⟨0, 0, 0, 0⟩, ⟨7, 0, 0, 0⟩]) rfl
 refine aj h ?_
 clear h
 intro Ht Mx h
 replace h := (h.pt Ht).hH (E := YD) (l := [(A1, j + 2 + 1, c1'), (some ⟨pQ, 0, none⟩, 3, 3), (some ⟨HB, 0, none⟩, 3, 3), (some ⟨xZ, 0, none⟩, 2, 2)]) rfl
 refine aj h ?_
 clear h
 intro Oz Mx h
 iterate 4
  refine aq h ?_
  clear h; intro Mx h
 have s1 := h.jD A1
 clear h
 obtain ⟨Q1, l1, r1', h⟩ := s1
 have s2 := h.jD (some ⟨B7, 0, none⟩)
 clear h
 obtain ⟨Q2, l2, r2', h⟩ := s2
 have s3' := h.jD (some ⟨pQ, 0, none⟩)
 clear h
 obtain ⟨Q3, l3, r3', h⟩ := s3'
 have s4 := h.jD (some ⟨HB, 0, none⟩)
 clear h
 obtain ⟨Q4, l4, r4', h⟩ := s4
 have s5 := h.jD (some ⟨xZ, 0, none⟩)
 clear h
 obtain ⟨Q5, l5, r5', h⟩ := s5
 have s6 := h.jD (some ⟨Ht, 0, none⟩)
 clear h
 obtain ⟨Q6, l6, r6', h⟩ := s6
 have l56 := Mem.le_trans l5 l6
 have l46 := Mem.le_trans l4 l56
 have l36 := Mem.le_trans l3 l46
 have l26 := Mem.le_trans l2 l36
 have hle0 := Mem.le_trans l1 l26
 have hprg : oY Q6 ⟨some ⟨Ht, 0, none⟩, 4, some ⟨B7, 0, none⟩, 3, none, 0⟩ (sC j) := QU (r1'.le l26) (r3'.le l46) (r4'.le l56) (r5'.le l6) r6'
 have hchs : RS bI Q6 (some ⟨B7, 0, none⟩) 3 [0, 0, 0] := r2'.le l36
 clear r1' r2' r3' r4' r5' r6'
 refine aj h ?_
 clear h
 intro ux Mx h
 have tU := (h.pt ux).hH (E := Dy) (l := []) rfl
 clear h
 have h : Hp Q6 (cv Dy 32 (some ⟨ux, 0, none⟩) 0 (Iv Mm 0) :: pt Oz [.slice (some ⟨Ht, 0, none⟩) 4 4, .slice (some ⟨B7, 0, none⟩) 3 3, .int .i64 0, .slice none 0 0] 39 :: pt c7 [.int .i64 (P : Int), .int .i64 (Mm : Int), .int .i64 (rg : Int), .int .i64 (sl : Int)] 29 :: []) Mx := tU.sub bM
 clear tU
 refine ⟨fun dd vs M' => ∃ (i : Nat) (A : Option Addr) (c : Nat), vs = [.slice A i c, .int .i64 (i : Int)] ∧ dd = 4000 - i ∧ i ≤ 4000 ∧ Hp Q6 (cv Dy 32 A c (Iv Mm i) :: pt Oz [.slice (some ⟨Ht, 0, none⟩) 4 4, .slice (some ⟨B7, 0, none⟩) 3 3, .int .i64 0, .slice none 0 0] 39 :: pt c7 [.int .i64 (P : Int), .int .i64 (Mm : Int), .int .i64 (rg : Int), .int .i64 (sl : Int)] 29 :: []) M', ⟨_, 0, _, 0, rfl, rfl, by omega, h⟩, ?_⟩
 clear h
 rintro dd _ B la cB nn Mx ⟨i, A', c', he, hd, hi, h⟩
 simp only [List.cons.injEq, Value.int.injEq, Value.slice.injEq, and_true, true_and] at he
 obtain ⟨⟨rfl, rfl, rfl⟩, rfl⟩ := he
 refine aJ.2 ⟨fun hlt => ?_, fun hge => ?_⟩
 ·refine aG h ⟨by omega, ?_⟩
  have ev : IntKind.wrap .u64 (Int.tmod (la : Int) (Mm : Int)) = ((la % Mm : Nat) : Int) := by
   have e : Int.tmod (la : Int) (Mm : Int) = ((la % Mm : Nat) : Int) := rfl
   have XF : la % Mm < Mm := Nat.mod_lt _ (by omega)
   rw [e, yO (by omega) (by omega)]
  rw [ev]
  refine aj h ?_
  clear h
  intro Rv Mx h
  refine h.lT (A := B) Nm [((la % Mm : Nat) : Int)] rfl (by simp [uo]) rfl (by simp [uo]; omega) ?_
  clear h; intro A2 c2 Mx h
  refine bk ⟨4000 - (la + 1), by omega, la + 1, A2, c2, ?_, rfl, by omega, ?_⟩
  ·rw [aS (by omega)]
  ·rw [Ol]; exact h
 have Vv : la = 4000 := by omega
 subst Vv
 have s7 := h.jD B
 clear h
 obtain ⟨Q7, l7, CF, h⟩ := s7
 have hle7 := Mem.le_trans hle0 l7
 have hbd : ∀ v ∈ Iv Mm 4000, 0 ≤ v ∧ v < 18446744073709551616 := fun v hv => by
  simp only [Iv, List.mem_map, List.mem_range] at hv
  obtain ⟨q, _, rfl⟩ := hv
  have : q % Mm < Mm := Nat.mod_lt _ (by omega)
  omega
 have hlk : (gm.ir (Iv Mm 4000) 0).Ok := ⟨by rw [uo]; decide, by simp, hbd⟩
 have hli : ∀ q : Nat, q < ((⟨P, Mm, rg, sl⟩ : Kf).M).toNat → (Iv Mm 4000)[q]? = some (q : Int) := fun q hq => by
  have hq' : q < Mm := by simpa using hq
  simp only [Iv, List.getElem?_map, List.getElem?_range (show q < 4000 by omega), Option.map_some]
  rw [Nat.mod_eq_of_lt hq']
 have told := fun y c => KB (n := j) (cf := ⟨P, Mm, rg, sl⟩) (l := Iv Mm 4000) (y := y) (c := c) (by omega) (by dsimp only; omega) (by dsimp only; omega) (by dsimp only; omega) (by dsimp only; omega) hlk hli
 refine be h (be h (aG h (be h (aG h (aG h (aG h (aG h ?_)))))))
 refine GW (p := sC j) (pa := ⟨some ⟨Ht, 0, none⟩, 4, some ⟨B7, 0, none⟩, 3, none, 0⟩) (cf := ⟨P, Mm, rg, sl⟩) (l := Iv Mm 4000) h (hprg.le l7) (hchs.le l7) (Sd (by omega)) (by dsimp only; omega) (by dsimp only; omega) (by dsimp only; omega) CF uo.symm hlk (by rw [uo]; decide) (by omega) (fun y c hw => (told y c hw).1) ?_
 clear h; intro Q8 y c Mx l8 hw h
 obtain ⟨hT, RM, w, e1, w0, w1, e3⟩ := told y c hw
 have hle8 := Mem.le_trans hle7 l8
 refine ⟨_, _, _, _, rfl, ?_⟩
 dsimp only at e1 e3
 rw [e1]
 refine aj h ?_
 clear h
 intro rX Mx h
 iterate 4
  refine aq h ?_
  clear h; intro Mx h
 refine Nb h ?_
 clear h; intro Q9 Mx l9 h
 have hle9 := Mem.le_trans hle8 l9
 refine nw (af (aG h ?_))
 refine aJ.2 ⟨fun _ => ?_, fun hc => absurd (show (0 : Int) < (w : Int) by omega) hc⟩
 refine aG h ?_
 rw [eJ (by omega) (by omega)]
 refine aJ.2 ⟨fun _ => ?_, fun hc => absurd (show ((y.w.gs.length : Nat) : Int) ≤ (j : Int) + 3 by omega) hc⟩
 refine aG h (aG h (aG h (aG h (aG h (aG h (aG h ?_))))))
 refine GY h (by omega) (by omega) w1 (by omega) ?_
 clear h; intro Mx h
 refine cy ⟨bH h, ?_⟩
 rw [decide_eq_true (by simpa using e3)]
 exact k' Q9 _ _ hle9 h
end
end Go.Proofs
