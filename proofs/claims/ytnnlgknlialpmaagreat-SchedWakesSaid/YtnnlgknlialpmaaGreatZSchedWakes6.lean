/- A part of proofs about one program. -/
import Derived.Test.YtnnlgknlialpmaaGreatZSchedWakes5
set_option linter.unusedVariables false
namespace Go.Proofs
open Go.AF
set_option maxRecDepth 100000
set_option maxHeartbeats 1000000
attribute [local irreducible] aG cV fC b8 az e7 aD aF bh aW bG aO
def mI : Nat → List cN
 | 0 => [⟨1, 1, 1, 0⟩]
 | j + 1 => mI j ++ [⟨11, 1, 3, 2⟩, ⟨3, 3, 3, 1⟩]
def kJ (n : Nat) : List cN := mI n ++ [⟨14, 0, 4, 5⟩]
def kj : List cN := [⟨1, 1, 1, 0⟩, ⟨17, 1, 0, 0⟩, ⟨20, 0, 0, 0⟩, ⟨10, 0, 0, 0⟩]
def g9 (n : Nat) : ck := ⟨[kJ n, kj], [0], 0, []⟩
section
variable {p : ck} {x w : Wd} {g : Int} {i : cN} {d : gY} {keep : Bool} {n c j : Nat}
theorem dy : ∀ n, (mI n).length = 2 * n + 1
 | 0 => rfl
 | n + 1 => by simp [mI, dy n]; omega
def CY (c : Nat) : cN := if c = 0 then ⟨1, 1, 1, 0⟩ else if c % 2 = 1 then ⟨11, 1, 3, 2⟩ else ⟨3, 3, 3, 1⟩
theorem CZ : ∀ (n c : Nat), c < 2 * n + 1 → (mI n)[c]? = some (CY c)
 | 0, c, h => by
  have : c = 0 := by omega
  subst this
  rfl
 | n + 1, c, h => by
  unfold mI
  by_cases h1 : c < 2 * n + 1
  ·rw [List.getElem?_append_left (by rw [dy]; exact h1)]; exact CZ n c h1
  ·rw [List.getElem?_append_right (by rw [dy]; omega), dy]
   by_cases h2 : c = 2 * n + 1
   ·rw [h2, Nat.sub_self]; unfold CY; rw [if_neg (by omega), if_pos (by omega)]; rfl
   ·have h3 : c = 2 * n + 2 := by omega
    rw [h3, show 2 * n + 2 - (2 * n + 1) = 1 from by omega]; unfold CY; rw [if_neg (by omega), if_neg (by omega)]; rfl
theorem HC : (kJ n)[c]? = if c < 2 * n + 1 then some (CY c) else if c = 2 * n + 1 then some ⟨14, 0, 4, 5⟩ else none := by
 unfold kJ
 by_cases h : c < 2 * n + 1
 ·rw [if_pos h, List.getElem?_append_left (by rw [dy]; exact h)]; exact CZ n c h
 ·rw [if_neg h, List.getElem?_append_right (by rw [dy]; omega), dy]
  by_cases h2 : c = 2 * n + 1
  ·rw [if_pos h2, h2, Nat.sub_self]; rfl
  ·rw [if_neg h2, List.getElem?_eq_none (by simp; omega)]
inductive NN : cT → Prop where
 | on (c : Nat) (r : List Int) (bK : Int) (wt : cN) (h : c ≤ 1) (h1 : c = 1 → r.getD 1 0 = 1) : NN ⟨1, [⟨1, c, r, bK⟩], wt⟩
 | VB (r : List Int) (bK : Int) (wt : cN) : NN ⟨3, [⟨1, 2, r, bK⟩], wt⟩
inductive KQ : cT → Prop where
 | on (c : Nat) (r : List Int) (bK : Int) (wt : cN) (h : c = 2 ∨ c = 3) : KQ ⟨1, [⟨1, c, r, bK⟩], wt⟩
 | off (c : Nat) (r : List Int) (bK : Int) (wt : cN) : KQ ⟨4, [⟨1, c, r, bK⟩], wt⟩
def AR (k : cT) : Nat := if k.st = 1 then 2 - k.top.pc.toNat else 0
def HD (k : cT) : Nat := if k.st = 3 then 1 else 0
def iN (k : cT) : Nat := if k.st = 1 then 4 - k.top.pc.toNat else 0
def Lg (k : cT) : Nat := if k.st = 1 ∧ k.top.pc.toNat ≤ 2 then 0 else 1
structure xR (n : Nat) (w : Wd) (pc : Nat) (ks : List cT) : Prop where
 e : w.end_ = 0
 clk : w.clock = 0
 gs : ∃ st r bK wt, w.gs = ⟨st, [⟨0, pc, r, bK⟩], wt⟩ :: ks ∧ (pc ≤ 2 * n + 1 ∧ st = 1 ∨ pc = 2 * n + 2 ∧ st = 2)
 len : ks.length = min (pc / 2) n
 HE : ∀ k ∈ ks, NN k
 hl : ∀ y ∈ w.hl, y.t = 1
 hlen : w.hl.length = dK HD ks
 Rx : ∀ (j : Nat) k, ks[j]? = some k → k.st = 3 → ∃ y ∈ w.hl, y.id = (j : Int) + 1
 out : w.out = []
 ch : pc ≤ 2 * n + 1 → w.ay = [aL.new 0]
structure NO (n : Nat) (w : Wd) (ks : List cT) : Prop where
 e : w.end_ = 0
 gs : ∃ f wt, w.gs = ⟨2, f, wt⟩ :: ks
 len : ks.length = n
 HE : ∀ k ∈ ks, KQ k
 out : w.out.length = dK Lg ks
def dX (n pc : Nat) (ks : List cT) : Nat := dK AR ks + (n - ks.length) * 2 + (2 * n + 2 - pc)
theorem NP {ks : List cT} {pc : Nat} {r : List Int} {bK : Int} {wt : cN} (h : xR n w pc ks) (hj : ks[j]? = some ⟨1, [⟨1, c, r, bK⟩], wt⟩) (hc : c ≤ 1) (hr : c = 1 → r.getD 1 0 = 1) {w' : Wd} (he : exec (g9 n) w ((j : Int) + 1) (.num 0) = some (w', keep)) :
  ∃ ks', xR n w' pc ks' ∧ dX n pc ks' + 1 = dX n pc ks := by
 obtain ⟨UR, r0, iT, C0, zo, Rh⟩ := h.gs
 have AG : j < ks.length := by obtain ⟨a, _⟩ := List.getElem?_eq_some_iff.1 hj; exact a
 have Lh : ((j : Int) + 1).toNat = j + 1 := by omega
 generalize hx : ({ w with ready := [] } : Wd) = x
 have FE : x.gs = ⟨UR, [⟨0, pc, r0, iT⟩], C0⟩ :: ks := by rw [← hx]; exact zo
 have HF : x.end_ = 0 := by rw [← hx]; exact h.e
 have KR : x.out = w.out := by rw [← hx]
 have OJ : x.clock = 0 := by rw [← hx]; exact h.clk
 have KS : x.hl = w.hl := by rw [← hx]
 have Ry : x.ay = w.ay := by rw [← hx]
 have hg : ae x ((j : Int) + 1) = ⟨1, [⟨1, c, r, bK⟩], wt⟩ := by
  unfold ae; rw [FE, Lh, List.getD_cons_succ, List.getD_eq_getElem?_getD, hj]; rfl
 have hcan : lp x ((j : Int) + 1) := ⟨by omega, by rw [FE]; simp; omega, HF, by rw [hg]⟩
 have jI : iR (g9 n) x ((j : Int) + 1) = kj[c]? := by
  unfold iR; rw [hg]; rfl
 have fin : ∀ (k' : cT) (hl' : List aZ), w'.end_ = 0 → w'.clock = 0 → w'.gs = ⟨UR, [⟨0, pc, r0, iT⟩], C0⟩ :: ks.set j k' → w'.out = w.out → w'.hl = hl' → w'.ay = w.ay → NN k' → (∀ y ∈ w.hl, y ∈ hl') → (∀ y ∈ hl', y ∈ w.hl ∨ y.t = 1) →
   hl'.length = w.hl.length + HD k' → (k'.st = 3 → ∃ y ∈ hl', y.id = (j : Int) + 1) → AR k' + 1 = AR ⟨1, [⟨1, c, r, bK⟩], wt⟩ →
   ∃ ks', xR n w' pc ks' ∧ dX n pc ks' + 1 = dX n pc ks := by
  intro k' hl' h1 h2 h3 h4 h5 h6 h7 h8 h9 Ul h11 h12
  refine ⟨ks.set j k', ⟨h1, h2, ⟨_, _, _, _, h3, Rh⟩, by rw [List.length_set]; exact h.len, fun k hk => ?_, fun y hy => ?_, ?_, fun j2 k Dw hk => ?_, by rw [h4]; exact h.out, fun e => by rw [h6]; exact h.ch e⟩, ?_⟩
  ·rcases List.mem_or_eq_of_mem_set hk with hk | rfl
   ·exact h.HE k hk
   ·exact h7
  ·rw [h5] at hy
   rcases h9 y hy with hy | hy
   ·exact h.hl y hy
   ·exact hy
  ·have a1 := oN (f := HD) (k' := k') hj
   have a2 := h.hlen
   have a3 : HD ⟨1, [⟨1, c, r, bK⟩], wt⟩ = 0 := rfl
   rw [h5]; omega
  ·rw [h5]
   by_cases e : j2 = j
   ·subst e
    rw [List.getElem?_set_self AG] at Dw
    cases Dw
    exact h11 hk
   ·rw [List.getElem?_set_ne (Ne.symm e)] at Dw
    obtain ⟨y, y1, y2⟩ := h.Rx j2 k Dw hk
    exact ⟨y, h8 y y1, y2⟩
  ·have := oN (f := AR) (k' := k') hj
   unfold dX
   rw [List.length_set]; omega
 by_cases c1 : c = 0
 ·subst c1
  obtain ⟨hw, _⟩ := uw he (by rw [hx]; exact hcan) (by rw [hx]; exact jI) (by decide) (by decide)
  rw [hx] at hw
  subst hw
  refine fin ⟨1, [⟨1, ((1 : Nat) : Int), ((⟨1, 1, r, bK⟩ : fh).set 1 1).r, bK⟩], wt⟩ w.hl HF OJ ?_ KR KS Ry (.on _ _ _ _ (by omega) (fun _ => rfl)) (fun y hy => hy) (fun y hy => .inl hy) rfl (fun e => by cases e) rfl
  unfold Wd.aY
  rw [hg, Lh, FE]
  rfl
 have c1 : c = 1 := by omega
 subst c1
 obtain ⟨q, hq, hw, _⟩ := lE he (by rw [hx]; exact hcan) (by rw [hx]; exact jI) (by decide) (by decide) (by decide)
 rw [hx] at hq
 have nx : (Wd.next x ((j : Int) + 1)).gs = ⟨UR, [⟨0, pc, r0, iT⟩], C0⟩ :: ks.set j ⟨1, [⟨1, 2, r, bK⟩], wt⟩ := by
  unfold Wd.next Wd.aY
  rw [hg, Lh, FE]
  rfl
 have VC : ae (Wd.next x ((j : Int) + 1)) ((j : Int) + 1) = ⟨1, [⟨1, 2, r, bK⟩], wt⟩ := by
  unfold ae; rw [nx, Lh, List.getD_cons_succ, List.getD_eq_getElem?_getD, List.getElem?_set_self AG]; rfl
 simp only [iE] at hq
 simp at hq
 obtain ⟨_, hq⟩ := hq
 have hs : kH (Wd.next x ((j : Int) + 1)) ((j : Int) + 1) ⟨17, 1, 0, 0⟩ = 1 := by
  have : aT (Wd.next x ((j : Int) + 1)) ((j : Int) + 1) 1 = 1 := by
   unfold aT; rw [VC]; exact hr rfl
  unfold kH
  dsimp only
  rw [this]
  rfl
 unfold Wd.sleep at hq
 rw [hs, if_pos (by decide), VC] at hq
 have ncl : (Wd.next x ((j : Int) + 1)).clock = 0 := OJ
 have nhl : (Wd.next x ((j : Int) + 1)).hl = w.hl := KS
 rw [ncl, nhl] at hq
 subst hq
 subst hw
 refine fin ⟨3, [⟨1, 2, r, bK⟩], wt⟩ (oA w.hl ⟨1, (Wd.next x ((j : Int) + 1)).jA, (j : Int) + 1⟩) HF OJ ?_ KR rfl Ry (.VB _ _ _) (fun y hy => jG.mem_iff.2 (by simp [hy])) (fun y hy => ?_) zl (fun _ => ⟨⟨1, (Wd.next x ((j : Int) + 1)).jA, (j : Int) + 1⟩, jG.mem_iff.2 (by simp), rfl⟩) rfl
 ·show (Wd.next x ((j : Int) + 1)).gs.set ((j : Int) + 1).toNat _ = _
  rw [nx, Lh]
  simp
 ·have := jG.mem_iff.1 hy
  simp only [List.mem_append, List.mem_singleton] at this
  rcases this with e | e
  ·exact .inl e
  ·right; rw [e]
theorem KT {ks : List cT} {pc : Nat} (h : xR n w pc ks) (hn : n ≤ 12) (vK : pc ≤ 2 * n + 1) {w' : Wd} (he : exec (g9 n) w 0 (.num 0) = some (w', keep)) :
  ∃ ks' AQ, xR n w' AQ ks' ∧ dX n AQ ks' + 1 = dX n pc ks := by
 obtain ⟨UR, r0, iT, C0, zo, Rh⟩ := h.gs
 have hst : UR = 1 := by omega
 subst hst
 have hlen := h.len
 generalize hx : ({ w with ready := [] } : Wd) = x
 have FE : x.gs = ⟨1, [⟨0, pc, r0, iT⟩], C0⟩ :: ks := by rw [← hx]; exact zo
 have HF : x.end_ = 0 := by rw [← hx]; exact h.e
 have KR : x.out = w.out := by rw [← hx]
 have OJ : x.clock = 0 := by rw [← hx]; exact h.clk
 have KS : x.hl = w.hl := by rw [← hx]
 have Ry : x.ay = w.ay := by rw [← hx]
 have hg : ae x 0 = ⟨1, [⟨0, pc, r0, iT⟩], C0⟩ := by unfold ae; rw [FE]; rfl
 have hcan : lp x 0 := ⟨by omega, by rw [FE]; simp, HF, by rw [hg]⟩
 have jI : iR (g9 n) x 0 = (kJ n)[pc]? := by
  unfold iR; rw [hg]; rfl
 rw [HC] at jI
 have nx : (Wd.next x 0).gs = ⟨1, [⟨0, (pc : Int) + 1, r0, iT⟩], C0⟩ :: ks := by
  unfold Wd.next Wd.aY
  rw [hg, FE]
  rfl
 have pure : ∀ f : fh, f.fn = 0 → f.pc = (pc : Int) + 1 → w'.gs = ⟨1, [f], C0⟩ :: ks → w'.end_ = 0 → w'.clock = 0 → w'.out = w.out → w'.hl = w.hl → w'.ay = w.ay → pc ≤ 2 * n → min ((pc + 1) / 2) n = min (pc / 2) n →
   ∃ ks' AQ, xR n w' AQ ks' ∧ dX n AQ ks' + 1 = dX n pc ks := by
  intro f e1 e2 h1 h2 h3 h4 h5 h6 h7 h8
  obtain ⟨fn, fpc, fr, fi⟩ := f
  dsimp only at e1 e2
  subst e1
  refine ⟨ks, pc + 1, ⟨h2, h3, ⟨1, fr, fi, C0, by rw [h1, e2]; rfl, .inl ⟨by omega, rfl⟩⟩, by omega, h.HE, by rw [h5]; exact h.hl, by rw [h5]; exact h.hlen, by rw [h5]; exact h.Rx, by rw [h4]; exact h.out, fun e => by rw [h6]; exact h.ch (by omega)⟩, ?_⟩
  unfold dX
  omega
 by_cases c1 : pc < 2 * n + 1
 ·rw [if_pos c1] at jI
  unfold CY at jI
  by_cases c0 : pc = 0
  ·rw [if_pos c0] at jI
   obtain ⟨hw, _⟩ := uw he (by rw [hx]; exact hcan) (by rw [hx]; exact jI) (by decide) (by decide)
   rw [hx] at hw
   subst hw
   refine pure ((⟨0, (pc : Int) + 1, r0, iT⟩ : fh).set 1 1) rfl rfl ?_ HF OJ KR KS Ry (by omega) (by omega)
   unfold Wd.aY
   rw [hg, FE]
   rfl
  rw [if_neg c0] at jI
  by_cases c2 : pc % 2 = 1
  ·rw [if_pos c2] at jI
   obtain ⟨q, hq, hw, _⟩ := lE he (by rw [hx]; exact hcan) (by rw [hx]; exact jI) (by decide) (by decide) (by decide)
   rw [hx] at hq
   simp only [iE] at hq
   simp at hq
   obtain ⟨_, hq⟩ := hq
   unfold Wd.spawn at hq
   rw [if_neg (by rw [nx]; simp; omega)] at hq
   subst hq
   subst hw
   have hl : (Wd.next x 0).gs.length = ks.length + 1 := by rw [nx]; simp
   refine ⟨ks ++ [⟨1, [fh.begin 1 (aT (Wd.next x 0) 0 3)], .zero⟩], pc + 1, ⟨HF, OJ, ?_, by simp; omega, fun k hk => ?_, by show ∀ y ∈ x.hl, _; rw [KS]; exact h.hl, ?_, fun j k hj hk => ?_, by show x.out = _; rw [KR]; exact h.out, fun e => by show x.ay = _; rw [Ry]; exact h.ch (by omega)⟩, ?_⟩
   ·refine ⟨1, ((⟨0, (pc : Int) + 1, r0, iT⟩ : fh).set 2 ((ks.length + 1 : Nat) : Int)).r, iT, C0, ?_, .inl ⟨by omega, rfl⟩⟩
    unfold Out.fin Wd.be Wd.cO Wd.aY ae
    dsimp only
    rw [hl, nx]
    simp [cT.bW, cT.top, fh.set]
   ·rcases List.mem_append.1 hk with hk | hk
    ·exact h.HE k hk
    ·simp only [List.mem_singleton] at hk
     subst hk
     exact .on 0 _ _ _ (by omega) (fun e => by cases e)
   ·rw [ux]
    show x.hl.length = _
    rw [KS, h.hlen]
    rfl
   ·show ∃ y ∈ x.hl, _
    rw [KS]
    by_cases e : j < ks.length
    ·rw [List.getElem?_append_left e] at hj
     exact h.Rx j k hj hk
    ·rw [List.getElem?_append_right (by omega)] at hj
     have : k = ⟨1, [fh.begin 1 (aT (Wd.next x 0) 0 3)], .zero⟩ := by simpa using List.mem_of_getElem? hj
     rw [this] at hk
     cases hk
   ·unfold dX
    rw [ux, List.length_append, List.length_singleton]
    have e1 : AR ⟨1, [fh.begin 1 (aT (Wd.next x 0) 0 3)], .zero⟩ = 2 := rfl
    rw [e1]
    omega
  ·rw [if_neg c2] at jI
   obtain ⟨hw, _⟩ := uw he (by rw [hx]; exact hcan) (by rw [hx]; exact jI) (by decide) (by decide)
   rw [hx] at hw
   subst hw
   refine pure ((⟨0, (pc : Int) + 1, r0, iT⟩ : fh).set 3 (IntKind.wrap .i64 ((⟨0, (pc : Int) + 1, r0, iT⟩ : fh).bN 3 + (⟨0, (pc : Int) + 1, r0, iT⟩ : fh).bN 1))) rfl rfl ?_ HF OJ KR KS Ry (by omega) (by omega)
   unfold Wd.aY
   rw [hg, FE]
   rfl
 rw [if_neg c1] at jI
 have c3 : pc = 2 * n + 1 := by omega
 rw [if_pos c3] at jI
 obtain ⟨q, hq, hw, _⟩ := lE he (by rw [hx]; exact hcan) (by rw [hx]; exact jI) (by decide) (by decide) (by decide)
 rw [hx] at hq
 simp only [iE] at hq
 simp at hq
 obtain ⟨_, hq⟩ := hq
 have vI : (Wd.next x 0).ay = [aL.new 0] := Ry.trans (h.ch (by omega))
 have JX : Wd.get (Wd.next x 0) 0 = ((Wd.next x 0).bS 0 (aL.new 0), 0, 0, false) := by
  unfold Wd.get cR
  rw [vI]
  rfl
 unfold Wd.recv at hq
 dsimp only at hq
 rw [JX] at hq
 dsimp only at hq
 rw [if_neg (by decide)] at hq
 subst hq
 subst hw
 refine ⟨ks, pc + 1, ⟨HF, OJ, ⟨2, r0, iT, ⟨14, 0, 4, 5⟩, ?_, .inr ⟨by omega, rfl⟩⟩, by omega, h.HE, by show ∀ y ∈ x.hl, _; rw [KS]; exact h.hl, by show x.hl.length = _; rw [KS]; exact h.hlen, by show ∀ (j : Nat) k, ks[j]? = some k → k.st = 3 → ∃ y ∈ x.hl, _; rw [KS]; exact h.Rx, by show x.out = _; rw [KR]; exact h.out, fun e => by omega⟩, ?_⟩
 ·have MT : ae (Wd.Ck ((Wd.next x 0).bS 0 (aL.new 0)) 0 0) 0 = ⟨1, [⟨0, (pc : Int) + 1, r0, iT⟩], C0⟩ := by
   unfold ae; show (Wd.next x 0).gs.getD _ _ = _; rw [nx]; rfl
  show ((Wd.next x 0).gs.set 0 _) = _
  rw [MT, nx]
  rfl
 ·unfold dX; omega
theorem NQ {ks : List cT} {r : List Int} {bK : Int} {wt : cN} (h : NO n w ks) (hn : n ≤ 12) (hj : ks[j]? = some ⟨1, [⟨1, c, r, bK⟩], wt⟩) (hc : c = 2 ∨ c = 3) {w' : Wd} (he : exec (g9 n) w ((j : Int) + 1) (.num 0) = some (w', keep)) :
  ∃ ks', NO n w' ks' ∧ dK iN ks' + 1 = dK iN ks := by
 obtain ⟨f0, C0, zo⟩ := h.gs
 have AG : j < ks.length := by obtain ⟨a, _⟩ := List.getElem?_eq_some_iff.1 hj; exact a
 have Lh : ((j : Int) + 1).toNat = j + 1 := by omega
 generalize hx : ({ w with ready := [] } : Wd) = x
 have FE : x.gs = ⟨2, f0, C0⟩ :: ks := by rw [← hx]; exact zo
 have HF : x.end_ = 0 := by rw [← hx]; exact h.e
 have KR : x.out = w.out := by rw [← hx]
 have hg : ae x ((j : Int) + 1) = ⟨1, [⟨1, c, r, bK⟩], wt⟩ := by
  unfold ae; rw [FE, Lh, List.getD_cons_succ, List.getD_eq_getElem?_getD, hj]; rfl
 have hcan : lp x ((j : Int) + 1) := ⟨by omega, by rw [FE]; simp; omega, HF, by rw [hg]⟩
 have jI : iR (g9 n) x ((j : Int) + 1) = kj[c]? := by
  unfold iR; rw [hg]; rfl
 have nx : (Wd.next x ((j : Int) + 1)).gs = ⟨2, f0, C0⟩ :: ks.set j ⟨1, [⟨1, (c : Int) + 1, r, bK⟩], wt⟩ := by
  unfold Wd.next Wd.aY
  rw [hg, Lh, FE]
  rfl
 have VC : ae (Wd.next x ((j : Int) + 1)) ((j : Int) + 1) = ⟨1, [⟨1, (c : Int) + 1, r, bK⟩], wt⟩ := by
  unfold ae; rw [nx, Lh, List.getD_cons_succ, List.getD_eq_getElem?_getD, List.getElem?_set_self AG]; rfl
 have fin : ∀ (k' : cT), w'.end_ = 0 → w'.gs = ⟨2, f0, C0⟩ :: ks.set j k' → KQ k' → w'.out.length + Lg ⟨1, [⟨1, c, r, bK⟩], wt⟩ = w.out.length + Lg k' → iN k' + 1 = iN ⟨1, [⟨1, c, r, bK⟩], wt⟩ →
   ∃ ks', NO n w' ks' ∧ dK iN ks' + 1 = dK iN ks := by
  intro k' h1 h2 h4 h5 h6
  refine ⟨ks.set j k', ⟨h1, ⟨_, _, h2⟩, by rw [List.length_set]; exact h.len, fun k hk => ?_, ?_⟩, ?_⟩
  ·rcases List.mem_or_eq_of_mem_set hk with hk | rfl
   ·exact h.HE k hk
   ·exact h4
  ·have := oN (f := Lg) (k' := k') hj
   have := h.out
   omega
  ·have := oN (f := iN) (k' := k') hj
   omega
 rcases hc with rfl | rfl
 ·obtain ⟨q, hq, hw, _⟩ := lE he (by rw [hx]; exact hcan) (by rw [hx]; exact jI) (by decide) (by decide) (by decide)
  rw [hx] at hq
  simp only [iE] at hq
  simp at hq
  obtain ⟨_, hq⟩ := hq
  have ho : w.out.length ≤ 12 := by
   have h1 := h.out
   have h2 := h.len
   have : ∀ l : List cT, dK Lg l ≤ l.length := fun l => by
    induction l with
    | nil => exact Nat.le_refl _
    | cons a l ih =>
     unfold dK
     have : Lg a ≤ 1 := by unfold Lg; split <;> omega
     simp only [List.length_cons]
     omega
   have := this ks
   omega
  unfold Wd.emit at hq
  rw [if_neg (by show ¬ x.out.length ≥ 1000; rw [KR]; omega)] at hq
  subst hq
  subst hw
  refine fin ⟨1, [⟨1, ((3 : Nat) : Int), r, bK⟩], wt⟩ HF nx (.on _ _ _ _ (by omega)) ?_ rfl
  show (x.out ++ [_]).length + 0 = w.out.length + 1
  rw [KR]; simp
 ·obtain ⟨q, hq, hw, _⟩ := lE he (by rw [hx]; exact hcan) (by rw [hx]; exact jI) (by decide) (by decide) (by decide)
  rw [hx] at hq
  simp only [iE] at hq
  simp at hq
  obtain ⟨_, hq⟩ := hq
  unfold Wd.back at hq
  rw [VC] at hq
  rw [if_neg (by simp), if_neg (by omega)] at hq
  subst hq
  subst hw
  refine fin ⟨4, [⟨1, ((4 : Nat) : Int), r, bK⟩], wt⟩ HF ?_ (.off _ _ _ _) ?_ rfl
  ·show (Wd.next x ((j : Int) + 1)).gs.set ((j : Int) + 1).toNat _ = _
   rw [nx, Lh]
   simp
  ·show x.out.length + 1 = w.out.length + 1
   rw [KR]
end
section
variable {p : ck} {x y : Sc} {w : Wd} {g v : Int} {N n i : Nat} {l : List Int} {pc AQ : Nat} {ks ks' : List cT}
theorem zG : ∀ {n : Nat} {i : cN}, i ∈ mI n → i = ⟨1, 1, 1, 0⟩ ∨ i = ⟨11, 1, 3, 2⟩ ∨ i = ⟨3, 3, 3, 1⟩
 | 0, i, h => .inl (by simpa [mI] using h)
 | n + 1, i, h => by
  unfold mI at h
  simp only [List.mem_append, List.mem_cons, List.not_mem_nil, or_false] at h
  rcases h with h | h | h
  ·exact zG h
  ·exact .inr (.inl h)
  ·exact .inr (.inr h)
theorem KU {f : List cN} (hf : f ∈ (g9 n).funcs) {i : cN} (hi : i ∈ f) : i = ⟨1, 1, 1, 0⟩ ∨ i = ⟨11, 1, 3, 2⟩ ∨ i = ⟨3, 3, 3, 1⟩ ∨ i = ⟨14, 0, 4, 5⟩ ∨ i = ⟨17, 1, 0, 0⟩ ∨ i = ⟨20, 0, 0, 0⟩ ∨ i = ⟨10, 0, 0, 0⟩ := by
 simp only [g9, List.mem_cons, List.not_mem_nil, or_false] at hf
 rcases hf with rfl | rfl
 ·unfold kJ at hi
  simp only [List.mem_append, List.mem_cons, List.not_mem_nil, or_false] at hi
  rcases hi with h | h
  ·rcases zG h with h | h | h
   ·exact .inl h
   ·exact .inr (.inl h)
   ·exact .inr (.inr (.inl h))
  ·exact .inr (.inr (.inr (.inl h)))
 ·simp only [kj, List.mem_cons, List.not_mem_nil, or_false] at hi
  rcases hi with h | h | h | h
  ·exact .inl h
  ·exact .inr (.inr (.inr (.inr (.inl h))))
  ·exact .inr (.inr (.inr (.inr (.inr (.inl h)))))
  ·exact .inr (.inr (.inr (.inr (.inr (.inr h)))))
theorem FF : asks (g9 n) w g = none := NK fun f hf i hi => by
 rcases KU hf hi with rfl | rfl | rfl | rfl | rfl | rfl | rfl <;> exact ⟨by simp, by simp⟩
theorem FG (hn : n ≤ 12) : fm (g9 n) := by
 refine ⟨by simp [g9], by simp [g9], by simp [g9], by simp [g9], fun c hc => by simp [g9] at hc, fun f hf => ⟨?_, ?_, fun i hi => ?_⟩⟩
 ·simp only [g9, List.mem_cons, List.not_mem_nil, or_false] at hf
  rcases hf with rfl | rfl <;> simp [kJ, kj]
 ·simp only [g9, List.mem_cons, List.not_mem_nil, or_false] at hf
  rcases hf with rfl | rfl
  ·simp [kJ, dy]; omega
  ·simp [kj]
 ·rcases KU hf hi with rfl | rfl | rfl | rfl | rfl | rfl | rfl <;> simp [iS, cN.kD, bt, g9]
def fp (x : Sc) : Nat := if (av x 0).p = -1 then 2 else if (av x 0).g = -1 then 1 else 0
theorem FH : fp x ≤ 2 := by
 unfold fp
 repeat' split
 all_goals omega
theorem KV (h : SV p N x) (h2 : SV p (N + 1) y) (o : One l i x) (h3 : One l (i + 1) y) (hd : Sk p x y) :
  (y.w = x.w ∧ (fp y < fp x ∨ ∀ a, ¬ At x.w a 1)) ∨ ∃ keep, 0 ≤ (av x 0).g ∧ At x.w (av x 0).g 1 ∧ exec p x.w (av x 0).g (.num 0) = some (y.w, keep) := by
 have US := NM h o
 cases hd with
 | held a1 hw a2 a3 a4 =>
  refine .inl ⟨hw, .inl ?_⟩
  unfold fp
  rw [if_pos a1, if_neg (by omega), if_pos a3]; omega
 | next a1 a2 hw a3 a4 a5 =>
  refine .inl ⟨hw, .inl ?_⟩
  unfold fp
  rw [if_neg (by omega), if_neg (by omega), if_neg (by omega), if_pos a2]; omega
 | own a1 a2 hw a3 a4 a5 a6 =>
  have ok := FD (t := (aC x 0).turns) (h.Rs (List.mem_of_getElem? (uv (x := x) (i := 0) (by omega) (by have := o.ps; omega)))) US h.OF
  have := ok.2.2.1 a5
  refine .inl ⟨hw, .inl ?_⟩
  unfold fp
  rw [if_neg (by omega), if_neg (by omega), if_neg (by omega), if_pos a2]; omega
 | CM a1 a2 hw a3 a4 a5 a6 =>
  refine .inl ⟨hw, .inr fun a ha => ?_⟩
  obtain ⟨b1, b2, b3, b4⟩ := NJ a5 US
  have e1 : (aC x 0).q.all = [] := by unfold Loc.all; rw [b1, b2]; rfl
  have c1 := h.one a ha
  rw [NL o a, e1, b3, a2] at c1
  simp [iq] at c1
 | Sn w keep a1 a2 he hw a3 a4 a5 =>
  have Ba := h.mg (mc := av x 0) (List.mem_of_getElem? (kI (x := x) (m := 0) (by omega) (by have := o.ms; omega))) a2
  subst hw
  exact .inr ⟨keep, a2, Ba, he⟩
theorem KW (h : SV p N x) (hp : fm p) (hN : N ≤ 1000000) (o : One l i x) (hs : x.status = 0) (hi : l[i]? = some v) (hv : Int.tmod v 2 = 1) :
  ∃ y, x.step p = some (y, .ev ⟨1, -1, -1, x.w.tick.ready⟩) ∧ SV p (N + 1) y ∧ One l (i + 1) y ∧ y.w = x.w.tick ∧ y.gl = x.gl ++ x.w.tick.ready := by
 obtain ⟨y, oo, hst, OI⟩ := h.step hp hN
 have o1 := o.ps
 have o2 := o.ms
 have hM := h.cM
 suffices hh : oo = .ev ⟨1, -1, -1, x.w.tick.ready⟩ ∧ One l (i + 1) y ∧ y.w = x.w.tick ∧ y.gl = x.gl ++ x.w.tick.ready by
  obtain ⟨rfl, h1, h2, h3⟩ := hh
  exact ⟨y, hst, OI, h1, h2, h3⟩
 unfold Sc.step at hst
 split at hst
 ·rw [if_neg (by omega)] at hst
  have vo : x.d.draw 1 (x.c.M + 1) = (⟨.m7 l (i + 1), x.d.taken ++ [(1, 1)]⟩, .num 1) := by
   unfold kK.draw gx.next
   rw [o.k, hM, o2]
   dsimp only
   rw [hi]
   dsimp only
   rw [show jT (((1 : Nat) : Int) + 1) = 2 from rfl, hv]
  rw [vo] at hst
  dsimp only at hst
  unfold Sc.act at hst
  dsimp only at hst
  rw [if_pos (by omega)] at hst
  split at hst
  ·simp only [Option.map_some, Option.some.injEq, xm, Prod.mk.injEq] at hst
   obtain ⟨rfl, rfl⟩ := hst
   exact ⟨rfl, ⟨o1, o2, o.gj, rfl⟩, rfl, rfl⟩
  ·cases hst
 ·cases hst
theorem xR.Rz (h : xR n w pc ks) (hp : pc ≤ 2 * n + 1) : At w 0 1 := by
 obtain ⟨st, r, bK, wt, hg, hs⟩ := h.gs
 exact ⟨by omega, by rw [hg]; simp, by unfold ae; rw [hg]; show st = 1; omega⟩
theorem xH {k0 : cT} (hg : w.gs = k0 :: ks) {j : Nat} {k : cT} (hj : ks[j]? = some k) : ae w ((j : Int) + 1) = k ∧ (j : Int) + 1 < w.gs.length := by
 obtain ⟨hl, _⟩ := List.getElem?_eq_some_iff.1 hj
 refine ⟨?_, by rw [hg]; simp; omega⟩
 unfold ae
 rw [hg, show ((j : Int) + 1).toNat = j + 1 from by omega, List.getD_cons_succ, List.getD_eq_getElem?_getD, hj]; rfl
theorem AS {l : List cT} {k : cT} (h : k ∈ l) (hs : k.st = 1 ∨ k.st = 3) : l.any sX = true := List.any_eq_true.2 ⟨k, h, by unfold sX; rcases hs with e | e <;> rw [e] <;> rfl⟩
theorem xR.status (h : xR n x.w pc ks) (hn : 1 ≤ n) : x.status = 0 := by
 obtain ⟨st, r, bK, wt, hg, hs⟩ := h.gs
 have ha : x.w.gs.any sX = true := by
  rcases hs with ⟨_, hs⟩ | ⟨hs, _⟩
  ·rw [hg]; exact AS (List.mem_cons_self ..) (.inl hs)
  ·have hl := h.len
   obtain ⟨k, hk⟩ := aK (l := ks) (i := 0) (by omega)
   have hm := List.mem_of_getElem? hk
   rw [hg]
   refine AS (k := k) (List.mem_cons_of_mem _ hm) ?_
   cases h.HE k hm with
   | on c r bK wt hc h1 => exact .inl rfl
   | VB r bK wt => exact .inr rfl
 unfold Sc.status Wd.stuck
 rw [h.e, ha]
 rfl
theorem xR.more (h : xR n w pc ks) (hr : 0 < dX n pc ks) : ∃ a, At w a 1 := by
 by_cases hp : pc ≤ 2 * n + 1
 ·exact ⟨0, h.Rz hp⟩
 ·have hl := h.len
  unfold dX at hr
  obtain ⟨j, k, hj, hk⟩ := vQ (f := AR) (l := ks) (by omega)
  obtain ⟨st, r, bK, wt, hg, hs⟩ := h.gs
  obtain ⟨h1, h2⟩ := xH hg hj
  refine ⟨(j : Int) + 1, by omega, h2, ?_⟩
  rw [h1]
  unfold AR at hk
  split at hk
  ·assumption
  ·omega
theorem uy {f : cT → Nat} : ∀ {l : List cT}, dK f l = 0 → ∀ k ∈ l, f k = 0
 | a :: l, h, k, hk => by
  unfold dK at h
  rcases List.mem_cons.1 hk with rfl | hk
  ·omega
  ·exact uy (l := l) (by omega) k hk
theorem xR.KX (h : xR n w pc ks) (hr : dX n pc ks = 0) : pc = 2 * n + 2 ∧ ks.length = n ∧ ∀ k ∈ ks, ∃ r bK wt, k = ⟨3, [⟨1, 2, r, bK⟩], wt⟩ := by
 obtain ⟨st, r, bK, wt, hg, hs⟩ := h.gs
 have hl := h.len
 unfold dX at hr
 refine ⟨by omega, by omega, fun k hk => ?_⟩
 have h0 := uy (f := AR) (l := ks) (by omega) k hk
 cases h.HE k hk with
 | on c r bK wt hc h1 => simp [AR, cT.top] at h0; omega
 | VB r bK wt => exact ⟨_, _, _, rfl⟩
theorem xR.none (h : xR n w pc ks) (hr : dX n pc ks = 0) : ∀ a, ¬ At w a 1 := by
 obtain ⟨h1, h2, h3⟩ := h.KX hr
 obtain ⟨st, r, bK, wt, hg, hs⟩ := h.gs
 rintro a ⟨a0, a1, a2⟩
 by_cases e : a = 0
 ·subst e
  unfold ae at a2
  rw [hg] at a2
  have a2 : st = 1 := a2
  omega
 ·obtain ⟨j, hj⟩ := Int.eq_ofNat_of_zero_le (show 0 ≤ a - 1 by omega)
  have hj : a = (j : Int) + 1 := by omega
  subst hj
  have AG : j < ks.length := by rw [hg] at a1; simp at a1; omega
  obtain ⟨k, hk⟩ := aK (l := ks) AG
  rw [(xH hg hk).1] at a2
  obtain ⟨r, bK, wt, rfl⟩ := h3 k (List.mem_of_getElem? hk)
  cases a2
theorem KY (h : SV (g9 n) N x) (hN : N ≤ 1000000) (hn : 1 ≤ n ∧ n ≤ 12) (o : One l i x) (hi : l[i]? = some 0) (ha : xR n x.w pc ks) :
  ∃ y e, x.step (g9 n) = some (y, .ev e) ∧ SV (g9 n) (N + 1) y ∧ One l (i + 1) y ∧ ∃ AQ ks', xR n y.w AQ ks' ∧ (dX n pc ks = 0 → dX n AQ ks' = 0) ∧ (0 < dX n pc ks → 4 * dX n AQ ks' + fp y < 4 * dX n pc ks + fp x) := by
 obtain ⟨y, e, h1, h2, h3, hd⟩ := CX h (FG hn.2) hN o (ha.status hn.1) hi rfl (fun _ => FF)
 refine ⟨y, e, h1, h2, h3, ?_⟩
 rcases KV h h2 o h3 hd with ⟨hw, hf⟩ | ⟨keep, g0, Ba, he⟩
 ·refine ⟨pc, ks, by rw [hw]; exact ha, id, fun hr => ?_⟩
  rcases hf with hf | hf
  ·omega
  ·obtain ⟨a, haa⟩ := ha.more hr
   exact absurd haa (hf a)
 ·have VS := FH (x := y)
  by_cases hg : (av x 0).g = 0
  ·rw [hg] at he Ba
   have vK : pc ≤ 2 * n + 1 := by
    obtain ⟨st, r, bK, wt, zo, hs⟩ := ha.gs
    have := Ba.2.2
    unfold ae at this
    rw [zo] at this
    have : st = 1 := this
    omega
   obtain ⟨ks', AQ, UT, hc⟩ := KT ha hn.2 vK he
   exact ⟨AQ, ks', UT, fun e => by omega, fun _ => by omega⟩
  ·obtain ⟨j, hj⟩ := Int.eq_ofNat_of_zero_le (show 0 ≤ (av x 0).g - 1 by omega)
   have hj : (av x 0).g = (j : Int) + 1 := by omega
   obtain ⟨st, r0, iT, C0, zo, hs⟩ := ha.gs
   have AG : j < ks.length := by have := Ba.2.1; rw [zo] at this; simp at this; omega
   obtain ⟨k, hk⟩ := aK (l := ks) AG
   obtain ⟨h5, _⟩ := xH zo hk
   have RA := ha.HE k (List.mem_of_getElem? hk)
   have hst := Ba.2.2
   rw [hj, h5] at hst
   rw [hj] at he
   cases RA with
   | on c r bK wt hc vn =>
    obtain ⟨ks', UT, hr⟩ := NP ha hk hc vn he
    exact ⟨pc, ks', UT, fun e => by omega, fun _ => by omega⟩
   | VB r bK wt => cases hst
theorem FI (hn : 1 ≤ n ∧ n ≤ 12) (hl : ∀ j < 600, l[j]? = some 0) (OI : SV (g9 n) 0 x) (o : One l 0 x) (ha : xR n x.w pc ks) : ∀ j : Nat, j ≤ 600 →
  ∃ y, fQ (g9 n) j x = some y ∧ SV (g9 n) j y ∧ One l j y ∧ ∃ AQ ks', xR n y.w AQ ks' ∧ (dX n AQ ks' = 0 ∨ 4 * dX n AQ ks' + fp y + j ≤ 4 * dX n pc ks + fp x)
 | 0, _ => ⟨x, rfl, OI, o, pc, ks, ha, .inr (by omega)⟩
 | j + 1, hj => by
  obtain ⟨y, h1, h2, h3, pc1, ks1, h4, h5⟩ := FI hn hl OI o ha j (by omega)
  obtain ⟨z, e, g1, g2, g3, pc2, VD, g4, g5, g6⟩ := KY h2 (by omega) hn h3 (hl j (by omega)) h4
  refine ⟨z, by simp only [fQ, h1, Option.bind_some, g1, Si], g2, g3, pc2, VD, g4, ?_⟩
  by_cases e0 : dX n pc1 ks1 = 0
  ·exact .inl (g5 e0)
  ·have := g6 (by omega)
   rcases h5 with h5 | h5
   ·exact absurd h5 e0
   ·exact .inr (by omega)
theorem zH {now : Int} : ∀ (f : Nat) (l : List aZ), l.length = f → (∀ y ∈ l, y.t ≤ now) → (cv f l now).1 = [] ∧ (cv f l now).2.length = f ∧ ∀ y ∈ l, y ∈ (cv f l now).2
 | 0, l, hl, _ => by
  have : l = [] := List.length_eq_zero_iff.1 hl
  subst this
  exact ⟨rfl, rfl, fun y hy => by cases hy⟩
 | f + 1, l, hl, ht => by
  rw [qV]
  have h0 : jS l 0 ∈ l := List.mem_of_getElem? (jE (by omega))
  rw [if_pos ⟨by omega, ht _ h0⟩]
  have hp := th (l := l) (i := 0) (by omega)
  obtain ⟨a, b, c⟩ := zH (now := now) f (ct l 0) (by rw [j5]; omega) (fun y hy => ht y (hp.mem_iff.2 (List.mem_cons_of_mem _ hy)))
  refine ⟨a, by simp [b], fun y hy => ?_⟩
  rcases List.mem_cons.1 (hp.mem_iff.1 hy) with rfl | hy
  ·exact List.mem_cons_self ..
  ·exact List.mem_cons_of_mem _ (c y hy)
theorem FJ : ∀ (ids : List Int) (x : Wd), (∀ a ∈ ids, 0 ≤ a) → (ids.foldl Wd.cO x).ready = x.ready ++ ids ∧ (ids.foldl Wd.cO x).end_ = x.end_ ∧ (ids.foldl Wd.cO x).out = x.out ∧ (ids.foldl Wd.cO x).gs.length = x.gs.length ∧
  ∀ j : Nat, (ids.foldl Wd.cO x).gs[j]? = if (j : Int) ∈ ids then (x.gs[j]?).map (fun k => { k with st := 1 }) else x.gs[j]?
 | [], x, _ => ⟨by simp, rfl, rfl, rfl, fun j => by simp⟩
 | a :: ids, x, h => by
  obtain ⟨h1, h2, h3, h4, h5⟩ := FJ ids (x.cO a) (fun b hb => h b (List.mem_cons_of_mem _ hb))
  have ha := h a (List.mem_cons_self ..)
  rw [List.foldl_cons]
  have e1 : (x.cO a).ready = x.ready ++ [a] := rfl
  have e2 : (x.cO a).gs = x.gs.set a.toNat { ae x a with st := 1 } := rfl
  refine ⟨by rw [h1, e1]; simp, h2, h3, by rw [h4, e2]; simp, fun j => ?_⟩
  rw [h5, e2]
  by_cases e : j = a.toNat
  ·subst e
   have hm : ((a.toNat : Nat) : Int) ∈ a :: ids := by rw [show ((a.toNat : Nat) : Int) = a from by omega]; exact List.mem_cons_self ..
   rw [if_pos hm]
   by_cases hl : a.toNat < x.gs.length
   ·rw [List.getElem?_set_self hl]
    have hg : ae x a = x.gs[a.toNat] := by unfold ae; rw [List.getD_eq_getElem?_getD, List.getElem?_eq_getElem hl]; rfl
    rw [hg, List.getElem?_eq_getElem hl]
    split <;> rfl
   ·rw [List.getElem?_eq_none (by simpa using hl), List.getElem?_eq_none (by simpa using hl)]
    split <;> rfl
  ·rw [List.getElem?_set_ne (Ne.symm e)]
   have : ((j : Int) ∈ a :: ids) ↔ (j : Int) ∈ ids := by
    constructor
    ·intro hm
     rcases List.mem_cons.1 hm with hm | hm
     ·omega
     ·exact hm
    ·exact List.mem_cons_of_mem _
   by_cases hm : (j : Int) ∈ ids
   ·rw [if_pos hm, if_pos (this.2 hm)]
   ·rw [if_neg hm, if_neg (fun e => hm (this.1 e))]
theorem NR (h : xR n w pc ks) (hr : dX n pc ks = 0) (hv : ∀ y ∈ w.hl, 0 ≤ y.id ∧ y.id ≠ 0) : w.tick.ready.length = n ∧ ∃ ks', NO n w.tick ks' ∧ dK iN ks' ≤ 2 * n := by
 obtain ⟨h1, h2, h3⟩ := h.KX hr
 obtain ⟨st, r, bK, wt, hg, hs⟩ := h.gs
 have hst : st = 2 := by omega
 subst hst
 have hlen : w.hl.length = n := by
  rw [h.hlen, ← h2]
  have : ∀ l : List cT, (∀ k ∈ l, ∃ r bK wt, k = ⟨3, [⟨1, 2, r, bK⟩], wt⟩) → dK HD l = l.length := fun l => by
   induction l with
   | nil => exact fun _ => rfl
   | cons a l ih =>
    intro hk
    obtain ⟨r, bK, wt, e⟩ := hk a (List.mem_cons_self ..)
    unfold dK
    rw [ih fun k Le => hk k (List.mem_cons_of_mem _ Le), e]
    show 1 + l.length = l.length + 1
    omega
  exact this ks h3
 obtain ⟨w1, w2, w3⟩ := zH (now := 1) w.hl.length w.hl rfl (fun y hy => by rw [h.hl y hy]; omega)
 have ht : w.tick = ((cv w.hl.length w.hl 1).2.map (·.id)).foldl Wd.cO { w with clock := 1, hl := (cv w.hl.length w.hl 1).1, ready := [] } := by
  unfold Wd.tick
  rw [if_neg (by rw [h.e]; simp), h.clk]
  rfl
 have UU := rj w.hl.length w.hl 1
 have hin : ∀ y ∈ (cv w.hl.length w.hl 1).2, y ∈ w.hl := fun y hy => UU.mem_iff.2 (List.mem_append_left _ hy)
 generalize KZ : (cv w.hl.length w.hl 1).2.map (·.id) = ids at ht
 have Rx : ids.length = n := by rw [← KZ, List.length_map, w2, hlen]
 have hpos : ∀ a ∈ ids, 0 ≤ a ∧ a ≠ 0 := fun a ha => by
  rw [← KZ] at ha
  obtain ⟨y, hy, rfl⟩ := List.mem_map.1 ha
  exact hv y (hin y hy)
 have fJ : ∀ j, j < ks.length → ((j : Int) + 1) ∈ ids := fun j hj => by
  obtain ⟨k, hk⟩ := aK (l := ks) hj
  obtain ⟨r, bK, wt, e⟩ := h3 k (List.mem_of_getElem? hk)
  obtain ⟨y, y1, y2⟩ := h.Rx j k hk (by rw [e])
  rw [← KZ, ← y2]
  exact List.mem_map.2 ⟨y, w3 y y1, rfl⟩
 obtain ⟨f1, f2, f3, f4, f5⟩ := FJ ids { w with clock := 1, hl := (cv w.hl.length w.hl 1).1, ready := [] } (fun a ha => (hpos a ha).1)
 rw [← ht] at f1 f2 f3 f4 f5
 dsimp only at f1 f2 f3 f4 f5
 refine ⟨by rw [f1]; simpa using Rx, ks.map (fun k => { k with st := 1 }), ⟨f2.trans h.e, ⟨[⟨0, pc, r, bK⟩], wt, ?_⟩, by rw [List.length_map]; exact h2, fun k hk => ?_, ?_⟩, ?_⟩
 ·apply List.ext_getElem?
  intro j
  rw [f5, hg]
  cases j with
  | zero =>
   have h0 : ¬ (((0 : Nat) : Int) ∈ ids) := fun e => (hpos _ e).2 rfl
   rw [if_neg h0]
   rfl
  | succ j =>
   rw [List.getElem?_cons_succ, List.getElem?_cons_succ, List.getElem?_map]
   by_cases hj : j < ks.length
   ·rw [if_pos (by have := fJ j hj; simpa using this)]
   ·rw [List.getElem?_eq_none (by omega)]
    split <;> rfl
 ·obtain ⟨k0, RO, rfl⟩ := List.mem_map.1 hk
  obtain ⟨r, bK, wt, e⟩ := h3 k0 RO
  rw [e]
  exact .on 2 r bK wt (by omega)
 ·rw [f3, h.out]
  have : ∀ l : List cT, (∀ k ∈ l, ∃ r bK wt, k = ⟨3, [⟨1, 2, r, bK⟩], wt⟩) → dK Lg (l.map (fun k => { k with st := 1 })) = 0 := fun l => by
   induction l with
   | nil => exact fun _ => rfl
   | cons a l ih =>
    intro hk
    obtain ⟨r, bK, wt, e⟩ := hk a (List.mem_cons_self ..)
    rw [List.map_cons]
    unfold dK
    rw [ih fun k Le => hk k (List.mem_cons_of_mem _ Le), e]
    rfl
  exact (this ks h3).symm
 ·rw [← h2]
  have : ∀ l : List cT, (∀ k ∈ l, ∃ r bK wt, k = ⟨3, [⟨1, 2, r, bK⟩], wt⟩) → dK iN (l.map (fun k => { k with st := 1 })) = 2 * l.length := fun l => by
   induction l with
   | nil => exact fun _ => rfl
   | cons a l ih =>
    intro hk
    obtain ⟨r, bK, wt, e⟩ := hk a (List.mem_cons_self ..)
    rw [List.map_cons]
    unfold dK
    rw [ih fun k Le => hk k (List.mem_cons_of_mem _ Le), e]
    show 2 + 2 * l.length = 2 * (l.length + 1)
    omega
  rw [this ks h3]
  omega
theorem NO.status (h : NO n x.w ks) : x.status = if dK iN ks = 0 then 3 else 0 := by
 obtain ⟨f, wt, hg⟩ := h.gs
 unfold Sc.status Wd.stuck
 rw [h.e, hg]
 by_cases e : dK iN ks = 0
 ·have ha : (⟨2, f, wt⟩ :: ks : List cT).any sX = false := by
   rw [List.any_eq_false]
   intro k hk
   rcases List.mem_cons.1 hk with rfl | hk
   ·simp [sX]
   ·have h0 := uy e k hk
    cases h.HE k hk with
    | on c r bK wt hc => simp [iN, cT.top] at h0; omega
    | off c r bK wt => simp [sX]
  rw [ha, if_pos e]
  rfl
 ·obtain ⟨j, k, hj, hk⟩ := vQ (f := iN) (l := ks) (by omega)
  have ha : (⟨2, f, wt⟩ :: ks : List cT).any sX = true := AS (List.mem_cons_of_mem _ (List.mem_of_getElem? hj)) (.inl (by
   unfold iN at hk
   split at hk
   ·assumption
   ·omega))
  rw [ha, if_neg e]
  rfl
theorem xI {e : Ev} (hy : x.step p = some (y, .ev e)) : ∀ j : Nat, fQ p (j + 1) x = fQ p j y
 | 0 => by simp [fQ, hy, Si]
 | j + 1 => by
  have e1 : fQ p (j + 1 + 1) x = (fQ p (j + 1) x).bind fun y => Si (y.step p) := rfl
  have e2 : fQ p (j + 1) y = (fQ p j y).bind fun y => Si (y.step p) := rfl
  rw [e1, e2, xI hy j]
theorem K0 (h : SV (g9 n) N x) (hN : N ≤ 1000000) (hn : 1 ≤ n ∧ n ≤ 12) (o : One l i x) (hi : l[i]? = some 0) (ha : NO n x.w ks) (hr : 0 < dK iN ks) :
  ∃ y e, x.step (g9 n) = some (y, .ev e) ∧ SV (g9 n) (N + 1) y ∧ One l (i + 1) y ∧ ∃ ks', NO n y.w ks' ∧ 4 * dK iN ks' + fp y < 4 * dK iN ks + fp x := by
 obtain ⟨f0, C0, zo⟩ := ha.gs
 obtain ⟨y, e, h1, h2, h3, hd⟩ := CX h (FG hn.2) hN o (by rw [ha.status, if_neg (by omega)]) hi rfl (fun _ => FF)
 refine ⟨y, e, h1, h2, h3, ?_⟩
 rcases KV h h2 o h3 hd with ⟨hw, hf⟩ | ⟨keep, g0, Ba, he⟩
 ·refine ⟨ks, by rw [hw]; exact ha, ?_⟩
  rcases hf with hf | hf
  ·omega
  ·exfalso
   obtain ⟨j, k, hj, hk⟩ := vQ (f := iN) (l := ks) hr
   obtain ⟨e1, e2⟩ := xH zo hj
   refine hf ((j : Int) + 1) ⟨by omega, e2, ?_⟩
   rw [e1]
   unfold iN at hk
   split at hk
   ·assumption
   ·omega
 ·have VS := FH (x := y)
  have hst := Ba.2.2
  by_cases hg : (av x 0).g = 0
  ·rw [hg] at hst
   unfold ae at hst
   rw [zo] at hst
   cases hst
  ·obtain ⟨j, hj⟩ := Int.eq_ofNat_of_zero_le (show 0 ≤ (av x 0).g - 1 by omega)
   have hj : (av x 0).g = (j : Int) + 1 := by omega
   have AG : j < ks.length := by have := Ba.2.1; rw [zo] at this; simp at this; omega
   obtain ⟨k, hk⟩ := aK (l := ks) AG
   obtain ⟨h5, _⟩ := xH zo hk
   have RA := ha.HE k (List.mem_of_getElem? hk)
   rw [hj, h5] at hst
   rw [hj] at he
   cases RA with
   | on c r bK wt hc =>
    obtain ⟨ks', UT, hr⟩ := NQ ha hn.2 hk hc he
    exact ⟨ks', UT, by omega⟩
   | off c r bK wt => cases hst
theorem FK (hn : 1 ≤ n ∧ n ≤ 12) (hl : ∀ j, 600 < j → j < 1200 → l[j]? = some 0) : ∀ (m N : Nat) (x : Sc) (ks : List cT), 4 * dK iN ks + fp x ≤ m → SV (g9 n) N x → 600 < N → N + m < 1200 → One l N x → NO n x.w ks →
  ∃ k, k ≤ m ∧ ∀ j ≤ k, ∃ y, fQ (g9 n) j x = some y ∧ y.w.gs.length ≤ 100 ∧ y.w.out.length ≤ 1000 ∧ (j < k → y.status = 0) ∧ (j = k → y.status = 3 ∧ y.w.out.length = n)
 | 0, N, x, ks, hm, h, h0, h1, o, ha => by
  refine ⟨0, Nat.le_refl _, fun j hj => ⟨x, by rw [show j = 0 from by omega]; rfl, h.w.n2, h.w.out, fun e => by omega, fun _ => ?_⟩⟩
  have hz : dK iN ks = 0 := by omega
  refine ⟨by rw [ha.status, if_pos hz], ?_⟩
  rw [ha.out, ← ha.len]
  exact K2 ks ha.HE hz
 | m + 1, N, x, ks, hm, h, h0, h1, o, ha => by
  by_cases hz : dK iN ks = 0
  ·refine ⟨0, by omega, fun j hj => ⟨x, by rw [show j = 0 from by omega]; rfl, h.w.n2, h.w.out, fun e => by omega, fun _ => ?_⟩⟩
   refine ⟨by rw [ha.status, if_pos hz], ?_⟩
   rw [ha.out, ← ha.len]
   exact K2 ks ha.HE hz
  ·obtain ⟨y, e, g1, g2, g3, ks', g4, g5⟩ := K0 h (by omega) hn o (hl N h0 (by omega)) ha (by omega)
   obtain ⟨k, hk, hh⟩ := FK hn hl m (N + 1) y ks' (by omega) g2 (by omega) (by omega) g3 g4
   refine ⟨k + 1, by omega, fun j hj => ?_⟩
   cases j with
   | zero => exact ⟨x, rfl, h.w.n2, h.w.out, fun _ => by rw [ha.status, if_neg hz], fun e => by omega⟩
   | succ j =>
    obtain ⟨z, z1, z2, z3, z4, z5⟩ := hh j (by omega)
    exact ⟨z, by rw [xI g1]; exact z1, z2, z3, fun e => z4 (by omega), fun e => z5 (by omega)⟩
where
 K2 : ∀ (l : List cT), (∀ k ∈ l, KQ k) → dK iN l = 0 → dK Lg l = l.length
  | [], _, _ => rfl
  | a :: l, h, h0 => by
   have hk := h a (by simp)
   unfold dK at h0
   have ih := K2 l (fun k hk => h k (by simp [hk])) (by omega)
   have : Lg a = 1 := by
    cases hk with
    | on c r bK wt hc => simp [iN, cT.top] at h0; omega
    | off c r bK wt => rfl
   simp only [dK, List.length_cons]
   omega
def xJ : List Int := (List.replicate 1200 (0 : Int)).set 600 1
def K3 (n : Nat) (R S : Int) : Sc := Sc.new (g9 n) ⟨1, 1, R, S⟩ ⟨.m7 xJ 0, []⟩
theorem EM {j : Nat} (h : j < 1200) : xJ[j]? = some (if j = 600 then 1 else 0) := by
 unfold xJ
 by_cases e : j = 600
 ·rw [if_pos e, e, List.getElem?_set_self (by simp)]
 ·rw [if_neg e, List.getElem?_set_ne (Ne.symm e), List.getElem?_replicate, if_pos h]
theorem RB {R S : Int} (hn : 1 ≤ n ∧ n ≤ 12) (hS : 1 ≤ S ∧ S ≤ 1024) : ∃ x y e k, fQ (g9 n) 600 (K3 n R S) = some x ∧ x.w.hl.length = n ∧ x.gl = [] ∧ x.w.gs.length ≤ 100 ∧ x.step (g9 n) = some (y, .ev e) ∧ e.kind = 1 ∧ e.ready.length = n ∧ y.gl = e.ready ∧
  ∀ j ≤ k, ∃ z, fQ (g9 n) j y = some z ∧ z.w.gs.length ≤ 100 ∧ z.w.out.length ≤ 1000 ∧ (j < k → z.status = 0) ∧ (j = k → z.status = 3 ∧ z.w.out.length = n) := by
 have hk : (gx.m7 xJ 0).Ok := ⟨by simp [xJ], by simp, fun v hv => by
  rcases List.mem_or_eq_of_mem_set hv with hv | hv
  ·rw [List.eq_of_mem_replicate hv]; decide
  ·rw [hv]; decide⟩
 have OI : SV (g9 n) 0 (K3 n R S) := SV.new (FG hn.2) ⟨by simp, by simp⟩ ⟨by simp, by simp⟩ hS rfl hk
 have ho : One xJ 0 (K3 n R S) := ⟨rfl, rfl, fun _ => rfl, rfl⟩
 have ha : xR n (K3 n R S).w 0 [] := ⟨rfl, rfl, ⟨_, _, _, _, rfl, .inl ⟨by omega, rfl⟩⟩, by simp, fun k hk => absurd hk (by simp), fun y hy => absurd hy (by simp [K3, Sc.new, Wd.new]), rfl, fun j k hj => by simp at hj, rfl, fun _ => rfl⟩
 obtain ⟨x, g1, g2, g3, AQ, ks', g4, g5⟩ := FI hn (fun j hj => by rw [EM (by omega), if_neg (by omega)]) OI ho ha 600 (Nat.le_refl _)
 have hr : dX n AQ ks' = 0 := by
  rcases g5 with g5 | g5
  ·exact g5
  ·exfalso
   have := FH (x := K3 n R S)
   unfold dX at g5
   simp only [dK, List.length_nil, Nat.sub_zero] at g5
   omega
 obtain ⟨s1, s2, s3⟩ := g4.KX hr
 have hno := g4.none hr
 have Kn : x.gl = [] := by
  cases hg : x.gl with
  | nil => rfl
  | cons a t =>
   exfalso
   refine hno a (g2.at_ (a := a) ?_)
   unfold jJ
   rw [hg, List.count_cons_self]
   omega
 have KZ : ∀ y ∈ x.w.hl, 0 ≤ y.id ∧ y.id ≠ 0 := fun y hy => by
  obtain ⟨a0, a1, a2⟩ := g2.w.hl y hy
  refine ⟨a0, fun e => ?_⟩
  rw [e] at a2
  obtain ⟨st, r, bK, wt, hg, hs⟩ := g4.gs
  unfold ae at a2
  rw [hg] at a2
  have : st = 3 := a2
  omega
 obtain ⟨t1, VD, t2, t3⟩ := NR g4 hr KZ
 obtain ⟨y, y1, y2, y3, y4, y5⟩ := KW g2 (FG hn.2) (by omega) g3 (g4.status hn.1) (EM (by omega)) (by rw [if_pos rfl]; rfl)
 rw [← y4] at t2
 have hf := FH (x := y)
 obtain ⟨k, _, hh⟩ := FK hn (fun j h0 hj => by rw [EM hj, if_neg (by omega)]) (4 * dK iN VD + fp y) 601 y VD (Nat.le_refl _) y2 (by omega) (by omega) y3 t2
 refine ⟨x, y, _, k, g1, ?_, Kn, g2.w.n2, y1, rfl, t1, by rw [y5, Kn]; rfl, hh⟩
 have hl := g4.hlen
 rw [hl, ← s2]
 have : ∀ l : List cT, (∀ k ∈ l, ∃ r bK wt, k = ⟨3, [⟨1, 2, r, bK⟩], wt⟩) → dK HD l = l.length := fun l => by
  induction l with
  | nil => exact fun _ => rfl
  | cons a l ih =>
   intro hk
   obtain ⟨r, bK, wt, e⟩ := hk a (List.mem_cons_self ..)
   unfold dK
   rw [ih fun k Le => hk k (List.mem_cons_of_mem _ Le), e]
   show 1 + l.length = l.length + 1
   omega
 exact this ks' s3
end
section
variable {R : Mem} {L L' : List HP} {M : Mem} {K : Value → Mem → Prop} {Kp : List PanicEntry → Mem → Prop}
theorem vt {pa : PA} {p : ck} {b wb db : Nat} {x : Sc} (h : Hp R L M) [q : mu b L pa p wb db x L'] (ho : x.w.hl.length ≤ 1000000) (k : ∀ A c M', Hp R (dw A c (di x.w.hl.length x.w.hl) :: ax (eY pa p wb db) b x :: L') M' → K (.slice A (di x.w.hl.length x.w.hl).length c) M') :
  aa Tryz.prog 19 #[.pointer (some ⟨wb, 0, none⟩)] M K Kp := by
 have h' := eH h (b := b)
 clear h
 obtain ⟨a, hla, h⟩ := h'
 refine w4 (b := wb) h ho ?_
 clear h; intro A c M h
 have h2 : Hp R (fS (dk b wb db a x) x.gl :: ax (bu pa p) wb x.w :: ax (b7 .nilFunc) db x.d :: gy a x (dw A c (di x.w.hl.length x.w.hl) :: L')) M := h.sub bM
 exact k A c M ((gz hla h2).sub bM)
theorem xK {R1 R4 : Mem} {A1 A2 : Option Addr} {n c1 c2 k k2 : Nat} (r1 : RS BX R1 A1 c1 (kJ n)) (r2 : RS BX R1 A2 c2 kj) (r3 : RS G1 R4 (some ⟨k, 0, none⟩) 2 [(A1, 2 * n + 2, c1), (A2, 4, c2)]) (r4 : RS bB R4 (some ⟨k2, 0, none⟩) 1 [0]) (l1 : R1.le R4) :
  m5 R4 ⟨some ⟨k, 0, none⟩, 2, some ⟨k2, 0, none⟩, 1, none, 0⟩ (g9 n) := ⟨⟨_, r3, rfl, fun i t f a b => by
   match i, a, b with
   | 0, a, b => simp at a; simp [g9] at b; subst b; subst a; exact ⟨r1.le l1, by simp [kJ, dy]⟩
   | 1, a, b => simp at a; simp [g9] at b; subst b; subst a; exact ⟨r2.le l1, rfl⟩
   | i + 2, a, b => simp at a⟩, RS.nil _ _⟩
theorem u4 : ∀ (n : Nat) (l : List aZ), l.length = n → (di n l).length = n
 | 0, _, _ => rfl
 | n + 1, l, h => by rw [sV, if_pos (by omega), List.length_cons, u4 n _ (by rw [j5]; omega)]
theorem yp {x0 c0 c1 c2 c3 : Int} (k : ∀ M', lQ [] M M' → K (.bool true) M') : aa Tryz.prog 3 #[.int .i64 x0, .agg #[.int .i64 c0, .int .i64 c1, .int .i64 c2, .int .i64 c3]] M K Kp := by
 refine jC ?_
 have k' : ∀ (R : Mem) (L : List HP) M', M.le R → Hp R L M' → K (.bool true) M' := fun R L M' hle h => k M' (mJ.O7 (fun b o hb => h.le b o (hle b o hb)) [])
 clear k
 obtain ⟨n, hn, n1, Ad⟩ := Nn x0 (b := 1) (m := 12) (q := 12) rfl (by omega) (by omega) (by omega)
 simp only [hn]
 refine aj (Hp.start M) ?_
 intro k1 M1 h
 refine CP h ?_
 clear h; intro R M2 hle h
 refine mC (ai ⟨by decide, ?_⟩)
 refine aj h ?_
 clear h; intro k6 M3 h
 replace h := (h.pt k6).fz (E := BX) (l := mI 0) rfl
 refine ⟨fun dd vs M => ∃ (j : Nat) (A : Option Addr) (c : Nat), vs = [.slice A (2 * j + 1) c, .int .i64 (j : Int)] ∧ dd = n - j ∧ j ≤ n ∧ Hp R (bV BX 27 A c (mI j) :: pt k1 [.int .i64 c0, .int .i64 c1, .int .i64 c2, .int .i64 c3] 23 :: []) M, ⟨_, 0, _, 1, rfl, rfl, by omega, h⟩, ?_⟩
 clear h
 rintro dd _ A l1 c nn M4 ⟨l, A', c', he, hd, hj, h⟩
 simp only [List.cons.injEq, Value.int.injEq, Value.slice.injEq, and_true, true_and] at he
 obtain ⟨⟨rfl, rfl, rfl⟩, rfl⟩ := he
 refine aM.2 ⟨fun hlt => ?_, fun hge => ?_⟩
 ·refine aj h ?_
  clear h; intro gI M5 h
  refine h.ot (A := A) Fw [(⟨11, 1, 3, 2⟩ : cN), ⟨3, 3, 3, 1⟩] rfl (dy l).symm rfl (by simp [dy]; omega) ?_
  clear h; intro A2 c2 M6 h
  refine aR ⟨n - (l + 1), by omega, l + 1, A2, c2, ?_, rfl, by omega, h⟩
  rw [bn (by omega)]
  rfl
 have AG : l = n := by omega
 subst AG
 refine aj h ?_
 clear h; intro jB M5 h
 refine h.ot (A := A) Fw [(⟨14, 0, 4, 5⟩ : cN)] rfl (dy l).symm rfl (by simp [dy]; omega) ?_
 clear h; intro A1 NS M6 h
 refine aR ?_
 have hm : mI l ++ [(⟨14, 0, 4, 5⟩ : cN)] = kJ l := rfl
 rw [hm] at h
 refine aj h ?_
 clear h; intro nI M7 h
 replace h := (h.pt nI).fz (E := BX) (l := kj) rfl
 iterate 4 refine aH h ?_
 refine EI (c := ⟨c0, c1, c2, c3⟩) h ?_
 clear h; intro M h
 have hcs := xq ⟨c0, c1, c2, c3⟩
 generalize cA ⟨c0, c1, c2, c3⟩ = cs at hcs
 obtain ⟨_, _, _, _, _, _, S1, S2⟩ := hcs
 refine ⟨_, _, _, _, rfl, ?_⟩
 refine aj h ?_
 clear h; intro qu M h
 iterate 6
  refine aq h ?_
  clear h; intro M h
 obtain ⟨R1, l1, r1, h1⟩ := h.eo A1
 obtain ⟨R2, l2, r2, h2⟩ := h1.eo (some ⟨nI, 0, none⟩)
 clear h h1
 have h : Hp R2 (pt qu [.int .i64 1, .int .i64 1, .int .i64 cs.R, .int .i64 cs.S] 29 :: []) M := h2.sub bM
 clear h2
 replace r1 := r1.le l2
 have CN := Mem.le_trans hle (Mem.le_trans l1 l2)
 refine h.E2 (E := Dz) (a := 0) (n := 1200) Kj (by omega) ?_
 clear h; intro UW M h
 refine aR ⟨by decide, by decide, bp ?_⟩
 refine gO (E := Dz) (a := 0) (a' := 1) 600 0 h (by rw [List.getElem?_replicate, if_pos (by decide)]) (by decide) rfl rfl ?_
 clear h; intro M h
 have hwl : (List.replicate 1200 (0 : Int)).set 600 1 = xJ := rfl
 rw [hwl] at h
 refine ⟨fun vs M => ∃ b wb db R3 pa, vs = [.pointer (some ⟨b, 0, none⟩)] ∧ R2.le R3 ∧ m5 R3 pa (g9 l) ∧ Hp R3 (ax (eY pa (g9 l) wb db) b (K3 l cs.R cs.S) :: []) M, ?_, ?_⟩
 ·refine aH h (aH h (aH h (aH h ?_)))
  refine ⟨?_, ?_, ?_, trivial⟩
  ·refine aj h ?_
   clear h; intro rD M h
   replace h := (h.pt rD).fz (E := G1) (l := [(A1, 2 * l + 2, NS), (some ⟨nI, 0, none⟩, 4, 4)]) rfl
   refine ⟨?_, ?_, trivial⟩
   ·refine aj h ?_
    clear h; intro jQ M h
    replace h := (h.pt jQ).fz (E := bB) (l := [0]) rfl
    refine fu (l := xJ) h (Src.row (A := some ⟨UW, 0, none⟩)) rfl (by simp [xJ]) ?_
    clear h; intro db M h
    refine eM ⟨bx (bk h) (bx (bk h) (bx (bk h) (bx (bk h) dQ))), ?_⟩
    have h0 : Hp R2 (bV G1 28 (some ⟨rD, 0, none⟩) 2 [(A1, 2 * l + 2, NS), (some ⟨nI, 0, none⟩, 4, 4)] :: bV bB 3 (some ⟨jQ, 0, none⟩) 1 [0] :: ax (b7 .nilFunc) db ⟨.m7 xJ 0, []⟩ :: pt qu [.int .i64 1, .int .i64 1, .int .i64 cs.R, .int .i64 cs.S] 29 :: []) M := h.sub bM
    obtain ⟨R3, l3, r3, h1⟩ := h0.eo (some ⟨rD, 0, none⟩)
    obtain ⟨R4, l4, r4, h2⟩ := h1.eo (some ⟨jQ, 0, none⟩)
    clear h h0 h1
    have h := h2
    clear h2
    have FL := Mem.le_trans l3 l4
    have hp := xK r1 r2 (r3.le l4) r4 FL
    refine jm (p := g9 l) (pa := ⟨some ⟨rD, 0, none⟩, 2, some ⟨jQ, 0, none⟩, 1, none, 0⟩) (c := ⟨1, 1, cs.R, cs.S⟩) h r4 (by simp [g9]) (by simp [g9]) (by simp) (by simp) ?_
    clear h; intro b wb M h
    exact eM ⟨bx (bk h) (bx (bk h) (bx (bk h) (bx (bk h) dQ))), b, wb, db, R4, _, rfl, FL, hp, h.sub bM⟩
   ·refine fu (l := xJ) h (Src.row (A := some ⟨UW, 0, none⟩)) rfl (by simp [xJ]) ?_
    clear h; intro db M h
    refine eM ⟨bx (bk h) (bx (bk h) (bx (bk h) (bx (bk h) dQ))), ?_⟩
    refine aj h ?_
    clear h; intro jQ M h
    replace h := (h.pt jQ).fz (E := bB) (l := [0]) rfl
    have h0 : Hp R2 (bV G1 28 (some ⟨rD, 0, none⟩) 2 [(A1, 2 * l + 2, NS), (some ⟨nI, 0, none⟩, 4, 4)] :: bV bB 3 (some ⟨jQ, 0, none⟩) 1 [0] :: ax (b7 .nilFunc) db ⟨.m7 xJ 0, []⟩ :: pt qu [.int .i64 1, .int .i64 1, .int .i64 cs.R, .int .i64 cs.S] 29 :: []) M := h.sub bM
    obtain ⟨R3, l3, r3, h1⟩ := h0.eo (some ⟨rD, 0, none⟩)
    obtain ⟨R4, l4, r4, h2⟩ := h1.eo (some ⟨jQ, 0, none⟩)
    clear h h0 h1
    have h := h2
    clear h2
    have FL := Mem.le_trans l3 l4
    have hp := xK r1 r2 (r3.le l4) r4 FL
    refine jm (p := g9 l) (pa := ⟨some ⟨rD, 0, none⟩, 2, some ⟨jQ, 0, none⟩, 1, none, 0⟩) (c := ⟨1, 1, cs.R, cs.S⟩) h r4 (by simp [g9]) (by simp [g9]) (by simp) (by simp) ?_
    clear h; intro b wb M h
    exact eM ⟨bx (bk h) (bx (bk h) (bx (bk h) (bx (bk h) dQ))), b, wb, db, R4, _, rfl, FL, hp, h.sub bM⟩
  ·refine aj h ?_
   clear h; intro jQ M h
   replace h := (h.pt jQ).fz (E := bB) (l := [0]) rfl
   refine ⟨?_, ?_, trivial⟩
   ·refine aj h ?_
    clear h; intro rD M h
    replace h := (h.pt rD).fz (E := G1) (l := [(A1, 2 * l + 2, NS), (some ⟨nI, 0, none⟩, 4, 4)]) rfl
    refine fu (l := xJ) h (Src.row (A := some ⟨UW, 0, none⟩)) rfl (by simp [xJ]) ?_
    clear h; intro db M h
    refine eM ⟨bx (bk h) (bx (bk h) (bx (bk h) (bx (bk h) dQ))), ?_⟩
    have h0 : Hp R2 (bV G1 28 (some ⟨rD, 0, none⟩) 2 [(A1, 2 * l + 2, NS), (some ⟨nI, 0, none⟩, 4, 4)] :: bV bB 3 (some ⟨jQ, 0, none⟩) 1 [0] :: ax (b7 .nilFunc) db ⟨.m7 xJ 0, []⟩ :: pt qu [.int .i64 1, .int .i64 1, .int .i64 cs.R, .int .i64 cs.S] 29 :: []) M := h.sub bM
    obtain ⟨R3, l3, r3, h1⟩ := h0.eo (some ⟨rD, 0, none⟩)
    obtain ⟨R4, l4, r4, h2⟩ := h1.eo (some ⟨jQ, 0, none⟩)
    clear h h0 h1
    have h := h2
    clear h2
    have FL := Mem.le_trans l3 l4
    have hp := xK r1 r2 (r3.le l4) r4 FL
    refine jm (p := g9 l) (pa := ⟨some ⟨rD, 0, none⟩, 2, some ⟨jQ, 0, none⟩, 1, none, 0⟩) (c := ⟨1, 1, cs.R, cs.S⟩) h r4 (by simp [g9]) (by simp [g9]) (by simp) (by simp) ?_
    clear h; intro b wb M h
    exact eM ⟨bx (bk h) (bx (bk h) (bx (bk h) (bx (bk h) dQ))), b, wb, db, R4, _, rfl, FL, hp, h.sub bM⟩
   ·refine fu (l := xJ) h (Src.row (A := some ⟨UW, 0, none⟩)) rfl (by simp [xJ]) ?_
    clear h; intro db M h
    refine eM ⟨bx (bk h) (bx (bk h) (bx (bk h) (bx (bk h) dQ))), ?_⟩
    refine aj h ?_
    clear h; intro rD M h
    replace h := (h.pt rD).fz (E := G1) (l := [(A1, 2 * l + 2, NS), (some ⟨nI, 0, none⟩, 4, 4)]) rfl
    have h0 : Hp R2 (bV G1 28 (some ⟨rD, 0, none⟩) 2 [(A1, 2 * l + 2, NS), (some ⟨nI, 0, none⟩, 4, 4)] :: bV bB 3 (some ⟨jQ, 0, none⟩) 1 [0] :: ax (b7 .nilFunc) db ⟨.m7 xJ 0, []⟩ :: pt qu [.int .i64 1, .int .i64 1, .int .i64 cs.R, .int .i64 cs.S] 29 :: []) M := h.sub bM
    obtain ⟨R3, l3, r3, h1⟩ := h0.eo (some ⟨rD, 0, none⟩)
    obtain ⟨R4, l4, r4, h2⟩ := h1.eo (some ⟨jQ, 0, none⟩)
    clear h h0 h1
    have h := h2
    clear h2
    have FL := Mem.le_trans l3 l4
    have hp := xK r1 r2 (r3.le l4) r4 FL
    refine jm (p := g9 l) (pa := ⟨some ⟨rD, 0, none⟩, 2, some ⟨jQ, 0, none⟩, 1, none, 0⟩) (c := ⟨1, 1, cs.R, cs.S⟩) h r4 (by simp [g9]) (by simp [g9]) (by simp) (by simp) ?_
    clear h; intro b wb M h
    exact eM ⟨bx (bk h) (bx (bk h) (bx (bk h) (bx (bk h) dQ))), b, wb, db, R4, _, rfl, FL, hp, h.sub bM⟩
  ·refine fu (l := xJ) h (Src.row (A := some ⟨UW, 0, none⟩)) rfl (by simp [xJ]) ?_
   clear h; intro db M h
   refine eM ⟨bx (bk h) (bx (bk h) (bx (bk h) (bx (bk h) dQ))), ?_⟩
   refine aj h ?_
   clear h; intro rD M h
   replace h := (h.pt rD).fz (E := G1) (l := [(A1, 2 * l + 2, NS), (some ⟨nI, 0, none⟩, 4, 4)]) rfl
   refine aj h ?_
   clear h; intro jQ M h
   replace h := (h.pt jQ).fz (E := bB) (l := [0]) rfl
   have h0 : Hp R2 (bV G1 28 (some ⟨rD, 0, none⟩) 2 [(A1, 2 * l + 2, NS), (some ⟨nI, 0, none⟩, 4, 4)] :: bV bB 3 (some ⟨jQ, 0, none⟩) 1 [0] :: ax (b7 .nilFunc) db ⟨.m7 xJ 0, []⟩ :: pt qu [.int .i64 1, .int .i64 1, .int .i64 cs.R, .int .i64 cs.S] 29 :: []) M := h.sub bM
   obtain ⟨R3, l3, r3, h1⟩ := h0.eo (some ⟨rD, 0, none⟩)
   obtain ⟨R4, l4, r4, h2⟩ := h1.eo (some ⟨jQ, 0, none⟩)
   clear h h0 h1
   have h := h2
   clear h2
   have FL := Mem.le_trans l3 l4
   have hp := xK r1 r2 (r3.le l4) r4 FL
   refine jm (p := g9 l) (pa := ⟨some ⟨rD, 0, none⟩, 2, some ⟨jQ, 0, none⟩, 1, none, 0⟩) (c := ⟨1, 1, cs.R, cs.S⟩) h r4 (by simp [g9]) (by simp [g9]) (by simp) (by simp) ?_
   clear h; intro b wb M h
   exact eM ⟨bx (bk h) (bx (bk h) (bx (bk h) (bx (bk h) dQ))), b, wb, db, R4, _, rfl, FL, hp, h.sub bM⟩
 clear h
 rintro _ A M ⟨b, wb, db, R3, pa, he, l3, hp, h⟩
 simp only [List.cons.injEq, Value.pointer.injEq, and_true] at he
 subst he
 obtain ⟨x, y, ev, kk, hx, hhl, Kn, zo, hst, e1, e2, e3, fJ⟩ := RB (n := l) (R := cs.R) (S := cs.S) (by omega) (by omega)
 have RO : (K3 l cs.R cs.S).d.k.Ok := ⟨by simp [K3, Sc.new, xJ], by simp [K3, Sc.new], fun v hv => by
  rcases List.mem_or_eq_of_mem_set hv with hv | hv
  ·rw [List.eq_of_mem_replicate hv]; decide
  ·rw [hv]; decide⟩
 refine ⟨fun dd vs M => ∃ (j : Nat) (xj : Sc) (R' : Mem), vs = [.int .i64 (j : Int)] ∧ dd = 600 - j ∧ j ≤ 600 ∧ R3.le R' ∧ fQ (g9 l) j (K3 l cs.R cs.S) = some xj ∧ xj.d.k.Ok ∧ Hp R' (ax (eY pa (g9 l) wb db) b xj :: []) M, ⟨_, 0, _, R3, rfl, rfl, by omega, Mem.le_refl _, rfl, RO, h⟩, ?_⟩
 clear h
 rintro dd _ nn M ⟨j, xj, R', he, hd, hj, hle', hrun, hok, h⟩
 simp only [List.cons.injEq, Value.int.injEq, and_true, true_and] at he
 subst he
 refine aM.2 ⟨fun hlt => ?_, fun hge => ?_⟩
 ·obtain ⟨y', e', RC, Oz⟩ := xw hx (j := j) (by omega) hrun
  refine rh h (hp.le hle') hok RC ?_
  clear h
  intro R4 A5 c5 M h1 h2 h3 h
  refine ⟨_, _, _, _, _, _, _, rfl, ?_⟩
  refine aj h ?_
  clear h; intro Mm M h
  refine iF h ?_
  clear h; intro M h
  refine ai ⟨600 - (j + 1), by omega, j + 1, y', R4, ?_, rfl, by omega, Mem.le_trans hle' h1, Oz, h3, h.sub bM⟩
  rw [bn (by omega)]
 have hj3 : j = 600 := by omega
 subst hj3
 rw [hx] at hrun
 cases hrun
 refine uZ h (eM ?_)
 refine vt (x := x) (b := b) h (by omega) ?_
 clear h; intro A5 c5 M h
 have hsl := u4 x.w.hl.length x.w.hl rfl
 refine aR (de.2 ⟨fun hne => absurd (by omega) hne, fun _ => ?_⟩)
 refine sY (x := x) (b := b) h (by rw [Kn]; simp) ?_
 clear h; intro A6 c6 M h
 refine aR (de.2 ⟨fun hne => absurd (by rw [Kn]; rfl) hne, fun _ => ?_⟩)
 refine rh (b := b) h (hp.le hle') hok hst ?_
 clear h
 intro R4 A7 c7 M h1 h2 h3 h
 refine ⟨_, _, _, _, _, _, _, rfl, ?_⟩
 refine aj h ?_
 clear h; intro D1 M h
 refine iF h ?_
 clear h; intro M h
 refine aH h ?_
 refine de.2 ⟨fun hne => absurd e1 hne, fun _ => ?_⟩
 refine bj h ?_
 refine de.2 ⟨fun hne => absurd (by rw [e2]) hne, fun _ => ?_⟩
 refine bj h ?_
 refine sY (x := y) (b := b) h (by rw [e3]; omega) ?_
 clear h; intro A8 c8 M h
 refine aR ⟨bk h, ?_⟩
 refine D0 (l := y.gl) h (Src.row (A := A8)) (by rw [e3]; exact h2.src) rfl (by rw [e3]) (by rw [e3]; omega) ?_
 clear h; intro M h
 refine cE ⟨bk h, ?_⟩
 refine ai ?_
 have h0 : Hp R4 (ax (eY pa (g9 l) wb db) b y :: []) M := h.sub bM
 clear h
 refine ⟨fun dd vs M => ∃ (j : Nat) (xj : Sc) (R5 : Mem), vs = [] ∧ dd = kk - j ∧ j ≤ kk ∧ R4.le R5 ∧ fQ (g9 l) j y = some xj ∧ xj.d.k.Ok ∧ Hp R5 (ax (eY pa (g9 l) wb db) b xj :: []) M, ⟨_, 0, _, R4, rfl, rfl, by omega, Mem.le_refl _, rfl, h3, h0⟩, ?_⟩
 clear h0
 rintro dd _ M ⟨j, xj, R5, he, hd, hj, RD, hrun, hok5, h⟩
 obtain ⟨z, z1, z2, z3, z4, z5⟩ := fJ j hj
 rw [hrun] at z1
 cases z1
 refine jd (x := xj) (b := b) h (by omega) (cE ?_)
 by_cases hlt : j < kk
 ·rw [z4 hlt]
  refine af ?_
  obtain ⟨zk, zk1, _⟩ := fJ kk (Nat.le_refl _)
  obtain ⟨y', e', RC, Oz⟩ := xw zk1 (j := j) hlt hrun
  refine rh (b := b) h (hp.le (Mem.le_trans hle' (Mem.le_trans h1 RD))) hok5 RC ?_
  clear h
  intro R6 A9 c9 M g1 g2 g3 h
  refine ⟨_, _, _, _, _, _, _, rfl, ?_⟩
  refine aj h ?_
  clear h; intro Mm M h
  refine iF h ?_
  clear h; intro M h
  exact ai ⟨kk - (j + 1), by omega, j + 1, y', R6, rfl, rfl, by omega, Mem.le_trans RD g1, Oz, g3, h.sub bM⟩
 ·have hjk : j = kk := by omega
  obtain ⟨s1, s2⟩ := z5 hjk
  rw [s1]
  refine ai ?_
  refine jd (x := xj) (b := b) h (by omega) (cE ?_)
  rw [s1]
  refine af ?_
  refine uZ (b := b) h (eM ?_)
  refine EJ (x := xj) (b := b) h (by omega) ?_
  clear h; intro A9 c9 M h
  refine aR ?_
  rw [s2, beq_self_eq_true]
  exact k' R5 _ M (Mem.le_trans CN (Mem.le_trans l3 (Mem.le_trans hle' (Mem.le_trans h1 RD)))) h
end
end Go.Proofs
