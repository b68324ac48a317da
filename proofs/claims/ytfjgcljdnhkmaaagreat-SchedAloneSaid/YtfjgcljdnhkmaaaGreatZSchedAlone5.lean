/- A part of proofs about one program. -/
import Derived.Test.YtfjgcljdnhkmaaaGreatZSchedAlone4
set_option linter.unusedVariables false
namespace Go.Proofs
open Go.AF
set_option maxRecDepth 100000
set_option maxHeartbeats 1000000
attribute [local irreducible] aG c6 fD cj aC eU aD aF bg aZ bD aQ
def iD (n : Nat) : List cQ := List.replicate n ⟨11, 1, 0, 1⟩ ++ [⟨12, 0, 0, 0⟩, ⟨7, n, 0, 0⟩]
def gN (Y : Nat) : List cQ := List.replicate Y ⟨12, 0, 0, 0⟩ ++ [⟨20, 0, 0, 0⟩, ⟨10, 0, 0, 0⟩]
def kS (n Y : Nat) : cf := ⟨[iD n, gN Y], [], 0, []⟩
section
variable {p : cf} {x w : Wd} {g : Int} {i : cQ} {d : gU} {keep : Bool} {n Y c j : Nat}
theorem kT (h : exec p x g d = some (w, keep)) (hc : me { x with ready := [] } g) (hi : jN p { x with ready := [] } g = some i) (h8 : 8 < i.op) (qv : i.op ≠ 16) (PU : i.op ≠ 21) :
  ∃ r, iq p (Wd.next { x with ready := [] } g) g i = some r ∧ w = r.fin ∧ keep = dg w g (wc i.op r) := by
 unfold exec at h
 cases he : jO p x g d with
 | none => rw [he] at h; cases h
 | some q =>
  obtain ⟨r, rest⟩ := q
  rw [he] at h
  have hr : iq p (Wd.next { x with ready := [] } g) g i = some r ∧ rest = wc i.op r := by
   unfold jO at he
   dsimp only at he
   rw [if_pos hc] at he
   unfold jN at hi
   split at he
   ·split at he
    ·cases he
    ·rename_i code ik
     rw [ik] at hi
     dsimp only at hi
     rw [hi] at he
     dsimp only at he
     rw [if_neg (by omega), if_neg qv, if_neg PU] at he
     split at he
     ·cases he
     ·rename_i r' G8
      obtain ⟨_, e⟩ := bY he
      cases e
      exact ⟨G8, rfl⟩
   ·cases he
  obtain ⟨h1, h2⟩ := hr
  cases r with
  | on y => cases h; exact ⟨_, h1, rfl, by rw [← h2]⟩
  | dy k y => cases h; exact ⟨_, h1, rfl, by rw [← h2]⟩
  | cG l y => cases h
theorem GI (h : exec p x g d = some (w, keep)) (hc : me { x with ready := [] } g) (hi : jN p { x with ready := [] } g = some i) (h0 : 0 ≤ i.op) (h8 : i.op ≤ 8) :
  w = Wd.aY { x with ready := [] } g ((ae { x with ready := [] } g).bS ((ae { x with ready := [] } g).top.next.pure i)) ∧ keep = dg w g false := by
 unfold exec at h
 cases he : jO p x g d with
 | none => rw [he] at h; cases h
 | some q =>
  obtain ⟨r, rest⟩ := q
  rw [he] at h
  have hr : r = .on (Wd.aY { x with ready := [] } g ((ae { x with ready := [] } g).bS ((ae { x with ready := [] } g).top.next.pure i))) ∧ rest = false := by
   unfold jO at he
   dsimp only at he
   rw [if_pos hc] at he
   unfold jN at hi
   split at he
   ·split at he
    ·cases he
    ·rename_i code ik
     rw [ik] at hi
     dsimp only at hi
     rw [hi] at he
     dsimp only at he
     rw [if_pos ⟨h0, h8⟩] at he
     obtain ⟨_, e⟩ := bY he
     cases e
     exact ⟨rfl, rfl⟩
   ·cases he
  obtain ⟨rfl, rfl⟩ := hr
  cases h
  exact ⟨rfl, rfl⟩
inductive Ts (Y : Nat) : dD → Prop where
 | on (c : Nat) (r : List Int) (eE : Int) (wt : cQ) (h : c ≤ Y + 1) : Ts Y ⟨1, [⟨1, c, r, eE⟩], wt⟩
 | off (c r eE wt) : Ts Y ⟨4, [⟨1, c, r, eE⟩], wt⟩
def tH (Y : Nat) (k : dD) : Nat := if k.st = 1 then Y + 2 - k.top.pc.toNat else 0
def GJ (Y : Nat) (k : dD) : Nat := if k.st = 1 ∧ k.top.pc.toNat ≤ Y then 0 else 1
def j4 (f : dD → Nat) : List dD → Nat
 | [] => 0
 | k :: l => f k + j4 f l
theorem wX {f : dD → Nat} {k' : dD} : ∀ {l : List dD} {j : Nat} {k : dD}, l[j]? = some k → j4 f (l.set j k') + f k = j4 f l + f k'
 | [], _, _, h => by simp at h
 | a :: l, 0, k, h => by
  simp only [List.getElem?_cons_zero, Option.some.injEq] at h; subst h
  simp only [List.set_cons_zero, j4]; omega
 | a :: l, j + 1, k, h => by
  have := wX (f := f) (k' := k') (l := l) (j := j) (by simpa using h)
  simp only [List.set_cons_succ, j4]; omega
theorem tI {f : dD → Nat} {k : dD} : ∀ {l : List dD}, j4 f (l ++ [k]) = j4 f l + f k
 | [] => by simp [j4]
 | a :: l => by simp only [List.cons_append, j4, tI]; omega
structure AW (n Y : Nat) (w : Wd) (pc : Nat) (ks : List dD) : Prop where
 e : w.end_ = 0
 gs : ∃ r eE wt, w.gs = ⟨1, [⟨0, pc, r, eE⟩], wt⟩ :: ks
 ZL : pc ≤ n + 1
 len : ks.length = min pc n
 Q4 : ∀ k ∈ ks, Ts Y k
 out : w.out.length = j4 (GJ Y) ks
def j5 (n Y : Nat) (ks : List dD) : Nat := j4 (tH Y) ks + (n - ks.length) * (Y + 3)
theorem Qn {r : Bool} (h : r = true) : dg w g r = false := by unfold dg; rw [h]; rfl
theorem Mv (n : Nat) (c : Nat) : (iD n)[c]? = if c < n then some ⟨11, 1, 0, 1⟩ else if c = n then some ⟨12, 0, 0, 0⟩ else if c = n + 1 then some ⟨7, n, 0, 0⟩ else none := by
 unfold iD
 by_cases h : c < n
 ·rw [if_pos h, List.getElem?_append_left (by simpa using h), List.getElem?_replicate, if_pos h]
 ·rw [if_neg h, List.getElem?_append_right (by simpa using h), List.length_replicate]
  by_cases h2 : c = n
  ·rw [if_pos h2, h2, Nat.sub_self]; rfl
  ·rw [if_neg h2]
   by_cases h3 : c = n + 1
   ·rw [if_pos h3, h3, Nat.add_sub_cancel_left]; rfl
   ·rw [if_neg h3, List.getElem?_eq_none (by simp; omega)]
theorem Ka (Y : Nat) (c : Nat) : (gN Y)[c]? = if c < Y then some ⟨12, 0, 0, 0⟩ else if c = Y then some ⟨20, 0, 0, 0⟩ else if c = Y + 1 then some ⟨10, 0, 0, 0⟩ else none := by
 unfold gN
 by_cases h : c < Y
 ·rw [if_pos h, List.getElem?_append_left (by simpa using h), List.getElem?_replicate, if_pos h]
 ·rw [if_neg h, List.getElem?_append_right (by simpa using h), List.length_replicate]
  by_cases h2 : c = Y
  ·rw [if_pos h2, h2, Nat.sub_self]; rfl
  ·rw [if_neg h2]
   by_cases h3 : c = Y + 1
   ·rw [if_pos h3, h3, Nat.add_sub_cancel_left]; rfl
   ·rw [if_neg h3, List.getElem?_eq_none (by simp; omega)]
theorem Qo {ks : List dD} {pc : Nat} {r : List Int} {eE : Int} {wt : cQ} (h : AW n Y w pc ks) (hn : n ≤ 30) (hj : ks[j]? = some ⟨1, [⟨1, c, r, eE⟩], wt⟩) (hc : c ≤ Y + 1) {w' : Wd} (he : exec (kS n Y) w ((j : Int) + 1) (.num 0) = some (w', keep)) :
  ∃ ks', AW n Y w' pc ks' ∧ j5 n Y ks' + 1 = j5 n Y ks := by
 obtain ⟨r0, od, Kr, Ko⟩ := h.gs
 have GW : j < ks.length := by obtain ⟨a, _⟩ := List.getElem?_eq_some_iff.1 hj; exact a
 have Q5 : ((j : Int) + 1).toNat = j + 1 := by omega
 generalize hx : ({ w with ready := [] } : Wd) = x
 have NI : x.gs = ⟨1, [⟨0, pc, r0, od⟩], Kr⟩ :: ks := by rw [← hx]; exact Ko
 have Mw : x.end_ = 0 := by rw [← hx]; exact h.e
 have NJ : x.out = w.out := by rw [← hx]
 have hg : ae x ((j : Int) + 1) = ⟨1, [⟨1, c, r, eE⟩], wt⟩ := by
  unfold ae; rw [NI, Q5, List.getD_cons_succ, List.getD_eq_getElem?_getD, hj]; rfl
 have hcan : me x ((j : Int) + 1) := ⟨by omega, by rw [NI]; simp; omega, Mw, by rw [hg]⟩
 have jo : jN (kS n Y) x ((j : Int) + 1) = (gN Y)[c]? := by
  unfold jN; rw [hg]; rfl
 rw [Ka] at jo
 have fin : ∀ (k' : dD) (o : List Int), w'.end_ = 0 → w'.gs = ⟨1, [⟨0, pc, r0, od⟩], Kr⟩ :: ks.set j k' → w'.out = o → Ts Y k' → o.length + GJ Y ⟨1, [⟨1, c, r, eE⟩], wt⟩ = w.out.length + GJ Y k' → tH Y k' + 1 = tH Y ⟨1, [⟨1, c, r, eE⟩], wt⟩ →
   ∃ ks', AW n Y w' pc ks' ∧ j5 n Y ks' + 1 = j5 n Y ks := by
  intro k' o h1 h2 h3 h4 h5 h6
  refine ⟨ks.set j k', ⟨h1, ⟨_, _, _, h2⟩, h.ZL, by rw [List.length_set]; exact h.len, fun k hk => ?_, ?_⟩, ?_⟩
  ·rcases List.mem_or_eq_of_mem_set hk with hk | rfl
   ·exact h.Q4 k hk
   ·exact h4
  ·have := wX (f := GJ Y) (k' := k') hj
   have := h.out
   rw [h3]; omega
  ·have := wX (f := tH Y) (k' := k') hj
   unfold j5
   rw [List.length_set]; omega
 have nx : (Wd.next x ((j : Int) + 1)).gs = ⟨1, [⟨0, pc, r0, od⟩], Kr⟩ :: ks.set j ⟨1, [⟨1, (c : Int) + 1, r, eE⟩], wt⟩ := by
  unfold Wd.next Wd.aY
  rw [hg, Q5, NI]
  rfl
 have nxg : ae (Wd.next x ((j : Int) + 1)) ((j : Int) + 1) = ⟨1, [⟨1, (c : Int) + 1, r, eE⟩], wt⟩ := by
  unfold ae; rw [nx, Q5, List.getD_cons_succ, List.getD_eq_getElem?_getD, List.getElem?_set_self GW]; rfl
 by_cases c1 : c < Y
 ·rw [if_pos c1] at jo
  obtain ⟨q, hq, hw, _⟩ := kT he (by rw [hx]; exact hcan) (by rw [hx]; exact jo) (by decide) (by decide) (by decide)
  rw [hx] at hq
  simp only [iq] at hq
  simp at hq
  subst hq
  subst hw
  refine fin ⟨1, [⟨1, ((c + 1 : Nat) : Int), r, eE⟩], wt⟩ w.out Mw nx NJ (.on _ _ _ _ (by omega)) ?_ ?_
  ·simp [GJ, dD.top]; (repeat' split) <;> omega
  ·simp [tH, dD.top]; (repeat' split) <;> omega
 rw [if_neg c1] at jo
 by_cases c2 : c = Y
 ·rw [if_pos c2] at jo
  obtain ⟨q, hq, hw, _⟩ := kT he (by rw [hx]; exact hcan) (by rw [hx]; exact jo) (by decide) (by decide) (by decide)
  rw [hx] at hq
  simp only [iq] at hq
  simp at hq
  obtain ⟨_, hq⟩ := hq
  have ho : w.out.length ≤ 30 := by
   have h1 := h.out
   have h2 := h.len
   have : ∀ l : List dD, j4 (GJ Y) l ≤ l.length := fun l => by
    induction l with
    | nil => exact Nat.le_refl _
    | cons a l ih =>
     unfold j4
     have : GJ Y a ≤ 1 := by unfold GJ; split <;> omega
     simp only [List.length_cons]
     omega
   have := this ks
   omega
  unfold Wd.emit at hq
  rw [if_neg (by show ¬ x.out.length ≥ 1000; rw [NJ]; omega)] at hq
  subst hq
  subst hw
  refine fin ⟨1, [⟨1, ((c + 1 : Nat) : Int), r, eE⟩], wt⟩ (x.out ++ [_]) Mw nx rfl (.on _ _ _ _ (by omega)) ?_ ?_
  ·simp [NJ, GJ, dD.top]; (repeat' split) <;> omega
  ·simp [tH, dD.top]; (repeat' split) <;> omega
 rw [if_neg c2] at jo
 have c3 : c = Y + 1 := by omega
 rw [if_pos c3] at jo
 obtain ⟨q, hq, hw, _⟩ := kT he (by rw [hx]; exact hcan) (by rw [hx]; exact jo) (by decide) (by decide) (by decide)
 rw [hx] at hq
 simp only [iq] at hq
 simp at hq
 obtain ⟨_, hq⟩ := hq
 unfold Wd.back at hq
 rw [nxg] at hq
 rw [if_neg (by simp), if_neg (by omega)] at hq
 subst hq
 subst hw
 refine fin ⟨4, [⟨1, ((c + 1 : Nat) : Int), r, eE⟩], wt⟩ w.out Mw ?_ NJ (.off _ _ _ _) ?_ ?_
 ·show (Wd.next x ((j : Int) + 1)).gs.set ((j : Int) + 1).toNat _ = _
  rw [nx, Q5]
  simp
 ·simp [GJ, dD.top]; (repeat' split) <;> omega
 ·simp [tH, dD.top]; (repeat' split) <;> omega
theorem Mx {ks : List dD} {pc : Nat} (h : AW n Y w pc ks) (hn : n ≤ 30) {w' : Wd} (he : exec (kS n Y) w 0 (.num 0) = some (w', keep)) :
  ∃ ks' B8, AW n Y w' B8 ks' ∧ (pc < n ∧ j5 n Y ks' + 1 = j5 n Y ks ∨ pc = n ∧ B8 = n + 1 ∧ ks' = ks ∧ keep = false ∨ pc = n + 1 ∧ B8 = n ∧ ks' = ks) := by
 obtain ⟨r0, od, Kr, Ko⟩ := h.gs
 have ug := h.ZL
 have hlen := h.len
 generalize hx : ({ w with ready := [] } : Wd) = x
 have NI : x.gs = ⟨1, [⟨0, pc, r0, od⟩], Kr⟩ :: ks := by rw [← hx]; exact Ko
 have Mw : x.end_ = 0 := by rw [← hx]; exact h.e
 have NJ : x.out = w.out := by rw [← hx]
 have hg : ae x 0 = ⟨1, [⟨0, pc, r0, od⟩], Kr⟩ := by unfold ae; rw [NI]; rfl
 have hcan : me x 0 := ⟨by omega, by rw [NI]; simp, Mw, by rw [hg]⟩
 have jo : jN (kS n Y) x 0 = (iD n)[pc]? := by
  unfold jN; rw [hg]; rfl
 rw [Mv] at jo
 have nx : (Wd.next x 0).gs = ⟨1, [⟨0, (pc : Int) + 1, r0, od⟩], Kr⟩ :: ks := by
  unfold Wd.next Wd.aY
  rw [hg, NI]
  rfl
 by_cases c1 : pc < n
 ·rw [if_pos c1] at jo
  obtain ⟨q, hq, hw, _⟩ := kT he (by rw [hx]; exact hcan) (by rw [hx]; exact jo) (by decide) (by decide) (by decide)
  rw [hx] at hq
  simp only [iq] at hq
  simp at hq
  obtain ⟨_, hq⟩ := hq
  unfold Wd.spawn at hq
  rw [if_neg (by rw [nx]; simp; omega)] at hq
  subst hq
  subst hw
  have hl : (Wd.next x 0).gs.length = ks.length + 1 := by rw [nx]; simp
  refine ⟨ks ++ [⟨1, [e7.begin 1 (aV (Wd.next x 0) 0 0)], .zero⟩], pc + 1, ⟨Mw, ?_, by omega, by simp; omega, fun k hk => ?_, ?_⟩, .inl ⟨c1, ?_⟩⟩
  ·refine ⟨((⟨0, (pc : Int) + 1, r0, od⟩ : e7).set 1 ((ks.length + 1 : Nat) : Int)).r, od, Kr, ?_⟩
   unfold Out.fin Wd.aX Wd.dN Wd.aY ae
   dsimp only
   rw [hl, nx]
   simp [dD.bS, dD.top, e7.set]
  ·rcases List.mem_append.1 hk with hk | hk
   ·exact h.Q4 k hk
   ·simp only [List.mem_singleton] at hk
    subst hk
    exact .on 0 _ _ _ (by omega)
  ·rw [tI]
   have := h.out
   show x.out.length = _
   rw [NJ, this]
   simp [GJ, dD.top, e7.begin]
  ·unfold j5
   rw [tI, List.length_append, List.length_singleton]
   have e1 : tH Y ⟨1, [e7.begin 1 (aV (Wd.next x 0) 0 0)], .zero⟩ = Y + 2 := by simp [tH, dD.top, e7.begin]
   rw [e1]
   obtain ⟨m, hm⟩ : ∃ m, n - ks.length = m + 1 := ⟨n - ks.length - 1, by omega⟩
   rw [hm, show n - (ks.length + 1) = m from by omega, Nat.succ_mul]
   omega
 rw [if_neg c1] at jo
 by_cases c2 : pc = n
 ·rw [if_pos c2] at jo
  obtain ⟨q, hq, hw, hk⟩ := kT he (by rw [hx]; exact hcan) (by rw [hx]; exact jo) (by decide) (by decide) (by decide)
  rw [hx] at hq
  simp only [iq] at hq
  simp at hq
  subst hq
  rw [Qn (by rfl)] at hk
  subst hw
  exact ⟨ks, pc + 1, ⟨Mw, ⟨_, _, _, nx⟩, by omega, by omega, h.Q4, by rw [← h.out]; show x.out.length = _; rw [NJ]⟩, .inr (.inl ⟨c2, by omega, rfl, hk⟩)⟩
 rw [if_neg c2] at jo
 have c3 : pc = n + 1 := by omega
 rw [if_pos c3] at jo
 obtain ⟨hw, _⟩ := GI he (by rw [hx]; exact hcan) (by rw [hx]; exact jo) (by simp) (by simp)
 rw [hx] at hw
 subst hw
 refine ⟨ks, n, ⟨Mw, ⟨r0, od, Kr, ?_⟩, by omega, by omega, h.Q4, by rw [← h.out]; show x.out.length = _; rw [NJ]⟩, .inr (.inr ⟨c3, rfl, rfl⟩)⟩
 unfold Wd.aY
 rw [hg, NI]
 rfl
end
section
variable {p : cf} {x y : Sc} {w : Wd} {g v : Int} {N n Y i : Nat} {l : List Int} {pc B8 : Nat} {ks ks' : List dD}
theorem My (h : ∀ f ∈ p.funcs, ∀ i ∈ f, i.op ≠ 21 ∧ i.op ≠ 16) : asks p w g = none := by
 unfold asks
 split
 ·unfold jN
  cases hf : p.funcs[(ae w g).top.fn.toNat]? with
  | none => rfl
  | some f =>
   cases hi : f[(ae w g).top.pc.toNat]? with
   | none => simp [hi]
   | some i =>
    have := h f (List.mem_of_getElem? hf) i (List.mem_of_getElem? hi)
    simp [hi, this]
 ·rfl
theorem Kb {f : List cQ} (hf : f ∈ (kS n Y).funcs) {i : cQ} (hi : i ∈ f) : (f.length = n + 2 ∧ (i = ⟨11, 1, 0, 1⟩ ∨ i = ⟨12, 0, 0, 0⟩ ∨ i = ⟨7, n, 0, 0⟩)) ∨ (f.length = Y + 2 ∧ (i = ⟨12, 0, 0, 0⟩ ∨ i = ⟨20, 0, 0, 0⟩ ∨ i = ⟨10, 0, 0, 0⟩)) := by
 simp only [kS, List.mem_cons, List.not_mem_nil, or_false] at hf
 rcases hf with rfl | rfl
 ·left
  refine ⟨by simp [iD], ?_⟩
  simp only [iD, List.mem_append, List.mem_replicate, List.mem_cons, List.not_mem_nil, or_false] at hi
  rcases hi with h | h | h
  ·exact .inl h.2
  ·exact .inr (.inl h)
  ·exact .inr (.inr h)
 ·right
  refine ⟨by simp [gN], ?_⟩
  simp only [gN, List.mem_append, List.mem_replicate, List.mem_cons, List.not_mem_nil, or_false] at hi
  rcases hi with h | h | h
  ·exact .inl h.2
  ·exact .inr (.inl h)
  ·exact .inr (.inr h)
theorem Mz : asks (kS n Y) w g = none := My fun f hf i hi => by
 rcases Kb hf hi with ⟨_, rfl | rfl | rfl⟩ | ⟨_, rfl | rfl | rfl⟩ <;> exact ⟨by simp, by simp⟩
theorem NK (hn : n ≤ 30) (hY : Y ≤ 4) : eV (kS n Y) := by
 refine ⟨by simp [kS], by simp [kS], by simp [kS], by simp [kS], fun c hc => by simp [kS] at hc, fun f hf => ⟨?_, ?_, fun i hi => ?_⟩⟩
 ·simp only [kS, List.mem_cons, List.not_mem_nil, or_false] at hf
  rcases hf with rfl | rfl <;> simp [iD, gN]
 ·simp only [kS, List.mem_cons, List.not_mem_nil, or_false] at hf
  rcases hf with rfl | rfl
  ·simp [iD]; omega
  ·simp [gN]; omega
 ·rcases Kb hf hi with ⟨hl, rfl | rfl | rfl⟩ | ⟨hl, rfl | rfl | rfl⟩ <;> simp [iG, cQ.jZ, bn, kS] <;> omega
def dL (n : Nat) (x : Sc) (pc : Nat) : Nat :=
 if (av x 0).p = -1 then 9 else if (av x 0).g = -1 then (if pc < n then 7 else if x.gl.getLast? = some 0 then (if Int.tmod (aB x 0).turns 7 = 6 then 4 else 1) else 7)
 else if (av x 0).g ≠ 0 ∨ pc < n then 0 else (if pc = n then 2 else 3) + (if Int.tmod (aB x 0).turns 7 = 6 then 3 else 0)
def Ks (n Y : Nat) (x : Sc) (pc : Nat) (ks : List dD) : Nat := 10 * j5 n Y ks + dL n x pc
theorem wY : dL n x pc ≤ 9 := by
 unfold dL
 repeat' split
 all_goals omega
theorem uq (hp : (av y 0).p = 0) (hg : (av y 0).g ≠ -1) : dL n y pc ≤ 6 := by
 unfold dL
 rw [if_neg (by omega), if_neg hg]
 repeat' split
 all_goals omega
theorem wZ (hp : (av y 0).p = 0) (hg : (av y 0).g ≠ -1) (h : (av y 0).g ≠ 0 ∨ pc < n) : dL n y pc = 0 := by
 unfold dL
 rw [if_neg (by omega), if_neg hg, if_pos h]
theorem AW.main (h : AW n Y w pc ks) : At w 0 1 := by
 obtain ⟨r, eE, wt, hg⟩ := h.gs
 exact ⟨by omega, by rw [hg]; simp, by unfold ae; rw [hg]; rfl⟩
theorem AW.status (h : AW n Y x.w pc ks) : x.status = 0 := by
 obtain ⟨r, eE, wt, hg⟩ := h.gs
 unfold Sc.status Wd.stuck
 rw [h.e, hg]
 simp [BI]
theorem ET {f : dD → Nat} : ∀ {l : List dD}, 0 < j4 f l → ∃ (j : Nat) (k : dD), l[j]? = some k ∧ 0 < f k
 | [], h => by simp [j4] at h
 | a :: l, h => by
  by_cases e : 0 < f a
  ·exact ⟨0, a, rfl, e⟩
  ·obtain ⟨j, k, h1, h2⟩ := ET (f := f) (l := l) (by unfold j4 at h; omega)
   exact ⟨j + 1, k, by simpa using h1, h2⟩
theorem AW.NL (h : AW n Y w pc ks) {j : Nat} {k : dD} (hj : ks[j]? = some k) : ae w ((j : Int) + 1) = k ∧ (j : Int) + 1 < w.gs.length := by
 obtain ⟨r, eE, wt, hg⟩ := h.gs
 obtain ⟨hl, _⟩ := List.getElem?_eq_some_iff.1 hj
 refine ⟨?_, by rw [hg]; simp; omega⟩
 unfold ae
 rw [hg, show ((j : Int) + 1).toNat = j + 1 from by omega, List.getD_cons_succ, List.getD_eq_getElem?_getD, hj]; rfl
theorem AW.more (h : AW n Y w pc ks) (hr : 0 < j5 n Y ks) (hp : n ≤ pc) : ∃ a, a ≠ 0 ∧ a ≠ -1 ∧ At w a 1 := by
 have hl := h.len
 unfold j5 at hr
 rw [show n - ks.length = 0 from by omega] at hr
 obtain ⟨j, k, hj, hk⟩ := ET (f := tH Y) (l := ks) (by omega)
 obtain ⟨h1, h2⟩ := h.NL hj
 refine ⟨(j : Int) + 1, by omega, by omega, by omega, h2, ?_⟩
 rw [h1]
 unfold tH at hk
 split at hk
 ·assumption
 ·omega
theorem EU (o : One l i x) (a : Int) : jC x a = (aB x 0).q.all.count a + x.gl.count a + (gR (av x 0).g).count a := by
 obtain ⟨q, hq⟩ := List.length_eq_one_iff.1 o.ps
 obtain ⟨m, hm⟩ := List.length_eq_one_iff.1 o.ms
 unfold jC jB zV aB av
 rw [hq, hm]
 simp
theorem MA (h : SV p N x) (o : One l i x) : GY (aB x 0).q := by
 have := o.ps
 exact h.room _ (List.mem_of_getElem? (qF (x := x) (i := 0) (by omega) (by omega)))
theorem Kc (h : SV p N x) (o : One l i x) : 0 ≤ (aB x 0).turns := by
 have := o.ps
 exact (h.cZ _ (List.mem_of_getElem? (qF (x := x) (i := 0) (by omega) (by omega)))).1
theorem MB (h : SV (kS n Y) N x) (hN : N ≤ 1000000) (hn : n ≤ 30) (hY : Y ≤ 4) (o : One l i x) (hi : l[i]? = some 0) (ha : AW n Y x.w pc ks) :
  ∃ y e, x.step (kS n Y) = some (y, .ev e) ∧ SV (kS n Y) (N + 1) y ∧ One l (i + 1) y ∧ ∃ B8 ks', AW n Y y.w B8 ks' ∧ (j5 n Y ks = 0 → j5 n Y ks' = 0) ∧ (0 < j5 n Y ks → Ks n Y y B8 ks' < Ks n Y x pc ks) := by
 obtain ⟨y, e, h1, h2, h3, hd⟩ := J7 h (NK hn hY) hN o ha.status hi rfl (fun _ => Mz)
 refine ⟨y, e, h1, h2, h3, ?_⟩
 have Tt := ha.main
 have hone := EU o 0
 rw [h.one 0 Tt] at hone
 have Qp := MA h o
 have Q5 := Kc h o
 have Ad : ∀ {g}, (av y 0).g = g → g ≠ -1 → 0 ≤ g := fun {g} e1 e2 => by
  have h1 := h3.ms
  have y3 := h2.ms _ (List.mem_of_getElem? (jq (x := y) (m := 0) (by omega) (by omega)))
  rcases y3 with e | e <;> omega
 have Kd : n ≤ pc → (aB x 0).q.all = [] → x.gl = [0] → (av x 0).g = -1 → j5 n Y ks = 0 := fun ug e1 e2 e3 => by
  by_cases hr : 0 < j5 n Y ks
  ·exfalso
   obtain ⟨a, a1, a2, a3⟩ := ha.more hr ug
   have c1 := h.one a a3
   rw [EU o a, e1, e2, e3] at c1
   have : (gR (-1)).count a = 0 := rfl
   rw [this] at c1
   have : ([(0 : Int)]).count a = 0 := List.count_eq_zero.2 (by simpa using a1)
   rw [this] at c1
   simp at c1
  ·omega
 cases hd with
 | held a1 hw a2 a3 a4 =>
  refine ⟨pc, ks, by rw [hw]; exact ha, id, fun _ => ?_⟩
  unfold Ks
  have e1 : dL n x pc = 9 := by unfold dL; rw [if_pos a1]
  have e2 : dL n y pc ≤ 7 := by
   unfold dL
   rw [if_neg (by omega), if_pos a3]
   repeat' split
   all_goals omega
  omega
 | next a1 a2 hw a3 a4 a5 =>
  refine ⟨pc, ks, by rw [hw]; exact ha, id, fun _ => ?_⟩
  unfold Ks
  have e1 : dL n x pc = if pc < n then 7 else if x.gl.getLast? = some 0 then (if Int.tmod (aB x 0).turns 7 = 6 then 4 else 1) else 7 := by unfold dL; rw [if_neg (by omega), if_pos a2]
  by_cases hz : (av y 0).g ≠ 0 ∨ pc < n
  ·have e2 := wZ (n := n) (pc := pc) a3 (by omega) hz
   have : 1 ≤ dL n x pc := by
    rw [e1]
    repeat' split
    all_goals omega
   omega
  ·have e2 := uq (n := n) (pc := pc) a3 (by omega)
   have hq : (aB x 0).q.all.count 0 = 1 + (aB x 0).q.l.count 0 := by
    unfold Loc.all
    rw [if_neg a5, show (aB x 0).q.next = 0 from by omega]
    simp; omega
   have Yo : ¬ x.gl.getLast? = some 0 := fun e => by
    have := List.count_pos_iff.2 (List.mem_of_getLast? e)
    omega
   rw [if_neg (by omega), if_neg Yo] at e1
   omega
 | own a1 a2 hw a3 a4 a5 a6 =>
  refine ⟨pc, ks, by rw [hw]; exact ha, id, fun hr => ?_⟩
  have Lx : (av y 0).g ≠ -1 := by
   have ok := ES (t := (aB x 0).turns) (h.Qi (List.mem_of_getElem? (qF (x := x) (i := 0) (by omega) (by have := o.ps; omega)))) Qp h.NF
   have := ok.2.2.1 a5
   omega
  unfold Ks
  have e1 : dL n x pc = if pc < n then 7 else if x.gl.getLast? = some 0 then (if Int.tmod (aB x 0).turns 7 = 6 then 4 else 1) else 7 := by unfold dL; rw [if_neg (by omega), if_pos a2]
  by_cases hz : (av y 0).g ≠ 0 ∨ pc < n
  ·have e2 := wZ (n := n) (pc := pc) a3 Lx hz
   have : 1 ≤ dL n x pc := by
    rw [e1]
    repeat' split
    all_goals omega
   omega
  ·rw [if_neg (by omega)] at e1
   have ug : n ≤ pc := by omega
   have Lw : (av y 0).g = 0 := by omega
   by_cases hl : x.gl.getLast? = some 0
   ·rw [if_pos hl] at e1
    have QW := List.count_pos_iff.2 (List.mem_of_getLast? hl)
    by_cases ht : Int.tmod (aB x 0).turns 7 = 6
    ·rw [if_pos ht] at e1
     have e2 : dL n y pc ≤ 3 := by
      unfold dL
      rw [if_neg (by omega), if_neg Lx, if_neg hz, if_neg (c := Int.tmod (aB y 0).turns 7 = 6) (by
       rw [a6, Int.tmod_eq_emod_of_nonneg (by omega)]
       rw [Int.tmod_eq_emod_of_nonneg Q5] at ht
       omega)]
      split <;> omega
     omega
    ·exfalso
     have hq : (aB x 0).q.all.count 0 = 0 := by omega
     rw [List.count_eq_zero] at hq
     have Jn : (aB x 0).q.next ≠ 0 := fun e => hq (by unfold Loc.all; rw [e]; simp)
     have vg : (0 : Int) ∉ (aB x 0).q.l := fun e => hq (by unfold Loc.all; simp [e])
     obtain ⟨b1, b2, b3⟩ := GH a5 Qp (a := 0) (by rw [← a4]; exact Lw) hl (by omega) Jn vg (by omega) ht
     have := Kd ug (by unfold Loc.all; rw [b1, b2]; rfl) b3 a2
     omega
   ·rw [if_neg hl] at e1
    have e2 := uq (n := n) (pc := pc) a3 Lx
    omega
 | BT a1 a2 hw a3 a4 a5 a6 =>
  exfalso
  obtain ⟨b1, b2, b3, b4⟩ := Mu a5 Qp
  have e1 : (aB x 0).q.all = [] := by unfold Loc.all; rw [b1, b2]; rfl
  rw [e1, b3, a2] at hone
  simp [gR] at hone
 | Q2 w keep a1 a2 he hw a3 a4 a5 =>
  have JV := h.mg (mc := av x 0) (List.mem_of_getElem? (jq (x := x) (m := 0) (by omega) (by have := o.ms; omega))) a2
  subst hw
  by_cases hg : (av x 0).g = 0
  ·rw [hg] at he a4
   obtain ⟨ks', B8, Ud, hc⟩ := Mx ha hn he
   refine ⟨B8, ks', Ud, fun hr => ?_, fun hr => ?_⟩
   ·rcases hc with ⟨_, hc⟩ | ⟨_, _, hc, _⟩ | ⟨_, _, hc⟩
    ·omega
    ·rw [hc]; exact hr
    ·rw [hc]; exact hr
   ·have hst : (ae y.w 0).st = 1 := Ud.main.2.2
    unfold Ks
    rcases hc with ⟨_, hc⟩ | ⟨c1, c2, hc, c3⟩ | ⟨c1, c2, hc⟩
    ·have := wY (n := n) (x := y) (pc := B8); omega
    ·rw [hc]
     have e1 : dL n x pc = 2 + (if Int.tmod (aB x 0).turns 7 = 6 then 3 else 0) := by
      unfold dL
      rw [if_neg (by omega), if_neg (by omega), if_neg (by omega), if_pos c1]
     rcases a4 with ⟨a4, _⟩ | ⟨a4, a7⟩
     ·rw [c3] at a4; cases a4
     ·have e2 : dL n y B8 = if Int.tmod (aB x 0).turns 7 = 6 then 4 else 1 := by
       unfold dL
       rw [if_neg (by omega), if_pos a4, if_neg (by omega), if_pos (a7 hst), a5]
      split at e1 <;> rename_i ht
      ·rw [if_pos ht] at e2; omega
      ·rw [if_neg ht] at e2; omega
    ·rw [hc]
     have e1 : dL n x pc = 3 + (if Int.tmod (aB x 0).turns 7 = 6 then 3 else 0) := by
      unfold dL
      rw [if_neg (by omega), if_neg (by omega), if_neg (by omega), if_neg (by omega)]
     rcases a4 with ⟨_, a4⟩ | ⟨a4, a7⟩
     ·have e2 : dL n y B8 = 2 + (if Int.tmod (aB x 0).turns 7 = 6 then 3 else 0) := by
       unfold dL
       rw [if_neg (by omega), if_neg (by omega), if_neg (by omega), if_pos (by omega), a5]
      omega
     ·have e2 : dL n y B8 = if Int.tmod (aB x 0).turns 7 = 6 then 4 else 1 := by
       unfold dL
       rw [if_neg (by omega), if_pos a4, if_neg (by omega), if_pos (a7 hst), a5]
      split at e1 <;> rename_i ht
      ·rw [if_pos ht] at e2; omega
      ·rw [if_neg ht] at e2; omega
  ·obtain ⟨j, hj⟩ := Int.eq_ofNat_of_zero_le (show 0 ≤ (av x 0).g - 1 by omega)
   have hj : (av x 0).g = (j : Int) + 1 := by omega
   obtain ⟨r0, od, Kr, Ko⟩ := ha.gs
   have GW : j < ks.length := by have := JV.2.1; rw [Ko] at this; simp at this; omega
   obtain ⟨k, hk⟩ := aN (l := ks) GW
   obtain ⟨h5, _⟩ := ha.NL hk
   have YP := ha.Q4 k (List.mem_of_getElem? hk)
   have hst := JV.2.2
   rw [hj, h5] at hst
   rw [hj] at he
   cases YP with
   | on c r eE wt hc =>
    obtain ⟨ks', Ud, hr⟩ := Qo ha hn hk hc he
    refine ⟨pc, ks', Ud, fun e => by omega, fun _ => ?_⟩
    unfold Ks
    have := wY (n := n) (x := y) (pc := pc); omega
   | off c r eE wt => simp at hst
theorem Ke (hn : n ≤ 30) (hY : Y ≤ 4) (hl : ∀ j < 4000, l[j]? = some 0) (Q3 : SV (kS n Y) 0 x) (o : One l 0 x) (ha : AW n Y x.w pc ks) : ∀ j : Nat, j ≤ 4000 →
  ∃ y, kM (kS n Y) j x = some y ∧ SV (kS n Y) j y ∧ One l j y ∧ ∃ B8 ks', AW n Y y.w B8 ks' ∧ (j5 n Y ks' = 0 ∨ Ks n Y y B8 ks' + j ≤ Ks n Y x pc ks)
 | 0, _ => ⟨x, rfl, Q3, o, pc, ks, ha, .inr (by omega)⟩
 | j + 1, hj => by
  obtain ⟨y, h1, h2, h3, pc1, ks1, h4, h5⟩ := Ke hn hY hl Q3 o ha j (by omega)
  obtain ⟨z, e, g1, g2, g3, pc2, ks2, g4, g5, g6⟩ := MB h2 (by omega) hn hY h3 (hl j (by omega)) h4
  refine ⟨z, by simp only [kM, h1, Option.bind_some, g1, YD], g2, g3, pc2, ks2, g4, ?_⟩
  by_cases e0 : j5 n Y ks1 = 0
  ·exact .inl (g5 e0)
  ·have := g6 (by omega)
   rcases h5 with h5 | h5
   ·exact absurd h5 e0
   ·exact .inr (by omega)
theorem B9 {Y : Nat} : ∀ (l : List dD), (∀ k ∈ l, Ts Y k) → j4 (tH Y) l = 0 → j4 (GJ Y) l = l.length
 | [], _, _ => rfl
 | a :: l, h, h0 => by
  have hk := h a (by simp)
  unfold j4 at h0
  have ih := B9 l (fun k hk => h k (by simp [hk])) (by omega)
  have : GJ Y a = 1 := by
   cases hk with
   | on c r eE wt hc => simp [tH, dD.top] at h0; omega
   | off c r eE wt => rfl
  simp only [j4, List.length_cons]
  omega
def Kt (n Y : Nat) (R S : Int) : Sc := Sc.new (kS n Y) ⟨1, 1, R, S⟩ ⟨.qz (List.replicate 4000 0) 0, []⟩
theorem Qq {R S : Int} (hn : n ≤ 30) (hY : Y ≤ 4) (h1 : 1 ≤ n) (hS : 1 ≤ S ∧ S ≤ 1024) : ∃ y, kM (kS n Y) 4000 (Kt n Y R S) = some y ∧ y.w.out.length = n ∧ y.status = 0 ∧ y.w.gs.length ≤ 100 := by
 have hk : (gv.qz (List.replicate 4000 0) 0).Ok := ⟨by simp, by simp, fun v hv => by rw [List.eq_of_mem_replicate hv]; decide⟩
 have Q3 : SV (kS n Y) 0 (Kt n Y R S) := SV.new (NK hn hY) ⟨by simp, by simp⟩ ⟨by simp, by simp⟩ hS rfl hk
 have ho : One (List.replicate 4000 0) 0 (Kt n Y R S) := ⟨rfl, rfl, fun _ => rfl, rfl⟩
 have ha : AW n Y (Kt n Y R S).w 0 [] := ⟨rfl, ⟨_, _, _, rfl⟩, by omega, (Nat.zero_min n).symm, fun k hk => absurd hk (by simp), rfl⟩
 obtain ⟨y, g1, g2, g3, B8, ks', g4, g5⟩ := Ke hn hY (fun j hj => by rw [List.getElem?_replicate, if_pos hj]) Q3 ho ha 4000 (Nat.le_refl _)
 have hr : j5 n Y ks' = 0 := by
  rcases g5 with g5 | g5
  ·exact g5
  ·exfalso
   have := wY (n := n) (x := Kt n Y R S) (pc := 0)
   unfold Ks j5 at g5
   simp only [j4, List.length_nil, Nat.sub_zero] at g5
   have : n * (Y + 3) ≤ 30 * 7 := Nat.mul_le_mul hn (by omega)
   omega
 unfold j5 at hr
 have hl : ks'.length = n := by
  have := g4.len
  by_cases e : n - ks'.length = 0
  ·omega
  ·have : 1 * 1 ≤ (n - ks'.length) * (Y + 3) := Nat.mul_le_mul (by omega) (by omega)
   omega
 refine ⟨y, g1, ?_, g4.status, g2.w.n2⟩
 rw [g4.out, B9 ks' g4.Q4 (by omega), hl]
end
section
variable {R : Mem} {L L' : List HP} {M : Mem} {K : Value → Mem → Prop} {Kp : List PanicEntry → Mem → Prop}
theorem zX {R1 R2 R3 : Mem} {A1 A2 : Option Addr} {n Y c1 c2 k : Nat} (r1 : RS xD R1 A1 c1 (iD n)) (r2 : RS xD R2 A2 c2 (gN Y)) (r3 : RS PR R3 (some ⟨k, 0, none⟩) 2 [(A1, n + 2, c1), (A2, Y + 2, c2)]) (l1 : R1.le R3) (l2 : R2.le R3) :
  mH R3 ⟨some ⟨k, 0, none⟩, 2, none, 0, none, 0⟩ (kS n Y) := ⟨⟨_, r3, rfl, fun i t f a b => by
   match i, a, b with
   | 0, a, b => simp at a; simp [kS] at b; subst b; subst a; exact ⟨r1.le l1, by simp [iD]⟩
   | 1, a, b => simp at a; simp [kS] at b; subst b; subst a; exact ⟨r2.le l2, by simp [gN]⟩
   | i + 2, a, b => simp at a⟩, RS.nil _ _⟩
theorem xN {x0 x1 c0 c1 c2 c3 : Int} (k : ∀ M', lp [] M M' → K (.bool true) M') : aa Tryz.prog 5 #[.int .i64 x0, .int .i64 x1, .agg #[.int .i64 c0, .int .i64 c1, .int .i64 c2, .int .i64 c3]] M K Kp := by
 refine jj ?_
 have k' : ∀ (R : Mem) (L : List HP) M', M.le R → Hp R L M' → K (.bool true) M' := fun R L M' hle h => k M' (mh.N9 (fun b o hb => h.le b o (hle b o hb)) [])
 clear k
 obtain ⟨n, hn, n1, Cg⟩ := LZ x0 (b := 1) (m := 30) (q := 30) rfl (by omega) (by omega) (by omega)
 obtain ⟨Y, hY, _, Y4⟩ := Th x1 (b := 0) (m := 5) (q := 5) rfl (by omega) (by omega) (by omega)
 rw [Int.zero_add] at hY
 simp only [hn, hY]
 refine aj (Hp.start M) ?_
 intro k1 M1 h
 refine BW h ?_
 clear h; intro R M2 hle h
 refine lX (ai ⟨by decide, by decide, ?_⟩)
 refine aj h ?_
 clear h; intro k6 M3 h
 replace h := (h.pt k6).gZ (E := xD) (l := []) rfl
 refine ⟨fun dd vs M => ∃ (j : Nat) (A : Option Addr) (c : Nat), vs = [.slice A j c, .int .i64 (j : Int)] ∧ dd = n - j ∧ j ≤ n ∧ Hp R (ct xD 34 A c (List.replicate j ⟨11, 1, 0, 1⟩) :: pt k1 [.int .i64 c0, .int .i64 c1, .int .i64 c2, .int .i64 c3] 23 :: []) M, ⟨_, 0, _, 0, rfl, rfl, by omega, h⟩, ?_⟩
 clear h
 rintro dd _ A l c nn M4 ⟨j, A', c', he, hd, hj, h⟩
 simp only [List.cons.injEq, Value.int.injEq, Value.slice.injEq, and_true, true_and] at he
 obtain ⟨⟨rfl, rfl, rfl⟩, rfl⟩ := he
 refine aL.2 ⟨fun hlt => ?_, fun hge => ?_⟩
 ·refine aj h ?_
  clear h; intro gn M5 h
  refine h.jk (A := A) uY [(⟨11, 1, 0, 1⟩ : cQ)] rfl (by simp) rfl (by simp; omega) ?_
  clear h; intro A2 c2 M6 h
  refine aW ⟨n - (l + 1), by omega, l + 1, A2, c2, ?_, rfl, by omega, ?_⟩
  ·rw [bk (by omega)]
  ·rw [List.replicate_succ']; exact h
 have GW : l = n := by omega
 subst GW
 refine aj h ?_
 clear h; intro ji M5 h
 refine h.jk (A := A) uY [(⟨12, 0, 0, 0⟩ : cQ), ⟨7, l, 0, 0⟩] rfl (by simp) rfl (by simp; omega) ?_
 clear h; intro A1 Ue M6 h
 refine aW ?_
 have hm : List.replicate l (⟨11, 1, 0, 1⟩ : cQ) ++ [⟨12, 0, 0, 0⟩, ⟨7, l, 0, 0⟩] = iD l := rfl
 rw [hm] at h
 refine aj h ?_
 clear h; intro w9 M7 h
 replace h := (h.pt w9).gZ (E := xD) (l := []) rfl
 refine ⟨fun dd vs M => ∃ (j : Nat) (A : Option Addr) (c : Nat), vs = [.slice A j c, .int .i64 (j : Int)] ∧ dd = Y - j ∧ j ≤ Y ∧ Hp R (ct xD 34 A c (List.replicate j ⟨12, 0, 0, 0⟩) :: ct xD 34 A1 Ue (iD l) :: pt k1 [.int .i64 c0, .int .i64 c1, .int .i64 c2, .int .i64 c3] 23 :: []) M, ⟨_, 0, _, 0, rfl, rfl, by omega, h⟩, ?_⟩
 clear h
 rintro dd _ B m c nn M4 ⟨j, A', c', he, hd, hj, h⟩
 simp only [List.cons.injEq, Value.int.injEq, Value.slice.injEq, and_true, true_and] at he
 obtain ⟨⟨rfl, rfl, rfl⟩, rfl⟩ := he
 refine aL.2 ⟨fun hlt => ?_, fun hge => ?_⟩
 ·refine aj h ?_
  clear h; intro gn M5 h
  refine h.jk (A := B) uY [(⟨12, 0, 0, 0⟩ : cQ)] rfl (by simp) rfl (by simp; omega) ?_
  clear h; intro A2 c2 M6 h
  refine aW ⟨Y - (m + 1), by omega, m + 1, A2, c2, ?_, rfl, by omega, ?_⟩
  ·rw [bk (by omega)]
  ·rw [List.replicate_succ']; exact h
 have hjm : m = Y := by omega
 subst hjm
 refine aj h ?_
 clear h; intro GV M5 h
 refine h.jk (A := B) uY [(⟨20, 0, 0, 0⟩ : cQ), ⟨10, 0, 0, 0⟩] rfl (by simp) rfl (by simp; omega) ?_
 clear h; intro A2 YQ M6 h
 refine aW ?_
 have hc : List.replicate m (⟨12, 0, 0, 0⟩ : cQ) ++ [⟨20, 0, 0, 0⟩, ⟨10, 0, 0, 0⟩] = gN m := rfl
 rw [hc] at h
 iterate 4 refine aH h ?_
 refine DR (c := ⟨c0, c1, c2, c3⟩) h ?_
 clear h; intro M h
 have hcs := wK ⟨c0, c1, c2, c3⟩
 generalize cy ⟨c0, c1, c2, c3⟩ = cs at hcs
 obtain ⟨_, _, _, _, _, _, S1, S2⟩ := hcs
 refine ⟨_, _, _, _, rfl, ?_⟩
 refine aj h ?_
 clear h; intro ud M h
 iterate 6
  refine aq h ?_
  clear h; intro M h
 obtain ⟨R1, l1, r1, h1⟩ := h.iK A1
 obtain ⟨R2, l2, r2, h2⟩ := h1.iK A2
 clear h h1
 have h : Hp R2 (pt ud [.int .i64 1, .int .i64 1, .int .i64 cs.R, .int .i64 cs.S] 26 :: []) M := h2.sub bQ
 clear h2
 replace r1 := r1.le l2
 have BU := Mem.le_trans hle (Mem.le_trans l1 l2)
 refine ⟨fun vs M => ∃ b wb db R3 k, vs = [.pointer (some ⟨b, 0, none⟩)] ∧ R2.le R3 ∧ mH R3 ⟨some ⟨k, 0, none⟩, 2, none, 0, none, 0⟩ (kS l m) ∧ Hp R3 (ax (fA ⟨some ⟨k, 0, none⟩, 2, none, 0, none, 0⟩ (kS l m) wb db) b (Kt l m cs.R cs.S) :: []) M, ?_, ?_⟩
 ·refine aH h (aH h (aH h (aH h ?_)))
  refine ⟨?_, ?_, trivial⟩
  ·refine aj h ?_
   clear h; intro uU M h
   have h2 := (h.pt uU).gZ (E := PR) (l := [(A1, l + 2, Ue), (A2, m + 2, YQ)]) rfl
   obtain ⟨R3, l3, r3, h⟩ := h2.iK (some ⟨uU, 0, none⟩)
   clear h2
   have hp := zX r1 r2 r3 l3 l3
   refine h.zg (E := CK) (a := 0) (n := 4000) DH (by omega) ?_
   clear h; intro Uf M h
   refine aW ⟨bI (bz h) (bI (bz h) (bI (bz h) (bI (bz h) eA))), ?_⟩
   refine hO (l := List.replicate 4000 0) h (Src.row (A := some ⟨Uf, 0, none⟩)) (by simp) (by simp) ?_
   clear h; intro db M h
   refine fR ⟨bI (bz h) (bI (bz h) (bI (bz h) (bI (bz h) eA))), ?_⟩
   refine oH (p := kS l m) (pa := ⟨some ⟨uU, 0, none⟩, 2, none, 0, none, 0⟩) (c := ⟨1, 1, cs.R, cs.S⟩) h (RS.nil _ _) (by simp [kS]) (by simp [kS]) (by simp) (by simp) ?_
   clear h; intro b wb M h
   exact fR ⟨bI (bz h) (bI (bz h) (bI (bz h) (bI (bz h) eA))), b, wb, db, R3, uU, rfl, l3, hp, h.sub bQ⟩
  refine h.zg (E := CK) (a := 0) (n := 4000) DH (by omega) ?_
  clear h; intro Uf M h
  refine aW ⟨bI (bz h) (bI (bz h) (bI (bz h) (bI (bz h) eA))), ?_⟩
  refine ⟨?_, ?_, trivial⟩
  ·refine aj h ?_
   clear h; intro uU M h
   have h2 := (h.pt uU).gZ (E := PR) (l := [(A1, l + 2, Ue), (A2, m + 2, YQ)]) rfl
   obtain ⟨R3, l3, r3, h⟩ := h2.iK (some ⟨uU, 0, none⟩)
   clear h2
   have hp := zX r1 r2 r3 l3 l3
   refine hO (l := List.replicate 4000 0) h (Src.row (A := some ⟨Uf, 0, none⟩)) (by simp) (by simp) ?_
   clear h; intro db M h
   refine fR ⟨bI (bz h) (bI (bz h) (bI (bz h) (bI (bz h) eA))), ?_⟩
   refine oH (p := kS l m) (pa := ⟨some ⟨uU, 0, none⟩, 2, none, 0, none, 0⟩) (c := ⟨1, 1, cs.R, cs.S⟩) h (RS.nil _ _) (by simp [kS]) (by simp [kS]) (by simp) (by simp) ?_
   clear h; intro b wb M h
   exact fR ⟨bI (bz h) (bI (bz h) (bI (bz h) (bI (bz h) eA))), b, wb, db, R3, uU, rfl, l3, hp, h.sub bQ⟩
  ·refine hO (l := List.replicate 4000 0) h (Src.row (A := some ⟨Uf, 0, none⟩)) (by simp) (by simp) ?_
   clear h; intro db M h
   refine fR ⟨bI (bz h) (bI (bz h) (bI (bz h) (bI (bz h) eA))), ?_⟩
   refine aj h ?_
   clear h; intro uU M h
   have h2 := (h.pt uU).gZ (E := PR) (l := [(A1, l + 2, Ue), (A2, m + 2, YQ)]) rfl
   obtain ⟨R3, l3, r3, h⟩ := h2.iK (some ⟨uU, 0, none⟩)
   clear h2
   have hp := zX r1 r2 r3 l3 l3
   refine oH (p := kS l m) (pa := ⟨some ⟨uU, 0, none⟩, 2, none, 0, none, 0⟩) (c := ⟨1, 1, cs.R, cs.S⟩) h (RS.nil _ _) (by simp [kS]) (by simp [kS]) (by simp) (by simp) ?_
   clear h; intro b wb M h
   exact fR ⟨bI (bz h) (bI (bz h) (bI (bz h) (bI (bz h) eA))), b, wb, db, R3, uU, rfl, l3, hp, h.sub bQ⟩
 clear h
 rintro _ A M ⟨b, wb, db, R3, k, he, l3, hp, h⟩
 simp only [List.cons.injEq, Value.pointer.injEq, and_true] at he
 subst he
 obtain ⟨y, hx, hout, hst, Ko⟩ := Qq (n := l) (Y := m) (R := cs.R) (S := cs.S) (by omega) (by omega) (by omega) (by omega)
 have TF : (Kt l m cs.R cs.S).d.k.Ok := ⟨by simp [Kt, Sc.new], by simp [Kt, Sc.new], fun v hv => by rw [List.eq_of_mem_replicate hv]; decide⟩
 generalize (⟨some ⟨k, 0, none⟩, 2, none, 0, none, 0⟩ : PA) = pa at hp h
 refine ⟨fun dd vs M => ∃ (j : Nat) (xj : Sc) (R' : Mem), vs = [.int .i64 (j : Int)] ∧ dd = 4000 - j ∧ j ≤ 4000 ∧ R3.le R' ∧ kM (kS l m) j (Kt l m cs.R cs.S) = some xj ∧ xj.d.k.Ok ∧ Hp R' (ax (fA pa (kS l m) wb db) b xj :: []) M, ⟨_, 0, _, R3, rfl, rfl, by omega, Mem.le_refl _, rfl, TF, h⟩, ?_⟩
 clear h
 rintro dd _ nn M ⟨j, xj, R', he, hd, hj, hle', hrun, hok, h⟩
 simp only [List.cons.injEq, Value.int.injEq, and_true, true_and] at he
 subst he
 refine aL.2 ⟨fun hlt => ?_, fun hge => ?_⟩
 ·obtain ⟨y', e', YR, Ny⟩ := DT hx (j := j) (by omega) hrun
  refine DS h (hp.le hle') hok YR ?_
  clear h
  intro R4 A5 c5 M h1 h2 h3 h
  refine ⟨_, _, _, _, _, _, _, rfl, ?_⟩
  refine aj h ?_
  clear h; intro Sh M h
  refine jm h ?_
  clear h; intro M h
  refine ai ⟨4000 - (j + 1), by omega, j + 1, y', R4, ?_, rfl, by omega, Mem.le_trans hle' h1, Ny, h3, h.sub bQ⟩
  rw [bk (by omega)]
 ·have hj3 : j = 4000 := by omega
  subst hj3
  rw [hx] at hrun
  cases hrun
  refine BL h (fR ?_)
  refine DU (x := y) (b := b) h (by omega) ?_
  clear h; intro A5 c5 M h
  refine aW (bP.2 ⟨fun _ => ?_, fun hne => absurd (by rw [hout]) hne⟩)
  refine lS (x := y) h (by omega) (cF ?_)
  rw [hst]
  exact k' R' _ M (Mem.le_trans BU (Mem.le_trans l3 hle')) h
end
end Go.Proofs
