/- A part of proofs about one program. -/
import Derived.Test.YtnnlgknlialpmaaGreatZFairBoundRegB
set_option linter.unusedVariables false
namespace Go.AF
def xQ (n L : Nat) : Nat := ((List.range n).filter fun i => !L.testBit i).length
theorem lH {n L i : Nat} (hi : i < n) (hL : L.testBit i = false) : xQ n L = xQ n (L ||| 2 ^ i) + 1 := by
 unfold xQ
 induction n with
 | zero => omega
 | succ n ih =>
  rw [List.range_succ, List.filter_append, List.filter_append, List.length_append, List.length_append]
  by_cases h : i = n
  ·subst h
   have e1 : ((List.range i).filter fun k => !L.testBit k) = (List.range i).filter fun k => !(L ||| 2 ^ i).testBit k := by
    apply List.filter_congr
    intro k hk
    have : i ≠ k := by have := List.mem_range.1 hk; omega
    rw [dV]; simp [this]
   rw [e1]
   simp [hL]
  ·have hin : i < n := by omega
   rw [ih hin]
   have : (L ||| 2 ^ i).testBit n = L.testBit n := by rw [dV]; simp [h]
   simp only [List.filter_cons, List.filter_nil, this]
   omega
def Ij (P : Program) (ops : Array Oper) (env : Nat → Value) (o : Oper) : Prop :=
 bQ ops o env = true → ∃ (ob : Obj) (k : Nat → Sem Next), CN P (execOp (oU env) o) = some (ob, k) ∧ ∀ b, ∃ v, bL P (k b) Mem.empty = some (.value v)
def wO (P : Program) (ops : Array Oper) (eY : List Nat) (L i : Nat) : Bool := match ops[i]? with
 | some oi => (List.range ops.size).all fun j => Nat.beq j i || L.testBit j || (eY.getD j 0).testBit i || (match ops[j]? with
  | some oj => (match cls P oj with | .new => true | _ => false) && fD ops L j && oi.apart ops oj && (List.range ops.size).all fun k => Nat.beq k i || Nat.beq k j || L.testBit k || (eY.getD k 0).testBit i || (match ops[k]? with
   | some ok => oj.apart ops ok
   | none => true)
  | none => true)
 | none => false
section
variable {C : Ctx} {ops : Array Oper} {K : (Nat → Value) → Mem → Prop} {Kp : List PanicEntry → Mem → Prop}
theorem Qa {i j L : Nat} {oi oj : Oper} (hi : ops[i]? = some oi) {eY : List Nat} (ha : om ops eY = true) (hdn : Dn ops L) (h : wO C.P ops eY L i = true) (hr : fD ops L i = true)
  (hj : fD ops L j = true) (jg : ops[j]? = some oj) (jC : j ≠ i) :
  cls C.P oj = .new ∧ oi.apart ops oj = true ∧ ∀ k ok, fD ops L k = true → ops[k]? = some ok → k ≠ i → k ≠ j → oj.apart ops ok = true := by
 obtain ⟨JL, oj', Eb, gS⟩ := bM.1 hj
 rw [jg] at Eb; cases Eb
 have Mh : ∀ k ok, fD ops L k = true → ops[k]? = some ok → (eY.getD k 0).testBit i = false := fun k ok hk hok => by
  obtain ⟨_, ok', Mi, Mj⟩ := bM.1 hk
  rw [hok] at Mi; cases Mi
  cases hb : (eY.getD k 0).testBit i with
  | false => rfl
  | true => have := ny ha hdn k ok hok Mj i hb; rw [(bM.1 hr).1] at this; cases this
 have nb : ∀ a b : Nat, a ≠ b → Nat.beq a b = false := fun a b hab => by
  cases hb : Nat.beq a b with
  | false => rfl
  | true => exact absurd (Nat.eq_of_beq_eq_true hb) hab
 unfold wO at h; rw [hi] at h
 have := List.all_eq_true.1 h j (List.mem_range.2 (Array.getElem?_eq_some_iff.1 jg).1)
 simp only [JL, jg, Mh j oj hj jg, nb j i jC, Bool.false_or, Bool.and_eq_true] at this
 obtain ⟨⟨⟨h1, _⟩, h2⟩, h3⟩ := this
 refine ⟨?_, h2, fun k ok hk hok FO WX => ?_⟩
 ·revert h1; cases cls C.P oj <;> simp
 ·have := List.all_eq_true.1 h3 k (List.mem_range.2 (Array.getElem?_eq_some_iff.1 hok).1)
  simp only [(bM.1 hk).1, hok, Mh k ok hk hok, nb k i FO, nb k j WX, Bool.false_or] at this
  exact this
theorem JN {i j L : Nat} {oi oj : Oper} (hi : ops[i]? = some oi) {eY : List Nat} (h : wO C.P ops eY L i = true) (jC : j ≠ i) : wO C.P ops eY (L ||| 2 ^ j) i = true := by
 unfold wO at h ⊢; rw [hi] at h ⊢
 refine List.all_eq_true.2 fun k hk => ?_
 have := List.all_eq_true.1 h k hk
 simp only [Bool.or_eq_true] at this ⊢
 by_cases WX : k = j
 ·subst WX; exact .inl (.inl (.inr (by rw [dV]; simp)))
 ·rcases this with ((h' | h') | h') | h'
  ·exact .inl (.inl (.inl h'))
  ·exact .inl (.inl (.inr (by rw [dV, h']; rfl)))
  ·exact .inl (.inr h')
  ·right
   cases hok : ops[k]? with
   | none => rfl
   | some ok =>
    rw [hok] at h'
    simp only [Bool.and_eq_true] at h' ⊢
    obtain ⟨⟨⟨g1, g2⟩, g3⟩, g4⟩ := h'
    refine ⟨⟨⟨g1, fN g2 WX⟩, g3⟩, List.all_eq_true.2 fun m hm => ?_⟩
    have := List.all_eq_true.1 g4 m hm
    simp only [Bool.or_eq_true] at this ⊢
    rcases this with (((h'' | h'') | h'') | h'') | h''
    ·exact .inl (.inl (.inl (.inl h'')))
    ·exact .inl (.inl (.inl (.inr h'')))
    ·exact .inl (.inl (.inr (by rw [dV, h'']; rfl)))
    ·exact .inl (.inr h'')
    ·exact .inr h''
theorem yE {M1 : Mem} {b : Nat} {ob : Obj} (h : tX (M1.set b ob)) (hb : M1 b = none) : tX M1 := by
 obtain ⟨N, h⟩ := h
 refine ⟨N, fun c hc => ?_⟩
 by_cases hcb : c = b
 ·subst hcb; exact hb
 ·have := h c hc; simpa [Mem.set, hcb] using this
def TG (Kp : List PanicEntry → Mem → Prop) : Prop := ∀ c M M', Mem.le M M' → Kp c M → Kp c M'
theorem Qb {ρ : Operand → Value} {o : Oper} {M : Mem} {K : Value → Mem → Prop} (hKp : TG Kp) (hc : cls C.P o = .JE) {b : Nat} {ob : Obj} (hb : M b = none) (h : r9 C ρ o M K Kp) :
  r9 C ρ o (M.set b ob) (fun v M' => ∃ M1, M' = M1.set b ob ∧ M1 b = none ∧ K v M1) Kp := by
 unfold r9 at h ⊢
 rw [hc] at h ⊢
 simp only at h ⊢
 rw [sD hb]
 refine iE C.P _ (JI C.P _ h (ku.2 hb)) (fun n M' hn => ?_) (fun v M' hv => ?_)
 ·have := D9 hn
  have conv : ∀ v M2, Fr (single b ob) K v M2 → ∃ M1, M2 = M1.set b ob ∧ M1 b = none ∧ K v M1 := fun v M2 ⟨M1, e, hd, hk⟩ =>
   ⟨M1, by rw [e, sD (ku.1 hd)], ku.1 hd, hk⟩
  cases n <;> first
   | exact this.elim
   | exact conv _ _ this
   | exact aa.mono this conv (fun c M2 ⟨M1, e, hd, hk⟩ => hKp c M1 M2 (by rw [e]; exact fun i x hx => Mem.union_left hx) hk)
 ·obtain ⟨M1, rfl, hd, hk⟩ := hv
  exact hKp _ M1 _ (fun i x hx => Mem.union_left hx) hk
theorem JO {S : Mem → Prop} (hS : wN S) (hKp : TG Kp) {i : Nat} {oi : Oper} (hi : ops[i]? = some oi) (WY : cls C.P oi = .JE) (hsel : ∀ (j : Nat) (o : Oper) cs b, ops[j]? = some o → o.op ≠ .select cs b)
  {eY : List Nat} (ha : om ops eY = true) :
  ∀ (f L : Nat) (env : Nat → Value) (M : Mem), xQ ops.size L = f + 1 → S M → Dn ops L → wO C.P ops eY L i = true → fD ops L i = true →
   (∀ j oj, fD ops L j = true → ops[j]? = some oj → j ≠ i → Ij C.P ops env oj) →
   gm C ops Kp i env M (fun env' M' => S M' ∧ dH C ops S K Kp f (L ||| 2 ^ i) env' M') → dH C ops S K Kp (f + 1) L env M := by
 intro f
 induction f with
 | zero =>
  intro L env M Mk lp hdn hl hr hnew h fh
  refine ⟨fun hno => (by rw [hno i] at hr; cases hr), fun j hj => ?_⟩
  by_cases jC : j = i
  ·subst jC; exact h
  ·exfalso
   obtain ⟨hiL, _, hoi', _⟩ := bM.1 hr
   obtain ⟨JL, oj, jg, _⟩ := bM.1 hj
   have h1 := lH (n := ops.size) (Array.getElem?_eq_some_iff.1 hi).1 hiL
   have h2 := lH (n := ops.size) (L := L ||| 2 ^ i) (Array.getElem?_eq_some_iff.1 jg).1 (by rw [dV, JL]; simp [Ne.symm jC])
   omega
 | succ f ih =>
  intro L env M Mk lp hdn hl hr hnew h fh
  refine ⟨fun hno => (by rw [hno i] at hr; cases hr), fun j hj => ?_⟩
  by_cases jC : j = i
  ·subst jC; exact h
  ·obtain ⟨JL, oj, jg, gS⟩ := bM.1 hj
   obtain ⟨DM, hap, Qc⟩ := Qa hi ha hdn hl hr hj jg jC
   obtain ⟨a1, a2, a3⟩ := Oper.apart_spec hap
   have hsi := fun cs b => hsel i oi cs b hi
   have hsj := fun cs b => hsel j oj cs b jg
   have hj' := fN (i := i) hj jC
   have P3 := fN (i := j) hr (Ne.symm jC)
   have P9 := hdn.add hj
   have hl' := JN (oj := oj) hi hl jC
   have XA : xQ ops.size (L ||| 2 ^ j) = f + 1 := by
    have := lH (n := ops.size) (Array.getElem?_eq_some_iff.1 jg).1 JL; omega
   have Xz : ∀ u, bQ ops oi (bl env oj.dst u) = bQ ops oi env := fun u => eA oi env oj.dst u a3
   have WW : ∀ u, execOp (oU (bl env oj.dst u)) oi = execOp (oU env) oi := fun u => ir oi hsi env oj.dst u a3
   have Mg : ∀ u, bQ ops oj (bl env oi.dst u) = bQ ops oj env := fun u => eA oj env oi.dst u a1
   have hej : ∀ u, execOp (oU (bl env oi.dst u)) oj = execOp (oU env) oj := fun u => ir oj hsj env oi.dst u a1
   have XB : ∀ u k ok, fD ops (L ||| 2 ^ j) k = true → ops[k]? = some ok → k ≠ i → Ij C.P ops (bl env oj.dst u) ok := fun u k ok hk hok FO => by
    have WX : k ≠ j := by rintro rfl; have := (bM.1 hk).1; rw [dV] at this; simp at this
    have hkL : fD ops L k = true := by
     unfold wO at hl; rw [hi] at hl
     have := List.all_eq_true.1 hl k (List.mem_range.2 (Array.getElem?_eq_some_iff.1 hok).1)
     have hkl : L.testBit k = false := by have := (bM.1 hk).1; rw [dV] at this; cases hb : L.testBit k <;> simp_all
     have hka : (eY.getD k 0).testBit i = false := by
      obtain ⟨_, ok', Mi, Mj⟩ := bM.1 hk
      rw [hok] at Mi; cases Mi
      cases hb : (eY.getD k 0).testBit i with
      | false => rfl
      | true => have := ny ha P9 k ok hok Mj i hb; rw [(bM.1 P3).1] at this; cases this
     have TH : Nat.beq k i = false := by cases hb : Nat.beq k i with
      | false => rfl
      | true => exact absurd (Nat.eq_of_beq_eq_true hb) FO
     simp only [hkl, hka, TH, hok, Bool.false_or, Bool.and_eq_true] at this
     exact this.1.1.2
    have hb := Qc k ok hkL hok FO WX
    obtain ⟨b1, _, _⟩ := Oper.apart_spec hb
    have hsk := fun cs b => hsel k ok cs b hok
    intro hw
    rw [eA ok env oj.dst u b1] at hw
    rw [ir ok hsk env oj.dst u b1]
    exact hnew k ok hkL hok FO hw
   unfold gm at h; rw [hi] at h; simp only at h
   show gm C ops Kp j env M _
   unfold gm; rw [jg]; simp only
   have back : ∀ (u : Value) (M1 : Mem), S M1 → ei C ops oi (bl env oj.dst u) M1 (fun env' M' => S M' ∧ dH C ops S K Kp f (L ||| 2 ^ j ||| 2 ^ i) env' M') Kp →
     dH C ops S K Kp (f + 1) (L ||| 2 ^ j) (bl env oj.dst u) M1 := fun u M1 vA hb => by
    refine ih (L ||| 2 ^ j) _ M1 XA vA P9 hl' P3 (XB u) ?_
    unfold gm; rw [hi]; exact hb
   by_cases Ml : bQ ops oj env = true
   ·obtain ⟨ob, kk, hn, hv⟩ := hnew j oj hj jg jC Ml
    refine iG Ml ?_
    unfold r9; rw [DM]; simp only
    refine ⟨ob, kk, hn, fun b hb => ?_⟩
    obtain ⟨v, hvb⟩ := hv b
    refine ⟨v, hvb, hS _ _ (pg hb) lp, back v _ (hS _ _ (pg hb) lp) ?_⟩
    have cont : ∀ u M1, M1 b = none → S M1 → dH C ops S K Kp (f + 1) (L ||| 2 ^ i) (bl env oi.dst u) M1 →
      S (M1.set b ob) ∧ dH C ops S K Kp f (L ||| 2 ^ j ||| 2 ^ i) (bl (bl env oj.dst v) oi.dst u) (M1.set b ob) := fun u M1 wP vA hx => by
     refine ⟨hS _ _ (pg wP) vA, ?_⟩
     have step : ∀ JP : tX M1, S (M1.set b ob) ∧ dH C ops S K Kp f (L ||| 2 ^ i ||| 2 ^ j) (bl (bl env oi.dst u) oj.dst v) (M1.set b ob) := fun JP => by
      have iX := (hx JP).2 j hj'
      unfold gm at iX; rw [jg] at iX; simp only at iX
      unfold ei at iX
      rw [if_pos ((Mg u).trans Ml)] at iX
      unfold r9 at iX; rw [DM] at iX; simp only at iX
      obtain ⟨ob2, kk2, xu, iX⟩ := iX
      rw [hej u, hn] at xu; cases xu
      obtain ⟨v2, Ly, iX⟩ := iX b wP
      rw [hvb] at Ly; cases Ly
      exact iX
     have e : bl (bl env oj.dst v) oi.dst u = bl (bl env oi.dst u) oj.dst v := qB (fun d hd => fun he => a2 d he hd)
     rw [e, tY L j i]
     cases f with
     | zero => exact fun Ed => (step (yE Ed wP)).2 Ed
     | succ f => exact fun Ed => (step (yE Ed wP)).2 Ed
    unfold ei at h ⊢
    rw [Xz v]
    split
    ·rename_i hw; rw [if_pos hw] at h
     have h3 := Qb (ob := ob) hKp WY hb h
     unfold r9 at h3 ⊢
     rw [WW v]
     rw [WY] at h3 ⊢
     simp only at h3 ⊢
     refine iE C.P _ h3 (fun n M' hn' => ?_) (fun _ _ h => h)
     have conv : ∀ u M2, (∃ M1, M2 = M1.set b ob ∧ M1 b = none ∧ S M1 ∧ dH C ops S K Kp (f + 1) (L ||| 2 ^ i) (bl env oi.dst u) M1) →
       S M2 ∧ dH C ops S K Kp f (L ||| 2 ^ j ||| 2 ^ i) (bl (bl env oj.dst v) oi.dst u) M2 := fun u M2 ⟨M1, e, wP, vA, hx⟩ => by
      subst e; exact cont u M1 wP vA hx
     cases n <;> first
      | exact hn'.elim
      | exact conv _ _ hn'
      | exact aa.mono hn' conv (fun _ _ h => h)
    ·rename_i hw; rw [if_neg hw] at h; exact cont _ M hb h.1 h.2
   ·have hwf : bQ ops oj env = false := by simpa using Ml
    refine lG hwf ⟨lp, back undef M lp ?_⟩
    have cont : ∀ u M1, S M1 → dH C ops S K Kp (f + 1) (L ||| 2 ^ i) (bl env oi.dst u) M1 →
      S M1 ∧ dH C ops S K Kp f (L ||| 2 ^ j ||| 2 ^ i) (bl (bl env oj.dst undef) oi.dst u) M1 := fun u M1 vA hx => by
     refine ⟨vA, ?_⟩
     have step : ∀ JP : tX M1, S M1 ∧ dH C ops S K Kp f (L ||| 2 ^ i ||| 2 ^ j) (bl (bl env oi.dst u) oj.dst undef) M1 := fun JP => by
      have iX := (hx JP).2 j hj'
      unfold gm at iX; rw [jg] at iX; simp only at iX
      unfold ei at iX
      rw [if_neg (by rw [Mg u]; exact Ml)] at iX
      exact iX
     have e : bl (bl env oj.dst undef) oi.dst u = bl (bl env oi.dst u) oj.dst undef := qB (fun d hd => fun he => a2 d he hd)
     rw [e, tY L j i]
     cases f with
     | zero => exact fun Ed => (step Ed).2 Ed
     | succ f => exact fun Ed => (step Ed).2 Ed
    unfold ei at h ⊢
    rw [Xz undef]
    split
    ·rename_i hw; rw [if_pos hw] at h
     have h3 := h
     unfold r9 at h3 ⊢
     rw [WW undef]
     rw [WY] at h3 ⊢
     simp only at h3 ⊢
     refine iE C.P _ h3 (fun n M' hn' => ?_) (fun _ _ h => h)
     cases n <;> first
      | exact hn'.elim
      | exact cont _ _ hn'.1 hn'.2
      | exact aa.mono hn' (fun u M2 hx => cont u M2 hx.1 hx.2) (fun _ _ h => h)
    ·rename_i hw; rw [if_neg hw] at h; exact cont _ M h.1 h.2
end
end Go.AF
