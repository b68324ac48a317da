/- A part of proofs about one program. -/
import Derived.Test.YtnnlgknlialpmaaGreatZReplayToldRegB
set_option linter.unusedVariables false
namespace Go.AF
def BQ (n L : Nat) : Nat := ((List.range n).filter fun i => !L.testBit i).length
theorem ja {n L i : Nat} (hi : i < n) (hL : L.testBit i = false) : BQ n L = BQ n (L ||| 2 ^ i) + 1 := by
 unfold BQ
 induction n with
 | zero => omega
 | succ n ih =>
  rw [List.range_succ, List.filter_append, List.filter_append, List.length_append, List.length_append]
  by_cases h : i = n
  ·subst h
   have e1 : ((List.range i).filter fun k => !L.testBit k) = (List.range i).filter fun k => !(L ||| 2 ^ i).testBit k := by
    apply List.filter_congr
    intro k hk
    have : i ≠ k := by have := List.mem_range.1 hk; omega
    rw [cT]; simp [this]
   rw [e1]
   simp [hL]
  ·have hin : i < n := by omega
   rw [ih hin]
   have : (L ||| 2 ^ i).testBit n = L.testBit n := by rw [cT]; simp [h]
   simp only [List.filter_cons, List.filter_nil, this]
   omega
def DK (P : Program) (ops : Array Oper) (env : Nat → Value) (o : Oper) : Prop :=
 bx ops o env = true → ∃ (ob : Obj) (k : Nat → Sem Next), yz P (execOp (lE env) o) = some (ob, k) ∧ ∀ b, ∃ v, br P (k b) Mem.empty = some (.value v)
def sI (P : Program) (ops : Array Oper) (dF : List Nat) (L i : Nat) : Bool := match ops[i]? with
 | some oi => (List.range ops.size).all fun j => Nat.beq j i || L.testBit j || (dF.getD j 0).testBit i || (match ops[j]? with
  | some oj => (match cls P oj with | .new => true | _ => false) && dS ops L j && oi.apart ops oj && (List.range ops.size).all fun k => Nat.beq k i || Nat.beq k j || L.testBit k || (dF.getD k 0).testBit i || (match ops[k]? with
   | some ok => oj.apart ops ok
   | none => true)
  | none => true)
 | none => false
section
variable {C : Ctx} {ops : Array Oper} {K : (Nat → Value) → Mem → Prop} {Kp : List PanicEntry → Mem → Prop}
theorem JN {i j L : Nat} {oi oj : Oper} (hi : ops[i]? = some oi) {dF : List Nat} (ha : kL ops dF = true) (hdn : Dn ops L) (h : sI C.P ops dF L i = true) (hr : dS ops L i = true)
  (hj : dS ops L j = true) (gy : ops[j]? = some oj) (gR : j ≠ i) :
  cls C.P oj = .new ∧ oi.apart ops oj = true ∧ ∀ k ok, dS ops L k = true → ops[k]? = some ok → k ≠ i → k ≠ j → oj.apart ops ok = true := by
 obtain ⟨EG, oj', z0, gx⟩ := bp.1 hj
 rw [gy] at z0; cases z0
 have GI : ∀ k ok, dS ops L k = true → ops[k]? = some ok → (dF.getD k 0).testBit i = false := fun k ok hk hok => by
  obtain ⟨_, ok', GJ, GK⟩ := bp.1 hk
  rw [hok] at GJ; cases GJ
  cases hb : (dF.getD k 0).testBit i with
  | false => rfl
  | true => have := j6 ha hdn k ok hok GK i hb; rw [(bp.1 hr).1] at this; cases this
 have nb : ∀ a b : Nat, a ≠ b → Nat.beq a b = false := fun a b hab => by
  cases hb : Nat.beq a b with
  | false => rfl
  | true => exact absurd (Nat.eq_of_beq_eq_true hb) hab
 unfold sI at h; rw [hi] at h
 have := List.all_eq_true.1 h j (List.mem_range.2 (Array.getElem?_eq_some_iff.1 gy).1)
 simp only [EG, gy, GI j oj hj gy, nb j i gR, Bool.false_or, Bool.and_eq_true] at this
 obtain ⟨⟨⟨h1, _⟩, h2⟩, h3⟩ := this
 refine ⟨?_, h2, fun k ok hk hok BR Pp => ?_⟩
 ·revert h1; cases cls C.P oj <;> simp
 ·have := List.all_eq_true.1 h3 k (List.mem_range.2 (Array.getElem?_eq_some_iff.1 hok).1)
  simp only [(bp.1 hk).1, hok, GI k ok hk hok, nb k i BR, nb k j Pp, Bool.false_or] at this
  exact this
theorem EI {i j L : Nat} {oi oj : Oper} (hi : ops[i]? = some oi) {dF : List Nat} (h : sI C.P ops dF L i = true) (gR : j ≠ i) : sI C.P ops dF (L ||| 2 ^ j) i = true := by
 unfold sI at h ⊢; rw [hi] at h ⊢
 refine List.all_eq_true.2 fun k hk => ?_
 have := List.all_eq_true.1 h k hk
 simp only [Bool.or_eq_true] at this ⊢
 by_cases Pp : k = j
 ·subst Pp; exact .inl (.inl (.inr (by rw [cT]; simp)))
 ·rcases this with ((h' | h') | h') | h'
  ·exact .inl (.inl (.inl h'))
  ·exact .inl (.inl (.inr (by rw [cT, h']; rfl)))
  ·exact .inl (.inr h')
  ·right
   cases hok : ops[k]? with
   | none => rfl
   | some ok =>
    rw [hok] at h'
    simp only [Bool.and_eq_true] at h' ⊢
    obtain ⟨⟨⟨g1, g2⟩, g3⟩, g4⟩ := h'
    refine ⟨⟨⟨g1, dY g2 Pp⟩, g3⟩, List.all_eq_true.2 fun m hm => ?_⟩
    have := List.all_eq_true.1 g4 m hm
    simp only [Bool.or_eq_true] at this ⊢
    rcases this with (((h'' | h'') | h'') | h'') | h''
    ·exact .inl (.inl (.inl (.inl h'')))
    ·exact .inl (.inl (.inl (.inr h'')))
    ·exact .inl (.inl (.inr (by rw [cT, h'']; rfl)))
    ·exact .inl (.inr h'')
    ·exact .inr h''
theorem uC {M1 : Mem} {b : Nat} {ob : Obj} (h : pP (M1.set b ob)) (hb : M1 b = none) : pP M1 := by
 obtain ⟨N, h⟩ := h
 refine ⟨N, fun c hc => ?_⟩
 by_cases hcb : c = b
 ·subst hcb; exact hb
 ·have := h c hc; simpa [Mem.set, hcb] using this
def MG (Kp : List PanicEntry → Mem → Prop) : Prop := ∀ c M M', Mem.le M M' → Kp c M → Kp c M'
theorem JO {ρ : Operand → Value} {o : Oper} {M : Mem} {K : Value → Mem → Prop} (So : MG Kp) (hc : cls C.P o = .Ez) {b : Nat} {ob : Obj} (hb : M b = none) (h : oe C ρ o M K Kp) :
  oe C ρ o (M.set b ob) (fun v M' => ∃ M1, M' = M1.set b ob ∧ M1 b = none ∧ K v M1) Kp := by
 unfold oe at h ⊢
 rw [hc] at h ⊢
 simp only at h ⊢
 rw [oC hb]
 refine fN C.P _ (ED C.P _ h (ie.2 hb)) (fun n M' hn => ?_) (fun v M' hv => ?_)
 ·have := zY hn
  have conv : ∀ v M2, Fr (single b ob) K v M2 → ∃ M1, M2 = M1.set b ob ∧ M1 b = none ∧ K v M1 := fun v M2 ⟨M1, e, hd, hk⟩ =>
   ⟨M1, by rw [e, oC (ie.1 hd)], ie.1 hd, hk⟩
  cases n <;> first
   | exact this.elim
   | exact conv _ _ this
   | exact aa.mono this conv (fun c M2 ⟨M1, e, hd, hk⟩ => So c M1 M2 (by rw [e]; exact fun i x hx => Mem.union_left hx) hk)
 ·obtain ⟨M1, rfl, hd, hk⟩ := hv
  exact So _ M1 _ (fun i x hx => Mem.union_left hx) hk
theorem EJ {S : Mem → Prop} (hS : sH S) (So : MG Kp) {i : Nat} {oi : Oper} (hi : ops[i]? = some oi) (Pq : cls C.P oi = .Ez) (hsel : ∀ (j : Nat) (o : Oper) cs b, ops[j]? = some o → o.op ≠ .select cs b)
  {dF : List Nat} (ha : kL ops dF = true) :
  ∀ (f L : Nat) (env : Nat → Value) (M : Mem), BQ ops.size L = f + 1 → S M → Dn ops L → sI C.P ops dF L i = true → dS ops L i = true →
   (∀ j oj, dS ops L j = true → ops[j]? = some oj → j ≠ i → DK C.P ops env oj) →
   eE C ops Kp i env M (fun env' M' => S M' ∧ cK C ops S K Kp f (L ||| 2 ^ i) env' M') → cK C ops S K Kp (f + 1) L env M := by
 intro f
 induction f with
 | zero =>
  intro L env M GL iP hdn hl hr hnew h dJ
  refine ⟨fun hno => (by rw [hno i] at hr; cases hr), fun j hj => ?_⟩
  by_cases gR : j = i
  ·subst gR; exact h
  ·exfalso
   obtain ⟨hiL, _, hoi', _⟩ := bp.1 hr
   obtain ⟨EG, oj, gy, _⟩ := bp.1 hj
   have h1 := ja (n := ops.size) (Array.getElem?_eq_some_iff.1 hi).1 hiL
   have h2 := ja (n := ops.size) (L := L ||| 2 ^ i) (Array.getElem?_eq_some_iff.1 gy).1 (by rw [cT, EG]; simp [Ne.symm gR])
   omega
 | succ f ih =>
  intro L env M GL iP hdn hl hr hnew h dJ
  refine ⟨fun hno => (by rw [hno i] at hr; cases hr), fun j hj => ?_⟩
  by_cases gR : j = i
  ·subst gR; exact h
  ·obtain ⟨EG, oj, gy, gx⟩ := bp.1 hj
   obtain ⟨F1, hap, JP⟩ := JN hi ha hdn hl hr hj gy gR
   obtain ⟨a1, a2, a3⟩ := Oper.apart_spec hap
   have hsi := fun cs b => hsel i oi cs b hi
   have hsj := fun cs b => hsel j oj cs b gy
   have hj' := dY (i := i) hj gR
   have JG := dY (i := j) hr (Ne.symm gR)
   have JM := hdn.add hj
   have hl' := EI (oj := oj) hi hl gR
   have P2 : BQ ops.size (L ||| 2 ^ j) = f + 1 := by
    have := ja (n := ops.size) (Array.getElem?_eq_some_iff.1 gy).1 EG; omega
   have PZ : ∀ u, bx ops oi (aT env oj.dst u) = bx ops oi env := fun u => c8 oi env oj.dst u a3
   have Po : ∀ u, execOp (lE (aT env oj.dst u)) oi = execOp (lE env) oi := fun u => fH oi hsi env oj.dst u a3
   have GH : ∀ u, bx ops oj (aT env oi.dst u) = bx ops oj env := fun u => c8 oj env oi.dst u a1
   have hej : ∀ u, execOp (lE (aT env oi.dst u)) oj = execOp (lE env) oj := fun u => fH oj hsj env oi.dst u a1
   have P3 : ∀ u k ok, dS ops (L ||| 2 ^ j) k = true → ops[k]? = some ok → k ≠ i → DK C.P ops (aT env oj.dst u) ok := fun u k ok hk hok BR => by
    have Pp : k ≠ j := by rintro rfl; have := (bp.1 hk).1; rw [cT] at this; simp at this
    have hkL : dS ops L k = true := by
     unfold sI at hl; rw [hi] at hl
     have := List.all_eq_true.1 hl k (List.mem_range.2 (Array.getElem?_eq_some_iff.1 hok).1)
     have hkl : L.testBit k = false := by have := (bp.1 hk).1; rw [cT] at this; cases hb : L.testBit k <;> simp_all
     have hka : (dF.getD k 0).testBit i = false := by
      obtain ⟨_, ok', GJ, GK⟩ := bp.1 hk
      rw [hok] at GJ; cases GJ
      cases hb : (dF.getD k 0).testBit i with
      | false => rfl
      | true => have := j6 ha JM k ok hok GK i hb; rw [(bp.1 JG).1] at this; cases this
     have MH : Nat.beq k i = false := by cases hb : Nat.beq k i with
      | false => rfl
      | true => exact absurd (Nat.eq_of_beq_eq_true hb) BR
     simp only [hkl, hka, MH, hok, Bool.false_or, Bool.and_eq_true] at this
     exact this.1.1.2
    have hb := JP k ok hkL hok BR Pp
    obtain ⟨b1, _, _⟩ := Oper.apart_spec hb
    have hsk := fun cs b => hsel k ok cs b hok
    intro hw
    rw [c8 ok env oj.dst u b1] at hw
    rw [fH ok hsk env oj.dst u b1]
    exact hnew k ok hkL hok BR hw
   unfold eE at h; rw [hi] at h; simp only at h
   show eE C ops Kp j env M _
   unfold eE; rw [gy]; simp only
   have back : ∀ (u : Value) (M1 : Mem), S M1 → cZ C ops oi (aT env oj.dst u) M1 (fun env' M' => S M' ∧ cK C ops S K Kp f (L ||| 2 ^ j ||| 2 ^ i) env' M') Kp →
     cK C ops S K Kp (f + 1) (L ||| 2 ^ j) (aT env oj.dst u) M1 := fun u M1 rF hb => by
    refine ih (L ||| 2 ^ j) _ M1 P2 rF JM hl' JG (P3 u) ?_
    unfold eE; rw [hi]; exact hb
   by_cases GM : bx ops oj env = true
   ·obtain ⟨ob, kk, hn, hv⟩ := hnew j oj hj gy gR GM
    refine fO GM ?_
    unfold oe; rw [F1]; simp only
    refine ⟨ob, kk, hn, fun b hb => ?_⟩
    obtain ⟨v, hvb⟩ := hv b
    refine ⟨v, hvb, hS _ _ (lN hb) iP, back v _ (hS _ _ (lN hb) iP) ?_⟩
    have cont : ∀ u M1, M1 b = none → S M1 → cK C ops S K Kp (f + 1) (L ||| 2 ^ i) (aT env oi.dst u) M1 →
      S (M1.set b ob) ∧ cK C ops S K Kp f (L ||| 2 ^ j ||| 2 ^ i) (aT (aT env oj.dst v) oi.dst u) (M1.set b ob) := fun u M1 wv rF hx => by
     refine ⟨hS _ _ (lN wv) rF, ?_⟩
     have step : ∀ EK : pP M1, S (M1.set b ob) ∧ cK C ops S K Kp f (L ||| 2 ^ i ||| 2 ^ j) (aT (aT env oi.dst u) oj.dst v) (M1.set b ob) := fun EK => by
      have gj := (hx EK).2 j hj'
      unfold eE at gj; rw [gy] at gj; simp only at gj
      unfold cZ at gj
      rw [if_pos ((GH u).trans GM)] at gj
      unfold oe at gj; rw [F1] at gj; simp only at gj
      obtain ⟨ob2, kk2, yE, gj⟩ := gj
      rw [hej u, hn] at yE; cases yE
      obtain ⟨v2, Lr, gj⟩ := gj b wv
      rw [hvb] at Lr; cases Lr
      exact gj
     have e : aT (aT env oj.dst v) oi.dst u = aT (aT env oi.dst u) oj.dst v := mU (fun d hd => fun he => a2 d he hd)
     rw [e, pQ L j i]
     cases f with
     | zero => exact fun pR => (step (uC pR wv)).2 pR
     | succ f => exact fun pR => (step (uC pR wv)).2 pR
    unfold cZ at h ⊢
    rw [PZ v]
    split
    ·rename_i hw; rw [if_pos hw] at h
     have h3 := JO (ob := ob) So Pq hb h
     unfold oe at h3 ⊢
     rw [Po v]
     rw [Pq] at h3 ⊢
     simp only at h3 ⊢
     refine fN C.P _ h3 (fun n M' hn' => ?_) (fun _ _ h => h)
     have conv : ∀ u M2, (∃ M1, M2 = M1.set b ob ∧ M1 b = none ∧ S M1 ∧ cK C ops S K Kp (f + 1) (L ||| 2 ^ i) (aT env oi.dst u) M1) →
       S M2 ∧ cK C ops S K Kp f (L ||| 2 ^ j ||| 2 ^ i) (aT (aT env oj.dst v) oi.dst u) M2 := fun u M2 ⟨M1, e, wv, rF, hx⟩ => by
      subst e; exact cont u M1 wv rF hx
     cases n <;> first
      | exact hn'.elim
      | exact conv _ _ hn'
      | exact aa.mono hn' conv (fun _ _ h => h)
    ·rename_i hw; rw [if_neg hw] at h; exact cont _ M hb h.1 h.2
   ·have hwf : bx ops oj env = false := by simpa using GM
    refine iZ hwf ⟨iP, back undef M iP ?_⟩
    have cont : ∀ u M1, S M1 → cK C ops S K Kp (f + 1) (L ||| 2 ^ i) (aT env oi.dst u) M1 →
      S M1 ∧ cK C ops S K Kp f (L ||| 2 ^ j ||| 2 ^ i) (aT (aT env oj.dst undef) oi.dst u) M1 := fun u M1 rF hx => by
     refine ⟨rF, ?_⟩
     have step : ∀ EK : pP M1, S M1 ∧ cK C ops S K Kp f (L ||| 2 ^ i ||| 2 ^ j) (aT (aT env oi.dst u) oj.dst undef) M1 := fun EK => by
      have gj := (hx EK).2 j hj'
      unfold eE at gj; rw [gy] at gj; simp only at gj
      unfold cZ at gj
      rw [if_neg (by rw [GH u]; exact GM)] at gj
      exact gj
     have e : aT (aT env oj.dst undef) oi.dst u = aT (aT env oi.dst u) oj.dst undef := mU (fun d hd => fun he => a2 d he hd)
     rw [e, pQ L j i]
     cases f with
     | zero => exact fun pR => (step pR).2 pR
     | succ f => exact fun pR => (step pR).2 pR
    unfold cZ at h ⊢
    rw [PZ undef]
    split
    ·rename_i hw; rw [if_pos hw] at h
     have h3 := h
     unfold oe at h3 ⊢
     rw [Po undef]
     rw [Pq] at h3 ⊢
     simp only at h3 ⊢
     refine fN C.P _ h3 (fun n M' hn' => ?_) (fun _ _ h => h)
     cases n <;> first
      | exact hn'.elim
      | exact cont _ _ hn'.1 hn'.2
      | exact aa.mono hn' (fun u M2 hx => cont u M2 hx.1 hx.2) (fun _ _ h => h)
    ·rename_i hw; rw [if_neg hw] at h; exact cont _ M h.1 h.2
end
end Go.AF
