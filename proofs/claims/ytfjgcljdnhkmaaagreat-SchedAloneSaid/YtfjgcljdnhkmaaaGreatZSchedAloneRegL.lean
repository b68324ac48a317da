/- A part of proofs about one program. -/
import Derived.Test.YtfjgcljdnhkmaaaGreatZSchedAloneRegB
set_option linter.unusedVariables false
namespace Go.AF
def uL (n L : Nat) : Nat := ((List.range n).filter fun i => !L.testBit i).length
theorem jE {n L i : Nat} (hi : i < n) (hL : L.testBit i = false) : uL n L = uL n (L ||| 2 ^ i) + 1 := by
 unfold uL
 induction n with
 | zero => omega
 | succ n ih =>
  rw [List.range_succ, List.filter_append, List.filter_append, List.length_append, List.length_append]
  by_cases h : i = n
  ·subst h
   have e1 : ((List.range i).filter fun k => !L.testBit k) = (List.range i).filter fun k => !(L ||| 2 ^ i).testBit k := by
    apply List.filter_congr
    intro k hk
    have : i ≠ k := by have := List.mem_range.1 hk; omega
    rw [dh]; simp [this]
   rw [e1]
   simp [hL]
  ·have hin : i < n := by omega
   rw [ih hin]
   have : (L ||| 2 ^ i).testBit n = L.testBit n := by rw [dh]; simp [h]
   simp only [List.filter_cons, List.filter_nil, this]
   omega
def D3 (P : Program) (ops : Array Oper) (env : Nat → Value) (o : Oper) : Prop :=
 bH ops o env = true → ∃ (ob : Obj) (k : Nat → Sem Next), y8 P (execOp (mL env) o) = some (ob, k) ∧ ∀ b, ∃ v, bC P (k b) Mem.empty = some (.value v)
def tN (P : Program) (ops : Array Oper) (dS : List Nat) (L i : Nat) : Bool := match ops[i]? with
 | some oi => (List.range ops.size).all fun j => Nat.beq j i || L.testBit j || (dS.getD j 0).testBit i || (match ops[j]? with
  | some oj => (match cls P oj with | .new => true | _ => false) && en ops L j && oi.apart ops oj && (List.range ops.size).all fun k => Nat.beq k i || Nat.beq k j || L.testBit k || (dS.getD k 0).testBit i || (match ops[k]? with
   | some ok => oj.apart ops ok
   | none => true)
  | none => true)
 | none => false
section
variable {C : Ctx} {ops : Array Oper} {K : (Nat → Value) → Mem → Prop} {Kp : List PanicEntry → Mem → Prop}
theorem KD {i j L : Nat} {oi oj : Oper} (hi : ops[i]? = some oi) {dS : List Nat} (ha : lV ops dS = true) (hdn : Dn ops L) (h : tN C.P ops dS L i = true) (hr : en ops L i = true)
  (hj : en ops L j = true) (gY : ops[j]? = some oj) (iu : j ≠ i) :
  cls C.P oj = .new ∧ oi.apart ops oj = true ∧ ∀ k ok, en ops L k = true → ops[k]? = some ok → k ≠ i → k ≠ j → oj.apart ops ok = true := by
 obtain ⟨Fc, YZ, Az, gu⟩ := bB.1 hj
 rw [gY] at Az; cases Az
 have Hs : ∀ k ok, en ops L k = true → ops[k]? = some ok → (dS.getD k 0).testBit i = false := fun k ok hk hok => by
  obtain ⟨_, ZU, Ht, Hu⟩ := bB.1 hk
  rw [hok] at Ht; cases Ht
  cases hb : (dS.getD k 0).testBit i with
  | false => rfl
  | true => have := lj ha hdn k ok hok Hu i hb; rw [(bB.1 hr).1] at this; cases this
 have nb : ∀ a b : Nat, a ≠ b → Nat.beq a b = false := fun a b hab => by
  cases hb : Nat.beq a b with
  | false => rfl
  | true => exact absurd (Nat.eq_of_beq_eq_true hb) hab
 unfold tN at h; rw [hi] at h
 have := List.all_eq_true.1 h j (List.mem_range.2 (Array.getElem?_eq_some_iff.1 gY).1)
 simp only [Fc, gY, Hs j oj hj gY, nb j i iu, Bool.false_or, Bool.and_eq_true] at this
 obtain ⟨⟨⟨h1, _⟩, h2⟩, h3⟩ := this
 refine ⟨?_, h2, fun k ok hk hok Cb Qv => ?_⟩
 ·revert h1; cases cls C.P oj <;> simp
 ·have := List.all_eq_true.1 h3 k (List.mem_range.2 (Array.getElem?_eq_some_iff.1 hok).1)
  simp only [(bB.1 hk).1, hok, Hs k ok hk hok, nb k i Cb, nb k j Qv, Bool.false_or] at this
  exact this
theorem Ff {i j L : Nat} {oi oj : Oper} (hi : ops[i]? = some oi) {dS : List Nat} (h : tN C.P ops dS L i = true) (iu : j ≠ i) : tN C.P ops dS (L ||| 2 ^ j) i = true := by
 unfold tN at h ⊢; rw [hi] at h ⊢
 refine List.all_eq_true.2 fun k hk => ?_
 have := List.all_eq_true.1 h k hk
 simp only [Bool.or_eq_true] at this ⊢
 by_cases Qv : k = j
 ·subst Qv; exact .inl (.inl (.inr (by rw [dh]; simp)))
 ·rcases this with ((h' | h') | h') | h'
  ·exact .inl (.inl (.inl h'))
  ·exact .inl (.inl (.inr (by rw [dh, h']; rfl)))
  ·exact .inl (.inr h')
  ·right
   cases hok : ops[k]? with
   | none => rfl
   | some ok =>
    rw [hok] at h'
    simp only [Bool.and_eq_true] at h' ⊢
    obtain ⟨⟨⟨g1, g2⟩, g3⟩, g4⟩ := h'
    refine ⟨⟨⟨g1, eH g2 Qv⟩, g3⟩, List.all_eq_true.2 fun m hm => ?_⟩
    have := List.all_eq_true.1 g4 m hm
    simp only [Bool.or_eq_true] at this ⊢
    rcases this with (((h'' | h'') | h'') | h'') | h''
    ·exact .inl (.inl (.inl (.inl h'')))
    ·exact .inl (.inl (.inl (.inr h'')))
    ·exact .inl (.inl (.inr (by rw [dh, h'']; rfl)))
    ·exact .inl (.inr h'')
    ·exact .inr h''
theorem vk {M1 : Mem} {b : Nat} {ob : Obj} (h : qP (M1.set b ob)) (hb : M1 b = none) : qP M1 := by
 obtain ⟨N, h⟩ := h
 refine ⟨N, fun c hc => ?_⟩
 by_cases hcb : c = b
 ·subst hcb; exact hb
 ·have := h c hc; simpa [Mem.set, hcb] using this
def N2 (Kp : List PanicEntry → Mem → Prop) : Prop := ∀ c M M', Mem.le M M' → Kp c M → Kp c M'
theorem KE {ρ : Operand → Value} {o : Oper} {M : Mem} {K : Value → Mem → Prop} (TA : N2 Kp) (hc : cls C.P o = .E5) {b : Nat} {ob : Obj} (hb : M b = none) (h : pI C ρ o M K Kp) :
  pI C ρ o (M.set b ob) (fun v M' => ∃ M1, M' = M1.set b ob ∧ M1 b = none ∧ K v M1) Kp := by
 unfold pI at h ⊢
 rw [hc] at h ⊢
 simp only at h ⊢
 rw [pQ hb]
 refine gx C.P _ (E9 C.P _ h (iP.2 hb)) (fun n M' hn => ?_) (fun v M' hv => ?_)
 ·have := Ax hn
  have conv : ∀ v M2, Fr (single b ob) K v M2 → ∃ M1, M2 = M1.set b ob ∧ M1 b = none ∧ K v M1 := fun v M2 ⟨M1, e, hd, hk⟩ =>
   ⟨M1, by rw [e, pQ (iP.1 hd)], iP.1 hd, hk⟩
  cases n <;> first
   | exact this.elim
   | exact conv _ _ this
   | exact aa.mono this conv (fun c M2 ⟨M1, e, hd, hk⟩ => TA c M1 M2 (by rw [e]; exact fun i x hx => Mem.union_left hx) hk)
 ·obtain ⟨M1, rfl, hd, hk⟩ := hv
  exact TA _ M1 _ (fun i x hx => Mem.union_left hx) hk
theorem Fg {S : Mem → Prop} (hS : tM S) (TA : N2 Kp) {i : Nat} {oi : Oper} (hi : ops[i]? = some oi) (Qw : cls C.P oi = .E5) (hsel : ∀ (j : Nat) (o : Oper) cs b, ops[j]? = some o → o.op ≠ .select cs b)
  {dS : List Nat} (ha : lV ops dS = true) :
  ∀ (f L : Nat) (env : Nat → Value) (M : Mem), uL ops.size L = f + 1 → S M → Dn ops L → tN C.P ops dS L i = true → en ops L i = true →
   (∀ j oj, en ops L j = true → ops[j]? = some oj → j ≠ i → D3 C.P ops env oj) →
   eX C ops Kp i env M (fun env' M' => S M' ∧ cI C ops S K Kp f (L ||| 2 ^ i) env' M') → cI C ops S K Kp (f + 1) L env M := by
 intro f
 induction f with
 | zero =>
  intro L env M Hv jr hdn hl hr hnew h dV
  refine ⟨fun hno => (by rw [hno i] at hr; cases hr), fun j hj => ?_⟩
  by_cases iu : j = i
  ·subst iu; exact h
  ·exfalso
   obtain ⟨ZV, _, ZW, _⟩ := bB.1 hr
   obtain ⟨Fc, oj, gY, _⟩ := bB.1 hj
   have h1 := jE (n := ops.size) (Array.getElem?_eq_some_iff.1 hi).1 ZV
   have h2 := jE (n := ops.size) (L := L ||| 2 ^ i) (Array.getElem?_eq_some_iff.1 gY).1 (by rw [dh, Fc]; simp [Ne.symm iu])
   omega
 | succ f ih =>
  intro L env M Hv jr hdn hl hr hnew h dV
  refine ⟨fun hno => (by rw [hno i] at hr; cases hr), fun j hj => ?_⟩
  by_cases iu : j = i
  ·subst iu; exact h
  ·obtain ⟨Fc, oj, gY, gu⟩ := bB.1 hj
   obtain ⟨zY, hap, KF⟩ := KD hi ha hdn hl hr hj gY iu
   obtain ⟨a1, a2, a3⟩ := Oper.apart_spec hap
   have hsi := fun cs b => hsel i oi cs b hi
   have hsj := fun cs b => hsel j oj cs b gY
   have hj' := eH (i := i) hj iu
   have G8 := eH (i := j) hr (Ne.symm iu)
   have KC := hdn.add hj
   have hl' := Ff (oj := oj) hi hl iu
   have Rf : uL ops.size (L ||| 2 ^ j) = f + 1 := by
    have := jE (n := ops.size) (Array.getElem?_eq_some_iff.1 gY).1 Fc; omega
   have Re : ∀ u, bH ops oi (aU env oj.dst u) = bH ops oi env := fun u => dH oi env oj.dst u a3
   have Qu : ∀ u, execOp (mL (aU env oj.dst u)) oi = execOp (mL env) oi := fun u => gj oi hsi env oj.dst u a3
   have Hr : ∀ u, bH ops oj (aU env oi.dst u) = bH ops oj env := fun u => dH oj env oi.dst u a1
   have ZX : ∀ u, execOp (mL (aU env oi.dst u)) oj = execOp (mL env) oj := fun u => gj oj hsj env oi.dst u a1
   have Rh : ∀ u k ok, en ops (L ||| 2 ^ j) k = true → ops[k]? = some ok → k ≠ i → D3 C.P ops (aU env oj.dst u) ok := fun u k ok hk hok Cb => by
    have Qv : k ≠ j := by rintro rfl; have := (bB.1 hk).1; rw [dh] at this; simp at this
    have Y1 : en ops L k = true := by
     unfold tN at hl; rw [hi] at hl
     have := List.all_eq_true.1 hl k (List.mem_range.2 (Array.getElem?_eq_some_iff.1 hok).1)
     have ZY : L.testBit k = false := by have := (bB.1 hk).1; rw [dh] at this; cases hb : L.testBit k <;> simp_all
     have hka : (dS.getD k 0).testBit i = false := by
      obtain ⟨_, ZU, Ht, Hu⟩ := bB.1 hk
      rw [hok] at Ht; cases Ht
      cases hb : (dS.getD k 0).testBit i with
      | false => rfl
      | true => have := lj ha KC k ok hok Hu i hb; rw [(bB.1 G8).1] at this; cases this
     have N3 : Nat.beq k i = false := by cases hb : Nat.beq k i with
      | false => rfl
      | true => exact absurd (Nat.eq_of_beq_eq_true hb) Cb
     simp only [ZY, hka, N3, hok, Bool.false_or, Bool.and_eq_true] at this
     exact this.1.1.2
    have hb := KF k ok Y1 hok Cb Qv
    obtain ⟨b1, _, _⟩ := Oper.apart_spec hb
    have TB := fun cs b => hsel k ok cs b hok
    intro hw
    rw [dH ok env oj.dst u b1] at hw
    rw [gj ok TB env oj.dst u b1]
    exact hnew k ok Y1 hok Cb hw
   unfold eX at h; rw [hi] at h; simp only at h
   show eX C ops Kp j env M _
   unfold eX; rw [gY]; simp only
   have back : ∀ (u : Value) (M1 : Mem), S M1 → dw C ops oi (aU env oj.dst u) M1 (fun env' M' => S M' ∧ cI C ops S K Kp f (L ||| 2 ^ j ||| 2 ^ i) env' M') Kp →
     cI C ops S K Kp (f + 1) (L ||| 2 ^ j) (aU env oj.dst u) M1 := fun u M1 sI hb => by
    refine ih (L ||| 2 ^ j) _ M1 Rf sI KC hl' G8 (Rh u) ?_
    unfold eX; rw [hi]; exact hb
   by_cases Hw : bH ops oj env = true
   ·obtain ⟨ob, kk, hn, hv⟩ := hnew j oj hj gY iu Hw
    refine gz Hw ?_
    unfold pI; rw [zY]; simp only
    refine ⟨ob, kk, hn, fun b hb => ?_⟩
    obtain ⟨v, Y3⟩ := hv b
    refine ⟨v, Y3, hS _ _ (mV hb) jr, back v _ (hS _ _ (mV hb) jr) ?_⟩
    have cont : ∀ u M1, M1 b = none → S M1 → cI C ops S K Kp (f + 1) (L ||| 2 ^ i) (aU env oi.dst u) M1 →
      S (M1.set b ob) ∧ cI C ops S K Kp f (L ||| 2 ^ j ||| 2 ^ i) (aU (aU env oj.dst v) oi.dst u) (M1.set b ob) := fun u M1 w4 sI hx => by
     refine ⟨hS _ _ (mV w4) sI, ?_⟩
     have step : ∀ Hx : qP M1, S (M1.set b ob) ∧ cI C ops S K Kp f (L ||| 2 ^ i ||| 2 ^ j) (aU (aU env oi.dst u) oj.dst v) (M1.set b ob) := fun Hx => by
      have gP := (hx Hx).2 j hj'
      unfold eX at gP; rw [gY] at gP; simp only at gP
      unfold dw at gP
      rw [if_pos ((Hr u).trans Hw)] at gP
      unfold pI at gP; rw [zY] at gP; simp only at gP
      obtain ⟨ZS, kk2, vg, gP⟩ := gP
      rw [ZX u, hn] at vg; cases vg
      obtain ⟨v2, MG, gP⟩ := gP b w4
      rw [Y3] at MG; cases MG
      exact gP
     have e : aU (aU env oj.dst v) oi.dst u = aU (aU env oi.dst u) oj.dst v := oh (fun d hd => fun he => a2 d he hd)
     rw [e, qQ L j i]
     cases f with
     | zero => exact fun Cw => (step (vk Cw w4)).2 Cw
     | succ f => exact fun Cw => (step (vk Cw w4)).2 Cw
    unfold dw at h ⊢
    rw [Re v]
    split
    ·rename_i hw; rw [if_pos hw] at h
     have h3 := KE (ob := ob) TA Qw hb h
     unfold pI at h3 ⊢
     rw [Qu v]
     rw [Qw] at h3 ⊢
     simp only at h3 ⊢
     refine gx C.P _ h3 (fun n M' hn' => ?_) (fun _ _ h => h)
     have conv : ∀ u M2, (∃ M1, M2 = M1.set b ob ∧ M1 b = none ∧ S M1 ∧ cI C ops S K Kp (f + 1) (L ||| 2 ^ i) (aU env oi.dst u) M1) →
       S M2 ∧ cI C ops S K Kp f (L ||| 2 ^ j ||| 2 ^ i) (aU (aU env oj.dst v) oi.dst u) M2 := fun u M2 ⟨M1, e, w4, sI, hx⟩ => by
      subst e; exact cont u M1 w4 sI hx
     cases n <;> first
      | exact hn'.elim
      | exact conv _ _ hn'
      | exact aa.mono hn' conv (fun _ _ h => h)
    ·rename_i hw; rw [if_neg hw] at h; exact cont _ M hb h.1 h.2
   ·have hwf : bH ops oj env = false := by simpa using Hw
    refine jD hwf ⟨jr, back undef M jr ?_⟩
    have cont : ∀ u M1, S M1 → cI C ops S K Kp (f + 1) (L ||| 2 ^ i) (aU env oi.dst u) M1 →
      S M1 ∧ cI C ops S K Kp f (L ||| 2 ^ j ||| 2 ^ i) (aU (aU env oj.dst undef) oi.dst u) M1 := fun u M1 sI hx => by
     refine ⟨sI, ?_⟩
     have step : ∀ Hx : qP M1, S M1 ∧ cI C ops S K Kp f (L ||| 2 ^ i ||| 2 ^ j) (aU (aU env oi.dst u) oj.dst undef) M1 := fun Hx => by
      have gP := (hx Hx).2 j hj'
      unfold eX at gP; rw [gY] at gP; simp only at gP
      unfold dw at gP
      rw [if_neg (by rw [Hr u]; exact Hw)] at gP
      exact gP
     have e : aU (aU env oj.dst undef) oi.dst u = aU (aU env oi.dst u) oj.dst undef := oh (fun d hd => fun he => a2 d he hd)
     rw [e, qQ L j i]
     cases f with
     | zero => exact fun Cw => (step Cw).2 Cw
     | succ f => exact fun Cw => (step Cw).2 Cw
    unfold dw at h ⊢
    rw [Re undef]
    split
    ·rename_i hw; rw [if_pos hw] at h
     have h3 := h
     unfold pI at h3 ⊢
     rw [Qu undef]
     rw [Qw] at h3 ⊢
     simp only at h3 ⊢
     refine gx C.P _ h3 (fun n M' hn' => ?_) (fun _ _ h => h)
     cases n <;> first
      | exact hn'.elim
      | exact cont _ _ hn'.1 hn'.2
      | exact aa.mono hn' (fun u M2 hx => cont u M2 hx.1 hx.2) (fun _ _ h => h)
    ·rename_i hw; rw [if_neg hw] at h; exact cont _ M h.1 h.2
end
end Go.AF
