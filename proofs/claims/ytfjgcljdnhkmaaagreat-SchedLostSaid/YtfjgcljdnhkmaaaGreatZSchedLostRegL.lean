/- A part of proofs about one program. -/
import Derived.Test.YtfjgcljdnhkmaaaGreatZSchedLostRegB
set_option linter.unusedVariables false
namespace Go.AF
def xp (n L : Nat) : Nat := ((List.range n).filter fun i => !L.testBit i).length
theorem lA {n L i : Nat} (hi : i < n) (hL : L.testBit i = false) : xp n L = xp n (L ||| 2 ^ i) + 1 := by
 unfold xp
 induction n with
 | zero => omega
 | succ n ih =>
  rw [List.range_succ, List.filter_append, List.filter_append, List.length_append, List.length_append]
  by_cases h : i = n
  ·subst h
   have e1 : ((List.range i).filter fun k => !L.testBit k) = (List.range i).filter fun k => !(L ||| 2 ^ i).testBit k := by
    apply List.filter_congr
    intro k hk
    have : i ≠ k := by have := List.mem_range.1 hk; omega
    rw [ej]; simp [this]
   rw [e1]
   simp [hL]
  ·have hin : i < n := by omega
   rw [ih hin]
   have : (L ||| 2 ^ i).testBit n = L.testBit n := by rw [ej]; simp [h]
   simp only [List.filter_cons, List.filter_nil, this]
   omega
def HG (P : Program) (ops : Array Oper) (env : Nat → Value) (o : Oper) : Prop :=
 bR ops o env = true → ∃ (ob : Obj) (k : Nat → Sem Next), B4 P (execOp (oO env) o) = some (ob, k) ∧ ∀ b, ∃ v, bN P (k b) Mem.empty = some (.value v)
def vX (P : Program) (ops : Array Oper) (eX : List Nat) (L i : Nat) : Bool := match ops[i]? with
 | some oi => (List.range ops.size).all fun j => Nat.beq j i || L.testBit j || (eX.getD j 0).testBit i || (match ops[j]? with
  | some oj => (match cls P oj with | .new => true | _ => false) && fA ops L j && oi.apart ops oj && (List.range ops.size).all fun k => Nat.beq k i || Nat.beq k j || L.testBit k || (eX.getD k 0).testBit i || (match ops[k]? with
   | some ok => oj.apart ops ok
   | none => true)
  | none => true)
 | none => false
section
variable {C : Ctx} {ops : Array Oper} {K : (Nat → Value) → Mem → Prop} {Kp : List PanicEntry → Mem → Prop}
theorem O5 {i j L : Nat} {oi oj : Oper} (hi : ops[i]? = some oi) {eX : List Nat} (ha : nU ops eX = true) (hdn : Dn ops L) (h : vX C.P ops eX L i = true) (hr : fA ops L i = true)
  (hj : fA ops L j = true) (iU : ops[j]? = some oj) (jD : j ≠ i) :
  cls C.P oj = .new ∧ oi.apart ops oj = true ∧ ∀ k ok, fA ops L k = true → ops[k]? = some ok → k ≠ i → k ≠ j → oj.apart ops ok = true := by
 obtain ⟨Jg, oj', DD, gJ⟩ := bM.1 hj
 rw [iU] at DD; cases DD
 have Ls : ∀ k ok, fA ops L k = true → ops[k]? = some ok → (eX.getD k 0).testBit i = false := fun k ok hk hok => by
  obtain ⟨_, ok', Lt, Lu⟩ := bM.1 hk
  rw [hok] at Lt; cases Lt
  cases hb : (eX.getD k 0).testBit i with
  | false => rfl
  | true => have := ng ha hdn k ok hok Lu i hb; rw [(bM.1 hr).1] at this; cases this
 have nb : ∀ a b : Nat, a ≠ b → Nat.beq a b = false := fun a b hab => by
  cases hb : Nat.beq a b with
  | false => rfl
  | true => exact absurd (Nat.eq_of_beq_eq_true hb) hab
 unfold vX at h; rw [hi] at h
 have := List.all_eq_true.1 h j (List.mem_range.2 (Array.getElem?_eq_some_iff.1 iU).1)
 simp only [Jg, iU, Ls j oj hj iU, nb j i jD, Bool.false_or, Bool.and_eq_true] at this
 obtain ⟨⟨⟨h1, _⟩, h2⟩, h3⟩ := this
 refine ⟨?_, h2, fun k ok hk hok Fe VU => ?_⟩
 ·revert h1; cases cls C.P oj <;> simp
 ·have := List.all_eq_true.1 h3 k (List.mem_range.2 (Array.getElem?_eq_some_iff.1 hok).1)
  simp only [(bM.1 hk).1, hok, Ls k ok hk hok, nb k i Fe, nb k j VU, Bool.false_or] at this
  exact this
theorem Ji {i j L : Nat} {oi oj : Oper} (hi : ops[i]? = some oi) {eX : List Nat} (h : vX C.P ops eX L i = true) (jD : j ≠ i) : vX C.P ops eX (L ||| 2 ^ j) i = true := by
 unfold vX at h ⊢; rw [hi] at h ⊢
 refine List.all_eq_true.2 fun k hk => ?_
 have := List.all_eq_true.1 h k hk
 simp only [Bool.or_eq_true] at this ⊢
 by_cases VU : k = j
 ·subst VU; exact .inl (.inl (.inr (by rw [ej]; simp)))
 ·rcases this with ((h' | h') | h') | h'
  ·exact .inl (.inl (.inl h'))
  ·exact .inl (.inl (.inr (by rw [ej, h']; rfl)))
  ·exact .inl (.inr h')
  ·right
   cases hok : ops[k]? with
   | none => rfl
   | some ok =>
    rw [hok] at h'
    simp only [Bool.and_eq_true] at h' ⊢
    obtain ⟨⟨⟨g1, g2⟩, g3⟩, g4⟩ := h'
    refine ⟨⟨⟨g1, fI g2 VU⟩, g3⟩, List.all_eq_true.2 fun m hm => ?_⟩
    have := List.all_eq_true.1 g4 m hm
    simp only [Bool.or_eq_true] at this ⊢
    rcases this with (((h'' | h'') | h'') | h'') | h''
    ·exact .inl (.inl (.inl (.inl h'')))
    ·exact .inl (.inl (.inl (.inr h'')))
    ·exact .inl (.inl (.inr (by rw [ej, h'']; rfl)))
    ·exact .inl (.inr h'')
    ·exact .inr h''
theorem xZ {M1 : Mem} {b : Nat} {ob : Obj} (h : tF (M1.set b ob)) (hb : M1 b = none) : tF M1 := by
 obtain ⟨N, h⟩ := h
 refine ⟨N, fun c hc => ?_⟩
 by_cases hcb : c = b
 ·subst hcb; exact hb
 ·have := h c hc; simpa [Mem.set, hcb] using this
def Sy (Kp : List PanicEntry → Mem → Prop) : Prop := ∀ c M M', Mem.le M M' → Kp c M → Kp c M'
theorem O6 {ρ : Operand → Value} {o : Oper} {M : Mem} {K : Value → Mem → Prop} (Zc : Sy Kp) (hc : cls C.P o = .I9) {b : Nat} {ob : Obj} (hb : M b = none) (h : rR C ρ o M K Kp) :
  rR C ρ o (M.set b ob) (fun v M' => ∃ M1, M' = M1.set b ob ∧ M1 b = none ∧ K v M1) Kp := by
 unfold rR at h ⊢
 rw [hc] at h ⊢
 simp only at h ⊢
 rw [sk hb]
 refine ir C.P _ (Jd C.P _ h (j9.2 hb)) (fun n M' hn => ?_) (fun v M' hv => ?_)
 ·have := DB hn
  have conv : ∀ v M2, Fr (single b ob) K v M2 → ∃ M1, M2 = M1.set b ob ∧ M1 b = none ∧ K v M1 := fun v M2 ⟨M1, e, hd, hk⟩ =>
   ⟨M1, by rw [e, sk (j9.1 hd)], j9.1 hd, hk⟩
  cases n <;> first
   | exact this.elim
   | exact conv _ _ this
   | exact ae.mono this conv (fun c M2 ⟨M1, e, hd, hk⟩ => Zc c M1 M2 (by rw [e]; exact fun i x hx => Mem.union_left hx) hk)
 ·obtain ⟨M1, rfl, hd, hk⟩ := hv
  exact Zc _ M1 _ (fun i x hx => Mem.union_left hx) hk
theorem Jj {S : Mem → Prop} (hS : vW S) (Zc : Sy Kp) {i : Nat} {oi : Oper} (hi : ops[i]? = some oi) (VV : cls C.P oi = .I9) (hsel : ∀ (j : Nat) (o : Oper) cs b, ops[j]? = some o → o.op ≠ .select cs b)
  {eX : List Nat} (ha : nU ops eX = true) :
  ∀ (f L : Nat) (env : Nat → Value) (M : Mem), xp ops.size L = f + 1 → S M → Dn ops L → vX C.P ops eX L i = true → fA ops L i = true →
   (∀ j oj, fA ops L j = true → ops[j]? = some oj → j ≠ i → HG C.P ops env oj) →
   fU C ops Kp i env M (fun env' M' => S M' ∧ dK C ops S K Kp f (L ||| 2 ^ i) env' M') → dK C ops S K Kp (f + 1) L env M := by
 intro f
 induction f with
 | zero =>
  intro L env M FG kX hdn hl hr hnew h eS
  refine ⟨fun hno => (by rw [hno i] at hr; cases hr), fun j hj => ?_⟩
  by_cases jD : j = i
  ·subst jD; exact h
  ·exfalso
   obtain ⟨hiL, _, hoi', _⟩ := bM.1 hr
   obtain ⟨Jg, oj, iU, _⟩ := bM.1 hj
   have h1 := lA (n := ops.size) (Array.getElem?_eq_some_iff.1 hi).1 hiL
   have h2 := lA (n := ops.size) (L := L ||| 2 ^ i) (Array.getElem?_eq_some_iff.1 iU).1 (by rw [ej, Jg]; simp [Ne.symm jD])
   omega
 | succ f ih =>
  intro L env M FG kX hdn hl hr hnew h eS
  refine ⟨fun hno => (by rw [hno i] at hr; cases hr), fun j hj => ?_⟩
  by_cases jD : j = i
  ·subst jD; exact h
  ·obtain ⟨Jg, oj, iU, gJ⟩ := bM.1 hj
   obtain ⟨Da, hap, O7⟩ := O5 hi ha hdn hl hr hj iU jD
   obtain ⟨a1, a2, a3⟩ := Oper.apart_spec hap
   have hsi := fun cs b => hsel i oi cs b hi
   have hsj := fun cs b => hsel j oj cs b iU
   have hj' := fI (i := i) hj jD
   have OY := fI (i := j) hr (Ne.symm jD)
   have O4 := hdn.add hj
   have hl' := Ji (oj := oj) hi hl jD
   have WI : xp ops.size (L ||| 2 ^ j) = f + 1 := by
    have := lA (n := ops.size) (Array.getElem?_eq_some_iff.1 iU).1 Jg; omega
   have WH : ∀ u, bR ops oi (bt env oj.dst u) = bR ops oi env := fun u => eH oi env oj.dst u a3
   have VT : ∀ u, execOp (oO (bt env oj.dst u)) oi = execOp (oO env) oi := fun u => g8 oi hsi env oj.dst u a3
   have Lr : ∀ u, bR ops oj (bt env oi.dst u) = bR ops oj env := fun u => eH oj env oi.dst u a1
   have hej : ∀ u, execOp (oO (bt env oi.dst u)) oj = execOp (oO env) oj := fun u => g8 oj hsj env oi.dst u a1
   have WJ : ∀ u k ok, fA ops (L ||| 2 ^ j) k = true → ops[k]? = some ok → k ≠ i → HG C.P ops (bt env oj.dst u) ok := fun u k ok hk hok Fe => by
    have VU : k ≠ j := by rintro rfl; have := (bM.1 hk).1; rw [ej] at this; simp at this
    have hkL : fA ops L k = true := by
     unfold vX at hl; rw [hi] at hl
     have := List.all_eq_true.1 hl k (List.mem_range.2 (Array.getElem?_eq_some_iff.1 hok).1)
     have hkl : L.testBit k = false := by have := (bM.1 hk).1; rw [ej] at this; cases hb : L.testBit k <;> simp_all
     have hka : (eX.getD k 0).testBit i = false := by
      obtain ⟨_, ok', Lt, Lu⟩ := bM.1 hk
      rw [hok] at Lt; cases Lt
      cases hb : (eX.getD k 0).testBit i with
      | false => rfl
      | true => have := ng ha O4 k ok hok Lu i hb; rw [(bM.1 OY).1] at this; cases this
     have Sz : Nat.beq k i = false := by cases hb : Nat.beq k i with
      | false => rfl
      | true => exact absurd (Nat.eq_of_beq_eq_true hb) Fe
     simp only [hkl, hka, Sz, hok, Bool.false_or, Bool.and_eq_true] at this
     exact this.1.1.2
    have hb := O7 k ok hkL hok Fe VU
    obtain ⟨b1, _, _⟩ := Oper.apart_spec hb
    have Zd := fun cs b => hsel k ok cs b hok
    intro hw
    rw [eH ok env oj.dst u b1] at hw
    rw [g8 ok Zd env oj.dst u b1]
    exact hnew k ok hkL hok Fe hw
   unfold fU at h; rw [hi] at h; simp only at h
   show fU C ops Kp j env M _
   unfold fU; rw [iU]; simp only
   have back : ∀ (u : Value) (M1 : Mem), S M1 → eD C ops oi (bt env oj.dst u) M1 (fun env' M' => S M' ∧ dK C ops S K Kp f (L ||| 2 ^ j ||| 2 ^ i) env' M') Kp →
     dK C ops S K Kp (f + 1) (L ||| 2 ^ j) (bt env oj.dst u) M1 := fun u M1 uU hb => by
    refine ih (L ||| 2 ^ j) _ M1 WI uU O4 hl' OY (WJ u) ?_
    unfold fU; rw [hi]; exact hb
   by_cases Lv : bR ops oj env = true
   ·obtain ⟨ob, kk, hn, hv⟩ := hnew j oj hj iU jD Lv
    refine iw Lv ?_
    unfold rR; rw [Da]; simp only
    refine ⟨ob, kk, hn, fun b hb => ?_⟩
    obtain ⟨v, hvb⟩ := hv b
    refine ⟨v, hvb, hS _ _ (oW hb) kX, back v _ (hS _ _ (oW hb) kX) ?_⟩
    have cont : ∀ u M1, M1 b = none → S M1 → dK C ops S K Kp (f + 1) (L ||| 2 ^ i) (bt env oi.dst u) M1 →
      S (M1.set b ob) ∧ dK C ops S K Kp f (L ||| 2 ^ j ||| 2 ^ i) (bt (bt env oj.dst v) oi.dst u) (M1.set b ob) := fun u M1 zD uU hx => by
     refine ⟨hS _ _ (oW zD) uU, ?_⟩
     have step : ∀ Jk : tF M1, S (M1.set b ob) ∧ dK C ops S K Kp f (L ||| 2 ^ i ||| 2 ^ j) (bt (bt env oi.dst u) oj.dst v) (M1.set b ob) := fun Jk => by
      have iM := (hx Jk).2 j hj'
      unfold fU at iM; rw [iU] at iM; simp only at iM
      unfold eD at iM
      rw [if_pos ((Lr u).trans Lv)] at iM
      unfold rR at iM; rw [Da] at iM; simp only at iM
      obtain ⟨ob2, kk2, xX, iM⟩ := iM
      rw [hej u, hn] at xX; cases xX
      obtain ⟨v2, Ff, iM⟩ := iM b zD
      rw [hvb] at Ff; cases Ff
      exact iM
     have e : bt (bt env oj.dst v) oi.dst u = bt (bt env oi.dst u) oj.dst v := qn (fun d hd => fun he => a2 d he hd)
     rw [e, tG L j i]
     cases f with
     | zero => exact fun DF => (step (xZ DF zD)).2 DF
     | succ f => exact fun DF => (step (xZ DF zD)).2 DF
    unfold eD at h ⊢
    rw [WH v]
    split
    ·rename_i hw; rw [if_pos hw] at h
     have h3 := O6 (ob := ob) Zc VV hb h
     unfold rR at h3 ⊢
     rw [VT v]
     rw [VV] at h3 ⊢
     simp only at h3 ⊢
     refine ir C.P _ h3 (fun n M' hn' => ?_) (fun _ _ h => h)
     have conv : ∀ u M2, (∃ M1, M2 = M1.set b ob ∧ M1 b = none ∧ S M1 ∧ dK C ops S K Kp (f + 1) (L ||| 2 ^ i) (bt env oi.dst u) M1) →
       S M2 ∧ dK C ops S K Kp f (L ||| 2 ^ j ||| 2 ^ i) (bt (bt env oj.dst v) oi.dst u) M2 := fun u M2 ⟨M1, e, zD, uU, hx⟩ => by
      subst e; exact cont u M1 zD uU hx
     cases n <;> first
      | exact hn'.elim
      | exact conv _ _ hn'
      | exact ae.mono hn' conv (fun _ _ h => h)
    ·rename_i hw; rw [if_neg hw] at h; exact cont _ M hb h.1 h.2
   ·have hwf : bR ops oj env = false := by simpa using Lv
    refine lz hwf ⟨kX, back undef M kX ?_⟩
    have cont : ∀ u M1, S M1 → dK C ops S K Kp (f + 1) (L ||| 2 ^ i) (bt env oi.dst u) M1 →
      S M1 ∧ dK C ops S K Kp f (L ||| 2 ^ j ||| 2 ^ i) (bt (bt env oj.dst undef) oi.dst u) M1 := fun u M1 uU hx => by
     refine ⟨uU, ?_⟩
     have step : ∀ Jk : tF M1, S M1 ∧ dK C ops S K Kp f (L ||| 2 ^ i ||| 2 ^ j) (bt (bt env oi.dst u) oj.dst undef) M1 := fun Jk => by
      have iM := (hx Jk).2 j hj'
      unfold fU at iM; rw [iU] at iM; simp only at iM
      unfold eD at iM
      rw [if_neg (by rw [Lr u]; exact Lv)] at iM
      exact iM
     have e : bt (bt env oj.dst undef) oi.dst u = bt (bt env oi.dst u) oj.dst undef := qn (fun d hd => fun he => a2 d he hd)
     rw [e, tG L j i]
     cases f with
     | zero => exact fun DF => (step DF).2 DF
     | succ f => exact fun DF => (step DF).2 DF
    unfold eD at h ⊢
    rw [WH undef]
    split
    ·rename_i hw; rw [if_pos hw] at h
     have h3 := h
     unfold rR at h3 ⊢
     rw [VT undef]
     rw [VV] at h3 ⊢
     simp only at h3 ⊢
     refine ir C.P _ h3 (fun n M' hn' => ?_) (fun _ _ h => h)
     cases n <;> first
      | exact hn'.elim
      | exact cont _ _ hn'.1 hn'.2
      | exact ae.mono hn' (fun u M2 hx => cont u M2 hx.1 hx.2) (fun _ _ h => h)
    ·rename_i hw; rw [if_neg hw] at h; exact cont _ M h.1 h.2
end
end Go.AF
