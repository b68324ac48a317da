/- A part of proofs about one program. -/
import Derived.Test.YtnnlgknlialpmaaGreatZFairAnyRegB
set_option linter.unusedVariables false
namespace Go.AF
def xM (n L : Nat) : Nat := ((List.range n).filter fun i => !L.testBit i).length
theorem lC {n L i : Nat} (hi : i < n) (hL : L.testBit i = false) : xM n L = xM n (L ||| 2 ^ i) + 1 := by
 unfold xM
 induction n with
 | zero => omega
 | succ n ih =>
  rw [List.range_succ, List.filter_append, List.filter_append, List.length_append, List.length_append]
  by_cases h : i = n
  ·subst h
   have e1 : ((List.range i).filter fun k => !L.testBit k) = (List.range i).filter fun k => !(L ||| 2 ^ i).testBit k := by
    apply List.filter_congr
    intro k hk
    have : i ≠ k := by have := List.mem_range.1 hk; omega
    rw [dV]; simp [this]
   rw [e1]
   simp [hL]
  ·have hin : i < n := by omega
   rw [ih hin]
   have : (L ||| 2 ^ i).testBit n = L.testBit n := by rw [dV]; simp [h]
   simp only [List.filter_cons, List.filter_nil, this]
   omega
def Ia (P : Program) (ops : Array Oper) (env : Nat → Value) (o : Oper) : Prop :=
 bP ops o env = true → ∃ (ob : Obj) (k : Nat → Sem Next), CE P (execOp (oQ env) o) = some (ob, k) ∧ ∀ b, ∃ v, bK P (k b) Mem.empty = some (.value v)
def wK (P : Program) (ops : Array Oper) (eP : List Nat) (L i : Nat) : Bool := match ops[i]? with
 | some oi => (List.range ops.size).all fun j => Nat.beq j i || L.testBit j || (eP.getD j 0).testBit i || (match ops[j]? with
  | some oj => (match cls P oj with | .new => true | _ => false) && fz ops L j && oi.apart ops oj && (List.range ops.size).all fun k => Nat.beq k i || Nat.beq k j || L.testBit k || (eP.getD k 0).testBit i || (match ops[k]? with
   | some ok => oj.apart ops ok
   | none => true)
  | none => true)
 | none => false
section
variable {C : Ctx} {ops : Array Oper} {K : (Nat → Value) → Mem → Prop} {Kp : List PanicEntry → Mem → Prop}
theorem P3 {i j L : Nat} {oi oj : Oper} (hi : ops[i]? = some oi) {eP : List Nat} (ha : oa ops eP = true) (hdn : Dn ops L) (h : wK C.P ops eP L i = true) (hr : fz ops L i = true)
  (hj : fz ops L j = true) (jd : ops[j]? = some oj) (jA : j ≠ i) :
  cls C.P oj = .new ∧ oi.apart ops oj = true ∧ ∀ k ok, fz ops L k = true → ops[k]? = some ok → k ≠ i → k ≠ j → oj.apart ops ok = true := by
 obtain ⟨JE, oj', D2, gP⟩ := bL.1 hj
 rw [jd] at D2; cases D2
 have Md : ∀ k ok, fz ops L k = true → ops[k]? = some ok → (eP.getD k 0).testBit i = false := fun k ok hk hok => by
  obtain ⟨_, ok', Me, Mf⟩ := bL.1 hk
  rw [hok] at Me; cases Me
  cases hb : (eP.getD k 0).testBit i with
  | false => rfl
  | true => have := nu ha hdn k ok hok Mf i hb; rw [(bL.1 hr).1] at this; cases this
 have nb : ∀ a b : Nat, a ≠ b → Nat.beq a b = false := fun a b hab => by
  cases hb : Nat.beq a b with
  | false => rfl
  | true => exact absurd (Nat.eq_of_beq_eq_true hb) hab
 unfold wK at h; rw [hi] at h
 have := List.all_eq_true.1 h j (List.mem_range.2 (Array.getElem?_eq_some_iff.1 jd).1)
 simp only [JE, jd, Md j oj hj jd, nb j i jA, Bool.false_or, Bool.and_eq_true] at this
 obtain ⟨⟨⟨h1, _⟩, h2⟩, h3⟩ := this
 refine ⟨?_, h2, fun k ok hk hok FE WI => ?_⟩
 ·revert h1; cases cls C.P oj <;> simp
 ·have := List.all_eq_true.1 h3 k (List.mem_range.2 (Array.getElem?_eq_some_iff.1 hok).1)
  simp only [(bL.1 hk).1, hok, Md k ok hk hok, nb k i FE, nb k j WI, Bool.false_or] at this
  exact this
theorem JG {i j L : Nat} {oi oj : Oper} (hi : ops[i]? = some oi) {eP : List Nat} (h : wK C.P ops eP L i = true) (jA : j ≠ i) : wK C.P ops eP (L ||| 2 ^ j) i = true := by
 unfold wK at h ⊢; rw [hi] at h ⊢
 refine List.all_eq_true.2 fun k hk => ?_
 have := List.all_eq_true.1 h k hk
 simp only [Bool.or_eq_true] at this ⊢
 by_cases WI : k = j
 ·subst WI; exact .inl (.inl (.inr (by rw [dV]; simp)))
 ·rcases this with ((h' | h') | h') | h'
  ·exact .inl (.inl (.inl h'))
  ·exact .inl (.inl (.inr (by rw [dV, h']; rfl)))
  ·exact .inl (.inr h')
  ·right
   cases hok : ops[k]? with
   | none => rfl
   | some ok =>
    rw [hok] at h'
    simp only [Bool.and_eq_true] at h' ⊢
    obtain ⟨⟨⟨g1, g2⟩, g3⟩, g4⟩ := h'
    refine ⟨⟨⟨g1, fJ g2 WI⟩, g3⟩, List.all_eq_true.2 fun m hm => ?_⟩
    have := List.all_eq_true.1 g4 m hm
    simp only [Bool.or_eq_true] at this ⊢
    rcases this with (((h'' | h'') | h'') | h'') | h''
    ·exact .inl (.inl (.inl (.inl h'')))
    ·exact .inl (.inl (.inl (.inr h'')))
    ·exact .inl (.inl (.inr (by rw [dV, h'']; rfl)))
    ·exact .inl (.inr h'')
    ·exact .inr h''
theorem yA {M1 : Mem} {b : Nat} {ob : Obj} (h : tS (M1.set b ob)) (hb : M1 b = none) : tS M1 := by
 obtain ⟨N, h⟩ := h
 refine ⟨N, fun c hc => ?_⟩
 by_cases hcb : c = b
 ·subst hcb; exact hb
 ·have := h c hc; simpa [Mem.set, hcb] using this
def Tv (Kp : List PanicEntry → Mem → Prop) : Prop := ∀ c M M', Mem.le M M' → Kp c M → Kp c M'
theorem P4 {ρ : Operand → Value} {o : Oper} {M : Mem} {K : Value → Mem → Prop} (hKp : Tv Kp) (hc : cls C.P o = .Jx) {b : Nat} {ob : Obj} (hb : M b = none) (h : r8 C ρ o M K Kp) :
  r8 C ρ o (M.set b ob) (fun v M' => ∃ M1, M' = M1.set b ob ∧ M1 b = none ∧ K v M1) Kp := by
 unfold r8 at h ⊢
 rw [hc] at h ⊢
 simp only at h ⊢
 rw [sC hb]
 refine iA C.P _ (JB C.P _ h (kq.2 hb)) (fun n M' hn => ?_) (fun v M' hv => ?_)
 ·have := D0 hn
  have conv : ∀ v M2, Fr (single b ob) K v M2 → ∃ M1, M2 = M1.set b ob ∧ M1 b = none ∧ K v M1 := fun v M2 ⟨M1, e, hd, hk⟩ =>
   ⟨M1, by rw [e, sC (kq.1 hd)], kq.1 hd, hk⟩
  cases n <;> first
   | exact this.elim
   | exact conv _ _ this
   | exact aa.mono this conv (fun c M2 ⟨M1, e, hd, hk⟩ => hKp c M1 M2 (by rw [e]; exact fun i x hx => Mem.union_left hx) hk)
 ·obtain ⟨M1, rfl, hd, hk⟩ := hv
  exact hKp _ M1 _ (fun i x hx => Mem.union_left hx) hk
theorem JH {S : Mem → Prop} (hS : wJ S) (hKp : Tv Kp) {i : Nat} {oi : Oper} (hi : ops[i]? = some oi) (WJ : cls C.P oi = .Jx) (hsel : ∀ (j : Nat) (o : Oper) cs b, ops[j]? = some o → o.op ≠ .select cs b)
  {eP : List Nat} (ha : oa ops eP = true) :
  ∀ (f L : Nat) (env : Nat → Value) (M : Mem), xM ops.size L = f + 1 → S M → Dn ops L → wK C.P ops eP L i = true → fz ops L i = true →
   (∀ j oj, fz ops L j = true → ops[j]? = some oj → j ≠ i → Ia C.P ops env oj) →
   gf C ops Kp i env M (fun env' M' => S M' ∧ dH C ops S K Kp f (L ||| 2 ^ i) env' M') → dH C ops S K Kp (f + 1) L env M := by
 intro f
 induction f with
 | zero =>
  intro L env M Mg kY hdn hl hr hnew h eV
  refine ⟨fun hno => (by rw [hno i] at hr; cases hr), fun j hj => ?_⟩
  by_cases jA : j = i
  ·subst jA; exact h
  ·exfalso
   obtain ⟨hiL, _, hoi', _⟩ := bL.1 hr
   obtain ⟨JE, oj, jd, _⟩ := bL.1 hj
   have h1 := lC (n := ops.size) (Array.getElem?_eq_some_iff.1 hi).1 hiL
   have h2 := lC (n := ops.size) (L := L ||| 2 ^ i) (Array.getElem?_eq_some_iff.1 jd).1 (by rw [dV, JE]; simp [Ne.symm jA])
   omega
 | succ f ih =>
  intro L env M Mg kY hdn hl hr hnew h eV
  refine ⟨fun hno => (by rw [hno i] at hr; cases hr), fun j hj => ?_⟩
  by_cases jA : j = i
  ·subst jA; exact h
  ·obtain ⟨JE, oj, jd, gP⟩ := bL.1 hj
   obtain ⟨DD, hap, P5⟩ := P3 hi ha hdn hl hr hj jd jA
   obtain ⟨a1, a2, a3⟩ := Oper.apart_spec hap
   have hsi := fun cs b => hsel i oi cs b hi
   have hsj := fun cs b => hsel j oj cs b jd
   have hj' := fJ (i := i) hj jA
   have PV := fJ (i := j) hr (Ne.symm jA)
   have P2 := hdn.add hj
   have hl' := JG (oj := oj) hi hl jA
   have Xm : xM ops.size (L ||| 2 ^ j) = f + 1 := by
    have := lC (n := ops.size) (Array.getElem?_eq_some_iff.1 jd).1 JE; omega
   have Xl : ∀ u, bP ops oi (bl env oj.dst u) = bP ops oi env := fun u => eu oi env oj.dst u a3
   have WH : ∀ u, execOp (oQ (bl env oj.dst u)) oi = execOp (oQ env) oi := fun u => ig oi hsi env oj.dst u a3
   have Mc : ∀ u, bP ops oj (bl env oi.dst u) = bP ops oj env := fun u => eu oj env oi.dst u a1
   have hej : ∀ u, execOp (oQ (bl env oi.dst u)) oj = execOp (oQ env) oj := fun u => ig oj hsj env oi.dst u a1
   have Xn : ∀ u k ok, fz ops (L ||| 2 ^ j) k = true → ops[k]? = some ok → k ≠ i → Ia C.P ops (bl env oj.dst u) ok := fun u k ok hk hok FE => by
    have WI : k ≠ j := by rintro rfl; have := (bL.1 hk).1; rw [dV] at this; simp at this
    have hkL : fz ops L k = true := by
     unfold wK at hl; rw [hi] at hl
     have := List.all_eq_true.1 hl k (List.mem_range.2 (Array.getElem?_eq_some_iff.1 hok).1)
     have hkl : L.testBit k = false := by have := (bL.1 hk).1; rw [dV] at this; cases hb : L.testBit k <;> simp_all
     have hka : (eP.getD k 0).testBit i = false := by
      obtain ⟨_, ok', Me, Mf⟩ := bL.1 hk
      rw [hok] at Me; cases Me
      cases hb : (eP.getD k 0).testBit i with
      | false => rfl
      | true => have := nu ha P2 k ok hok Mf i hb; rw [(bL.1 PV).1] at this; cases this
     have Tw : Nat.beq k i = false := by cases hb : Nat.beq k i with
      | false => rfl
      | true => exact absurd (Nat.eq_of_beq_eq_true hb) FE
     simp only [hkl, hka, Tw, hok, Bool.false_or, Bool.and_eq_true] at this
     exact this.1.1.2
    have hb := P5 k ok hkL hok FE WI
    obtain ⟨b1, _, _⟩ := Oper.apart_spec hb
    have hsk := fun cs b => hsel k ok cs b hok
    intro hw
    rw [eu ok env oj.dst u b1] at hw
    rw [ig ok hsk env oj.dst u b1]
    exact hnew k ok hkL hok FE hw
   unfold gf at h; rw [hi] at h; simp only at h
   show gf C ops Kp j env M _
   unfold gf; rw [jd]; simp only
   have back : ∀ (u : Value) (M1 : Mem), S M1 → ei C ops oi (bl env oj.dst u) M1 (fun env' M' => S M' ∧ dH C ops S K Kp f (L ||| 2 ^ j ||| 2 ^ i) env' M') Kp →
     dH C ops S K Kp (f + 1) (L ||| 2 ^ j) (bl env oj.dst u) M1 := fun u M1 vr hb => by
    refine ih (L ||| 2 ^ j) _ M1 Xm vr P2 hl' PV (Xn u) ?_
    unfold gf; rw [hi]; exact hb
   by_cases Mh : bP ops oj env = true
   ·obtain ⟨ob, kk, hn, hv⟩ := hnew j oj hj jd jA Mh
    refine iC Mh ?_
    unfold r8; rw [DD]; simp only
    refine ⟨ob, kk, hn, fun b hb => ?_⟩
    obtain ⟨v, hvb⟩ := hv b
    refine ⟨v, hvb, hS _ _ (o5 hb) kY, back v _ (hS _ _ (o5 hb) kY) ?_⟩
    have cont : ∀ u M1, M1 b = none → S M1 → dH C ops S K Kp (f + 1) (L ||| 2 ^ i) (bl env oi.dst u) M1 →
      S (M1.set b ob) ∧ dH C ops S K Kp f (L ||| 2 ^ j ||| 2 ^ i) (bl (bl env oj.dst v) oi.dst u) (M1.set b ob) := fun u M1 wL vr hx => by
     refine ⟨hS _ _ (o5 wL) vr, ?_⟩
     have step : ∀ JI : tS M1, S (M1.set b ob) ∧ dH C ops S K Kp f (L ||| 2 ^ i ||| 2 ^ j) (bl (bl env oi.dst u) oj.dst v) (M1.set b ob) := fun JI => by
      have iT := (hx JI).2 j hj'
      unfold gf at iT; rw [jd] at iT; simp only at iT
      unfold ei at iT
      rw [if_pos ((Mc u).trans Mh)] at iT
      unfold r8 at iT; rw [DD] at iT; simp only at iT
      obtain ⟨ob2, kk2, xl, iT⟩ := iT
      rw [hej u, hn] at xl; cases xl
      obtain ⟨v2, Ls, iT⟩ := iT b wL
      rw [hvb] at Ls; cases Ls
      exact iT
     have e : bl (bl env oj.dst v) oi.dst u = bl (bl env oi.dst u) oj.dst v := qw (fun d hd => fun he => a2 d he hd)
     rw [e, tT L j i]
     cases f with
     | zero => exact fun D4 => (step (yA D4 wL)).2 D4
     | succ f => exact fun D4 => (step (yA D4 wL)).2 D4
    unfold ei at h ⊢
    rw [Xl v]
    split
    ·rename_i hw; rw [if_pos hw] at h
     have h3 := P4 (ob := ob) hKp WJ hb h
     unfold r8 at h3 ⊢
     rw [WH v]
     rw [WJ] at h3 ⊢
     simp only at h3 ⊢
     refine iA C.P _ h3 (fun n M' hn' => ?_) (fun _ _ h => h)
     have conv : ∀ u M2, (∃ M1, M2 = M1.set b ob ∧ M1 b = none ∧ S M1 ∧ dH C ops S K Kp (f + 1) (L ||| 2 ^ i) (bl env oi.dst u) M1) →
       S M2 ∧ dH C ops S K Kp f (L ||| 2 ^ j ||| 2 ^ i) (bl (bl env oj.dst v) oi.dst u) M2 := fun u M2 ⟨M1, e, wL, vr, hx⟩ => by
      subst e; exact cont u M1 wL vr hx
     cases n <;> first
      | exact hn'.elim
      | exact conv _ _ hn'
      | exact aa.mono hn' conv (fun _ _ h => h)
    ·rename_i hw; rw [if_neg hw] at h; exact cont _ M hb h.1 h.2
   ·have hwf : bP ops oj env = false := by simpa using Mh
    refine lB hwf ⟨kY, back undef M kY ?_⟩
    have cont : ∀ u M1, S M1 → dH C ops S K Kp (f + 1) (L ||| 2 ^ i) (bl env oi.dst u) M1 →
      S M1 ∧ dH C ops S K Kp f (L ||| 2 ^ j ||| 2 ^ i) (bl (bl env oj.dst undef) oi.dst u) M1 := fun u M1 vr hx => by
     refine ⟨vr, ?_⟩
     have step : ∀ JI : tS M1, S M1 ∧ dH C ops S K Kp f (L ||| 2 ^ i ||| 2 ^ j) (bl (bl env oi.dst u) oj.dst undef) M1 := fun JI => by
      have iT := (hx JI).2 j hj'
      unfold gf at iT; rw [jd] at iT; simp only at iT
      unfold ei at iT
      rw [if_neg (by rw [Mc u]; exact Mh)] at iT
      exact iT
     have e : bl (bl env oj.dst undef) oi.dst u = bl (bl env oi.dst u) oj.dst undef := qw (fun d hd => fun he => a2 d he hd)
     rw [e, tT L j i]
     cases f with
     | zero => exact fun D4 => (step D4).2 D4
     | succ f => exact fun D4 => (step D4).2 D4
    unfold ei at h ⊢
    rw [Xl undef]
    split
    ·rename_i hw; rw [if_pos hw] at h
     have h3 := h
     unfold r8 at h3 ⊢
     rw [WH undef]
     rw [WJ] at h3 ⊢
     simp only at h3 ⊢
     refine iA C.P _ h3 (fun n M' hn' => ?_) (fun _ _ h => h)
     cases n <;> first
      | exact hn'.elim
      | exact cont _ _ hn'.1 hn'.2
      | exact aa.mono hn' (fun u M2 hx => cont u M2 hx.1 hx.2) (fun _ _ h => h)
    ·rename_i hw; rw [if_neg hw] at h; exact cont _ M h.1 h.2
end
end Go.AF
