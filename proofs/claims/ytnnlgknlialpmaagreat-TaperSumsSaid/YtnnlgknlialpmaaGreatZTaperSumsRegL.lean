/- A part of proofs about one program. -/
import Derived.Test.YtnnlgknlialpmaaGreatZTaperSumsRegB
set_option linter.unusedVariables false
namespace Go.AF
def zI (n L : Nat) : Nat := ((List.range n).filter fun i => !L.testBit i).length
theorem mu {n L i : Nat} (hi : i < n) (hL : L.testBit i = false) : zI n L = zI n (L ||| 2 ^ i) + 1 := by
 unfold zI
 induction n with
 | zero => omega
 | succ n ih =>
  rw [List.range_succ, List.filter_append, List.filter_append, List.length_append, List.length_append]
  by_cases h : i = n
  ·subst h
   have e1 : ((List.range i).filter fun k => !L.testBit k) = (List.range i).filter fun k => !(L ||| 2 ^ i).testBit k := by
    apply List.filter_congr
    intro k hk
    have : i ≠ k := by have := List.mem_range.1 hk; omega
    rw [eL]; simp [this]
   rw [e1]
   simp [hL]
  ·have hin : i < n := by omega
   rw [ih hin]
   have : (L ||| 2 ^ i).testBit n = L.testBit n := by rw [eL]; simp [h]
   simp only [List.filter_cons, List.filter_nil, this]
   omega
def Kt (P : Program) (ops : Array Oper) (env : Nat → Value) (o : Oper) : Prop :=
 bU ops o env = true → ∃ (ob : Obj) (k : Nat → Sem Next), DZ P (execOp (pL env) o) = some (ob, k) ∧ ∀ b, ∃ v, bO P (k b) Mem.empty = some (.value v)
def yy (P : Program) (ops : Array Oper) (fE : List Nat) (L i : Nat) : Bool := match ops[i]? with
 | some oi => (List.range ops.size).all fun j => Nat.beq j i || L.testBit j || (fE.getD j 0).testBit i || (match ops[j]? with
  | some oj => (match cls P oj with | .new => true | _ => false) && fT ops L j && oi.apart ops oj && (List.range ops.size).all fun k => Nat.beq k i || Nat.beq k j || L.testBit k || (fE.getD k 0).testBit i || (match ops[k]? with
   | some ok => oj.apart ops ok
   | none => true)
  | none => true)
 | none => false
section
variable {C : Ctx} {ops : Array Oper} {K : (Nat → Value) → Mem → Prop} {Kp : List PanicEntry → Mem → Prop}
theorem Sv {i j L : Nat} {oi oj : Oper} (hi : ops[i]? = some oi) {fE : List Nat} (ha : oQ ops fE = true) (hdn : Dn ops L) (h : yy C.P ops fE L i = true) (hr : fT ops L i = true)
  (hj : fT ops L j = true) (jx : ops[j]? = some oj) (jZ : j ≠ i) :
  cls C.P oj = .new ∧ oi.apart ops oj = true ∧ ∀ k ok, fT ops L k = true → ops[k]? = some ok → k ≠ i → k ≠ j → oj.apart ops ok = true := by
 obtain ⟨Mb, oj', FH, iL⟩ := bP.1 hj
 rw [jx] at FH; cases FH
 have OG : ∀ k ok, fT ops L k = true → ops[k]? = some ok → (fE.getD k 0).testBit i = false := fun k ok hk hok => by
  obtain ⟨_, ok', OH, OI⟩ := bP.1 hk
  rw [hok] at OH; cases OH
  cases hb : (fE.getD k 0).testBit i with
  | false => rfl
  | true => have := oe ha hdn k ok hok OI i hb; rw [(bP.1 hr).1] at this; cases this
 have nb : ∀ a b : Nat, a ≠ b → Nat.beq a b = false := fun a b hab => by
  cases hb : Nat.beq a b with
  | false => rfl
  | true => exact absurd (Nat.eq_of_beq_eq_true hb) hab
 unfold yy at h; rw [hi] at h
 have := List.all_eq_true.1 h j (List.mem_range.2 (Array.getElem?_eq_some_iff.1 jx).1)
 simp only [Mb, jx, OG j oj hj jx, nb j i jZ, Bool.false_or, Bool.and_eq_true] at this
 obtain ⟨⟨⟨h1, _⟩, h2⟩, h3⟩ := this
 refine ⟨?_, h2, fun k ok hk hok HL Za => ?_⟩
 ·revert h1; cases cls C.P oj <;> simp
 ·have := List.all_eq_true.1 h3 k (List.mem_range.2 (Array.getElem?_eq_some_iff.1 hok).1)
  simp only [(bP.1 hk).1, hok, OG k ok hk hok, nb k i HL, nb k j Za, Bool.false_or] at this
  exact this
theorem Md {i j L : Nat} {oi oj : Oper} (hi : ops[i]? = some oi) {fE : List Nat} (h : yy C.P ops fE L i = true) (jZ : j ≠ i) : yy C.P ops fE (L ||| 2 ^ j) i = true := by
 unfold yy at h ⊢; rw [hi] at h ⊢
 refine List.all_eq_true.2 fun k hk => ?_
 have := List.all_eq_true.1 h k hk
 simp only [Bool.or_eq_true] at this ⊢
 by_cases Za : k = j
 ·subst Za; exact .inl (.inl (.inr (by rw [eL]; simp)))
 ·rcases this with ((h' | h') | h') | h'
  ·exact .inl (.inl (.inl h'))
  ·exact .inl (.inl (.inr (by rw [eL, h']; rfl)))
  ·exact .inl (.inr h')
  ·right
   cases hok : ops[k]? with
   | none => rfl
   | some ok =>
    rw [hok] at h'
    simp only [Bool.and_eq_true] at h' ⊢
    obtain ⟨⟨⟨g1, g2⟩, g3⟩, g4⟩ := h'
    refine ⟨⟨⟨g1, gh g2 Za⟩, g3⟩, List.all_eq_true.2 fun m hm => ?_⟩
    have := List.all_eq_true.1 g4 m hm
    simp only [Bool.or_eq_true] at this ⊢
    rcases this with (((h'' | h'') | h'') | h'') | h''
    ·exact .inl (.inl (.inl (.inl h'')))
    ·exact .inl (.inl (.inl (.inr h'')))
    ·exact .inl (.inl (.inr (by rw [eL, h'']; rfl)))
    ·exact .inl (.inr h'')
    ·exact .inr h''
theorem Am {M1 : Mem} {b : Nat} {ob : Obj} (h : vr (M1.set b ob)) (hb : M1 b = none) : vr M1 := by
 obtain ⟨N, h⟩ := h
 refine ⟨N, fun c hc => ?_⟩
 by_cases hcb : c = b
 ·subst hcb; exact hb
 ·have := h c hc; simpa [Mem.set, hcb] using this
def V3 (Kp : List PanicEntry → Mem → Prop) : Prop := ∀ c M M', Mem.le M M' → Kp c M → Kp c M'
theorem Sw {ρ : Operand → Value} {o : Oper} {M : Mem} {K : Value → Mem → Prop} (hKp : V3 Kp) (hc : cls C.P o = .LU) {b : Nat} {ob : Obj} (hb : M b = none) (h : tN C ρ o M K Kp) :
  tN C ρ o (M.set b ob) (fun v M' => ∃ M1, M' = M1.set b ob ∧ M1 b = none ∧ K v M1) Kp := by
 unfold tN at h ⊢
 rw [hc] at h ⊢
 simp only at h ⊢
 rw [tZ hb]
 refine hU C.P _ (LY C.P _ h (kU.2 hb)) (fun n M' hn => ?_) (fun v M' hv => ?_)
 ·have := FF hn
  have conv : ∀ v M2, Fr (single b ob) K v M2 → ∃ M1, M2 = M1.set b ob ∧ M1 b = none ∧ K v M1 := fun v M2 ⟨M1, e, hd, hk⟩ =>
   ⟨M1, by rw [e, tZ (kU.1 hd)], kU.1 hd, hk⟩
  cases n <;> first
   | exact this.elim
   | exact conv _ _ this
   | exact aa.mono this conv (fun c M2 ⟨M1, e, hd, hk⟩ => hKp c M1 M2 (by rw [e]; exact fun i x hx => Mem.union_left hx) hk)
 ·obtain ⟨M1, rfl, hd, hk⟩ := hv
  exact hKp _ M1 _ (fun i x hx => Mem.union_left hx) hk
theorem Me {S : Mem → Prop} (hS : yx S) (hKp : V3 Kp) {i : Nat} {oi : Oper} (hi : ops[i]? = some oi) (Zb : cls C.P oi = .LU) (hsel : ∀ (j : Nat) (o : Oper) cs b, ops[j]? = some o → o.op ≠ .select cs b)
  {fE : List Nat} (ha : oQ ops fE = true) :
  ∀ (f L : Nat) (env : Nat → Value) (M : Mem), zI ops.size L = f + 1 → S M → Dn ops L → yy C.P ops fE L i = true → fT ops L i = true →
   (∀ j oj, fT ops L j = true → ops[j]? = some oj → j ≠ i → Kt C.P ops env oj) →
   gx C ops Kp i env M (fun env' M' => S M' ∧ dX C ops S K Kp f (L ||| 2 ^ i) env' M') → dX C ops S K Kp (f + 1) L env M := by
 intro f
 induction f with
 | zero =>
  intro L env M OJ lU hdn hl hr hnew h fI
  refine ⟨fun hno => (by rw [hno i] at hr; cases hr), fun j hj => ?_⟩
  by_cases jZ : j = i
  ·subst jZ; exact h
  ·exfalso
   obtain ⟨hiL, _, hoi', _⟩ := bP.1 hr
   obtain ⟨Mb, oj, jx, _⟩ := bP.1 hj
   have h1 := mu (n := ops.size) (Array.getElem?_eq_some_iff.1 hi).1 hiL
   have h2 := mu (n := ops.size) (L := L ||| 2 ^ i) (Array.getElem?_eq_some_iff.1 jx).1 (by rw [eL, Mb]; simp [Ne.symm jZ])
   omega
 | succ f ih =>
  intro L env M OJ lU hdn hl hr hnew h fI
  refine ⟨fun hno => (by rw [hno i] at hr; cases hr), fun j hj => ?_⟩
  by_cases jZ : j = i
  ·subst jZ; exact h
  ·obtain ⟨Mb, oj, jx, iL⟩ := bP.1 hj
   obtain ⟨Fb, hap, Sx⟩ := Sv hi ha hdn hl hr hj jx jZ
   obtain ⟨a1, a2, a3⟩ := Oper.apart_spec hap
   have hsi := fun cs b => hsel i oi cs b hi
   have hsj := fun cs b => hsel j oj cs b jx
   have hj' := gh (i := i) hj jZ
   have Sk := gh (i := j) hr (Ne.symm jZ)
   have Su := hdn.add hj
   have hl' := Md (oj := oj) hi hl jZ
   have ZR : zI ops.size (L ||| 2 ^ j) = f + 1 := by
    have := mu (n := ops.size) (Array.getElem?_eq_some_iff.1 jx).1 Mb; omega
   have ZQ : ∀ u, bU ops oi (bx env oj.dst u) = bU ops oi env := fun u => eZ oi env oj.dst u a3
   have Y9 : ∀ u, execOp (pL (bx env oj.dst u)) oi = execOp (pL env) oi := fun u => iC oi hsi env oj.dst u a3
   have OF : ∀ u, bU ops oj (bx env oi.dst u) = bU ops oj env := fun u => eZ oj env oi.dst u a1
   have hej : ∀ u, execOp (pL (bx env oi.dst u)) oj = execOp (pL env) oj := fun u => iC oj hsj env oi.dst u a1
   have ZS : ∀ u k ok, fT ops (L ||| 2 ^ j) k = true → ops[k]? = some ok → k ≠ i → Kt C.P ops (bx env oj.dst u) ok := fun u k ok hk hok HL => by
    have Za : k ≠ j := by rintro rfl; have := (bP.1 hk).1; rw [eL] at this; simp at this
    have hkL : fT ops L k = true := by
     unfold yy at hl; rw [hi] at hl
     have := List.all_eq_true.1 hl k (List.mem_range.2 (Array.getElem?_eq_some_iff.1 hok).1)
     have hkl : L.testBit k = false := by have := (bP.1 hk).1; rw [eL] at this; cases hb : L.testBit k <;> simp_all
     have hka : (fE.getD k 0).testBit i = false := by
      obtain ⟨_, ok', OH, OI⟩ := bP.1 hk
      rw [hok] at OH; cases OH
      cases hb : (fE.getD k 0).testBit i with
      | false => rfl
      | true => have := oe ha Su k ok hok OI i hb; rw [(bP.1 Sk).1] at this; cases this
     have V4 : Nat.beq k i = false := by cases hb : Nat.beq k i with
      | false => rfl
      | true => exact absurd (Nat.eq_of_beq_eq_true hb) HL
     simp only [hkl, hka, V4, hok, Bool.false_or, Bool.and_eq_true] at this
     exact this.1.1.2
    have hb := Sx k ok hkL hok HL Za
    obtain ⟨b1, _, _⟩ := Oper.apart_spec hb
    have hsk := fun cs b => hsel k ok cs b hok
    intro hw
    rw [eZ ok env oj.dst u b1] at hw
    rw [iC ok hsk env oj.dst u b1]
    exact hnew k ok hkL hok HL hw
   unfold gx at h; rw [hi] at h; simp only at h
   show gx C ops Kp j env M _
   unfold gx; rw [jx]; simp only
   have back : ∀ (u : Value) (M1 : Mem), S M1 → eT C ops oi (bx env oj.dst u) M1 (fun env' M' => S M' ∧ dX C ops S K Kp f (L ||| 2 ^ j ||| 2 ^ i) env' M') Kp →
     dX C ops S K Kp (f + 1) (L ||| 2 ^ j) (bx env oj.dst u) M1 := fun u M1 w5 hb => by
    refine ih (L ||| 2 ^ j) _ M1 ZR w5 Su hl' Sk (ZS u) ?_
    unfold gx; rw [hi]; exact hb
   by_cases OK : bU ops oj env = true
   ·obtain ⟨ob, kk, hn, hv⟩ := hnew j oj hj jx jZ OK
    refine iR OK ?_
    unfold tN; rw [Fb]; simp only
    refine ⟨ob, kk, hn, fun b hb => ?_⟩
    obtain ⟨v, hvb⟩ := hv b
    refine ⟨v, hvb, hS _ _ (pT hb) lU, back v _ (hS _ _ (pT hb) lU) ?_⟩
    have cont : ∀ u M1, M1 b = none → S M1 → dX C ops S K Kp (f + 1) (L ||| 2 ^ i) (bx env oi.dst u) M1 →
      S (M1.set b ob) ∧ dX C ops S K Kp f (L ||| 2 ^ j ||| 2 ^ i) (bx (bx env oj.dst v) oi.dst u) (M1.set b ob) := fun u M1 BV w5 hx => by
     refine ⟨hS _ _ (pT BV) w5, ?_⟩
     have step : ∀ Mf : vr M1, S (M1.set b ob) ∧ dX C ops S K Kp f (L ||| 2 ^ i ||| 2 ^ j) (bx (bx env oi.dst u) oj.dst v) (M1.set b ob) := fun Mf => by
      have jm := (hx Mf).2 j hj'
      unfold gx at jm; rw [jx] at jm; simp only at jm
      unfold eT at jm
      rw [if_pos ((OF u).trans OK)] at jm
      unfold tN at jm; rw [Fb] at jm; simp only at jm
      obtain ⟨ob2, kk2, BU, jm⟩ := jm
      rw [hej u, hn] at BU; cases BU
      obtain ⟨v2, HM, jm⟩ := jm b BV
      rw [hvb] at HM; cases HM
      exact jm
     have e : bx (bx env oj.dst v) oi.dst u = bx (bx env oi.dst u) oj.dst v := rE (fun d hd => fun he => a2 d he hd)
     rw [e, vt L j i]
     cases f with
     | zero => exact fun FJ => (step (Am FJ BV)).2 FJ
     | succ f => exact fun FJ => (step (Am FJ BV)).2 FJ
    unfold eT at h ⊢
    rw [ZQ v]
    split
    ·rename_i hw; rw [if_pos hw] at h
     have h3 := Sw (ob := ob) hKp Zb hb h
     unfold tN at h3 ⊢
     rw [Y9 v]
     rw [Zb] at h3 ⊢
     simp only at h3 ⊢
     refine hU C.P _ h3 (fun n M' hn' => ?_) (fun _ _ h => h)
     have conv : ∀ u M2, (∃ M1, M2 = M1.set b ob ∧ M1 b = none ∧ S M1 ∧ dX C ops S K Kp (f + 1) (L ||| 2 ^ i) (bx env oi.dst u) M1) →
       S M2 ∧ dX C ops S K Kp f (L ||| 2 ^ j ||| 2 ^ i) (bx (bx env oj.dst v) oi.dst u) M2 := fun u M2 ⟨M1, e, BV, w5, hx⟩ => by
      subst e; exact cont u M1 BV w5 hx
     cases n <;> first
      | exact hn'.elim
      | exact conv _ _ hn'
      | exact aa.mono hn' conv (fun _ _ h => h)
    ·rename_i hw; rw [if_neg hw] at h; exact cont _ M hb h.1 h.2
   ·have hwf : bU ops oj env = false := by simpa using OK
    refine mq hwf ⟨lU, back undef M lU ?_⟩
    have cont : ∀ u M1, S M1 → dX C ops S K Kp (f + 1) (L ||| 2 ^ i) (bx env oi.dst u) M1 →
      S M1 ∧ dX C ops S K Kp f (L ||| 2 ^ j ||| 2 ^ i) (bx (bx env oj.dst undef) oi.dst u) M1 := fun u M1 w5 hx => by
     refine ⟨w5, ?_⟩
     have step : ∀ Mf : vr M1, S M1 ∧ dX C ops S K Kp f (L ||| 2 ^ i ||| 2 ^ j) (bx (bx env oi.dst u) oj.dst undef) M1 := fun Mf => by
      have jm := (hx Mf).2 j hj'
      unfold gx at jm; rw [jx] at jm; simp only at jm
      unfold eT at jm
      rw [if_neg (by rw [OF u]; exact OK)] at jm
      exact jm
     have e : bx (bx env oj.dst undef) oi.dst u = bx (bx env oi.dst u) oj.dst undef := rE (fun d hd => fun he => a2 d he hd)
     rw [e, vt L j i]
     cases f with
     | zero => exact fun FJ => (step FJ).2 FJ
     | succ f => exact fun FJ => (step FJ).2 FJ
    unfold eT at h ⊢
    rw [ZQ undef]
    split
    ·rename_i hw; rw [if_pos hw] at h
     have h3 := h
     unfold tN at h3 ⊢
     rw [Y9 undef]
     rw [Zb] at h3 ⊢
     simp only at h3 ⊢
     refine hU C.P _ h3 (fun n M' hn' => ?_) (fun _ _ h => h)
     cases n <;> first
      | exact hn'.elim
      | exact cont _ _ hn'.1 hn'.2
      | exact aa.mono hn' (fun u M2 hx => cont u M2 hx.1 hx.2) (fun _ _ h => h)
    ·rename_i hw; rw [if_neg hw] at h; exact cont _ M h.1 h.2
end
end Go.AF
