/- A part of proofs about one program. -/
import Derived.Test.YtfjgcljdnhkmaaaGreatZWorldEndsRegB
set_option linter.unusedVariables false
namespace Go.AF
def Aq (n L : Nat) : Nat := ((List.range n).filter fun i => !L.testBit i).length
theorem mT {n L i : Nat} (hi : i < n) (hL : L.testBit i = false) : Aq n L = Aq n (L ||| 2 ^ i) + 1 := by
 unfold Aq
 induction n with
 | zero => omega
 | succ n ih =>
  rw [List.range_succ, List.filter_append, List.filter_append, List.length_append, List.length_append]
  by_cases h : i = n
  ·subst h
   have e1 : ((List.range i).filter fun k => !L.testBit k) = (List.range i).filter fun k => !(L ||| 2 ^ i).testBit k := by
    apply List.filter_congr
    intro k hk
    have : i ≠ k := by have := List.mem_range.1 hk; omega
    rw [fk]; simp [this]
   rw [e1]
   simp [hL]
  ·have hin : i < n := by omega
   rw [ih hin]
   have : (L ||| 2 ^ i).testBit n = L.testBit n := by rw [fk]; simp [h]
   simp only [List.filter_cons, List.filter_nil, this]
   omega
def NA (P : Program) (ops : Array Oper) (env : Nat → Value) (o : Oper) : Prop :=
 ck ops o env = true → ∃ (ob : Obj) (k : Nat → Sem Next), EZ P (execOp (qG env) o) = some (ob, k) ∧ ∀ b, ∃ v, bZ P (k b) Mem.empty = some (.value v)
def zj (P : Program) (ops : Array Oper) (fU : List Nat) (L i : Nat) : Bool := match ops[i]? with
 | some oi => (List.range ops.size).all fun j => Nat.beq j i || L.testBit j || (fU.getD j 0).testBit i || (match ops[j]? with
  | some oj => (match cls P oj with | .new => true | _ => false) && gp ops L j && oi.apart ops oj && (List.range ops.size).all fun k => Nat.beq k i || Nat.beq k j || L.testBit k || (fU.getD k 0).testBit i || (match ops[k]? with
   | some ok => oj.apart ops ok
   | none => true)
  | none => true)
 | none => false
section
variable {C : Ctx} {ops : Array Oper} {K : (Nat → Value) → Mem → Prop} {Kp : List PanicEntry → Mem → Prop}
theorem Wb {i j L : Nat} {oi oj : Oper} (hi : ops[i]? = some oi) {fU : List Nat} (ha : pV ops fU = true) (hdn : Dn ops L) (h : zj C.P ops fU L i = true) (hr : gp ops L i = true)
  (hj : gp ops L j = true) (kn : ops[j]? = some oj) (kq : j ≠ i) :
  cls C.P oj = .new ∧ oi.apart ops oj = true ∧ ∀ k ok, gp ops L k = true → ops[k]? = some ok → k ≠ i → k ≠ j → oj.apart ops ok = true := by
 obtain ⟨OM, oj', Hz, ig⟩ := bX.1 hj
 rw [kn] at Hz; cases Hz
 have Ro : ∀ k ok, gp ops L k = true → ops[k]? = some ok → (fU.getD k 0).testBit i = false := fun k ok hk hok => by
  obtain ⟨_, ok', Rp, Rq⟩ := bX.1 hk
  rw [hok] at Rp; cases Rp
  cases hb : (fU.getD k 0).testBit i with
  | false => rfl
  | true => have := oW ha hdn k ok hok Rq i hb; rw [(bX.1 hr).1] at this; cases this
 have nb : ∀ a b : Nat, a ≠ b → Nat.beq a b = false := fun a b hab => by
  cases hb : Nat.beq a b with
  | false => rfl
  | true => exact absurd (Nat.eq_of_beq_eq_true hb) hab
 unfold zj at h; rw [hi] at h
 have := List.all_eq_true.1 h j (List.mem_range.2 (Array.getElem?_eq_some_iff.1 kn).1)
 simp only [OM, kn, Ro j oj hj kn, nb j i kq, Bool.false_or, Bool.and_eq_true] at this
 obtain ⟨⟨⟨h1, _⟩, h2⟩, h3⟩ := this
 refine ⟨?_, h2, fun k ok hk hok JS hkj => ?_⟩
 ·revert h1; cases cls C.P oj <;> simp
 ·have := List.all_eq_true.1 h3 k (List.mem_range.2 (Array.getElem?_eq_some_iff.1 hok).1)
  simp only [(bX.1 hk).1, hok, Ro k ok hk hok, nb k i JS, nb k j hkj, Bool.false_or] at this
  exact this
theorem OO {i j L : Nat} {oi oj : Oper} (hi : ops[i]? = some oi) {fU : List Nat} (h : zj C.P ops fU L i = true) (kq : j ≠ i) : zj C.P ops fU (L ||| 2 ^ j) i = true := by
 unfold zj at h ⊢; rw [hi] at h ⊢
 refine List.all_eq_true.2 fun k hk => ?_
 have := List.all_eq_true.1 h k hk
 simp only [Bool.or_eq_true] at this ⊢
 by_cases hkj : k = j
 ·subst hkj; exact .inl (.inl (.inr (by rw [fk]; simp)))
 ·rcases this with ((h' | h') | h') | h'
  ·exact .inl (.inl (.inl h'))
  ·exact .inl (.inl (.inr (by rw [fk, h']; rfl)))
  ·exact .inl (.inr h')
  ·right
   cases hok : ops[k]? with
   | none => rfl
   | some ok =>
    rw [hok] at h'
    simp only [Bool.and_eq_true] at h' ⊢
    obtain ⟨⟨⟨g1, g2⟩, g3⟩, g4⟩ := h'
    refine ⟨⟨⟨g1, gE g2 hkj⟩, g3⟩, List.all_eq_true.2 fun m hm => ?_⟩
    have := List.all_eq_true.1 g4 m hm
    simp only [Bool.or_eq_true] at this ⊢
    rcases this with (((h'' | h'') | h'') | h'') | h''
    ·exact .inl (.inl (.inl (.inl h'')))
    ·exact .inl (.inl (.inl (.inr h'')))
    ·exact .inl (.inl (.inr (by rw [fk, h'']; rfl)))
    ·exact .inl (.inr h'')
    ·exact .inr h''
theorem Bd {M1 : Mem} {b : Nat} {ob : Obj} (h : wF (M1.set b ob)) (hb : M1 b = none) : wF M1 := by
 obtain ⟨N, h⟩ := h
 refine ⟨N, fun c hc => ?_⟩
 by_cases hcb : c = b
 ·subst hcb; exact hb
 ·have := h c hc; simpa [Mem.set, hcb] using this
def ZV (Kp : List PanicEntry → Mem → Prop) : Prop := ∀ c M M', Mem.le M M' → Kp c M → Kp c M'
theorem Wc {ρ : Operand → Value} {o : Oper} {M : Mem} {K : Value → Mem → Prop} (hKp : ZV Kp) (hc : cls C.P o = .OE) {b : Nat} {ob : Obj} (hb : M b = none) (h : uX C ρ o M K Kp) :
  uX C ρ o (M.set b ob) (fun v M' => ∃ M1, M' = M1.set b ob ∧ M1 b = none ∧ K v M1) Kp := by
 unfold uX at h ⊢
 rw [hc] at h ⊢
 simp only at h ⊢
 rw [vg hb]
 refine jH C.P _ (OI C.P _ h (lQ.2 hb)) (fun n M' hn => ?_) (fun v M' hv => ?_)
 ·have := Hx hn
  have conv : ∀ v M2, Fr (single b ob) K v M2 → ∃ M1, M2 = M1.set b ob ∧ M1 b = none ∧ K v M1 := fun v M2 ⟨M1, e, hd, hk⟩ =>
   ⟨M1, by rw [e, vg (lQ.1 hd)], lQ.1 hd, hk⟩
  cases n <;> first
   | exact this.elim
   | exact conv _ _ this
   | exact ae.mono this conv (fun c M2 ⟨M1, e, hd, hk⟩ => hKp c M1 M2 (by rw [e]; exact fun i x hx => Mem.union_left hx) hk)
 ·obtain ⟨M1, rfl, hd, hk⟩ := hv
  exact hKp _ M1 _ (fun i x hx => Mem.union_left hx) hk
theorem OP {S : Mem → Prop} (hS : zi S) (hKp : ZV Kp) {i : Nat} {oi : Oper} (hi : ops[i]? = some oi) (hci : cls C.P oi = .OE) (hsel : ∀ (j : Nat) (o : Oper) cs b, ops[j]? = some o → o.op ≠ .select cs b)
  {fU : List Nat} (ha : pV ops fU = true) :
  ∀ (f L : Nat) (env : Nat → Value) (M : Mem), Aq ops.size L = f + 1 → S M → Dn ops L → zj C.P ops fU L i = true → gp ops L i = true →
   (∀ j oj, gp ops L j = true → ops[j]? = some oj → j ≠ i → NA C.P ops env oj) →
   gO C ops Kp i env M (fun env' M' => S M' ∧ eP C ops S K Kp f (L ||| 2 ^ i) env' M') → eP C ops S K Kp (f + 1) L env M := by
 intro f
 induction f with
 | zero =>
  intro L env M Rr mI hdn hl hr hnew h fX
  refine ⟨fun hno => (by rw [hno i] at hr; cases hr), fun j hj => ?_⟩
  by_cases kq : j = i
  ·subst kq; exact h
  ·exfalso
   obtain ⟨hiL, _, hoi', _⟩ := bX.1 hr
   obtain ⟨OM, oj, kn, _⟩ := bX.1 hj
   have h1 := mT (n := ops.size) (Array.getElem?_eq_some_iff.1 hi).1 hiL
   have h2 := mT (n := ops.size) (L := L ||| 2 ^ i) (Array.getElem?_eq_some_iff.1 kn).1 (by rw [fk, OM]; simp [Ne.symm kq])
   omega
 | succ f ih =>
  intro L env M Rr mI hdn hl hr hnew h fX
  refine ⟨fun hno => (by rw [hno i] at hr; cases hr), fun j hj => ?_⟩
  by_cases kq : j = i
  ·subst kq; exact h
  ·obtain ⟨OM, oj, kn, ig⟩ := bX.1 hj
   obtain ⟨wH, hap, We⟩ := Wb hi ha hdn hl hr hj kn kq
   obtain ⟨a1, a2, a3⟩ := Oper.apart_spec hap
   have hsi := fun cs b => hsel i oi cs b hi
   have hsj := fun cs b => hsel j oj cs b kn
   have hj' := gE (i := i) hj kq
   have Hl := gE (i := j) hr (Ne.symm kq)
   have V9 := hdn.add hj
   have hl' := OO (oj := oj) hi hl kq
   have hcnt' : Aq ops.size (L ||| 2 ^ j) = f + 1 := by
    have := mT (n := ops.size) (Array.getElem?_eq_some_iff.1 kn).1 OM; omega
   have hwi : ∀ u, ck ops oi (bG env oj.dst u) = ck ops oi env := fun u => fG oi env oj.dst u a3
   have hei : ∀ u, execOp (qG (bG env oj.dst u)) oi = execOp (qG env) oi := fun u => js oi hsi env oj.dst u a3
   have Rm : ∀ u, ck ops oj (bG env oi.dst u) = ck ops oj env := fun u => fG oj env oi.dst u a1
   have hej : ∀ u, execOp (qG (bG env oi.dst u)) oj = execOp (qG env) oj := fun u => js oj hsj env oi.dst u a1
   have hnew' : ∀ u k ok, gp ops (L ||| 2 ^ j) k = true → ops[k]? = some ok → k ≠ i → NA C.P ops (bG env oj.dst u) ok := fun u k ok hk hok JS => by
    have hkj : k ≠ j := by rintro rfl; have := (bX.1 hk).1; rw [fk] at this; simp at this
    have hkL : gp ops L k = true := by
     unfold zj at hl; rw [hi] at hl
     have := List.all_eq_true.1 hl k (List.mem_range.2 (Array.getElem?_eq_some_iff.1 hok).1)
     have hkl : L.testBit k = false := by have := (bX.1 hk).1; rw [fk] at this; cases hb : L.testBit k <;> simp_all
     have hka : (fU.getD k 0).testBit i = false := by
      obtain ⟨_, ok', Rp, Rq⟩ := bX.1 hk
      rw [hok] at Rp; cases Rp
      cases hb : (fU.getD k 0).testBit i with
      | false => rfl
      | true => have := oW ha V9 k ok hok Rq i hb; rw [(bX.1 Hl).1] at this; cases this
     have ZW : Nat.beq k i = false := by cases hb : Nat.beq k i with
      | false => rfl
      | true => exact absurd (Nat.eq_of_beq_eq_true hb) JS
     simp only [hkl, hka, ZW, hok, Bool.false_or, Bool.and_eq_true] at this
     exact this.1.1.2
    have hb := We k ok hkL hok JS hkj
    obtain ⟨b1, _, _⟩ := Oper.apart_spec hb
    have hsk := fun cs b => hsel k ok cs b hok
    intro hw
    rw [fG ok env oj.dst u b1] at hw
    rw [js ok hsk env oj.dst u b1]
    exact hnew k ok hkL hok JS hw
   unfold gO at h; rw [hi] at h; simp only at h
   show gO C ops Kp j env M _
   unfold gO; rw [kn]; simp only
   have back : ∀ (u : Value) (M1 : Mem), S M1 → fA C ops oi (bG env oj.dst u) M1 (fun env' M' => S M' ∧ eP C ops S K Kp f (L ||| 2 ^ j ||| 2 ^ i) env' M') Kp →
     eP C ops S K Kp (f + 1) (L ||| 2 ^ j) (bG env oj.dst u) M1 := fun u M1 vl hb => by
    refine ih (L ||| 2 ^ j) _ M1 hcnt' vl V9 hl' Hl (hnew' u) ?_
    unfold gO; rw [hi]; exact hb
   by_cases Rs : ck ops oj env = true
   ·obtain ⟨ob, kk, hn, hv⟩ := hnew j oj hj kn kq Rs
    refine jI Rs ?_
    unfold uX; rw [wH]; simp only
    refine ⟨ob, kk, hn, fun b hb => ?_⟩
    obtain ⟨v, hvb⟩ := hv b
    refine ⟨v, hvb, hS _ _ (qP hb) mI, back v _ (hS _ _ (qP hb) mI) ?_⟩
    have cont : ∀ u M1, M1 b = none → S M1 → eP C ops S K Kp (f + 1) (L ||| 2 ^ i) (bG env oi.dst u) M1 →
      S (M1.set b ob) ∧ eP C ops S K Kp f (L ||| 2 ^ j ||| 2 ^ i) (bG (bG env oj.dst v) oi.dst u) (M1.set b ob) := fun u M1 kW vl hx => by
     refine ⟨hS _ _ (qP kW) vl, ?_⟩
     have step : ∀ HB : wF M1, S (M1.set b ob) ∧ eP C ops S K Kp f (L ||| 2 ^ i ||| 2 ^ j) (bG (bG env oi.dst u) oj.dst v) (M1.set b ob) := fun HB => by
      have j6 := (hx HB).2 j hj'
      unfold gO at j6; rw [kn] at j6; simp only at j6
      unfold fA at j6
      rw [if_pos ((Rm u).trans Rs)] at j6
      unfold uX at j6; rw [wH] at j6; simp only at j6
      obtain ⟨ob2, kk2, td, j6⟩ := j6
      rw [hej u, hn] at td; cases td
      obtain ⟨v2, hv2, j6⟩ := j6 b kW
      rw [hvb] at hv2; cases hv2
      exact j6
     have e : bG (bG env oj.dst v) oi.dst u = bG (bG env oi.dst u) oj.dst v := ta (fun d hd => fun he => a2 d he hd)
     rw [e, wG L j i]
     cases f with
     | zero => exact fun HC => (step (Bd HC kW)).2 HC
     | succ f => exact fun HC => (step (Bd HC kW)).2 HC
    unfold fA at h ⊢
    rw [hwi v]
    split
    ·rename_i hw; rw [if_pos hw] at h
     have h3 := Wc (ob := ob) hKp hci hb h
     unfold uX at h3 ⊢
     rw [hei v]
     rw [hci] at h3 ⊢
     simp only at h3 ⊢
     refine jH C.P _ h3 (fun n M' hn' => ?_) (fun _ _ h => h)
     have conv : ∀ u M2, (∃ M1, M2 = M1.set b ob ∧ M1 b = none ∧ S M1 ∧ eP C ops S K Kp (f + 1) (L ||| 2 ^ i) (bG env oi.dst u) M1) →
       S M2 ∧ eP C ops S K Kp f (L ||| 2 ^ j ||| 2 ^ i) (bG (bG env oj.dst v) oi.dst u) M2 := fun u M2 ⟨M1, e, kW, vl, hx⟩ => by
      subst e; exact cont u M1 kW vl hx
     cases n <;> first
      | exact hn'.elim
      | exact conv _ _ hn'
      | exact ae.mono hn' conv (fun _ _ h => h)
    ·rename_i hw; rw [if_neg hw] at h; exact cont _ M hb h.1 h.2
   ·have hwf : ck ops oj env = false := by simpa using Rs
    refine mS hwf ⟨mI, back undef M mI ?_⟩
    have cont : ∀ u M1, S M1 → eP C ops S K Kp (f + 1) (L ||| 2 ^ i) (bG env oi.dst u) M1 →
      S M1 ∧ eP C ops S K Kp f (L ||| 2 ^ j ||| 2 ^ i) (bG (bG env oj.dst undef) oi.dst u) M1 := fun u M1 vl hx => by
     refine ⟨vl, ?_⟩
     have step : ∀ HB : wF M1, S M1 ∧ eP C ops S K Kp f (L ||| 2 ^ i ||| 2 ^ j) (bG (bG env oi.dst u) oj.dst undef) M1 := fun HB => by
      have j6 := (hx HB).2 j hj'
      unfold gO at j6; rw [kn] at j6; simp only at j6
      unfold fA at j6
      rw [if_neg (by rw [Rm u]; exact Rs)] at j6
      exact j6
     have e : bG (bG env oj.dst undef) oi.dst u = bG (bG env oi.dst u) oj.dst undef := ta (fun d hd => fun he => a2 d he hd)
     rw [e, wG L j i]
     cases f with
     | zero => exact fun HC => (step HC).2 HC
     | succ f => exact fun HC => (step HC).2 HC
    unfold fA at h ⊢
    rw [hwi undef]
    split
    ·rename_i hw; rw [if_pos hw] at h
     have h3 := h
     unfold uX at h3 ⊢
     rw [hei undef]
     rw [hci] at h3 ⊢
     simp only at h3 ⊢
     refine jH C.P _ h3 (fun n M' hn' => ?_) (fun _ _ h => h)
     cases n <;> first
      | exact hn'.elim
      | exact cont _ _ hn'.1 hn'.2
      | exact ae.mono hn' (fun u M2 hx => cont u M2 hx.1 hx.2) (fun _ _ h => h)
    ·rename_i hw; rw [if_neg hw] at h; exact cont _ M h.1 h.2
end
end Go.AF
