/- A part of proofs about one program. -/
import Derived.Test.YtfjgcljdnhkmaaaGreatZWorldDryRegB
set_option linter.unusedVariables false
namespace Go.AF
def AB (n L : Nat) : Nat := ((List.range n).filter fun i => !L.testBit i).length
theorem m5 {n L i : Nat} (hi : i < n) (hL : L.testBit i = false) : AB n L = AB n (L ||| 2 ^ i) + 1 := by
 unfold AB
 induction n with
 | zero => omega
 | succ n ih =>
  rw [List.range_succ, List.filter_append, List.filter_append, List.length_append, List.length_append]
  by_cases h : i = n
  ·subst h
   have e1 : ((List.range i).filter fun k => !L.testBit k) = (List.range i).filter fun k => !(L ||| 2 ^ i).testBit k := by
    apply List.filter_congr
    intro k hk
    have : i ≠ k := by have := List.mem_range.1 hk; omega
    rw [fm]; simp [this]
   rw [e1]
   simp [hL]
  ·have hin : i < n := by omega
   rw [ih hin]
   have : (L ||| 2 ^ i).testBit n = L.testBit n := by rw [fm]; simp [h]
   simp only [List.filter_cons, List.filter_nil, this]
   omega
def N8 (P : Program) (ops : Array Oper) (env : Nat → Value) (o : Oper) : Prop :=
 ck ops o env = true → ∃ (ob : Obj) (k : Nat → Sem Next), Fm P (execOp (qL env) o) = some (ob, k) ∧ ∀ b, ∃ v, bV P (k b) Mem.empty = some (.value v)
def zq (P : Program) (ops : Array Oper) (fY : List Nat) (L i : Nat) : Bool := match ops[i]? with
 | some oi => (List.range ops.size).all fun j => Nat.beq j i || L.testBit j || (fY.getD j 0).testBit i || (match ops[j]? with
  | some oj => (match cls P oj with | .new => true | _ => false) && gv ops L j && oi.apart ops oj && (List.range ops.size).all fun k => Nat.beq k i || Nat.beq k j || L.testBit k || (fY.getD k 0).testBit i || (match ops[k]? with
   | some ok => oj.apart ops ok
   | none => true)
  | none => true)
 | none => false
section
variable {C : Ctx} {ops : Array Oper} {K : (Nat → Value) → Mem → Prop} {Kp : List PanicEntry → Mem → Prop}
theorem WX {i j L : Nat} {oi oj : Oper} (hi : ops[i]? = some oi) {fY : List Nat} (ha : qd ops fY = true) (hdn : Dn ops L) (h : zq C.P ops fY L i = true) (hr : gv ops L i = true)
  (hj : gv ops L j = true) (kB : ops[j]? = some oj) (kC : j ≠ i) :
  cls C.P oj = .new ∧ oi.apart ops oj = true ∧ ∀ k ok, gv ops L k = true → ops[k]? = some ok → k ≠ i → k ≠ j → oj.apart ops ok = true := by
 obtain ⟨Po, oj', HX, iA⟩ := bX.1 hj
 rw [kB] at HX; cases HX
 have Se : ∀ k ok, gv ops L k = true → ops[k]? = some ok → (fY.getD k 0).testBit i = false := fun k ok hk hok => by
  obtain ⟨_, ok', Sf, Sg⟩ := bX.1 hk
  rw [hok] at Sf; cases Sf
  cases hb : (fY.getD k 0).testBit i with
  | false => rfl
  | true => have := pe ha hdn k ok hok Sg i hb; rw [(bX.1 hr).1] at this; cases this
 have nb : ∀ a b : Nat, a ≠ b → Nat.beq a b = false := fun a b hab => by
  cases hb : Nat.beq a b with
  | false => rfl
  | true => exact absurd (Nat.eq_of_beq_eq_true hb) hab
 unfold zq at h; rw [hi] at h
 have := List.all_eq_true.1 h j (List.mem_range.2 (Array.getElem?_eq_some_iff.1 kB).1)
 simp only [Po, kB, Se j oj hj kB, nb j i kC, Bool.false_or, Bool.and_eq_true] at this
 obtain ⟨⟨⟨h1, _⟩, h2⟩, h3⟩ := this
 refine ⟨?_, h2, fun k ok hk hok Km hkj => ?_⟩
 ·revert h1; cases cls C.P oj <;> simp
 ·have := List.all_eq_true.1 h3 k (List.mem_range.2 (Array.getElem?_eq_some_iff.1 hok).1)
  simp only [(bX.1 hk).1, hok, Se k ok hk hok, nb k i Km, nb k j hkj, Bool.false_or] at this
  exact this
theorem Pq {i j L : Nat} {oi oj : Oper} (hi : ops[i]? = some oi) {fY : List Nat} (h : zq C.P ops fY L i = true) (kC : j ≠ i) : zq C.P ops fY (L ||| 2 ^ j) i = true := by
 unfold zq at h ⊢; rw [hi] at h ⊢
 refine List.all_eq_true.2 fun k hk => ?_
 have := List.all_eq_true.1 h k hk
 simp only [Bool.or_eq_true] at this ⊢
 by_cases hkj : k = j
 ·subst hkj; exact .inl (.inl (.inr (by rw [fm]; simp)))
 ·rcases this with ((h' | h') | h') | h'
  ·exact .inl (.inl (.inl h'))
  ·exact .inl (.inl (.inr (by rw [fm, h']; rfl)))
  ·exact .inl (.inr h')
  ·right
   cases hok : ops[k]? with
   | none => rfl
   | some ok =>
    rw [hok] at h'
    simp only [Bool.and_eq_true] at h' ⊢
    obtain ⟨⟨⟨g1, g2⟩, g3⟩, g4⟩ := h'
    refine ⟨⟨⟨g1, gH g2 hkj⟩, g3⟩, List.all_eq_true.2 fun m hm => ?_⟩
    have := List.all_eq_true.1 g4 m hm
    simp only [Bool.or_eq_true] at this ⊢
    rcases this with (((h'' | h'') | h'') | h'') | h''
    ·exact .inl (.inl (.inl (.inl h'')))
    ·exact .inl (.inl (.inl (.inr h'')))
    ·exact .inl (.inl (.inr (by rw [fm, h'']; rfl)))
    ·exact .inl (.inr h'')
    ·exact .inr h''
theorem Bh {M1 : Mem} {b : Nat} {ob : Obj} (h : wO (M1.set b ob)) (hb : M1 b = none) : wO M1 := by
 obtain ⟨N, h⟩ := h
 refine ⟨N, fun c hc => ?_⟩
 by_cases hcb : c = b
 ·subst hcb; exact hb
 ·have := h c hc; simpa [Mem.set, hcb] using this
def UpKp (Kp : List PanicEntry → Mem → Prop) : Prop := ∀ c M M', Mem.le M M' → Kp c M → Kp c M'
theorem WY {ρ : Operand → Value} {o : Oper} {M : Mem} {K : Value → Mem → Prop} (hKp : UpKp Kp) (hc : cls C.P o = .Pe) {b : Nat} {ob : Obj} (hb : M b = none) (h : u6 C ρ o M K Kp) :
  u6 C ρ o (M.set b ob) (fun v M' => ∃ M1, M' = M1.set b ob ∧ M1 b = none ∧ K v M1) Kp := by
 unfold u6 at h ⊢
 rw [hc] at h ⊢
 simp only at h ⊢
 rw [vo hb]
 refine jM C.P _ (Pj C.P _ h (lY.2 hb)) (fun n M' hn => ?_) (fun v M' hv => ?_)
 ·have := HV hn
  have conv : ∀ v M2, Fr (single b ob) K v M2 → ∃ M1, M2 = M1.set b ob ∧ M1 b = none ∧ K v M1 := fun v M2 ⟨M1, e, hd, hk⟩ =>
   ⟨M1, by rw [e, vo (lY.1 hd)], lY.1 hd, hk⟩
  cases n <;> first
   | exact this.elim
   | exact conv _ _ this
   | exact ae.mono this conv (fun c M2 ⟨M1, e, hd, hk⟩ => hKp c M1 M2 (by rw [e]; exact fun i x hx => Mem.union_left hx) hk)
 ·obtain ⟨M1, rfl, hd, hk⟩ := hv
  exact hKp _ M1 _ (fun i x hx => Mem.union_left hx) hk
theorem Pr {S : Mem → Prop} (hS : zp S) (hKp : UpKp Kp) {i : Nat} {oi : Oper} (hi : ops[i]? = some oi) (hci : cls C.P oi = .Pe) (hsel : ∀ (j : Nat) (o : Oper) cs b, ops[j]? = some o → o.op ≠ .select cs b)
  {fY : List Nat} (ha : qd ops fY = true) :
  ∀ (f L : Nat) (env : Nat → Value) (M : Mem), AB ops.size L = f + 1 → S M → Dn ops L → zq C.P ops fY L i = true → gv ops L i = true →
   (∀ j oj, gv ops L j = true → ops[j]? = some oj → j ≠ i → N8 C.P ops env oj) →
   gR C ops Kp i env M (fun env' M' => S M' ∧ eP C ops S K Kp f (L ||| 2 ^ i) env' M') → eP C ops S K Kp (f + 1) L env M := by
 intro f
 induction f with
 | zero =>
  intro L env M Sh mQ hdn hl hr hnew h gd
  refine ⟨fun hno => (by rw [hno i] at hr; cases hr), fun j hj => ?_⟩
  by_cases kC : j = i
  ·subst kC; exact h
  ·exfalso
   obtain ⟨hiL, _, hoi', _⟩ := bX.1 hr
   obtain ⟨Po, oj, kB, _⟩ := bX.1 hj
   have h1 := m5 (n := ops.size) (Array.getElem?_eq_some_iff.1 hi).1 hiL
   have h2 := m5 (n := ops.size) (L := L ||| 2 ^ i) (Array.getElem?_eq_some_iff.1 kB).1 (by rw [fm, Po]; simp [Ne.symm kC])
   omega
 | succ f ih =>
  intro L env M Sh mQ hdn hl hr hnew h gd
  refine ⟨fun hno => (by rw [hno i] at hr; cases hr), fun j hj => ?_⟩
  by_cases kC : j = i
  ·subst kC; exact h
  ·obtain ⟨Po, oj, kB, iA⟩ := bX.1 hj
   obtain ⟨wQ, hap, WZ⟩ := WX hi ha hdn hl hr hj kB kC
   obtain ⟨a1, a2, a3⟩ := Oper.apart_spec hap
   have hsi := fun cs b => hsel i oi cs b hi
   have hsj := fun cs b => hsel j oj cs b kB
   have hj' := gH (i := i) hj kC
   have HL := gH (i := j) hr (Ne.symm kC)
   have WW := hdn.add hj
   have hl' := Pq (oj := oj) hi hl kC
   have hcnt' : AB ops.size (L ||| 2 ^ j) = f + 1 := by
    have := m5 (n := ops.size) (Array.getElem?_eq_some_iff.1 kB).1 Po; omega
   have hwi : ∀ u, ck ops oi (bD env oj.dst u) = ck ops oi env := fun u => fK oi env oj.dst u a3
   have hei : ∀ u, execOp (qL (bD env oj.dst u)) oi = execOp (qL env) oi := fun u => jv oi hsi env oj.dst u a3
   have Sb : ∀ u, ck ops oj (bD env oi.dst u) = ck ops oj env := fun u => fK oj env oi.dst u a1
   have hej : ∀ u, execOp (qL (bD env oi.dst u)) oj = execOp (qL env) oj := fun u => jv oj hsj env oi.dst u a1
   have hnew' : ∀ u k ok, gv ops (L ||| 2 ^ j) k = true → ops[k]? = some ok → k ≠ i → N8 C.P ops (bD env oj.dst u) ok := fun u k ok hk hok Km => by
    have hkj : k ≠ j := by rintro rfl; have := (bX.1 hk).1; rw [fm] at this; simp at this
    have hkL : gv ops L k = true := by
     unfold zq at hl; rw [hi] at hl
     have := List.all_eq_true.1 hl k (List.mem_range.2 (Array.getElem?_eq_some_iff.1 hok).1)
     have hkl : L.testBit k = false := by have := (bX.1 hk).1; rw [fm] at this; cases hb : L.testBit k <;> simp_all
     have hka : (fY.getD k 0).testBit i = false := by
      obtain ⟨_, ok', Sf, Sg⟩ := bX.1 hk
      rw [hok] at Sf; cases Sf
      cases hb : (fY.getD k 0).testBit i with
      | false => rfl
      | true => have := pe ha WW k ok hok Sg i hb; rw [(bX.1 HL).1] at this; cases this
     have hkb : Nat.beq k i = false := by cases hb : Nat.beq k i with
      | false => rfl
      | true => exact absurd (Nat.eq_of_beq_eq_true hb) Km
     simp only [hkl, hka, hkb, hok, Bool.false_or, Bool.and_eq_true] at this
     exact this.1.1.2
    have hb := WZ k ok hkL hok Km hkj
    obtain ⟨b1, _, _⟩ := Oper.apart_spec hb
    have hsk := fun cs b => hsel k ok cs b hok
    intro hw
    rw [fK ok env oj.dst u b1] at hw
    rw [jv ok hsk env oj.dst u b1]
    exact hnew k ok hkL hok Km hw
   unfold gR at h; rw [hi] at h; simp only at h
   show gR C ops Kp j env M _
   unfold gR; rw [kB]; simp only
   have back : ∀ (u : Value) (M1 : Mem), S M1 → fz C ops oi (bD env oj.dst u) M1 (fun env' M' => S M' ∧ eP C ops S K Kp f (L ||| 2 ^ j ||| 2 ^ i) env' M') Kp →
     eP C ops S K Kp (f + 1) (L ||| 2 ^ j) (bD env oj.dst u) M1 := fun u M1 qM hb => by
    refine ih (L ||| 2 ^ j) _ M1 hcnt' qM WW hl' HL (hnew' u) ?_
    unfold gR; rw [hi]; exact hb
   by_cases Si : ck ops oj env = true
   ·obtain ⟨ob, kk, hn, hv⟩ := hnew j oj hj kB kC Si
    refine jN Si ?_
    unfold u6; rw [wQ]; simp only
    refine ⟨ob, kk, hn, fun b hb => ?_⟩
    obtain ⟨v, hvb⟩ := hv b
    refine ⟨v, hvb, hS _ _ (qX hb) mQ, back v _ (hS _ _ (qX hb) mQ) ?_⟩
    have cont : ∀ u M1, M1 b = none → S M1 → eP C ops S K Kp (f + 1) (L ||| 2 ^ i) (bD env oi.dst u) M1 →
      S (M1.set b ob) ∧ eP C ops S K Kp f (L ||| 2 ^ j ||| 2 ^ i) (bD (bD env oj.dst v) oi.dst u) (M1.set b ob) := fun u M1 lg qM hx => by
     refine ⟨hS _ _ (qX lg) qM, ?_⟩
     have step : ∀ Ps : wO M1, S (M1.set b ob) ∧ eP C ops S K Kp f (L ||| 2 ^ i ||| 2 ^ j) (bD (bD env oi.dst u) oj.dst v) (M1.set b ob) := fun Ps => by
      have j7 := (hx Ps).2 j hj'
      unfold gR at j7; rw [kB] at j7; simp only at j7
      unfold fz at j7
      rw [if_pos ((Sb u).trans Si)] at j7
      unfold u6 at j7; rw [wQ] at j7; simp only at j7
      obtain ⟨ob2, kk2, qZ, j7⟩ := j7
      rw [hej u, hn] at qZ; cases qZ
      obtain ⟨v2, hv2, j7⟩ := j7 b lg
      rw [hvb] at hv2; cases hv2
      exact j7
     have e : bD (bD env oj.dst v) oi.dst u = bD (bD env oi.dst u) oj.dst v := th (fun d hd => fun he => a2 d he hd)
     rw [e, wP L j i]
     cases f with
     | zero => exact fun HZ => (step (Bh HZ lg)).2 HZ
     | succ f => exact fun HZ => (step (Bh HZ lg)).2 HZ
    unfold fz at h ⊢
    rw [hwi v]
    split
    ·rename_i hw; rw [if_pos hw] at h
     have h3 := WY (ob := ob) hKp hci hb h
     unfold u6 at h3 ⊢
     rw [hei v]
     rw [hci] at h3 ⊢
     simp only at h3 ⊢
     refine jM C.P _ h3 (fun n M' hn' => ?_) (fun _ _ h => h)
     have conv : ∀ u M2, (∃ M1, M2 = M1.set b ob ∧ M1 b = none ∧ S M1 ∧ eP C ops S K Kp (f + 1) (L ||| 2 ^ i) (bD env oi.dst u) M1) →
       S M2 ∧ eP C ops S K Kp f (L ||| 2 ^ j ||| 2 ^ i) (bD (bD env oj.dst v) oi.dst u) M2 := fun u M2 ⟨M1, e, lg, qM, hx⟩ => by
      subst e; exact cont u M1 lg qM hx
     cases n <;> first
      | exact hn'.elim
      | exact conv _ _ hn'
      | exact ae.mono hn' conv (fun _ _ h => h)
    ·rename_i hw; rw [if_neg hw] at h; exact cont _ M hb h.1 h.2
   ·have hwf : ck ops oj env = false := by simpa using Si
    refine mZ hwf ⟨mQ, back undef M mQ ?_⟩
    have cont : ∀ u M1, S M1 → eP C ops S K Kp (f + 1) (L ||| 2 ^ i) (bD env oi.dst u) M1 →
      S M1 ∧ eP C ops S K Kp f (L ||| 2 ^ j ||| 2 ^ i) (bD (bD env oj.dst undef) oi.dst u) M1 := fun u M1 qM hx => by
     refine ⟨qM, ?_⟩
     have step : ∀ Ps : wO M1, S M1 ∧ eP C ops S K Kp f (L ||| 2 ^ i ||| 2 ^ j) (bD (bD env oi.dst u) oj.dst undef) M1 := fun Ps => by
      have j7 := (hx Ps).2 j hj'
      unfold gR at j7; rw [kB] at j7; simp only at j7
      unfold fz at j7
      rw [if_neg (by rw [Sb u]; exact Si)] at j7
      exact j7
     have e : bD (bD env oj.dst undef) oi.dst u = bD (bD env oi.dst u) oj.dst undef := th (fun d hd => fun he => a2 d he hd)
     rw [e, wP L j i]
     cases f with
     | zero => exact fun HZ => (step HZ).2 HZ
     | succ f => exact fun HZ => (step HZ).2 HZ
    unfold fz at h ⊢
    rw [hwi undef]
    split
    ·rename_i hw; rw [if_pos hw] at h
     have h3 := h
     unfold u6 at h3 ⊢
     rw [hei undef]
     rw [hci] at h3 ⊢
     simp only at h3 ⊢
     refine jM C.P _ h3 (fun n M' hn' => ?_) (fun _ _ h => h)
     cases n <;> first
      | exact hn'.elim
      | exact cont _ _ hn'.1 hn'.2
      | exact ae.mono hn' (fun u M2 hx => cont u M2 hx.1 hx.2) (fun _ _ h => h)
    ·rename_i hw; rw [if_neg hw] at h; exact cont _ M h.1 h.2
end
end Go.AF
