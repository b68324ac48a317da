/- A part of proofs about one program. -/
import Derived.Test.YtfjgcljdnhkmaaaZWorldSleepsRegB
set_option linter.unusedVariables false
namespace Go.AF
def pY (n L : Nat) : Nat := ((List.range n).filter fun i => !L.testBit i).length
theorem gM {n L i : Nat} (hi : i < n) (hL : L.testBit i = false) : pY n L = pY n (L ||| 2 ^ i) + 1 := by
 unfold pY
 induction n with
 | zero => omega
 | succ n ih =>
  rw [List.range_succ, List.filter_append, List.filter_append, List.length_append, List.length_append]
  by_cases h : i = n
  ·subst h
   have e1 : ((List.range i).filter fun k => !L.testBit k) = (List.range i).filter fun k => !(L ||| 2 ^ i).testBit k := by
    apply List.filter_congr
    intro k hk
    have : i ≠ k := by have := List.mem_range.1 hk; omega
    rw [cD]; simp [this]
   rw [e1]
   simp [hL]
  ·have hin : i < n := by omega
   rw [ih hin]
   have : (L ||| 2 ^ i).testBit n = L.testBit n := by rw [cD]; simp [h]
   simp only [List.filter_cons, List.filter_nil, this]
   omega
def ym (P : Program) (ops : Array Oper) (env : Nat → Value) (o : Oper) : Prop :=
 aZ ops o env = true → ∃ (ob : Obj) (k : Nat → Sem Next), tR P (execOp (jL env) o) = some (ob, k) ∧ ∀ b, ∃ v, aV P (k b) Mem.empty = some (.value v)
def o6 (P : Program) (ops : Array Oper) (cV : List Nat) (L i : Nat) : Bool := match ops[i]? with
 | some oi => (List.range ops.size).all fun j => Nat.beq j i || L.testBit j || (cV.getD j 0).testBit i || (match ops[j]? with
  | some oj => (match cls P oj with | .new => true | _ => false) && dc ops L j && oi.apart ops oj && (List.range ops.size).all fun k => Nat.beq k i || Nat.beq k j || L.testBit k || (cV.getD k 0).testBit i || (match ops[k]? with
   | some ok => oj.apart ops ok
   | none => true)
  | none => true)
 | none => false
section
variable {C : Ctx} {ops : Array Oper} {K : (Nat → Value) → Mem → Prop} {Kp : List PanicEntry → Mem → Prop}
theorem CK {i j L : Nat} {oi oj : Oper} (hi : ops[i]? = some oi) {cV : List Nat} (ha : jr ops cV = true) (hdn : Dn ops L) (h : o6 C.P ops cV L i = true) (hr : dc ops L i = true)
  (hj : dc ops L j = true) (fz : ops[j]? = some oj) (fM : j ≠ i) :
  cls C.P oj = .new ∧ oi.apart ops oj = true ∧ ∀ k ok, dc ops L k = true → ops[k]? = some ok → k ≠ i → k ≠ j → oj.apart ops ok = true := by
 obtain ⟨zk, MJ, vb, dW⟩ := aU.1 hj
 rw [fz] at vb; cases vb
 have AI : ∀ k ok, dc ops L k = true → ops[k]? = some ok → (cV.getD k 0).testBit i = false := fun k ok hk hok => by
  obtain ⟨_, NN, AJ, AK⟩ := aU.1 hk
  rw [hok] at AJ; cases AJ
  cases hb : (cV.getD k 0).testBit i with
  | false => rfl
  | true => have := iR ha hdn k ok hok AK i hb; rw [(aU.1 hr).1] at this; cases this
 have nb : ∀ a b : Nat, a ≠ b → Nat.beq a b = false := fun a b hab => by
  cases hb : Nat.beq a b with
  | false => rfl
  | true => exact absurd (Nat.eq_of_beq_eq_true hb) hab
 unfold o6 at h; rw [hi] at h
 have := List.all_eq_true.1 h j (List.mem_range.2 (Array.getElem?_eq_some_iff.1 fz).1)
 simp only [zk, fz, AI j oj hj fz, nb j i fM, Bool.false_or, Bool.and_eq_true] at this
 obtain ⟨⟨⟨h1, _⟩, h2⟩, h3⟩ := this
 refine ⟨?_, h2, fun k ok hk hok wJ Gd => ?_⟩
 ·revert h1; cases cls C.P oj <;> simp
 ·have := List.all_eq_true.1 h3 k (List.mem_range.2 (Array.getElem?_eq_some_iff.1 hok).1)
  simp only [(aU.1 hk).1, hok, AI k ok hk hok, nb k i wJ, nb k j Gd, Bool.false_or] at this
  exact this
theorem zm {i j L : Nat} {oi oj : Oper} (hi : ops[i]? = some oi) {cV : List Nat} (h : o6 C.P ops cV L i = true) (fM : j ≠ i) : o6 C.P ops cV (L ||| 2 ^ j) i = true := by
 unfold o6 at h ⊢; rw [hi] at h ⊢
 refine List.all_eq_true.2 fun k hk => ?_
 have := List.all_eq_true.1 h k hk
 simp only [Bool.or_eq_true] at this ⊢
 by_cases Gd : k = j
 ·subst Gd; exact .inl (.inl (.inr (by rw [cD]; simp)))
 ·rcases this with ((h' | h') | h') | h'
  ·exact .inl (.inl (.inl h'))
  ·exact .inl (.inl (.inr (by rw [cD, h']; rfl)))
  ·exact .inl (.inr h')
  ·right
   cases hok : ops[k]? with
   | none => rfl
   | some ok =>
    rw [hok] at h'
    simp only [Bool.and_eq_true] at h' ⊢
    obtain ⟨⟨⟨g1, g2⟩, g3⟩, g4⟩ := h'
    refine ⟨⟨⟨g1, dh g2 Gd⟩, g3⟩, List.all_eq_true.2 fun m hm => ?_⟩
    have := List.all_eq_true.1 g4 m hm
    simp only [Bool.or_eq_true] at this ⊢
    rcases this with (((h'' | h'') | h'') | h'') | h''
    ·exact .inl (.inl (.inl (.inl h'')))
    ·exact .inl (.inl (.inl (.inr h'')))
    ·exact .inl (.inl (.inr (by rw [cD, h'']; rfl)))
    ·exact .inl (.inr h'')
    ·exact .inr h''
theorem qA {M1 : Mem} {b : Nat} {ob : Obj} (h : nj (M1.set b ob)) (hb : M1 b = none) : nj M1 := by
 obtain ⟨N, h⟩ := h
 refine ⟨N, fun c hc => ?_⟩
 by_cases hcb : c = b
 ·subst hcb; exact hb
 ·have := h c hc; simpa [Mem.set, hcb] using this
def EO (Kp : List PanicEntry → Mem → Prop) : Prop := ∀ c M M', Mem.le M M' → Kp c M → Kp c M'
theorem CL {ρ : Operand → Value} {o : Oper} {M : Mem} {K : Value → Mem → Prop} (I5 : EO Kp) (hc : cls C.P o = .zd) {b : Nat} {ob : Obj} (hb : M b = none) (h : lZ C ρ o M K Kp) :
  lZ C ρ o (M.set b ob) (fun v M' => ∃ M1, M' = M1.set b ob ∧ M1 b = none ∧ K v M1) Kp := by
 unfold lZ at h ⊢
 rw [hc] at h ⊢
 simp only at h ⊢
 rw [me hb]
 refine eP C.P _ (zh C.P _ h (gk.2 hb)) (fun n M' hn => ?_) (fun v M' hv => ?_)
 ·have := u9 hn
  have conv : ∀ v M2, Fr (single b ob) K v M2 → ∃ M1, M2 = M1.set b ob ∧ M1 b = none ∧ K v M1 := fun v M2 ⟨M1, e, hd, hk⟩ =>
   ⟨M1, by rw [e, me (gk.1 hd)], gk.1 hd, hk⟩
  cases n <;> first
   | exact this.elim
   | exact conv _ _ this
   | exact ae.mono this conv (fun c M2 ⟨M1, e, hd, hk⟩ => I5 c M1 M2 (by rw [e]; exact fun i x hx => Mem.union_left hx) hk)
 ·obtain ⟨M1, rfl, hd, hk⟩ := hv
  exact I5 _ M1 _ (fun i x hx => Mem.union_left hx) hk
theorem zn {S : Mem → Prop} (hS : o5 S) (I5 : EO Kp) {i : Nat} {oi : Oper} (hi : ops[i]? = some oi) (Ge : cls C.P oi = .zd) (hsel : ∀ (j : Nat) (o : Oper) cs b, ops[j]? = some o → o.op ≠ .select cs b)
  {cV : List Nat} (ha : jr ops cV = true) :
  ∀ (f L : Nat) (env : Nat → Value) (M : Mem), pY ops.size L = f + 1 → S M → Dn ops L → o6 C.P ops cV L i = true → dc ops L i = true →
   (∀ j oj, dc ops L j = true → ops[j]? = some oj → j ≠ i → ym C.P ops env oj) →
   dy C ops Kp i env M (fun env' M' => S M' ∧ b6 C ops S K Kp f (L ||| 2 ^ i) env' M') → b6 C ops S K Kp (f + 1) L env M := by
 intro f
 induction f with
 | zero =>
  intro L env M AM gI hdn hl hr hnew h cX
  refine ⟨fun hno => (by rw [hno i] at hr; cases hr), fun j hj => ?_⟩
  by_cases fM : j = i
  ·subst fM; exact h
  ·exfalso
   obtain ⟨NO, _, NP, _⟩ := aU.1 hr
   obtain ⟨zk, oj, fz, _⟩ := aU.1 hj
   have h1 := gM (n := ops.size) (Array.getElem?_eq_some_iff.1 hi).1 NO
   have h2 := gM (n := ops.size) (L := L ||| 2 ^ i) (Array.getElem?_eq_some_iff.1 fz).1 (by rw [cD, zk]; simp [Ne.symm fM])
   omega
 | succ f ih =>
  intro L env M AM gI hdn hl hr hnew h cX
  refine ⟨fun hno => (by rw [hno i] at hr; cases hr), fun j hj => ?_⟩
  by_cases fM : j = i
  ·subst fM; exact h
  ·obtain ⟨zk, oj, fz, dW⟩ := aU.1 hj
   obtain ⟨uK, hap, CM⟩ := CK hi ha hdn hl hr hj fz fM
   obtain ⟨a1, a2, a3⟩ := Oper.apart_spec hap
   have hsi := fun cs b => hsel i oi cs b hi
   have hsj := fun cs b => hsel j oj cs b fz
   have hj' := dh (i := i) hj fM
   have CD := dh (i := j) hr (Ne.symm fM)
   have CJ := hdn.add hj
   have hl' := zm (oj := oj) hi hl fM
   have GL : pY ops.size (L ||| 2 ^ j) = f + 1 := by
    have := gM (n := ops.size) (Array.getElem?_eq_some_iff.1 fz).1 zk; omega
   have GK : ∀ u, aZ ops oi (aL env oj.dst u) = aZ ops oi env := fun u => cP oi env oj.dst u a3
   have Gc : ∀ u, execOp (jL (aL env oj.dst u)) oi = execOp (jL env) oi := fun u => eG oi hsi env oj.dst u a3
   have AH : ∀ u, aZ ops oj (aL env oi.dst u) = aZ ops oj env := fun u => cP oj env oi.dst u a1
   have NQ : ∀ u, execOp (jL (aL env oi.dst u)) oj = execOp (jL env) oj := fun u => eG oj hsj env oi.dst u a1
   have GM : ∀ u k ok, dc ops (L ||| 2 ^ j) k = true → ops[k]? = some ok → k ≠ i → ym C.P ops (aL env oj.dst u) ok := fun u k ok hk hok wJ => by
    have Gd : k ≠ j := by rintro rfl; have := (aU.1 hk).1; rw [cD] at this; simp at this
    have ML : dc ops L k = true := by
     unfold o6 at hl; rw [hi] at hl
     have := List.all_eq_true.1 hl k (List.mem_range.2 (Array.getElem?_eq_some_iff.1 hok).1)
     have NR : L.testBit k = false := by have := (aU.1 hk).1; rw [cD] at this; cases hb : L.testBit k <;> simp_all
     have hka : (cV.getD k 0).testBit i = false := by
      obtain ⟨_, NN, AJ, AK⟩ := aU.1 hk
      rw [hok] at AJ; cases AJ
      cases hb : (cV.getD k 0).testBit i with
      | false => rfl
      | true => have := iR ha CJ k ok hok AK i hb; rw [(aU.1 CD).1] at this; cases this
     have EP : Nat.beq k i = false := by cases hb : Nat.beq k i with
      | false => rfl
      | true => exact absurd (Nat.eq_of_beq_eq_true hb) wJ
     simp only [NR, hka, EP, hok, Bool.false_or, Bool.and_eq_true] at this
     exact this.1.1.2
    have hb := CM k ok ML hok wJ Gd
    obtain ⟨b1, _, _⟩ := Oper.apart_spec hb
    have NS := fun cs b => hsel k ok cs b hok
    intro hw
    rw [cP ok env oj.dst u b1] at hw
    rw [eG ok NS env oj.dst u b1]
    exact hnew k ok ML hok wJ hw
   unfold dy at h; rw [hi] at h; simp only at h
   show dy C ops Kp j env M _
   unfold dy; rw [fz]; simp only
   have back : ∀ (u : Value) (M1 : Mem), S M1 → cK C ops oi (aL env oj.dst u) M1 (fun env' M' => S M' ∧ b6 C ops S K Kp f (L ||| 2 ^ j ||| 2 ^ i) env' M') Kp →
     b6 C ops S K Kp (f + 1) (L ||| 2 ^ j) (aL env oj.dst u) M1 := fun u M1 pN hb => by
    refine ih (L ||| 2 ^ j) _ M1 GL pN CJ hl' CD (GM u) ?_
    unfold dy; rw [hi]; exact hb
   by_cases AN : aZ ops oj env = true
   ·obtain ⟨ob, kk, hn, hv⟩ := hnew j oj hj fz fM AN
    refine eR AN ?_
    unfold lZ; rw [uK]; simp only
    refine ⟨ob, kk, hn, fun b hb => ?_⟩
    obtain ⟨v, MM⟩ := hv b
    refine ⟨v, MM, hS _ _ (jU hb) gI, back v _ (hS _ _ (jU hb) gI) ?_⟩
    have cont : ∀ u M1, M1 b = none → S M1 → b6 C ops S K Kp (f + 1) (L ||| 2 ^ i) (aL env oi.dst u) M1 →
      S (M1.set b ob) ∧ b6 C ops S K Kp f (L ||| 2 ^ j ||| 2 ^ i) (aL (aL env oj.dst v) oi.dst u) (M1.set b ob) := fun u M1 pO pN hx => by
     refine ⟨hS _ _ (jU pO) pN, ?_⟩
     have step : ∀ AO : nj M1, S (M1.set b ob) ∧ b6 C ops S K Kp f (L ||| 2 ^ i ||| 2 ^ j) (aL (aL env oi.dst u) oj.dst v) (M1.set b ob) := fun AO => by
      have fj := (hx AO).2 j hj'
      unfold dy at fj; rw [fz] at fj; simp only at fj
      unfold cK at fj
      rw [if_pos ((AH u).trans AN)] at fj
      unfold lZ at fj; rw [uK] at fj; simp only at fj
      obtain ⟨NL, Qo, sM, fj⟩ := fj
      rw [NQ u, hn] at sM; cases sM
      obtain ⟨v2, MN, fj⟩ := fj b pO
      rw [MM] at MN; cases MN
      exact fj
     have e : aL (aL env oj.dst v) oi.dst u = aL (aL env oi.dst u) oj.dst v := kS (fun d hd => fun he => a2 d he hd)
     rw [e, nk L j i]
     cases f with
     | zero => exact fun wZ => (step (qA wZ pO)).2 wZ
     | succ f => exact fun wZ => (step (qA wZ pO)).2 wZ
    unfold cK at h ⊢
    rw [GK v]
    split
    ·rename_i hw; rw [if_pos hw] at h
     have h3 := CL (ob := ob) I5 Ge hb h
     unfold lZ at h3 ⊢
     rw [Gc v]
     rw [Ge] at h3 ⊢
     simp only at h3 ⊢
     refine eP C.P _ h3 (fun n M' hn' => ?_) (fun _ _ h => h)
     have conv : ∀ u M2, (∃ M1, M2 = M1.set b ob ∧ M1 b = none ∧ S M1 ∧ b6 C ops S K Kp (f + 1) (L ||| 2 ^ i) (aL env oi.dst u) M1) →
       S M2 ∧ b6 C ops S K Kp f (L ||| 2 ^ j ||| 2 ^ i) (aL (aL env oj.dst v) oi.dst u) M2 := fun u M2 ⟨M1, e, pO, pN, hx⟩ => by
      subst e; exact cont u M1 pO pN hx
     cases n <;> first
      | exact hn'.elim
      | exact conv _ _ hn'
      | exact ae.mono hn' conv (fun _ _ h => h)
    ·rename_i hw; rw [if_neg hw] at h; exact cont _ M hb h.1 h.2
   ·have hwf : aZ ops oj env = false := by simpa using AN
    refine gL hwf ⟨gI, back undef M gI ?_⟩
    have cont : ∀ u M1, S M1 → b6 C ops S K Kp (f + 1) (L ||| 2 ^ i) (aL env oi.dst u) M1 →
      S M1 ∧ b6 C ops S K Kp f (L ||| 2 ^ j ||| 2 ^ i) (aL (aL env oj.dst undef) oi.dst u) M1 := fun u M1 pN hx => by
     refine ⟨pN, ?_⟩
     have step : ∀ AO : nj M1, S M1 ∧ b6 C ops S K Kp f (L ||| 2 ^ i ||| 2 ^ j) (aL (aL env oi.dst u) oj.dst undef) M1 := fun AO => by
      have fj := (hx AO).2 j hj'
      unfold dy at fj; rw [fz] at fj; simp only at fj
      unfold cK at fj
      rw [if_neg (by rw [AH u]; exact AN)] at fj
      exact fj
     have e : aL (aL env oj.dst undef) oi.dst u = aL (aL env oi.dst u) oj.dst undef := kS (fun d hd => fun he => a2 d he hd)
     rw [e, nk L j i]
     cases f with
     | zero => exact fun wZ => (step wZ).2 wZ
     | succ f => exact fun wZ => (step wZ).2 wZ
    unfold cK at h ⊢
    rw [GK undef]
    split
    ·rename_i hw; rw [if_pos hw] at h
     have h3 := h
     unfold lZ at h3 ⊢
     rw [Gc undef]
     rw [Ge] at h3 ⊢
     simp only at h3 ⊢
     refine eP C.P _ h3 (fun n M' hn' => ?_) (fun _ _ h => h)
     cases n <;> first
      | exact hn'.elim
      | exact cont _ _ hn'.1 hn'.2
      | exact ae.mono hn' (fun u M2 hx => cont u M2 hx.1 hx.2) (fun _ _ h => h)
    ·rename_i hw; rw [if_neg hw] at h; exact cont _ M h.1 h.2
end
end Go.AF
