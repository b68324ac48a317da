/- A part of proofs about one program. -/
import Derived.Test.YtnnlgknlialpmaaGreatZSnapAlikeRegB
set_option linter.unusedVariables false
namespace Go.AF
def zH (n L : Nat) : Nat := ((List.range n).filter fun i => !L.testBit i).length
theorem mD {n L i : Nat} (hi : i < n) (hL : L.testBit i = false) : zH n L = zH n (L ||| 2 ^ i) + 1 := by
 unfold zH
 induction n with
 | zero => omega
 | succ n ih =>
  rw [List.range_succ, List.filter_append, List.filter_append, List.length_append, List.length_append]
  by_cases h : i = n
  ·subst h
   have e1 : ((List.range i).filter fun k => !L.testBit k) = (List.range i).filter fun k => !(L ||| 2 ^ i).testBit k := by
    apply List.filter_congr
    intro k hk
    have : i ≠ k := by have := List.mem_range.1 hk; omega
    rw [eV]; simp [this]
   rw [e1]
   simp [hL]
  ·have hin : i < n := by omega
   rw [ih hin]
   have : (L ||| 2 ^ i).testBit n = L.testBit n := by rw [eV]; simp [h]
   simp only [List.filter_cons, List.filter_nil, this]
   omega
def KB (P : Program) (ops : Array Oper) (env : Nat → Value) (o : Oper) : Prop :=
 bX ops o env = true → ∃ (ob : Obj) (k : Nat → Sem Next), D7 P (execOp (pW env) o) = some (ob, k) ∧ ∀ b, ∃ v, bQ P (k b) Mem.empty = some (.value v)
def yw (P : Program) (ops : Array Oper) (fJ : List Nat) (L i : Nat) : Bool := match ops[i]? with
 | some oi => (List.range ops.size).all fun j => Nat.beq j i || L.testBit j || (fJ.getD j 0).testBit i || (match ops[j]? with
  | some oj => (match cls P oj with | .new => true | _ => false) && gh ops L j && oi.apart ops oj && (List.range ops.size).all fun k => Nat.beq k i || Nat.beq k j || L.testBit k || (fJ.getD k 0).testBit i || (match ops[k]? with
   | some ok => oj.apart ops ok
   | none => true)
  | none => true)
 | none => false
section
variable {C : Ctx} {ops : Array Oper} {K : (Nat → Value) → Mem → Prop} {Kp : List PanicEntry → Mem → Prop}
theorem Sj {i j L : Nat} {oi oj : Oper} (hi : ops[i]? = some oi) {fJ : List Nat} (ha : oZ ops fJ = true) (hdn : Dn ops L) (h : yw C.P ops fJ L i = true) (hr : gh ops L i = true)
  (hj : gh ops L j = true) (jG : ops[j]? = some oj) (kC : j ≠ i) :
  cls C.P oj = .new ∧ oi.apart ops oj = true ∧ ∀ k ok, gh ops L k = true → ops[k]? = some ok → k ≠ i → k ≠ j → oj.apart ops ok = true := by
 obtain ⟨LY, oj', FP, iR⟩ := bR.1 hj
 rw [jG] at FP; cases FP
 have OE : ∀ k ok, gh ops L k = true → ops[k]? = some ok → (fJ.getD k 0).testBit i = false := fun k ok hk hok => by
  obtain ⟨_, ok', OF, OG⟩ := bR.1 hk
  rw [hok] at OF; cases OF
  cases hb : (fJ.getD k 0).testBit i with
  | false => rfl
  | true => have := ot ha hdn k ok hok OG i hb; rw [(bR.1 hr).1] at this; cases this
 have nb : ∀ a b : Nat, a ≠ b → Nat.beq a b = false := fun a b hab => by
  cases hb : Nat.beq a b with
  | false => rfl
  | true => exact absurd (Nat.eq_of_beq_eq_true hb) hab
 unfold yw at h; rw [hi] at h
 have := List.all_eq_true.1 h j (List.mem_range.2 (Array.getElem?_eq_some_iff.1 jG).1)
 simp only [LY, jG, OE j oj hj jG, nb j i kC, Bool.false_or, Bool.and_eq_true] at this
 obtain ⟨⟨⟨h1, _⟩, h2⟩, h3⟩ := this
 refine ⟨?_, h2, fun k ok hk hok HV Zs => ?_⟩
 ·revert h1; cases cls C.P oj <;> simp
 ·have := List.all_eq_true.1 h3 k (List.mem_range.2 (Array.getElem?_eq_some_iff.1 hok).1)
  simp only [(bR.1 hk).1, hok, OE k ok hk hok, nb k i HV, nb k j Zs, Bool.false_or] at this
  exact this
theorem Ma {i j L : Nat} {oi oj : Oper} (hi : ops[i]? = some oi) {fJ : List Nat} (h : yw C.P ops fJ L i = true) (kC : j ≠ i) : yw C.P ops fJ (L ||| 2 ^ j) i = true := by
 unfold yw at h ⊢; rw [hi] at h ⊢
 refine List.all_eq_true.2 fun k hk => ?_
 have := List.all_eq_true.1 h k hk
 simp only [Bool.or_eq_true] at this ⊢
 by_cases Zs : k = j
 ·subst Zs; exact .inl (.inl (.inr (by rw [eV]; simp)))
 ·rcases this with ((h' | h') | h') | h'
  ·exact .inl (.inl (.inl h'))
  ·exact .inl (.inl (.inr (by rw [eV, h']; rfl)))
  ·exact .inl (.inr h')
  ·right
   cases hok : ops[k]? with
   | none => rfl
   | some ok =>
    rw [hok] at h'
    simp only [Bool.and_eq_true] at h' ⊢
    obtain ⟨⟨⟨g1, g2⟩, g3⟩, g4⟩ := h'
    refine ⟨⟨⟨g1, gu g2 Zs⟩, g3⟩, List.all_eq_true.2 fun m hm => ?_⟩
    have := List.all_eq_true.1 g4 m hm
    simp only [Bool.or_eq_true] at this ⊢
    rcases this with (((h'' | h'') | h'') | h'') | h''
    ·exact .inl (.inl (.inl (.inl h'')))
    ·exact .inl (.inl (.inl (.inr h'')))
    ·exact .inl (.inl (.inr (by rw [eV, h'']; rfl)))
    ·exact .inl (.inr h'')
    ·exact .inr h''
theorem Am {M1 : Mem} {b : Nat} {ob : Obj} (h : vC (M1.set b ob)) (hb : M1 b = none) : vC M1 := by
 obtain ⟨N, h⟩ := h
 refine ⟨N, fun c hc => ?_⟩
 by_cases hcb : c = b
 ·subst hcb; exact hb
 ·have := h c hc; simpa [Mem.set, hcb] using this
def VP (Kp : List PanicEntry → Mem → Prop) : Prop := ∀ c M M', Mem.le M M' → Kp c M → Kp c M'
theorem Sk {ρ : Operand → Value} {o : Oper} {M : Mem} {K : Value → Mem → Prop} (hKp : VP Kp) (hc : cls C.P o = .LQ) {b : Nat} {ob : Obj} (hb : M b = none) (h : tV C ρ o M K Kp) :
  tV C ρ o (M.set b ob) (fun v M' => ∃ M1, M' = M1.set b ob ∧ M1 b = none ∧ K v M1) Kp := by
 unfold tV at h ⊢
 rw [hc] at h ⊢
 simp only at h ⊢
 rw [uf hb]
 refine ir C.P _ (LV C.P _ h (lE.2 hb)) (fun n M' hn => ?_) (fun v M' hv => ?_)
 ·have := FN hn
  have conv : ∀ v M2, Fr (single b ob) K v M2 → ∃ M1, M2 = M1.set b ob ∧ M1 b = none ∧ K v M1 := fun v M2 ⟨M1, e, hd, hk⟩ =>
   ⟨M1, by rw [e, uf (lE.1 hd)], lE.1 hd, hk⟩
  cases n <;> first
   | exact this.elim
   | exact conv _ _ this
   | exact aa.mono this conv (fun c M2 ⟨M1, e, hd, hk⟩ => hKp c M1 M2 (by rw [e]; exact fun i x hx => Mem.union_left hx) hk)
 ·obtain ⟨M1, rfl, hd, hk⟩ := hv
  exact hKp _ M1 _ (fun i x hx => Mem.union_left hx) hk
theorem Mb {S : Mem → Prop} (hS : yu S) (hKp : VP Kp) {i : Nat} {oi : Oper} (hi : ops[i]? = some oi) (Zt : cls C.P oi = .LQ) (hsel : ∀ (j : Nat) (o : Oper) cs b, ops[j]? = some o → o.op ≠ .select cs b)
  {fJ : List Nat} (ha : oZ ops fJ = true) :
  ∀ (f L : Nat) (env : Nat → Value) (M : Mem), zH ops.size L = f + 1 → S M → Dn ops L → yw C.P ops fJ L i = true → gh ops L i = true →
   (∀ j oj, gh ops L j = true → ops[j]? = some oj → j ≠ i → KB C.P ops env oj) →
   gG C ops Kp i env M (fun env' M' => S M' ∧ en C ops S K Kp f (L ||| 2 ^ i) env' M') → en C ops S K Kp (f + 1) L env M := by
 intro f
 induction f with
 | zero =>
  intro L env M OH l9 hdn hl hr hnew h fP
  refine ⟨fun hno => (by rw [hno i] at hr; cases hr), fun j hj => ?_⟩
  by_cases kC : j = i
  ·subst kC; exact h
  ·exfalso
   obtain ⟨hiL, _, hoi', _⟩ := bR.1 hr
   obtain ⟨LY, oj, jG, _⟩ := bR.1 hj
   have h1 := mD (n := ops.size) (Array.getElem?_eq_some_iff.1 hi).1 hiL
   have h2 := mD (n := ops.size) (L := L ||| 2 ^ i) (Array.getElem?_eq_some_iff.1 jG).1 (by rw [eV, LY]; simp [Ne.symm kC])
   omega
 | succ f ih =>
  intro L env M OH l9 hdn hl hr hnew h fP
  refine ⟨fun hno => (by rw [hno i] at hr; cases hr), fun j hj => ?_⟩
  by_cases kC : j = i
  ·subst kC; exact h
  ·obtain ⟨LY, oj, jG, iR⟩ := bR.1 hj
   obtain ⟨Fk, hap, Sn⟩ := Sj hi ha hdn hl hr hj jG kC
   obtain ⟨a1, a2, a3⟩ := Oper.apart_spec hap
   have hsi := fun cs b => hsel i oi cs b hi
   have hsj := fun cs b => hsel j oj cs b jG
   have hj' := gu (i := i) hj kC
   have Sb := gu (i := j) hr (Ne.symm kC)
   have Si := hdn.add hj
   have hl' := Ma (oj := oj) hi hl kC
   have Z7 : zH ops.size (L ||| 2 ^ j) = f + 1 := by
    have := mD (n := ops.size) (Array.getElem?_eq_some_iff.1 jG).1 LY; omega
   have Z6 : ∀ u, bX ops oi (bz env oj.dst u) = bX ops oi env := fun u => fq oi env oj.dst u a3
   have Zr : ∀ u, execOp (pW (bz env oj.dst u)) oi = execOp (pW env) oi := fun u => iJ oi hsi env oj.dst u a3
   have OD : ∀ u, bX ops oj (bz env oi.dst u) = bX ops oj env := fun u => fq oj env oi.dst u a1
   have hej : ∀ u, execOp (pW (bz env oi.dst u)) oj = execOp (pW env) oj := fun u => iJ oj hsj env oi.dst u a1
   have Z8 : ∀ u k ok, gh ops (L ||| 2 ^ j) k = true → ops[k]? = some ok → k ≠ i → KB C.P ops (bz env oj.dst u) ok := fun u k ok hk hok HV => by
    have Zs : k ≠ j := by rintro rfl; have := (bR.1 hk).1; rw [eV] at this; simp at this
    have hkL : gh ops L k = true := by
     unfold yw at hl; rw [hi] at hl
     have := List.all_eq_true.1 hl k (List.mem_range.2 (Array.getElem?_eq_some_iff.1 hok).1)
     have hkl : L.testBit k = false := by have := (bR.1 hk).1; rw [eV] at this; cases hb : L.testBit k <;> simp_all
     have hka : (fJ.getD k 0).testBit i = false := by
      obtain ⟨_, ok', OF, OG⟩ := bR.1 hk
      rw [hok] at OF; cases OF
      cases hb : (fJ.getD k 0).testBit i with
      | false => rfl
      | true => have := ot ha Si k ok hok OG i hb; rw [(bR.1 Sb).1] at this; cases this
     have VQ : Nat.beq k i = false := by cases hb : Nat.beq k i with
      | false => rfl
      | true => exact absurd (Nat.eq_of_beq_eq_true hb) HV
     simp only [hkl, hka, VQ, hok, Bool.false_or, Bool.and_eq_true] at this
     exact this.1.1.2
    have hb := Sn k ok hkL hok HV Zs
    obtain ⟨b1, _, _⟩ := Oper.apart_spec hb
    have hsk := fun cs b => hsel k ok cs b hok
    intro hw
    rw [fq ok env oj.dst u b1] at hw
    rw [iJ ok hsk env oj.dst u b1]
    exact hnew k ok hkL hok HV hw
   unfold gG at h; rw [hi] at h; simp only at h
   show gG C ops Kp j env M _
   unfold gG; rw [jG]; simp only
   have back : ∀ (u : Value) (M1 : Mem), S M1 → fh C ops oi (bz env oj.dst u) M1 (fun env' M' => S M' ∧ en C ops S K Kp f (L ||| 2 ^ j ||| 2 ^ i) env' M') Kp →
     en C ops S K Kp (f + 1) (L ||| 2 ^ j) (bz env oj.dst u) M1 := fun u M1 wZ hb => by
    refine ih (L ||| 2 ^ j) _ M1 Z7 wZ Si hl' Sb (Z8 u) ?_
    unfold gG; rw [hi]; exact hb
   by_cases OI : bX ops oj env = true
   ·obtain ⟨ob, kk, hn, hv⟩ := hnew j oj hj jG kC OI
    refine iU OI ?_
    unfold tV; rw [Fk]; simp only
    refine ⟨ob, kk, hn, fun b hb => ?_⟩
    obtain ⟨v, hvb⟩ := hv b
    refine ⟨v, hvb, hS _ _ (qe hb) l9, back v _ (hS _ _ (qe hb) l9) ?_⟩
    have cont : ∀ u M1, M1 b = none → S M1 → en C ops S K Kp (f + 1) (L ||| 2 ^ i) (bz env oi.dst u) M1 →
      S (M1.set b ob) ∧ en C ops S K Kp f (L ||| 2 ^ j ||| 2 ^ i) (bz (bz env oj.dst v) oi.dst u) (M1.set b ob) := fun u M1 B4 wZ hx => by
     refine ⟨hS _ _ (qe B4) wZ, ?_⟩
     have step : ∀ Mc : vC M1, S (M1.set b ob) ∧ en C ops S K Kp f (L ||| 2 ^ i ||| 2 ^ j) (bz (bz env oi.dst u) oj.dst v) (M1.set b ob) := fun Mc => by
      have ju := (hx Mc).2 j hj'
      unfold gG at ju; rw [jG] at ju; simp only at ju
      unfold fh at ju
      rw [if_pos ((OD u).trans OI)] at ju
      unfold tV at ju; rw [Fk] at ju; simp only at ju
      obtain ⟨ob2, kk2, BZ, ju⟩ := ju
      rw [hej u, hn] at BZ; cases BZ
      obtain ⟨v2, Ix, ju⟩ := ju b B4
      rw [hvb] at Ix; cases Ix
      exact ju
     have e : bz (bz env oj.dst v) oi.dst u = bz (bz env oi.dst u) oj.dst v := rO (fun d hd => fun he => a2 d he hd)
     rw [e, vD L j i]
     cases f with
     | zero => exact fun FR => (step (Am FR B4)).2 FR
     | succ f => exact fun FR => (step (Am FR B4)).2 FR
    unfold fh at h ⊢
    rw [Z6 v]
    split
    ·rename_i hw; rw [if_pos hw] at h
     have h3 := Sk (ob := ob) hKp Zt hb h
     unfold tV at h3 ⊢
     rw [Zr v]
     rw [Zt] at h3 ⊢
     simp only at h3 ⊢
     refine ir C.P _ h3 (fun n M' hn' => ?_) (fun _ _ h => h)
     have conv : ∀ u M2, (∃ M1, M2 = M1.set b ob ∧ M1 b = none ∧ S M1 ∧ en C ops S K Kp (f + 1) (L ||| 2 ^ i) (bz env oi.dst u) M1) →
       S M2 ∧ en C ops S K Kp f (L ||| 2 ^ j ||| 2 ^ i) (bz (bz env oj.dst v) oi.dst u) M2 := fun u M2 ⟨M1, e, B4, wZ, hx⟩ => by
      subst e; exact cont u M1 B4 wZ hx
     cases n <;> first
      | exact hn'.elim
      | exact conv _ _ hn'
      | exact aa.mono hn' conv (fun _ _ h => h)
    ·rename_i hw; rw [if_neg hw] at h; exact cont _ M hb h.1 h.2
   ·have hwf : bX ops oj env = false := by simpa using OI
    refine mC hwf ⟨l9, back undef M l9 ?_⟩
    have cont : ∀ u M1, S M1 → en C ops S K Kp (f + 1) (L ||| 2 ^ i) (bz env oi.dst u) M1 →
      S M1 ∧ en C ops S K Kp f (L ||| 2 ^ j ||| 2 ^ i) (bz (bz env oj.dst undef) oi.dst u) M1 := fun u M1 wZ hx => by
     refine ⟨wZ, ?_⟩
     have step : ∀ Mc : vC M1, S M1 ∧ en C ops S K Kp f (L ||| 2 ^ i ||| 2 ^ j) (bz (bz env oi.dst u) oj.dst undef) M1 := fun Mc => by
      have ju := (hx Mc).2 j hj'
      unfold gG at ju; rw [jG] at ju; simp only at ju
      unfold fh at ju
      rw [if_neg (by rw [OD u]; exact OI)] at ju
      exact ju
     have e : bz (bz env oj.dst undef) oi.dst u = bz (bz env oi.dst u) oj.dst undef := rO (fun d hd => fun he => a2 d he hd)
     rw [e, vD L j i]
     cases f with
     | zero => exact fun FR => (step FR).2 FR
     | succ f => exact fun FR => (step FR).2 FR
    unfold fh at h ⊢
    rw [Z6 undef]
    split
    ·rename_i hw; rw [if_pos hw] at h
     have h3 := h
     unfold tV at h3 ⊢
     rw [Zr undef]
     rw [Zt] at h3 ⊢
     simp only at h3 ⊢
     refine ir C.P _ h3 (fun n M' hn' => ?_) (fun _ _ h => h)
     cases n <;> first
      | exact hn'.elim
      | exact cont _ _ hn'.1 hn'.2
      | exact aa.mono hn' (fun u M2 hx => cont u M2 hx.1 hx.2) (fun _ _ h => h)
    ·rename_i hw; rw [if_neg hw] at h; exact cont _ M h.1 h.2
end
end Go.AF
