/- A part of proofs about one program. -/
import Derived.Test.YtnnlgknlialpmaaGreatZSchedWakesRegB
set_option linter.unusedVariables false
namespace Go.AF
def vz (n L : Nat) : Nat := ((List.range n).filter fun i => !L.testBit i).length
theorem jW {n L i : Nat} (hi : i < n) (hL : L.testBit i = false) : vz n L = vz n (L ||| 2 ^ i) + 1 := by
 unfold vz
 induction n with
 | zero => omega
 | succ n ih =>
  rw [List.range_succ, List.filter_append, List.filter_append, List.length_append, List.length_append]
  by_cases h : i = n
  ·subst h
   have e1 : ((List.range i).filter fun k => !L.testBit k) = (List.range i).filter fun k => !(L ||| 2 ^ i).testBit k := by
    apply List.filter_congr
    intro k hk
    have : i ≠ k := by have := List.mem_range.1 hk; omega
    rw [dG]; simp [this]
   rw [e1]
   simp [hL]
  ·have hin : i < n := by omega
   rw [ih hin]
   have : (L ||| 2 ^ i).testBit n = L.testBit n := by rw [dG]; simp [h]
   simp only [List.filter_cons, List.filter_nil, this]
   omega
def EU (P : Program) (ops : Array Oper) (env : Nat → Value) (o : Oper) : Prop :=
 bJ ops o env = true → ∃ (ob : Obj) (k : Nat → Sem Next), zL P (execOp (nf env) o) = some (ob, k) ∧ ∀ b, ∃ v, bE P (k b) Mem.empty = some (.value v)
def uD (P : Program) (ops : Array Oper) (ej : List Nat) (L i : Nat) : Bool := match ops[i]? with
 | some oi => (List.range ops.size).all fun j => Nat.beq j i || L.testBit j || (ej.getD j 0).testBit i || (match ops[j]? with
  | some oj => (match cls P oj with | .new => true | _ => false) && eP ops L j && oi.apart ops oj && (List.range ops.size).all fun k => Nat.beq k i || Nat.beq k j || L.testBit k || (ej.getD k 0).testBit i || (match ops[k]? with
   | some ok => oj.apart ops ok
   | none => true)
  | none => true)
 | none => false
section
variable {C : Ctx} {ops : Array Oper} {K : (Nat → Value) → Mem → Prop} {Kp : List PanicEntry → Mem → Prop}
theorem Ls {i j L : Nat} {oi oj : Oper} (hi : ops[i]? = some oi) {ej : List Nat} (ha : mA ops ej = true) (hdn : Dn ops L) (h : uD C.P ops ej L i = true) (hr : eP ops L i = true)
  (hj : eP ops L j = true) (ij : ops[j]? = some oj) (iH : j ≠ i) :
  cls C.P oj = .new ∧ oi.apart ops oj = true ∧ ∀ k ok, eP ops L k = true → ops[k]? = some ok → k ≠ i → k ≠ j → oj.apart ops ok = true := by
 obtain ⟨F4, oj', Bu, fJ⟩ := bD.1 hj
 rw [ij] at Bu; cases Bu
 have Ig : ∀ k ok, eP ops L k = true → ops[k]? = some ok → (ej.getD k 0).testBit i = false := fun k ok hk hok => by
  obtain ⟨_, ok', Ih, Ii⟩ := bD.1 hk
  rw [hok] at Ih; cases Ih
  cases hb : (ej.getD k 0).testBit i with
  | false => rfl
  | true => have := lP ha hdn k ok hok Ii i hb; rw [(bD.1 hr).1] at this; cases this
 have nb : ∀ a b : Nat, a ≠ b → Nat.beq a b = false := fun a b hab => by
  cases hb : Nat.beq a b with
  | false => rfl
  | true => exact absurd (Nat.eq_of_beq_eq_true hb) hab
 unfold uD at h; rw [hi] at h
 have := List.all_eq_true.1 h j (List.mem_range.2 (Array.getElem?_eq_some_iff.1 ij).1)
 simp only [F4, ij, Ig j oj hj ij, nb j i iH, Bool.false_or, Bool.and_eq_true] at this
 obtain ⟨⟨⟨h1, _⟩, h2⟩, h3⟩ := this
 refine ⟨?_, h2, fun k ok hk hok C2 RI => ?_⟩
 ·revert h1; cases cls C.P oj <;> simp
 ·have := List.all_eq_true.1 h3 k (List.mem_range.2 (Array.getElem?_eq_some_iff.1 hok).1)
  simp only [(bD.1 hk).1, hok, Ig k ok hk hok, nb k i C2, nb k j RI, Bool.false_or] at this
  exact this
theorem F6 {i j L : Nat} {oi oj : Oper} (hi : ops[i]? = some oi) {ej : List Nat} (h : uD C.P ops ej L i = true) (iH : j ≠ i) : uD C.P ops ej (L ||| 2 ^ j) i = true := by
 unfold uD at h ⊢; rw [hi] at h ⊢
 refine List.all_eq_true.2 fun k hk => ?_
 have := List.all_eq_true.1 h k hk
 simp only [Bool.or_eq_true] at this ⊢
 by_cases RI : k = j
 ·subst RI; exact .inl (.inl (.inr (by rw [dG]; simp)))
 ·rcases this with ((h' | h') | h') | h'
  ·exact .inl (.inl (.inl h'))
  ·exact .inl (.inl (.inr (by rw [dG, h']; rfl)))
  ·exact .inl (.inr h')
  ·right
   cases hok : ops[k]? with
   | none => rfl
   | some ok =>
    rw [hok] at h'
    simp only [Bool.and_eq_true] at h' ⊢
    obtain ⟨⟨⟨g1, g2⟩, g3⟩, g4⟩ := h'
    refine ⟨⟨⟨g1, e8 g2 RI⟩, g3⟩, List.all_eq_true.2 fun m hm => ?_⟩
    have := List.all_eq_true.1 g4 m hm
    simp only [Bool.or_eq_true] at this ⊢
    rcases this with (((h'' | h'') | h'') | h'') | h''
    ·exact .inl (.inl (.inl (.inl h'')))
    ·exact .inl (.inl (.inl (.inr h'')))
    ·exact .inl (.inl (.inr (by rw [dG, h'']; rfl)))
    ·exact .inl (.inr h'')
    ·exact .inr h''
theorem wg {M1 : Mem} {b : Nat} {ob : Obj} (h : rK (M1.set b ob)) (hb : M1 b = none) : rK M1 := by
 obtain ⟨N, h⟩ := h
 refine ⟨N, fun c hc => ?_⟩
 by_cases hcb : c = b
 ·subst hcb; exact hb
 ·have := h c hc; simpa [Mem.set, hcb] using this
def O0 (Kp : List PanicEntry → Mem → Prop) : Prop := ∀ c M M', Mem.le M M' → Kp c M → Kp c M'
theorem Lt {ρ : Operand → Value} {o : Oper} {M : Mem} {K : Value → Mem → Prop} (U3 : O0 Kp) (hc : cls C.P o = .FX) {b : Nat} {ob : Obj} (hb : M b = none) (h : qf C ρ o M K Kp) :
  qf C ρ o (M.set b ob) (fun v M' => ∃ M1, M' = M1.set b ob ∧ M1 b = none ∧ K v M1) Kp := by
 unfold qf at h ⊢
 rw [hc] at h ⊢
 simp only at h ⊢
 rw [qk hb]
 refine gJ C.P _ (F1 C.P _ h (jg.2 hb)) (fun n M' hn => ?_) (fun v M' hv => ?_)
 ·have := Bs hn
  have conv : ∀ v M2, Fr (single b ob) K v M2 → ∃ M1, M2 = M1.set b ob ∧ M1 b = none ∧ K v M1 := fun v M2 ⟨M1, e, hd, hk⟩ =>
   ⟨M1, by rw [e, qk (jg.1 hd)], jg.1 hd, hk⟩
  cases n <;> first
   | exact this.elim
   | exact conv _ _ this
   | exact aa.mono this conv (fun c M2 ⟨M1, e, hd, hk⟩ => U3 c M1 M2 (by rw [e]; exact fun i x hx => Mem.union_left hx) hk)
 ·obtain ⟨M1, rfl, hd, hk⟩ := hv
  exact U3 _ M1 _ (fun i x hx => Mem.union_left hx) hk
theorem F7 {S : Mem → Prop} (hS : uC S) (U3 : O0 Kp) {i : Nat} {oi : Oper} (hi : ops[i]? = some oi) (RJ : cls C.P oi = .FX) (hsel : ∀ (j : Nat) (o : Oper) cs b, ops[j]? = some o → o.op ≠ .select cs b)
  {ej : List Nat} (ha : mA ops ej = true) :
  ∀ (f L : Nat) (env : Nat → Value) (M : Mem), vz ops.size L = f + 1 → S M → Dn ops L → uD C.P ops ej L i = true → eP ops L i = true →
   (∀ j oj, eP ops L j = true → ops[j]? = some oj → j ≠ i → EU C.P ops env oj) →
   fD C ops Kp i env M (fun env' M' => S M' ∧ cW C ops S K Kp f (L ||| 2 ^ i) env' M') → cW C ops S K Kp (f + 1) L env M := by
 intro f
 induction f with
 | zero =>
  intro L env M Ij jK hdn hl hr hnew h eA
  refine ⟨fun hno => (by rw [hno i] at hr; cases hr), fun j hj => ?_⟩
  by_cases iH : j = i
  ·subst iH; exact h
  ·exfalso
   obtain ⟨hiL, _, hoi', _⟩ := bD.1 hr
   obtain ⟨F4, oj, ij, _⟩ := bD.1 hj
   have h1 := jW (n := ops.size) (Array.getElem?_eq_some_iff.1 hi).1 hiL
   have h2 := jW (n := ops.size) (L := L ||| 2 ^ i) (Array.getElem?_eq_some_iff.1 ij).1 (by rw [dG, F4]; simp [Ne.symm iH])
   omega
 | succ f ih =>
  intro L env M Ij jK hdn hl hr hnew h eA
  refine ⟨fun hno => (by rw [hno i] at hr; cases hr), fun j hj => ?_⟩
  by_cases iH : j = i
  ·subst iH; exact h
  ·obtain ⟨F4, oj, ij, fJ⟩ := bD.1 hj
   obtain ⟨AT, hap, Lu⟩ := Ls hi ha hdn hl hr hj ij iH
   obtain ⟨a1, a2, a3⟩ := Oper.apart_spec hap
   have hsi := fun cs b => hsel i oi cs b hi
   have hsj := fun cs b => hsel j oj cs b ij
   have hj' := e8 (i := i) hj iH
   have HW := e8 (i := j) hr (Ne.symm iH)
   have Lr := hdn.add hj
   have hl' := F6 (oj := oj) hi hl iH
   have Sz : vz ops.size (L ||| 2 ^ j) = f + 1 := by
    have := jW (n := ops.size) (Array.getElem?_eq_some_iff.1 ij).1 F4; omega
   have Sy : ∀ u, bJ ops oi (aX env oj.dst u) = bJ ops oi env := fun u => dP oi env oj.dst u a3
   have RH : ∀ u, execOp (nf (aX env oj.dst u)) oi = execOp (nf env) oi := fun u => gD oi hsi env oj.dst u a3
   have Ie : ∀ u, bJ ops oj (aX env oi.dst u) = bJ ops oj env := fun u => dP oj env oi.dst u a1
   have hej : ∀ u, execOp (nf (aX env oi.dst u)) oj = execOp (nf env) oj := fun u => gD oj hsj env oi.dst u a1
   have SB : ∀ u k ok, eP ops (L ||| 2 ^ j) k = true → ops[k]? = some ok → k ≠ i → EU C.P ops (aX env oj.dst u) ok := fun u k ok hk hok C2 => by
    have RI : k ≠ j := by rintro rfl; have := (bD.1 hk).1; rw [dG] at this; simp at this
    have hkL : eP ops L k = true := by
     unfold uD at hl; rw [hi] at hl
     have := List.all_eq_true.1 hl k (List.mem_range.2 (Array.getElem?_eq_some_iff.1 hok).1)
     have hkl : L.testBit k = false := by have := (bD.1 hk).1; rw [dG] at this; cases hb : L.testBit k <;> simp_all
     have hka : (ej.getD k 0).testBit i = false := by
      obtain ⟨_, ok', Ih, Ii⟩ := bD.1 hk
      rw [hok] at Ih; cases Ih
      cases hb : (ej.getD k 0).testBit i with
      | false => rfl
      | true => have := lP ha Lr k ok hok Ii i hb; rw [(bD.1 HW).1] at this; cases this
     have O1 : Nat.beq k i = false := by cases hb : Nat.beq k i with
      | false => rfl
      | true => exact absurd (Nat.eq_of_beq_eq_true hb) C2
     simp only [hkl, hka, O1, hok, Bool.false_or, Bool.and_eq_true] at this
     exact this.1.1.2
    have hb := Lu k ok hkL hok C2 RI
    obtain ⟨b1, _, _⟩ := Oper.apart_spec hb
    have U4 := fun cs b => hsel k ok cs b hok
    intro hw
    rw [dP ok env oj.dst u b1] at hw
    rw [gD ok U4 env oj.dst u b1]
    exact hnew k ok hkL hok C2 hw
   unfold fD at h; rw [hi] at h; simp only at h
   show fD C ops Kp j env M _
   unfold fD; rw [ij]; simp only
   have back : ∀ (u : Value) (M1 : Mem), S M1 → dL C ops oi (aX env oj.dst u) M1 (fun env' M' => S M' ∧ cW C ops S K Kp f (L ||| 2 ^ j ||| 2 ^ i) env' M') Kp →
     cW C ops S K Kp (f + 1) (L ||| 2 ^ j) (aX env oj.dst u) M1 := fun u M1 tF hb => by
    refine ih (L ||| 2 ^ j) _ M1 Sz tF Lr hl' HW (SB u) ?_
    unfold fD; rw [hi]; exact hb
   by_cases Ik : bJ ops oj env = true
   ·obtain ⟨ob, kk, hn, hv⟩ := hnew j oj hj ij iH Ik
    refine gL Ik ?_
    unfold qf; rw [AT]; simp only
    refine ⟨ob, kk, hn, fun b hb => ?_⟩
    obtain ⟨v, hvb⟩ := hv b
    refine ⟨v, hvb, hS _ _ (nv hb) jK, back v _ (hS _ _ (nv hb) jK) ?_⟩
    have cont : ∀ u M1, M1 b = none → S M1 → cW C ops S K Kp (f + 1) (L ||| 2 ^ i) (aX env oi.dst u) M1 →
      S (M1.set b ob) ∧ cW C ops S K Kp f (L ||| 2 ^ j ||| 2 ^ i) (aX (aX env oj.dst v) oi.dst u) (M1.set b ob) := fun u M1 xL tF hx => by
     refine ⟨hS _ _ (nv xL) tF, ?_⟩
     have step : ∀ Il : rK M1, S (M1.set b ob) ∧ cW C ops S K Kp f (L ||| 2 ^ i ||| 2 ^ j) (aX (aX env oi.dst u) oj.dst v) (M1.set b ob) := fun Il => by
      have hH := (hx Il).2 j hj'
      unfold fD at hH; rw [ij] at hH; simp only at hH
      unfold dL at hH
      rw [if_pos ((Ie u).trans Ik)] at hH
      unfold qf at hH; rw [AT] at hH; simp only at hH
      obtain ⟨ob2, kk2, xU, hH⟩ := hH
      rw [hej u, hn] at xU; cases xU
      obtain ⟨v2, NX, hH⟩ := hH b xL
      rw [hvb] at NX; cases NX
      exact hH
     have e : aX (aX env oj.dst v) oi.dst u = aX (aX env oi.dst u) oj.dst v := oP (fun d hd => fun he => a2 d he hd)
     rw [e, rL L j i]
     cases f with
     | zero => exact fun Dk => (step (wg Dk xL)).2 Dk
     | succ f => exact fun Dk => (step (wg Dk xL)).2 Dk
    unfold dL at h ⊢
    rw [Sy v]
    split
    ·rename_i hw; rw [if_pos hw] at h
     have h3 := Lt (ob := ob) U3 RJ hb h
     unfold qf at h3 ⊢
     rw [RH v]
     rw [RJ] at h3 ⊢
     simp only at h3 ⊢
     refine gJ C.P _ h3 (fun n M' hn' => ?_) (fun _ _ h => h)
     have conv : ∀ u M2, (∃ M1, M2 = M1.set b ob ∧ M1 b = none ∧ S M1 ∧ cW C ops S K Kp (f + 1) (L ||| 2 ^ i) (aX env oi.dst u) M1) →
       S M2 ∧ cW C ops S K Kp f (L ||| 2 ^ j ||| 2 ^ i) (aX (aX env oj.dst v) oi.dst u) M2 := fun u M2 ⟨M1, e, xL, tF, hx⟩ => by
      subst e; exact cont u M1 xL tF hx
     cases n <;> first
      | exact hn'.elim
      | exact conv _ _ hn'
      | exact aa.mono hn' conv (fun _ _ h => h)
    ·rename_i hw; rw [if_neg hw] at h; exact cont _ M hb h.1 h.2
   ·have hwf : bJ ops oj env = false := by simpa using Ik
    refine jV hwf ⟨jK, back undef M jK ?_⟩
    have cont : ∀ u M1, S M1 → cW C ops S K Kp (f + 1) (L ||| 2 ^ i) (aX env oi.dst u) M1 →
      S M1 ∧ cW C ops S K Kp f (L ||| 2 ^ j ||| 2 ^ i) (aX (aX env oj.dst undef) oi.dst u) M1 := fun u M1 tF hx => by
     refine ⟨tF, ?_⟩
     have step : ∀ Il : rK M1, S M1 ∧ cW C ops S K Kp f (L ||| 2 ^ i ||| 2 ^ j) (aX (aX env oi.dst u) oj.dst undef) M1 := fun Il => by
      have hH := (hx Il).2 j hj'
      unfold fD at hH; rw [ij] at hH; simp only at hH
      unfold dL at hH
      rw [if_neg (by rw [Ie u]; exact Ik)] at hH
      exact hH
     have e : aX (aX env oj.dst undef) oi.dst u = aX (aX env oi.dst u) oj.dst undef := oP (fun d hd => fun he => a2 d he hd)
     rw [e, rL L j i]
     cases f with
     | zero => exact fun Dk => (step Dk).2 Dk
     | succ f => exact fun Dk => (step Dk).2 Dk
    unfold dL at h ⊢
    rw [Sy undef]
    split
    ·rename_i hw; rw [if_pos hw] at h
     have h3 := h
     unfold qf at h3 ⊢
     rw [RH undef]
     rw [RJ] at h3 ⊢
     simp only at h3 ⊢
     refine gJ C.P _ h3 (fun n M' hn' => ?_) (fun _ _ h => h)
     cases n <;> first
      | exact hn'.elim
      | exact cont _ _ hn'.1 hn'.2
      | exact aa.mono hn' (fun u M2 hx => cont u M2 hx.1 hx.2) (fun _ _ h => h)
    ·rename_i hw; rw [if_neg hw] at h; exact cont _ M h.1 h.2
end
end Go.AF
