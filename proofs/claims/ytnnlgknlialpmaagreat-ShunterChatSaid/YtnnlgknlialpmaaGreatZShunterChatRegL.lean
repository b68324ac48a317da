/- A part of proofs about one program. -/
import Derived.Test.YtnnlgknlialpmaaGreatZShunterChatRegB
set_option linter.unusedVariables false
namespace Go.AF
def wS (n L : Nat) : Nat := ((List.range n).filter fun i => !L.testBit i).length
theorem kC {n L i : Nat} (hi : i < n) (hL : L.testBit i = false) : wS n L = wS n (L ||| 2 ^ i) + 1 := by
 unfold wS
 induction n with
 | zero => omega
 | succ n ih =>
  rw [List.range_succ, List.filter_append, List.filter_append, List.length_append, List.length_append]
  by_cases h : i = n
  ·subst h
   have e1 : ((List.range i).filter fun k => !L.testBit k) = (List.range i).filter fun k => !(L ||| 2 ^ i).testBit k := by
    apply List.filter_congr
    intro k hk
    have : i ≠ k := by have := List.mem_range.1 hk; omega
    rw [dI]; simp [this]
   rw [e1]
   simp [hL]
  ·have hin : i < n := by omega
   rw [ih hin]
   have : (L ||| 2 ^ i).testBit n = L.testBit n := by rw [dI]; simp [h]
   simp only [List.filter_cons, List.filter_nil, this]
   omega
def G7 (P : Program) (ops : Array Oper) (env : Nat → Value) (o : Oper) : Prop :=
 bK ops o env = true → ∃ (ob : Obj) (k : Nat → Sem Next), BH P (execOp (nW env) o) = some (ob, k) ∧ ∀ b, ∃ v, bF P (k b) Mem.empty = some (.value v)
def vI (P : Program) (ops : Array Oper) (eF : List Nat) (L i : Nat) : Bool := match ops[i]? with
 | some oi => (List.range ops.size).all fun j => Nat.beq j i || L.testBit j || (eF.getD j 0).testBit i || (match ops[j]? with
  | some oj => (match cls P oj with | .new => true | _ => false) && eV ops L j && oi.apart ops oj && (List.range ops.size).all fun k => Nat.beq k i || Nat.beq k j || L.testBit k || (eF.getD k 0).testBit i || (match ops[k]? with
   | some ok => oj.apart ops ok
   | none => true)
  | none => true)
 | none => false
section
variable {C : Ctx} {ops : Array Oper} {K : (Nat → Value) → Mem → Prop} {Kp : List PanicEntry → Mem → Prop}
theorem OQ {i j L : Nat} {oi oj : Oper} (hi : ops[i]? = some oi) {eF : List Nat} (ha : nu ops eF = true) (hdn : Dn ops L) (h : vI C.P ops eF L i = true) (hr : eV ops L i = true)
  (hj : eV ops L j = true) (iK : ops[j]? = some oj) (jg : j ≠ i) :
  cls C.P oj = .new ∧ oi.apart ops oj = true ∧ ∀ k ok, eV ops L k = true → ops[k]? = some ok → k ≠ i → k ≠ j → oj.apart ops ok = true := by
 obtain ⟨IP, oj', Di, gz⟩ := bG.1 hj
 rw [iK] at Di; cases Di
 have K4 : ∀ k ok, eV ops L k = true → ops[k]? = some ok → (eF.getD k 0).testBit i = false := fun k ok hk hok => by
  obtain ⟨_, ok', K5, K6⟩ := bG.1 hk
  rw [hok] at K5; cases K5
  cases hb : (eF.getD k 0).testBit i with
  | false => rfl
  | true => have := mE ha hdn k ok hok K6 i hb; rw [(bG.1 hr).1] at this; cases this
 have nb : ∀ a b : Nat, a ≠ b → Nat.beq a b = false := fun a b hab => by
  cases hb : Nat.beq a b with
  | false => rfl
  | true => exact absurd (Nat.eq_of_beq_eq_true hb) hab
 unfold vI at h; rw [hi] at h
 have := List.all_eq_true.1 h j (List.mem_range.2 (Array.getElem?_eq_some_iff.1 iK).1)
 simp only [IP, iK, K4 j oj hj iK, nb j i jg, Bool.false_or, Bool.and_eq_true] at this
 obtain ⟨⟨⟨h1, _⟩, h2⟩, h3⟩ := this
 refine ⟨?_, h2, fun k ok hk hok EX Vj => ?_⟩
 ·revert h1; cases cls C.P oj <;> simp
 ·have := List.all_eq_true.1 h3 k (List.mem_range.2 (Array.getElem?_eq_some_iff.1 hok).1)
  simp only [(bG.1 hk).1, hok, K4 k ok hk hok, nb k i EX, nb k j Vj, Bool.false_or] at this
  exact this
theorem IS {i j L : Nat} {oi oj : Oper} (hi : ops[i]? = some oi) {eF : List Nat} (h : vI C.P ops eF L i = true) (jg : j ≠ i) : vI C.P ops eF (L ||| 2 ^ j) i = true := by
 unfold vI at h ⊢; rw [hi] at h ⊢
 refine List.all_eq_true.2 fun k hk => ?_
 have := List.all_eq_true.1 h k hk
 simp only [Bool.or_eq_true] at this ⊢
 by_cases Vj : k = j
 ·subst Vj; exact .inl (.inl (.inr (by rw [dI]; simp)))
 ·rcases this with ((h' | h') | h') | h'
  ·exact .inl (.inl (.inl h'))
  ·exact .inl (.inl (.inr (by rw [dI, h']; rfl)))
  ·exact .inl (.inr h')
  ·right
   cases hok : ops[k]? with
   | none => rfl
   | some ok =>
    rw [hok] at h'
    simp only [Bool.and_eq_true] at h' ⊢
    obtain ⟨⟨⟨g1, g2⟩, g3⟩, g4⟩ := h'
    refine ⟨⟨⟨g1, fj g2 Vj⟩, g3⟩, List.all_eq_true.2 fun m hm => ?_⟩
    have := List.all_eq_true.1 g4 m hm
    simp only [Bool.or_eq_true] at this ⊢
    rcases this with (((h'' | h'') | h'') | h'') | h''
    ·exact .inl (.inl (.inl (.inl h'')))
    ·exact .inl (.inl (.inl (.inr h'')))
    ·exact .inl (.inl (.inr (by rw [dI, h'']; rfl)))
    ·exact .inl (.inr h'')
    ·exact .inr h''
theorem xA {M1 : Mem} {b : Nat} {ob : Obj} (h : sK (M1.set b ob)) (hb : M1 b = none) : sK M1 := by
 obtain ⟨N, h⟩ := h
 refine ⟨N, fun c hc => ?_⟩
 by_cases hcb : c = b
 ·subst hcb; exact hb
 ·have := h c hc; simpa [Mem.set, hcb] using this
def Sz (Kp : List PanicEntry → Mem → Prop) : Prop := ∀ c M M', Mem.le M M' → Kp c M → Kp c M'
theorem OR {ρ : Operand → Value} {o : Oper} {M : Mem} {K : Value → Mem → Prop} (Yk : Sz Kp) (hc : cls C.P o = .IG) {b : Nat} {ob : Obj} (hb : M b = none) (h : qN C ρ o M K Kp) :
  qN C ρ o (M.set b ob) (fun v M' => ∃ M1, M' = M1.set b ob ∧ M1 b = none ∧ K v M1) Kp := by
 unfold qN at h ⊢
 rw [hc] at h ⊢
 simp only at h ⊢
 rw [rh hb]
 refine gZ C.P _ (IL C.P _ h (jK.2 hb)) (fun n M' hn => ?_) (fun v M' hv => ?_)
 ·have := Dg hn
  have conv : ∀ v M2, Fr (single b ob) K v M2 → ∃ M1, M2 = M1.set b ob ∧ M1 b = none ∧ K v M1 := fun v M2 ⟨M1, e, hd, hk⟩ =>
   ⟨M1, by rw [e, rh (jK.1 hd)], jK.1 hd, hk⟩
  cases n <;> first
   | exact this.elim
   | exact conv _ _ this
   | exact aa.mono this conv (fun c M2 ⟨M1, e, hd, hk⟩ => Yk c M1 M2 (by rw [e]; exact fun i x hx => Mem.union_left hx) hk)
 ·obtain ⟨M1, rfl, hd, hk⟩ := hv
  exact Yk _ M1 _ (fun i x hx => Mem.union_left hx) hk
theorem IU {S : Mem → Prop} (hS : vH S) (Yk : Sz Kp) {i : Nat} {oi : Oper} (hi : ops[i]? = some oi) (OS : cls C.P oi = .IG) (hsel : ∀ (j : Nat) (o : Oper) cs b, ops[j]? = some o → o.op ≠ .select cs b)
  {eF : List Nat} (ha : nu ops eF = true) :
  ∀ (f L : Nat) (env : Nat → Value) (M : Mem), wS ops.size L = f + 1 → S M → Dn ops L → vI C.P ops eF L i = true → eV ops L i = true →
   (∀ j oj, eV ops L j = true → ops[j]? = some oj → j ≠ i → G7 C.P ops env oj) →
   fK C ops Kp i env M (fun env' M' => S M' ∧ dg C ops S K Kp f (L ||| 2 ^ i) env' M') → dg C ops S K Kp (f + 1) L env M := by
 intro f
 induction f with
 | zero =>
  intro L env M K7 ke hdn hl hr hnew h eL
  refine ⟨fun hno => (by rw [hno i] at hr; cases hr), fun j hj => ?_⟩
  by_cases jg : j = i
  ·subst jg; exact h
  ·exfalso
   obtain ⟨hiL, _, hoi', _⟩ := bG.1 hr
   obtain ⟨IP, oj, iK, _⟩ := bG.1 hj
   have h1 := kC (n := ops.size) (Array.getElem?_eq_some_iff.1 hi).1 hiL
   have h2 := kC (n := ops.size) (L := L ||| 2 ^ i) (Array.getElem?_eq_some_iff.1 iK).1 (by rw [dI, IP]; simp [Ne.symm jg])
   omega
 | succ f ih =>
  intro L env M K7 ke hdn hl hr hnew h eL
  refine ⟨fun hno => (by rw [hno i] at hr; cases hr), fun j hj => ?_⟩
  by_cases jg : j = i
  ·subst jg; exact h
  ·obtain ⟨IP, oj, iK, gz⟩ := bG.1 hj
   obtain ⟨CW, hap, OT⟩ := OQ hi ha hdn hl hr hj iK jg
   obtain ⟨a1, a2, a3⟩ := Oper.apart_spec hap
   have hsi := fun cs b => hsel i oi cs b hi
   have hsj := fun cs b => hsel j oj cs b iK
   have hj' := fj (i := i) hj jg
   have OI := fj (i := j) hr (Ne.symm jg)
   have OP := hdn.add hj
   have hl' := IS (oj := oj) hi hl jg
   have VT : wS ops.size (L ||| 2 ^ j) = f + 1 := by
    have := kC (n := ops.size) (Array.getElem?_eq_some_iff.1 iK).1 IP; omega
   have VS : ∀ u, bK ops oi (aY env oj.dst u) = bK ops oi env := fun u => dS oi env oj.dst u a3
   have Vi : ∀ u, execOp (nW (aY env oj.dst u)) oi = execOp (nW env) oi := fun u => gP oi hsi env oj.dst u a3
   have K3 : ∀ u, bK ops oj (aY env oi.dst u) = bK ops oj env := fun u => dS oj env oi.dst u a1
   have hej : ∀ u, execOp (nW (aY env oi.dst u)) oj = execOp (nW env) oj := fun u => gP oj hsj env oi.dst u a1
   have VU : ∀ u k ok, eV ops (L ||| 2 ^ j) k = true → ops[k]? = some ok → k ≠ i → G7 C.P ops (aY env oj.dst u) ok := fun u k ok hk hok EX => by
    have Vj : k ≠ j := by rintro rfl; have := (bG.1 hk).1; rw [dI] at this; simp at this
    have hkL : eV ops L k = true := by
     unfold vI at hl; rw [hi] at hl
     have := List.all_eq_true.1 hl k (List.mem_range.2 (Array.getElem?_eq_some_iff.1 hok).1)
     have hkl : L.testBit k = false := by have := (bG.1 hk).1; rw [dI] at this; cases hb : L.testBit k <;> simp_all
     have hka : (eF.getD k 0).testBit i = false := by
      obtain ⟨_, ok', K5, K6⟩ := bG.1 hk
      rw [hok] at K5; cases K5
      cases hb : (eF.getD k 0).testBit i with
      | false => rfl
      | true => have := mE ha OP k ok hok K6 i hb; rw [(bG.1 OI).1] at this; cases this
     have SB : Nat.beq k i = false := by cases hb : Nat.beq k i with
      | false => rfl
      | true => exact absurd (Nat.eq_of_beq_eq_true hb) EX
     simp only [hkl, hka, SB, hok, Bool.false_or, Bool.and_eq_true] at this
     exact this.1.1.2
    have hb := OT k ok hkL hok EX Vj
    obtain ⟨b1, _, _⟩ := Oper.apart_spec hb
    have hsk := fun cs b => hsel k ok cs b hok
    intro hw
    rw [dS ok env oj.dst u b1] at hw
    rw [gP ok hsk env oj.dst u b1]
    exact hnew k ok hkL hok EX hw
   unfold fK at h; rw [hi] at h; simp only at h
   show fK C ops Kp j env M _
   unfold fK; rw [iK]; simp only
   have back : ∀ (u : Value) (M1 : Mem), S M1 → dO C ops oi (aY env oj.dst u) M1 (fun env' M' => S M' ∧ dg C ops S K Kp f (L ||| 2 ^ j ||| 2 ^ i) env' M') Kp →
     dg C ops S K Kp (f + 1) (L ||| 2 ^ j) (aY env oj.dst u) M1 := fun u M1 sM hb => by
    refine ih (L ||| 2 ^ j) _ M1 VT sM OP hl' OI (VU u) ?_
    unfold fK; rw [hi]; exact hb
   by_cases K8 : bK ops oj env = true
   ·obtain ⟨ob, kk, hn, hv⟩ := hnew j oj hj iK jg K8
    refine g7 K8 ?_
    unfold qN; rw [CW]; simp only
    refine ⟨ob, kk, hn, fun b hb => ?_⟩
    obtain ⟨v, hvb⟩ := hv b
    refine ⟨v, hvb, hS _ _ (oh hb) ke, back v _ (hS _ _ (oh hb) ke) ?_⟩
    have cont : ∀ u M1, M1 b = none → S M1 → dg C ops S K Kp (f + 1) (L ||| 2 ^ i) (aY env oi.dst u) M1 →
      S (M1.set b ob) ∧ dg C ops S K Kp f (L ||| 2 ^ j ||| 2 ^ i) (aY (aY env oj.dst v) oi.dst u) (M1.set b ob) := fun u M1 vJ sM hx => by
     refine ⟨hS _ _ (oh vJ) sM, ?_⟩
     have step : ∀ K9 : sK M1, S (M1.set b ob) ∧ dg C ops S K Kp f (L ||| 2 ^ i ||| 2 ^ j) (aY (aY env oi.dst u) oj.dst v) (M1.set b ob) := fun K9 => by
      have iy := (hx K9).2 j hj'
      unfold fK at iy; rw [iK] at iy; simp only at iy
      unfold dO at iy
      rw [if_pos ((K3 u).trans K8)] at iy
      unfold qN at iy; rw [CW] at iy; simp only at iy
      obtain ⟨ob2, kk2, wq, iy⟩ := iy
      rw [hej u, hn] at wq; cases wq
      obtain ⟨v2, KC, iy⟩ := iy b vJ
      rw [hvb] at KC; cases KC
      exact iy
     have e : aY (aY env oj.dst v) oi.dst u = aY (aY env oi.dst u) oj.dst v := pK (fun d hd => fun he => a2 d he hd)
     rw [e, sL L j i]
     cases f with
     | zero => exact fun Fi => (step (xA Fi vJ)).2 Fi
     | succ f => exact fun Fi => (step (xA Fi vJ)).2 Fi
    unfold dO at h ⊢
    rw [VS v]
    split
    ·rename_i hw; rw [if_pos hw] at h
     have h3 := OR (ob := ob) Yk OS hb h
     unfold qN at h3 ⊢
     rw [Vi v]
     rw [OS] at h3 ⊢
     simp only at h3 ⊢
     refine gZ C.P _ h3 (fun n M' hn' => ?_) (fun _ _ h => h)
     have conv : ∀ u M2, (∃ M1, M2 = M1.set b ob ∧ M1 b = none ∧ S M1 ∧ dg C ops S K Kp (f + 1) (L ||| 2 ^ i) (aY env oi.dst u) M1) →
       S M2 ∧ dg C ops S K Kp f (L ||| 2 ^ j ||| 2 ^ i) (aY (aY env oj.dst v) oi.dst u) M2 := fun u M2 ⟨M1, e, vJ, sM, hx⟩ => by
      subst e; exact cont u M1 vJ sM hx
     cases n <;> first
      | exact hn'.elim
      | exact conv _ _ hn'
      | exact aa.mono hn' conv (fun _ _ h => h)
    ·rename_i hw; rw [if_neg hw] at h; exact cont _ M hb h.1 h.2
   ·have hwf : bK ops oj env = false := by simpa using K8
    refine kB hwf ⟨ke, back undef M ke ?_⟩
    have cont : ∀ u M1, S M1 → dg C ops S K Kp (f + 1) (L ||| 2 ^ i) (aY env oi.dst u) M1 →
      S M1 ∧ dg C ops S K Kp f (L ||| 2 ^ j ||| 2 ^ i) (aY (aY env oj.dst undef) oi.dst u) M1 := fun u M1 sM hx => by
     refine ⟨sM, ?_⟩
     have step : ∀ K9 : sK M1, S M1 ∧ dg C ops S K Kp f (L ||| 2 ^ i ||| 2 ^ j) (aY (aY env oi.dst u) oj.dst undef) M1 := fun K9 => by
      have iy := (hx K9).2 j hj'
      unfold fK at iy; rw [iK] at iy; simp only at iy
      unfold dO at iy
      rw [if_neg (by rw [K3 u]; exact K8)] at iy
      exact iy
     have e : aY (aY env oj.dst undef) oi.dst u = aY (aY env oi.dst u) oj.dst undef := pK (fun d hd => fun he => a2 d he hd)
     rw [e, sL L j i]
     cases f with
     | zero => exact fun Fi => (step Fi).2 Fi
     | succ f => exact fun Fi => (step Fi).2 Fi
    unfold dO at h ⊢
    rw [VS undef]
    split
    ·rename_i hw; rw [if_pos hw] at h
     have h3 := h
     unfold qN at h3 ⊢
     rw [Vi undef]
     rw [OS] at h3 ⊢
     simp only at h3 ⊢
     refine gZ C.P _ h3 (fun n M' hn' => ?_) (fun _ _ h => h)
     cases n <;> first
      | exact hn'.elim
      | exact cont _ _ hn'.1 hn'.2
      | exact aa.mono hn' (fun u M2 hx => cont u M2 hx.1 hx.2) (fun _ _ h => h)
    ·rename_i hw; rw [if_neg hw] at h; exact cont _ M h.1 h.2
end
end Go.AF
