/- A part of proofs about one program. -/
import Derived.Test.YtfjgcljdnhkmaaaGreatZSchedAgainRegB
set_option linter.unusedVariables false
namespace Go.AF
def yg (n L : Nat) : Nat := ((List.range n).filter fun i => !L.testBit i).length
theorem lQ {n L i : Nat} (hi : i < n) (hL : L.testBit i = false) : yg n L = yg n (L ||| 2 ^ i) + 1 := by
 unfold yg
 induction n with
 | zero => omega
 | succ n ih =>
  rw [List.range_succ, List.filter_append, List.filter_append, List.length_append, List.length_append]
  by_cases h : i = n
  ·subst h
   have e1 : ((List.range i).filter fun k => !L.testBit k) = (List.range i).filter fun k => !(L ||| 2 ^ i).testBit k := by
    apply List.filter_congr
    intro k hk
    have : i ≠ k := by have := List.mem_range.1 hk; omega
    rw [eH]; simp [this]
   rw [e1]
   simp [hL]
  ·have hin : i < n := by omega
   rw [ih hin]
   have : (L ||| 2 ^ i).testBit n = L.testBit n := by rw [eH]; simp [h]
   simp only [List.filter_cons, List.filter_nil, this]
   omega
def IZ (P : Program) (ops : Array Oper) (env : Nat → Value) (o : Oper) : Prop :=
 bW ops o env = true → ∃ (ob : Obj) (k : Nat → Sem Next), CZ P (execOp (mw env) o) = some (ob, k) ∧ ∀ b, ∃ v, bQ P (k b) Mem.empty = some (.value v)
def w8 (P : Program) (ops : Array Oper) (fu : List Nat) (L i : Nat) : Bool := match ops[i]? with
 | some oi => (List.range ops.size).all fun j => Nat.beq j i || L.testBit j || (fu.getD j 0).testBit i || (match ops[j]? with
  | some oj => (match cls P oj with | .new => true | _ => false) && fM ops L j && oi.apart ops oj && (List.range ops.size).all fun k => Nat.beq k i || Nat.beq k j || L.testBit k || (fu.getD k 0).testBit i || (match ops[k]? with
   | some ok => oj.apart ops ok
   | none => true)
  | none => true)
 | none => false
section
variable {C : Ctx} {ops : Array Oper} {K : (Nat → Value) → Mem → Prop} {Kp : List PanicEntry → Mem → Prop}
theorem Qr {i j L : Nat} {oi oj : Oper} (hi : ops[i]? = some oi) {fu : List Nat} (ha : oB ops fu = true) (hdn : Dn ops L) (h : w8 C.P ops fu L i = true) (hr : fM ops L i = true)
  (hj : fM ops L j = true) (jl : ops[j]? = some oj) (jT : j ≠ i) :
  cls C.P oj = .new ∧ oi.apart ops oj = true ∧ ∀ k ok, fM ops L k = true → ops[k]? = some ok → k ≠ i → k ≠ j → oj.apart ops ok = true := by
 obtain ⟨Kt, oj', ED, gS⟩ := bP.1 hj
 rw [jl] at ED; cases ED
 have MR : ∀ k ok, fM ops L k = true → ops[k]? = some ok → (fu.getD k 0).testBit i = false := fun k ok hk hok => by
  obtain ⟨_, ok', MS, MT⟩ := bP.1 hk
  rw [hok] at MS; cases MS
  cases hb : (fu.getD k 0).testBit i with
  | false => rfl
  | true => have := nH ha hdn k ok hok MT i hb; rw [(bP.1 hr).1] at this; cases this
 have nb : ∀ a b : Nat, a ≠ b → Nat.beq a b = false := fun a b hab => by
  cases hb : Nat.beq a b with
  | false => rfl
  | true => exact absurd (Nat.eq_of_beq_eq_true hb) hab
 unfold w8 at h; rw [hi] at h
 have := List.all_eq_true.1 h j (List.mem_range.2 (Array.getElem?_eq_some_iff.1 jl).1)
 simp only [Kt, jl, MR j oj hj jl, nb j i jT, Bool.false_or, Bool.and_eq_true] at this
 obtain ⟨⟨⟨h1, _⟩, h2⟩, h3⟩ := this
 refine ⟨?_, h2, fun k ok hk hok Ge Xx => ?_⟩
 ·revert h1; cases cls C.P oj <;> simp
 ·have := List.all_eq_true.1 h3 k (List.mem_range.2 (Array.getElem?_eq_some_iff.1 hok).1)
  simp only [(bP.1 hk).1, hok, MR k ok hk hok, nb k i Ge, nb k j Xx, Bool.false_or] at this
  exact this
theorem Kv {i j L : Nat} {oi oj : Oper} (hi : ops[i]? = some oi) {fu : List Nat} (h : w8 C.P ops fu L i = true) (jT : j ≠ i) : w8 C.P ops fu (L ||| 2 ^ j) i = true := by
 unfold w8 at h ⊢; rw [hi] at h ⊢
 refine List.all_eq_true.2 fun k hk => ?_
 have := List.all_eq_true.1 h k hk
 simp only [Bool.or_eq_true] at this ⊢
 by_cases Xx : k = j
 ·subst Xx; exact .inl (.inl (.inr (by rw [eH]; simp)))
 ·rcases this with ((h' | h') | h') | h'
  ·exact .inl (.inl (.inl h'))
  ·exact .inl (.inl (.inr (by rw [eH, h']; rfl)))
  ·exact .inl (.inr h')
  ·right
   cases hok : ops[k]? with
   | none => rfl
   | some ok =>
    rw [hok] at h'
    simp only [Bool.and_eq_true] at h' ⊢
    obtain ⟨⟨⟨g1, g2⟩, g3⟩, g4⟩ := h'
    refine ⟨⟨⟨g1, fS g2 Xx⟩, g3⟩, List.all_eq_true.2 fun m hm => ?_⟩
    have := List.all_eq_true.1 g4 m hm
    simp only [Bool.or_eq_true] at this ⊢
    rcases this with (((h'' | h'') | h'') | h'') | h''
    ·exact .inl (.inl (.inl (.inl h'')))
    ·exact .inl (.inl (.inl (.inr h'')))
    ·exact .inl (.inl (.inr (by rw [eH, h'']; rfl)))
    ·exact .inl (.inr h'')
    ·exact .inr h''
theorem yR {M1 : Mem} {b : Nat} {ob : Obj} (h : ue (M1.set b ob)) (hb : M1 b = none) : ue M1 := by
 obtain ⟨N, h⟩ := h
 refine ⟨N, fun c hc => ?_⟩
 by_cases hcb : c = b
 ·subst hcb; exact hb
 ·have := h c hc; simpa [Mem.set, hcb] using this
def TT (Kp : List PanicEntry → Mem → Prop) : Prop := ∀ c M M', Mem.le M M' → Kp c M → Kp c M'
theorem Qs {ρ : Operand → Value} {o : Oper} {M : Mem} {K : Value → Mem → Prop} (hKp : TT Kp) (hc : cls C.P o = .Kk) {b : Nat} {ob : Obj} (hb : M b = none) (h : sA C ρ o M K Kp) :
  sA C ρ o (M.set b ob) (fun v M' => ∃ M1, M' = M1.set b ob ∧ M1 b = none ∧ K v M1) Kp := by
 unfold sA at h ⊢
 rw [hc] at h ⊢
 simp only at h ⊢
 rw [sN hb]
 refine iE C.P _ (Ko C.P _ h (kI.2 hb)) (fun n M' hn => ?_) (fun v M' hv => ?_)
 ·have := EB hn
  have conv : ∀ v M2, Fr (single b ob) K v M2 → ∃ M1, M2 = M1.set b ob ∧ M1 b = none ∧ K v M1 := fun v M2 ⟨M1, e, hd, hk⟩ =>
   ⟨M1, by rw [e, sN (kI.1 hd)], kI.1 hd, hk⟩
  cases n <;> first
   | exact this.elim
   | exact conv _ _ this
   | exact aa.mono this conv (fun c M2 ⟨M1, e, hd, hk⟩ => hKp c M1 M2 (by rw [e]; exact fun i x hx => Mem.union_left hx) hk)
 ·obtain ⟨M1, rfl, hd, hk⟩ := hv
  exact hKp _ M1 _ (fun i x hx => Mem.union_left hx) hk
theorem Kw {S : Mem → Prop} (hS : w7 S) (hKp : TT Kp) {i : Nat} {oi : Oper} (hi : ops[i]? = some oi) (Xy : cls C.P oi = .Kk) (hsel : ∀ (j : Nat) (o : Oper) cs b, ops[j]? = some o → o.op ≠ .select cs b)
  {fu : List Nat} (ha : oB ops fu = true) :
  ∀ (f L : Nat) (env : Nat → Value) (M : Mem), yg ops.size L = f + 1 → S M → Dn ops L → w8 C.P ops fu L i = true → fM ops L i = true →
   (∀ j oj, fM ops L j = true → ops[j]? = some oj → j ≠ i → IZ C.P ops env oj) →
   gm C ops Kp i env M (fun env' M' => S M' ∧ dW C ops S K Kp f (L ||| 2 ^ i) env' M') → dW C ops S K Kp (f + 1) L env M := by
 intro f
 induction f with
 | zero =>
  intro L env M GI lH hdn hl hr hnew h fe
  refine ⟨fun hno => (by rw [hno i] at hr; cases hr), fun j hj => ?_⟩
  by_cases jT : j = i
  ·subst jT; exact h
  ·exfalso
   obtain ⟨hiL, _, hoi', _⟩ := bP.1 hr
   obtain ⟨Kt, oj, jl, _⟩ := bP.1 hj
   have h1 := lQ (n := ops.size) (Array.getElem?_eq_some_iff.1 hi).1 hiL
   have h2 := lQ (n := ops.size) (L := L ||| 2 ^ i) (Array.getElem?_eq_some_iff.1 jl).1 (by rw [eH, Kt]; simp [Ne.symm jT])
   omega
 | succ f ih =>
  intro L env M GI lH hdn hl hr hnew h fe
  refine ⟨fun hno => (by rw [hno i] at hr; cases hr), fun j hj => ?_⟩
  by_cases jT : j = i
  ·subst jT; exact h
  ·obtain ⟨Kt, oj, jl, gS⟩ := bP.1 hj
   obtain ⟨D8, hap, Qt⟩ := Qr hi ha hdn hl hr hj jl jT
   obtain ⟨a1, a2, a3⟩ := Oper.apart_spec hap
   have hsi := fun cs b => hsel i oi cs b hi
   have hsj := fun cs b => hsel j oj cs b jl
   have hj' := fS (i := i) hj jT
   have Qk := fS (i := j) hr (Ne.symm jT)
   have Qq := hdn.add hj
   have hl' := Kv (oj := oj) hi hl jT
   have Yi : yg ops.size (L ||| 2 ^ j) = f + 1 := by
    have := lQ (n := ops.size) (Array.getElem?_eq_some_iff.1 jl).1 Kt; omega
   have Yh : ∀ u, bW ops oi (bu env oj.dst u) = bW ops oi env := fun u => eV oi env oj.dst u a3
   have Xw : ∀ u, execOp (mw (bu env oj.dst u)) oi = execOp (mw env) oi := fun u => ij oi hsi env oj.dst u a3
   have MQ : ∀ u, bW ops oj (bu env oi.dst u) = bW ops oj env := fun u => eV oj env oi.dst u a1
   have hej : ∀ u, execOp (mw (bu env oi.dst u)) oj = execOp (mw env) oj := fun u => ij oj hsj env oi.dst u a1
   have Yj : ∀ u k ok, fM ops (L ||| 2 ^ j) k = true → ops[k]? = some ok → k ≠ i → IZ C.P ops (bu env oj.dst u) ok := fun u k ok hk hok Ge => by
    have Xx : k ≠ j := by rintro rfl; have := (bP.1 hk).1; rw [eH] at this; simp at this
    have hkL : fM ops L k = true := by
     unfold w8 at hl; rw [hi] at hl
     have := List.all_eq_true.1 hl k (List.mem_range.2 (Array.getElem?_eq_some_iff.1 hok).1)
     have hkl : L.testBit k = false := by have := (bP.1 hk).1; rw [eH] at this; cases hb : L.testBit k <;> simp_all
     have hka : (fu.getD k 0).testBit i = false := by
      obtain ⟨_, ok', MS, MT⟩ := bP.1 hk
      rw [hok] at MS; cases MS
      cases hb : (fu.getD k 0).testBit i with
      | false => rfl
      | true => have := nH ha Qq k ok hok MT i hb; rw [(bP.1 Qk).1] at this; cases this
     have TU : Nat.beq k i = false := by cases hb : Nat.beq k i with
      | false => rfl
      | true => exact absurd (Nat.eq_of_beq_eq_true hb) Ge
     simp only [hkl, hka, TU, hok, Bool.false_or, Bool.and_eq_true] at this
     exact this.1.1.2
    have hb := Qt k ok hkL hok Ge Xx
    obtain ⟨b1, _, _⟩ := Oper.apart_spec hb
    have hsk := fun cs b => hsel k ok cs b hok
    intro hw
    rw [eV ok env oj.dst u b1] at hw
    rw [ij ok hsk env oj.dst u b1]
    exact hnew k ok hkL hok Ge hw
   unfold gm at h; rw [hi] at h; simp only at h
   show gm C ops Kp j env M _
   unfold gm; rw [jl]; simp only
   have back : ∀ (u : Value) (M1 : Mem), S M1 → eO C ops oi (bu env oj.dst u) M1 (fun env' M' => S M' ∧ dW C ops S K Kp f (L ||| 2 ^ j ||| 2 ^ i) env' M') Kp →
     dW C ops S K Kp (f + 1) (L ||| 2 ^ j) (bu env oj.dst u) M1 := fun u M1 vH hb => by
    refine ih (L ||| 2 ^ j) _ M1 Yi vH Qq hl' Qk (Yj u) ?_
    unfold gm; rw [hi]; exact hb
   by_cases MU : bW ops oj env = true
   ·obtain ⟨ob, kk, hn, hv⟩ := hnew j oj hj jl jT MU
    refine iG MU ?_
    unfold sA; rw [D8]; simp only
    refine ⟨ob, kk, hn, fun b hb => ?_⟩
    obtain ⟨v, hvb⟩ := hv b
    refine ⟨v, hvb, hS _ _ (pG hb) lH, back v _ (hS _ _ (pG hb) lH) ?_⟩
    have cont : ∀ u M1, M1 b = none → S M1 → dW C ops S K Kp (f + 1) (L ||| 2 ^ i) (bu env oi.dst u) M1 →
      S (M1.set b ob) ∧ dW C ops S K Kp f (L ||| 2 ^ j ||| 2 ^ i) (bu (bu env oj.dst v) oi.dst u) (M1.set b ob) := fun u M1 AG vH hx => by
     refine ⟨hS _ _ (pG AG) vH, ?_⟩
     have step : ∀ Kx : ue M1, S (M1.set b ob) ∧ dW C ops S K Kp f (L ||| 2 ^ i ||| 2 ^ j) (bu (bu env oi.dst u) oj.dst v) (M1.set b ob) := fun Kx => by
      have iZ := (hx Kx).2 j hj'
      unfold gm at iZ; rw [jl] at iZ; simp only at iZ
      unfold eO at iZ
      rw [if_pos ((MQ u).trans MU)] at iZ
      unfold sA at iZ; rw [D8] at iZ; simp only at iZ
      obtain ⟨ob2, kk2, yf, iZ⟩ := iZ
      rw [hej u, hn] at yf; cases yf
      obtain ⟨v2, GJ, iZ⟩ := iZ b AG
      rw [hvb] at GJ; cases GJ
      exact iZ
     have e : bu (bu env oj.dst v) oi.dst u = bu (bu env oi.dst u) oj.dst v := qJ (fun d hd => fun he => a2 d he hd)
     rw [e, uf L j i]
     cases f with
     | zero => exact fun EF => (step (yR EF AG)).2 EF
     | succ f => exact fun EF => (step (yR EF AG)).2 EF
    unfold eO at h ⊢
    rw [Yh v]
    split
    ·rename_i hw; rw [if_pos hw] at h
     have h3 := Qs (ob := ob) hKp Xy hb h
     unfold sA at h3 ⊢
     rw [Xw v]
     rw [Xy] at h3 ⊢
     simp only at h3 ⊢
     refine iE C.P _ h3 (fun n M' hn' => ?_) (fun _ _ h => h)
     have conv : ∀ u M2, (∃ M1, M2 = M1.set b ob ∧ M1 b = none ∧ S M1 ∧ dW C ops S K Kp (f + 1) (L ||| 2 ^ i) (bu env oi.dst u) M1) →
       S M2 ∧ dW C ops S K Kp f (L ||| 2 ^ j ||| 2 ^ i) (bu (bu env oj.dst v) oi.dst u) M2 := fun u M2 ⟨M1, e, AG, vH, hx⟩ => by
      subst e; exact cont u M1 AG vH hx
     cases n <;> first
      | exact hn'.elim
      | exact conv _ _ hn'
      | exact aa.mono hn' conv (fun _ _ h => h)
    ·rename_i hw; rw [if_neg hw] at h; exact cont _ M hb h.1 h.2
   ·have hwf : bW ops oj env = false := by simpa using MU
    refine lP hwf ⟨lH, back undef M lH ?_⟩
    have cont : ∀ u M1, S M1 → dW C ops S K Kp (f + 1) (L ||| 2 ^ i) (bu env oi.dst u) M1 →
      S M1 ∧ dW C ops S K Kp f (L ||| 2 ^ j ||| 2 ^ i) (bu (bu env oj.dst undef) oi.dst u) M1 := fun u M1 vH hx => by
     refine ⟨vH, ?_⟩
     have step : ∀ Kx : ue M1, S M1 ∧ dW C ops S K Kp f (L ||| 2 ^ i ||| 2 ^ j) (bu (bu env oi.dst u) oj.dst undef) M1 := fun Kx => by
      have iZ := (hx Kx).2 j hj'
      unfold gm at iZ; rw [jl] at iZ; simp only at iZ
      unfold eO at iZ
      rw [if_neg (by rw [MQ u]; exact MU)] at iZ
      exact iZ
     have e : bu (bu env oj.dst undef) oi.dst u = bu (bu env oi.dst u) oj.dst undef := qJ (fun d hd => fun he => a2 d he hd)
     rw [e, uf L j i]
     cases f with
     | zero => exact fun EF => (step EF).2 EF
     | succ f => exact fun EF => (step EF).2 EF
    unfold eO at h ⊢
    rw [Yh undef]
    split
    ·rename_i hw; rw [if_pos hw] at h
     have h3 := h
     unfold sA at h3 ⊢
     rw [Xw undef]
     rw [Xy] at h3 ⊢
     simp only at h3 ⊢
     refine iE C.P _ h3 (fun n M' hn' => ?_) (fun _ _ h => h)
     cases n <;> first
      | exact hn'.elim
      | exact cont _ _ hn'.1 hn'.2
      | exact aa.mono hn' (fun u M2 hx => cont u M2 hx.1 hx.2) (fun _ _ h => h)
    ·rename_i hw; rw [if_neg hw] at h; exact cont _ M h.1 h.2
end
end Go.AF
