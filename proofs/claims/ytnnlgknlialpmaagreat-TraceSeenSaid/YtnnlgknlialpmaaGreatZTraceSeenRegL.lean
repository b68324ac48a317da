/- A part of proofs about one program. -/
import Derived.Test.YtnnlgknlialpmaaGreatZTraceSeenRegB
set_option linter.unusedVariables false
namespace Go.AF
def yE (n L : Nat) : Nat := ((List.range n).filter fun i => !L.testBit i).length
theorem lW {n L i : Nat} (hi : i < n) (hL : L.testBit i = false) : yE n L = yE n (L ||| 2 ^ i) + 1 := by
 unfold yE
 induction n with
 | zero => omega
 | succ n ih =>
  rw [List.range_succ, List.filter_append, List.filter_append, List.length_append, List.length_append]
  by_cases h : i = n
  ·subst h
   have e1 : ((List.range i).filter fun k => !L.testBit k) = (List.range i).filter fun k => !(L ||| 2 ^ i).testBit k := by
    apply List.filter_congr
    intro k hk
    have : i ≠ k := by have := List.mem_range.1 hk; omega
    rw [eG]; simp [this]
   rw [e1]
   simp [hL]
  ·have hin : i < n := by omega
   rw [ih hin]
   have : (L ||| 2 ^ i).testBit n = L.testBit n := by rw [eG]; simp [h]
   simp only [List.filter_cons, List.filter_nil, this]
   omega
def Io (P : Program) (ops : Array Oper) (env : Nat → Value) (o : Oper) : Prop :=
 bU ops o env = true → ∃ (ob : Obj) (k : Nat → Sem Next), CM P (execOp (pe env) o) = some (ob, k) ∧ ∀ b, ∃ v, bR P (k b) Mem.empty = some (.value v)
def xq (P : Program) (ops : Array Oper) (fz : List Nat) (L i : Nat) : Bool := match ops[i]? with
 | some oi => (List.range ops.size).all fun j => Nat.beq j i || L.testBit j || (fz.getD j 0).testBit i || (match ops[j]? with
  | some oj => (match cls P oj with | .new => true | _ => false) && fO ops L j && oi.apart ops oj && (List.range ops.size).all fun k => Nat.beq k i || Nat.beq k j || L.testBit k || (fz.getD k 0).testBit i || (match ops[k]? with
   | some ok => oj.apart ops ok
   | none => true)
  | none => true)
 | none => false
section
variable {C : Ctx} {ops : Array Oper} {K : (Nat → Value) → Mem → Prop} {Kp : List PanicEntry → Mem → Prop}
theorem PN {i j L : Nat} {oi oj : Oper} (hi : ops[i]? = some oi) {fz : List Nat} (ha : oq ops fz = true) (hdn : Dn ops L) (h : xq C.P ops fz L i = true) (hr : fO ops L i = true)
  (hj : fO ops L j = true) (jz : ops[j]? = some oj) (jV : j ≠ i) :
  cls C.P oj = .new ∧ oi.apart ops oj = true ∧ ∀ k ok, fO ops L k = true → ops[k]? = some ok → k ≠ i → k ≠ j → oj.apart ops ok = true := by
 obtain ⟨JJ, oj', Ei, iJ⟩ := bQ.1 hj
 rw [jz] at Ei; cases Ei
 have LY : ∀ k ok, fO ops L k = true → ops[k]? = some ok → (fz.getD k 0).testBit i = false := fun k ok hk hok => by
  obtain ⟨_, ok', LZ, Ma⟩ := bQ.1 hk
  rw [hok] at LZ; cases LZ
  cases hb : (fz.getD k 0).testBit i with
  | false => rfl
  | true => have := nF ha hdn k ok hok Ma i hb; rw [(bQ.1 hr).1] at this; cases this
 have nb : ∀ a b : Nat, a ≠ b → Nat.beq a b = false := fun a b hab => by
  cases hb : Nat.beq a b with
  | false => rfl
  | true => exact absurd (Nat.eq_of_beq_eq_true hb) hab
 unfold xq at h; rw [hi] at h
 have := List.all_eq_true.1 h j (List.mem_range.2 (Array.getElem?_eq_some_iff.1 jz).1)
 simp only [JJ, jz, LY j oj hj jz, nb j i jV, Bool.false_or, Bool.and_eq_true] at this
 obtain ⟨⟨⟨h1, _⟩, h2⟩, h3⟩ := this
 refine ⟨?_, h2, fun k ok hk hok FZ WN => ?_⟩
 ·revert h1; cases cls C.P oj <;> simp
 ·have := List.all_eq_true.1 h3 k (List.mem_range.2 (Array.getElem?_eq_some_iff.1 hok).1)
  simp only [(bQ.1 hk).1, hok, LY k ok hk hok, nb k i FZ, nb k j WN, Bool.false_or] at this
  exact this
theorem JL {i j L : Nat} {oi oj : Oper} (hi : ops[i]? = some oi) {fz : List Nat} (h : xq C.P ops fz L i = true) (jV : j ≠ i) : xq C.P ops fz (L ||| 2 ^ j) i = true := by
 unfold xq at h ⊢; rw [hi] at h ⊢
 refine List.all_eq_true.2 fun k hk => ?_
 have := List.all_eq_true.1 h k hk
 simp only [Bool.or_eq_true] at this ⊢
 by_cases WN : k = j
 ·subst WN; exact .inl (.inl (.inr (by rw [eG]; simp)))
 ·rcases this with ((h' | h') | h') | h'
  ·exact .inl (.inl (.inl h'))
  ·exact .inl (.inl (.inr (by rw [eG, h']; rfl)))
  ·exact .inl (.inr h')
  ·right
   cases hok : ops[k]? with
   | none => rfl
   | some ok =>
    rw [hok] at h'
    simp only [Bool.and_eq_true] at h' ⊢
    obtain ⟨⟨⟨g1, g2⟩, g3⟩, g4⟩ := h'
    refine ⟨⟨⟨g1, fY g2 WN⟩, g3⟩, List.all_eq_true.2 fun m hm => ?_⟩
    have := List.all_eq_true.1 g4 m hm
    simp only [Bool.or_eq_true] at this ⊢
    rcases this with (((h'' | h'') | h'') | h'') | h''
    ·exact .inl (.inl (.inl (.inl h'')))
    ·exact .inl (.inl (.inl (.inr h'')))
    ·exact .inl (.inl (.inr (by rw [eG, h'']; rfl)))
    ·exact .inl (.inr h'')
    ·exact .inr h''
theorem y9 {M1 : Mem} {b : Nat} {ob : Obj} (h : uk (M1.set b ob)) (hb : M1 b = none) : uk M1 := by
 obtain ⟨N, h⟩ := h
 refine ⟨N, fun c hc => ?_⟩
 by_cases hcb : c = b
 ·subst hcb; exact hb
 ·have := h c hc; simpa [Mem.set, hcb] using this
def TB (Kp : List PanicEntry → Mem → Prop) : Prop := ∀ c M M', Mem.le M M' → Kp c M → Kp c M'
theorem PO {ρ : Operand → Value} {o : Oper} {M : Mem} {K : Value → Mem → Prop} (hKp : TB Kp) (hc : cls C.P o = .JC) {b : Nat} {ob : Obj} (hb : M b = none) (h : sQ C ρ o M K Kp) :
  sQ C ρ o (M.set b ob) (fun v M' => ∃ M1, M' = M1.set b ob ∧ M1 b = none ∧ K v M1) Kp := by
 unfold sQ at h ⊢
 rw [hc] at h ⊢
 simp only at h ⊢
 rw [td hb]
 refine iN C.P _ (JG C.P _ h (kN.2 hb)) (fun n M' hn => ?_) (fun v M' hv => ?_)
 ·have := Eg hn
  have conv : ∀ v M2, Fr (single b ob) K v M2 → ∃ M1, M2 = M1.set b ob ∧ M1 b = none ∧ K v M1 := fun v M2 ⟨M1, e, hd, hk⟩ =>
   ⟨M1, by rw [e, td (kN.1 hd)], kN.1 hd, hk⟩
  cases n <;> first
   | exact this.elim
   | exact conv _ _ this
   | exact aa.mono this conv (fun c M2 ⟨M1, e, hd, hk⟩ => hKp c M1 M2 (by rw [e]; exact fun i x hx => Mem.union_left hx) hk)
 ·obtain ⟨M1, rfl, hd, hk⟩ := hv
  exact hKp _ M1 _ (fun i x hx => Mem.union_left hx) hk
theorem JM {S : Mem → Prop} (hS : xp S) (hKp : TB Kp) {i : Nat} {oi : Oper} (hi : ops[i]? = some oi) (WO : cls C.P oi = .JC) (hsel : ∀ (j : Nat) (o : Oper) cs b, ops[j]? = some o → o.op ≠ .select cs b)
  {fz : List Nat} (ha : oq ops fz = true) :
  ∀ (f L : Nat) (env : Nat → Value) (M : Mem), yE ops.size L = f + 1 → S M → Dn ops L → xq C.P ops fz L i = true → fO ops L i = true →
   (∀ j oj, fO ops L j = true → ops[j]? = some oj → j ≠ i → Io C.P ops env oj) →
   gn C ops Kp i env M (fun env' M' => S M' ∧ dM C ops S K Kp f (L ||| 2 ^ i) env' M') → dM C ops S K Kp (f + 1) L env M := by
 intro f
 induction f with
 | zero =>
  intro L env M Mb lM hdn hl hr hnew h fB
  refine ⟨fun hno => (by rw [hno i] at hr; cases hr), fun j hj => ?_⟩
  by_cases jV : j = i
  ·subst jV; exact h
  ·exfalso
   obtain ⟨hiL, _, hoi', _⟩ := bQ.1 hr
   obtain ⟨JJ, oj, jz, _⟩ := bQ.1 hj
   have h1 := lW (n := ops.size) (Array.getElem?_eq_some_iff.1 hi).1 hiL
   have h2 := lW (n := ops.size) (L := L ||| 2 ^ i) (Array.getElem?_eq_some_iff.1 jz).1 (by rw [eG, JJ]; simp [Ne.symm jV])
   omega
 | succ f ih =>
  intro L env M Mb lM hdn hl hr hnew h fB
  refine ⟨fun hno => (by rw [hno i] at hr; cases hr), fun j hj => ?_⟩
  by_cases jV : j = i
  ·subst jV; exact h
  ·obtain ⟨JJ, oj, jz, iJ⟩ := bQ.1 hj
   obtain ⟨DO, hap, PR⟩ := PN hi ha hdn hl hr hj jz jV
   obtain ⟨a1, a2, a3⟩ := Oper.apart_spec hap
   have hsi := fun cs b => hsel i oi cs b hi
   have hsj := fun cs b => hsel j oj cs b jz
   have hj' := fY (i := i) hj jV
   have PE := fY (i := j) hr (Ne.symm jV)
   have PL := hdn.add hj
   have hl' := JL (oj := oj) hi hl jV
   have Xv : yE ops.size (L ||| 2 ^ j) = f + 1 := by
    have := lW (n := ops.size) (Array.getElem?_eq_some_iff.1 jz).1 JJ; omega
   have Xu : ∀ u, bU ops oi (bt env oj.dst u) = bU ops oi env := fun u => eU oi env oj.dst u a3
   have WM : ∀ u, execOp (pe (bt env oj.dst u)) oi = execOp (pe env) oi := fun u => iB oi hsi env oj.dst u a3
   have LX : ∀ u, bU ops oj (bt env oi.dst u) = bU ops oj env := fun u => eU oj env oi.dst u a1
   have hej : ∀ u, execOp (pe (bt env oi.dst u)) oj = execOp (pe env) oj := fun u => iB oj hsj env oi.dst u a1
   have Xw : ∀ u k ok, fO ops (L ||| 2 ^ j) k = true → ops[k]? = some ok → k ≠ i → Io C.P ops (bt env oj.dst u) ok := fun u k ok hk hok FZ => by
    have WN : k ≠ j := by rintro rfl; have := (bQ.1 hk).1; rw [eG] at this; simp at this
    have hkL : fO ops L k = true := by
     unfold xq at hl; rw [hi] at hl
     have := List.all_eq_true.1 hl k (List.mem_range.2 (Array.getElem?_eq_some_iff.1 hok).1)
     have hkl : L.testBit k = false := by have := (bQ.1 hk).1; rw [eG] at this; cases hb : L.testBit k <;> simp_all
     have hka : (fz.getD k 0).testBit i = false := by
      obtain ⟨_, ok', LZ, Ma⟩ := bQ.1 hk
      rw [hok] at LZ; cases LZ
      cases hb : (fz.getD k 0).testBit i with
      | false => rfl
      | true => have := nF ha PL k ok hok Ma i hb; rw [(bQ.1 PE).1] at this; cases this
     have TC : Nat.beq k i = false := by cases hb : Nat.beq k i with
      | false => rfl
      | true => exact absurd (Nat.eq_of_beq_eq_true hb) FZ
     simp only [hkl, hka, TC, hok, Bool.false_or, Bool.and_eq_true] at this
     exact this.1.1.2
    have hb := PR k ok hkL hok FZ WN
    obtain ⟨b1, _, _⟩ := Oper.apart_spec hb
    have hsk := fun cs b => hsel k ok cs b hok
    intro hw
    rw [eU ok env oj.dst u b1] at hw
    rw [iB ok hsk env oj.dst u b1]
    exact hnew k ok hkL hok FZ hw
   unfold gn at h; rw [hi] at h; simp only at h
   show gn C ops Kp j env M _
   unfold gn; rw [jz]; simp only
   have back : ∀ (u : Value) (M1 : Mem), S M1 → eO C ops oi (bt env oj.dst u) M1 (fun env' M' => S M' ∧ dM C ops S K Kp f (L ||| 2 ^ j ||| 2 ^ i) env' M') Kp →
     dM C ops S K Kp (f + 1) (L ||| 2 ^ j) (bt env oj.dst u) M1 := fun u M1 vD hb => by
    refine ih (L ||| 2 ^ j) _ M1 Xv vD PL hl' PE (Xw u) ?_
    unfold gn; rw [hi]; exact hb
   by_cases Mc : bU ops oj env = true
   ·obtain ⟨ob, kk, hn, hv⟩ := hnew j oj hj jz jV Mc
    refine iO Mc ?_
    unfold sQ; rw [DO]; simp only
    refine ⟨ob, kk, hn, fun b hb => ?_⟩
    obtain ⟨v, hvb⟩ := hv b
    refine ⟨v, hvb, hS _ _ (pB hb) lM, back v _ (hS _ _ (pB hb) lM) ?_⟩
    have cont : ∀ u M1, M1 b = none → S M1 → dM C ops S K Kp (f + 1) (L ||| 2 ^ i) (bt env oi.dst u) M1 →
      S (M1.set b ob) ∧ dM C ops S K Kp f (L ||| 2 ^ j ||| 2 ^ i) (bt (bt env oj.dst v) oi.dst u) (M1.set b ob) := fun u M1 za vD hx => by
     refine ⟨hS _ _ (pB za) vD, ?_⟩
     have step : ∀ JN : uk M1, S (M1.set b ob) ∧ dM C ops S K Kp f (L ||| 2 ^ i ||| 2 ^ j) (bt (bt env oi.dst u) oj.dst v) (M1.set b ob) := fun JN => by
      have jl := (hx JN).2 j hj'
      unfold gn at jl; rw [jz] at jl; simp only at jl
      unfold eO at jl
      rw [if_pos ((LX u).trans Mc)] at jl
      unfold sQ at jl; rw [DO] at jl; simp only at jl
      obtain ⟨ob2, kk2, AO, jl⟩ := jl
      rw [hej u, hn] at AO; cases AO
      obtain ⟨v2, PS, jl⟩ := jl b za
      rw [hvb] at PS; cases PS
      exact jl
     have e : bt (bt env oj.dst v) oi.dst u = bt (bt env oi.dst u) oj.dst v := qL (fun d hd => fun he => a2 d he hd)
     rw [e, um L j i]
     cases f with
     | zero => exact fun Ek => (step (y9 Ek za)).2 Ek
     | succ f => exact fun Ek => (step (y9 Ek za)).2 Ek
    unfold eO at h ⊢
    rw [Xu v]
    split
    ·rename_i hw; rw [if_pos hw] at h
     have h3 := PO (ob := ob) hKp WO hb h
     unfold sQ at h3 ⊢
     rw [WM v]
     rw [WO] at h3 ⊢
     simp only at h3 ⊢
     refine iN C.P _ h3 (fun n M' hn' => ?_) (fun _ _ h => h)
     have conv : ∀ u M2, (∃ M1, M2 = M1.set b ob ∧ M1 b = none ∧ S M1 ∧ dM C ops S K Kp (f + 1) (L ||| 2 ^ i) (bt env oi.dst u) M1) →
       S M2 ∧ dM C ops S K Kp f (L ||| 2 ^ j ||| 2 ^ i) (bt (bt env oj.dst v) oi.dst u) M2 := fun u M2 ⟨M1, e, za, vD, hx⟩ => by
      subst e; exact cont u M1 za vD hx
     cases n <;> first
      | exact hn'.elim
      | exact conv _ _ hn'
      | exact aa.mono hn' conv (fun _ _ h => h)
    ·rename_i hw; rw [if_neg hw] at h; exact cont _ M hb h.1 h.2
   ·have hwf : bU ops oj env = false := by simpa using Mc
    refine lV hwf ⟨lM, back undef M lM ?_⟩
    have cont : ∀ u M1, S M1 → dM C ops S K Kp (f + 1) (L ||| 2 ^ i) (bt env oi.dst u) M1 →
      S M1 ∧ dM C ops S K Kp f (L ||| 2 ^ j ||| 2 ^ i) (bt (bt env oj.dst undef) oi.dst u) M1 := fun u M1 vD hx => by
     refine ⟨vD, ?_⟩
     have step : ∀ JN : uk M1, S M1 ∧ dM C ops S K Kp f (L ||| 2 ^ i ||| 2 ^ j) (bt (bt env oi.dst u) oj.dst undef) M1 := fun JN => by
      have jl := (hx JN).2 j hj'
      unfold gn at jl; rw [jz] at jl; simp only at jl
      unfold eO at jl
      rw [if_neg (by rw [LX u]; exact Mc)] at jl
      exact jl
     have e : bt (bt env oj.dst undef) oi.dst u = bt (bt env oi.dst u) oj.dst undef := qL (fun d hd => fun he => a2 d he hd)
     rw [e, um L j i]
     cases f with
     | zero => exact fun Ek => (step Ek).2 Ek
     | succ f => exact fun Ek => (step Ek).2 Ek
    unfold eO at h ⊢
    rw [Xu undef]
    split
    ·rename_i hw; rw [if_pos hw] at h
     have h3 := h
     unfold sQ at h3 ⊢
     rw [WM undef]
     rw [WO] at h3 ⊢
     simp only at h3 ⊢
     refine iN C.P _ h3 (fun n M' hn' => ?_) (fun _ _ h => h)
     cases n <;> first
      | exact hn'.elim
      | exact cont _ _ hn'.1 hn'.2
      | exact aa.mono hn' (fun u M2 hx => cont u M2 hx.1 hx.2) (fun _ _ h => h)
    ·rename_i hw; rw [if_neg hw] at h; exact cont _ M h.1 h.2
end
end Go.AF
