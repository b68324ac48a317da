/- A part of proofs about functions of one program: a condition over a partial memory that is enough for a call, and what calls answer by it. No condition of its own. -/
import Derived.Test.YtfjgcljdnhkmaaaGreatZSchedStealsRegB
set_option linter.unusedVariables false
namespace Go.AF

def cnt (n L : Nat) : Nat := ((List.range n).filter fun i => !L.testBit i).length

theorem cnt_add {n L i : Nat} (hi : i < n) (hL : L.testBit i = false) : cnt n L = cnt n (L ||| 2 ^ i) + 1 := by
  unfold cnt
  induction n with
  | zero => omega
  | succ n ih =>
    rw [List.range_succ, List.filter_append, List.filter_append, List.length_append, List.length_append]
    by_cases h : i = n
    · subst h
      have e1 : ((List.range i).filter fun k => !L.testBit k) = (List.range i).filter fun k => !(L ||| 2 ^ i).testBit k := by
        apply List.filter_congr
        intro k hk
        have : i ≠ k := by have := List.mem_range.1 hk; omega
        rw [bit_add]; simp [this]
      rw [e1]
      simp [hL]
    · have hin : i < n := by omega
      rw [ih hin]
      have : (L ||| 2 ^ i).testBit n = L.testBit n := by rw [bit_add]; simp [h]
      simp only [List.filter_cons, List.filter_nil, this]
      omega

/-- An operation that makes memory can be done. -/
def newOk (P : Program) (ops : Array Oper) (env : Nat → Value) (o : Oper) : Prop :=
  wantedE ops o env = true → ∃ (ob : Obj) (k : Nat → Sem Next), nwS P (execOp (evE env) o) = some (ob, k) ∧ ∀ b, ∃ v, rdS P (k b) Mem.empty = some (.value v)

/-- Beside i there is, of what isn't behind it, only what is ready and makes memory. -/
def lateB (P : Program) (ops : Array Oper) (anc : List Nat) (L i : Nat) : Bool := match ops[i]? with
  | some oi => (List.range ops.size).all fun j => Nat.beq j i || L.testBit j || (anc.getD j 0).testBit i || (match ops[j]? with
    | some oj => (match cls P oj with | .new => true | _ => false) && rdyB ops L j && oi.apart ops oj && (List.range ops.size).all fun k => Nat.beq k i || Nat.beq k j || L.testBit k || (anc.getD k 0).testBit i || (match ops[k]? with
      | some ok => oj.apart ops ok
      | none => true)
    | none => true)
  | none => false

section
variable {C : Ctx} {ops : Array Oper} {K : (Nat → Value) → Mem → Prop} {Kp : List PanicEntry → Mem → Prop}

theorem late_of {i j L : Nat} {oi oj : Oper} (hi : ops[i]? = some oi) {anc : List Nat} (ha : ancOk ops anc = true) (hdn : Dn ops L) (h : lateB C.P ops anc L i = true) (hr : rdyB ops L i = true)
    (hj : rdyB ops L j = true) (hoj : ops[j]? = some oj) (hji : j ≠ i) :
    cls C.P oj = .new ∧ oi.apart ops oj = true ∧ ∀ k ok, rdyB ops L k = true → ops[k]? = some ok → k ≠ i → k ≠ j → oj.apart ops ok = true := by
  obtain ⟨hjL, oj', hoj', hall⟩ := rdyB_iff.1 hj
  rw [hoj] at hoj'; cases hoj'
  have notanc : ∀ k ok, rdyB ops L k = true → ops[k]? = some ok → (anc.getD k 0).testBit i = false := fun k ok hk hok => by
    obtain ⟨_, ok', hok', hallk⟩ := rdyB_iff.1 hk
    rw [hok] at hok'; cases hok'
    cases hb : (anc.getD k 0).testBit i with
    | false => rfl
    | true => have := anc_listed ha hdn k ok hok hallk i hb; rw [(rdyB_iff.1 hr).1] at this; cases this
  have nb : ∀ a b : Nat, a ≠ b → Nat.beq a b = false := fun a b hab => by
    cases hb : Nat.beq a b with
    | false => rfl
    | true => exact absurd (Nat.eq_of_beq_eq_true hb) hab
  unfold lateB at h; rw [hi] at h
  have := List.all_eq_true.1 h j (List.mem_range.2 (Array.getElem?_eq_some_iff.1 hoj).1)
  simp only [hjL, hoj, notanc j oj hj hoj, nb j i hji, Bool.false_or, Bool.and_eq_true] at this
  obtain ⟨⟨⟨h1, _⟩, h2⟩, h3⟩ := this
  refine ⟨?_, h2, fun k ok hk hok hki hkj => ?_⟩
  · revert h1; cases cls C.P oj <;> simp
  · have := List.all_eq_true.1 h3 k (List.mem_range.2 (Array.getElem?_eq_some_iff.1 hok).1)
    simp only [(rdyB_iff.1 hk).1, hok, notanc k ok hk hok, nb k i hki, nb k j hkj, Bool.false_or] at this
    exact this

theorem lateB_add {i j L : Nat} {oi oj : Oper} (hi : ops[i]? = some oi) {anc : List Nat} (h : lateB C.P ops anc L i = true) (hji : j ≠ i) : lateB C.P ops anc (L ||| 2 ^ j) i = true := by
  unfold lateB at h ⊢; rw [hi] at h ⊢
  refine List.all_eq_true.2 fun k hk => ?_
  have := List.all_eq_true.1 h k hk
  simp only [Bool.or_eq_true] at this ⊢
  by_cases hkj : k = j
  · subst hkj; exact .inl (.inl (.inr (by rw [bit_add]; simp)))
  · rcases this with ((h' | h') | h') | h'
    · exact .inl (.inl (.inl h'))
    · exact .inl (.inl (.inr (by rw [bit_add, h']; rfl)))
    · exact .inl (.inr h')
    · right
      cases hok : ops[k]? with
      | none => rfl
      | some ok =>
        rw [hok] at h'
        simp only [Bool.and_eq_true] at h' ⊢
        obtain ⟨⟨⟨g1, g2⟩, g3⟩, g4⟩ := h'
        refine ⟨⟨⟨g1, rdyB_add g2 hkj⟩, g3⟩, List.all_eq_true.2 fun m hm => ?_⟩
        have := List.all_eq_true.1 g4 m hm
        simp only [Bool.or_eq_true] at this ⊢
        rcases this with (((h'' | h'') | h'') | h'') | h''
        · exact .inl (.inl (.inl (.inl h'')))
        · exact .inl (.inl (.inl (.inr h'')))
        · exact .inl (.inl (.inr (by rw [bit_add, h'']; rfl)))
        · exact .inl (.inr h'')
        · exact .inr h''

theorem fin_single {M1 : Mem} {b : Nat} {ob : Obj} (h : FinM (M1.set b ob)) (hb : M1 b = none) : FinM M1 := by
  obtain ⟨N, h⟩ := h
  refine ⟨N, fun c hc => ?_⟩
  by_cases hcb : c = b
  · subst hcb; exact hb
  · have := h c hc; simpa [Mem.set, hcb] using this

def UpKp (Kp : List PanicEntry → Mem → Prop) : Prop := ∀ c M M', Mem.le M M' → Kp c M → Kp c M'

theorem bop_set {ρ : Operand → Value} {o : Oper} {M : Mem} {K : Value → Mem → Prop} (hKp : UpKp Kp) (hc : cls C.P o = .eff) {b : Nat} {ob : Obj} (hb : M b = none) (h : bop C ρ o M K Kp) :
    bop C ρ o (M.set b ob) (fun v M' => ∃ M1, M' = M1.set b ob ∧ M1 b = none ∧ K v M1) Kp := by
  unfold bop at h ⊢
  rw [hc] at h ⊢
  simp only at h ⊢
  rw [set_single hb]
  refine awp_mono C.P _ (awp_frame C.P _ h (dj_single.2 hb)) (fun n M' hn => ?_) (fun v M' hv => ?_)
  · have := nextK_frame hn
    have conv : ∀ v M2, Fr (single b ob) K v M2 → ∃ M1, M2 = M1.set b ob ∧ M1 b = none ∧ K v M1 := fun v M2 ⟨M1, e, hd, hk⟩ =>
      ⟨M1, by rw [e, set_single (dj_single.1 hd)], dj_single.1 hd, hk⟩
    cases n <;> first
      | exact this.elim
      | exact conv _ _ this
      | exact ACalls.mono this conv (fun c M2 ⟨M1, e, hd, hk⟩ => hKp c M1 M2 (by rw [e]; exact fun i x hx => Mem.union_left hx) hk)
  · obtain ⟨M1, rfl, hd, hk⟩ := hv
    exact hKp _ M1 _ (fun i x hx => Mem.union_left hx) hk

/-- What has an effect may be taken first beside what makes memory: that is made later. -/
theorem aAny_late {S : Mem → Prop} (hS : MonoS S) (hKp : UpKp Kp) {i : Nat} {oi : Oper} (hi : ops[i]? = some oi) (hci : cls C.P oi = .eff) (hsel : ∀ (j : Nat) (o : Oper) cs b, ops[j]? = some o → o.op ≠ .select cs b)
    {anc : List Nat} (ha : ancOk ops anc = true) :
    ∀ (f L : Nat) (env : Nat → Value) (M : Mem), cnt ops.size L = f + 1 → S M → Dn ops L → lateB C.P ops anc L i = true → rdyB ops L i = true →
      (∀ j oj, rdyB ops L j = true → ops[j]? = some oj → j ≠ i → newOk C.P ops env oj) →
      bopI C ops Kp i env M (fun env' M' => S M' ∧ aAny C ops S K Kp f (L ||| 2 ^ i) env' M') → aAny C ops S K Kp (f + 1) L env M := by
  intro f
  induction f with
  | zero =>
    intro L env M hcnt hSM hdn hl hr hnew h hfin
    refine ⟨fun hno => (by rw [hno i] at hr; cases hr), fun j hj => ?_⟩
    by_cases hji : j = i
    · subst hji; exact h
    · exfalso
      obtain ⟨hiL, _, hoi', _⟩ := rdyB_iff.1 hr
      obtain ⟨hjL, oj, hoj, _⟩ := rdyB_iff.1 hj
      have h1 := cnt_add (n := ops.size) (Array.getElem?_eq_some_iff.1 hi).1 hiL
      have h2 := cnt_add (n := ops.size) (L := L ||| 2 ^ i) (Array.getElem?_eq_some_iff.1 hoj).1 (by rw [bit_add, hjL]; simp [Ne.symm hji])
      omega
  | succ f ih =>
    intro L env M hcnt hSM hdn hl hr hnew h hfin
    refine ⟨fun hno => (by rw [hno i] at hr; cases hr), fun j hj => ?_⟩
    by_cases hji : j = i
    · subst hji; exact h
    · obtain ⟨hjL, oj, hoj, hall⟩ := rdyB_iff.1 hj
      obtain ⟨hcj, hap, hothers⟩ := late_of hi ha hdn hl hr hj hoj hji
      obtain ⟨a1, a2, a3⟩ := Oper.apart_spec hap
      have hsi := fun cs b => hsel i oi cs b hi
      have hsj := fun cs b => hsel j oj cs b hoj
      have hj' := rdyB_add (i := i) hj hji
      have hr' := rdyB_add (i := j) hr (Ne.symm hji)
      have hdn' := hdn.add hj
      have hl' := lateB_add (oj := oj) hi hl hji
      have hcnt' : cnt ops.size (L ||| 2 ^ j) = f + 1 := by
        have := cnt_add (n := ops.size) (Array.getElem?_eq_some_iff.1 hoj).1 hjL; omega
      have hwi : ∀ u, wantedE ops oi (eput env oj.dst u) = wantedE ops oi env := fun u => wantedE_eput oi env oj.dst u a3
      have hei : ∀ u, execOp (evE (eput env oj.dst u)) oi = execOp (evE env) oi := fun u => execOp_eput oi hsi env oj.dst u a3
      have hwj : ∀ u, wantedE ops oj (eput env oi.dst u) = wantedE ops oj env := fun u => wantedE_eput oj env oi.dst u a1
      have hej : ∀ u, execOp (evE (eput env oi.dst u)) oj = execOp (evE env) oj := fun u => execOp_eput oj hsj env oi.dst u a1
      have hnew' : ∀ u k ok, rdyB ops (L ||| 2 ^ j) k = true → ops[k]? = some ok → k ≠ i → newOk C.P ops (eput env oj.dst u) ok := fun u k ok hk hok hki => by
        have hkj : k ≠ j := by rintro rfl; have := (rdyB_iff.1 hk).1; rw [bit_add] at this; simp at this
        have hkL : rdyB ops L k = true := by
          unfold lateB at hl; rw [hi] at hl
          have := List.all_eq_true.1 hl k (List.mem_range.2 (Array.getElem?_eq_some_iff.1 hok).1)
          have hkl : L.testBit k = false := by have := (rdyB_iff.1 hk).1; rw [bit_add] at this; cases hb : L.testBit k <;> simp_all
          have hka : (anc.getD k 0).testBit i = false := by
            obtain ⟨_, ok', hok', hallk⟩ := rdyB_iff.1 hk
            rw [hok] at hok'; cases hok'
            cases hb : (anc.getD k 0).testBit i with
            | false => rfl
            | true => have := anc_listed ha hdn' k ok hok hallk i hb; rw [(rdyB_iff.1 hr').1] at this; cases this
          have hkb : Nat.beq k i = false := by cases hb : Nat.beq k i with
            | false => rfl
            | true => exact absurd (Nat.eq_of_beq_eq_true hb) hki
          simp only [hkl, hka, hkb, hok, Bool.false_or, Bool.and_eq_true] at this
          exact this.1.1.2
        have hb := hothers k ok hkL hok hki hkj
        obtain ⟨b1, _, _⟩ := Oper.apart_spec hb
        have hsk := fun cs b => hsel k ok cs b hok
        intro hw
        rw [wantedE_eput ok env oj.dst u b1] at hw
        rw [execOp_eput ok hsk env oj.dst u b1]
        exact hnew k ok hkL hok hki hw
      unfold bopI at h; rw [hi] at h; simp only at h
      show bopI C ops Kp j env M _
      unfold bopI; rw [hoj]; simp only
      have back : ∀ (u : Value) (M1 : Mem), S M1 → bopG C ops oi (eput env oj.dst u) M1 (fun env' M' => S M' ∧ aAny C ops S K Kp f (L ||| 2 ^ j ||| 2 ^ i) env' M') Kp →
          aAny C ops S K Kp (f + 1) (L ||| 2 ^ j) (eput env oj.dst u) M1 := fun u M1 hs1 hb => by
        refine ih (L ||| 2 ^ j) _ M1 hcnt' hs1 hdn' hl' hr' (hnew' u) ?_
        unfold bopI; rw [hi]; exact hb
      by_cases hwj0 : wantedE ops oj env = true
      · obtain ⟨ob, kk, hn, hv⟩ := hnew j oj hj hoj hji hwj0
        refine bopG_yes hwj0 ?_
        unfold bop; rw [hcj]; simp only
        refine ⟨ob, kk, hn, fun b hb => ?_⟩
        obtain ⟨v, hvb⟩ := hv b
        refine ⟨v, hvb, hS _ _ (le_set hb) hSM, back v _ (hS _ _ (le_set hb) hSM) ?_⟩
        -- what comes behind i, with j's block made then
        have cont : ∀ u M1, M1 b = none → S M1 → aAny C ops S K Kp (f + 1) (L ||| 2 ^ i) (eput env oi.dst u) M1 →
            S (M1.set b ob) ∧ aAny C ops S K Kp f (L ||| 2 ^ j ||| 2 ^ i) (eput (eput env oj.dst v) oi.dst u) (M1.set b ob) := fun u M1 hb1 hs1 hx => by
          refine ⟨hS _ _ (le_set hb1) hs1, ?_⟩
          have step : ∀ hf1 : FinM M1, S (M1.set b ob) ∧ aAny C ops S K Kp f (L ||| 2 ^ i ||| 2 ^ j) (eput (eput env oi.dst u) oj.dst v) (M1.set b ob) := fun hf1 => by
            have hjj := (hx hf1).2 j hj'
            unfold bopI at hjj; rw [hoj] at hjj; simp only at hjj
            unfold bopG at hjj
            rw [if_pos ((hwj u).trans hwj0)] at hjj
            unfold bop at hjj; rw [hcj] at hjj; simp only at hjj
            obtain ⟨ob2, kk2, hn2, hjj⟩ := hjj
            rw [hej u, hn] at hn2; cases hn2
            obtain ⟨v2, hv2, hjj⟩ := hjj b hb1
            rw [hvb] at hv2; cases hv2
            exact hjj
          have e : eput (eput env oj.dst v) oi.dst u = eput (eput env oi.dst u) oj.dst v := eput_comm (fun d hd => fun he => a2 d he hd)
          rw [e, or_swap L j i]
          cases f with
          | zero => exact fun hf2 => (step (fin_single hf2 hb1)).2 hf2
          | succ f => exact fun hf2 => (step (fin_single hf2 hb1)).2 hf2
        unfold bopG at h ⊢
        rw [hwi v]
        split
        · rename_i hw; rw [if_pos hw] at h
          have h3 := bop_set (ob := ob) hKp hci hb h
          unfold bop at h3 ⊢
          rw [hei v]
          rw [hci] at h3 ⊢
          simp only at h3 ⊢
          refine awp_mono C.P _ h3 (fun n M' hn' => ?_) (fun _ _ h => h)
          have conv : ∀ u M2, (∃ M1, M2 = M1.set b ob ∧ M1 b = none ∧ S M1 ∧ aAny C ops S K Kp (f + 1) (L ||| 2 ^ i) (eput env oi.dst u) M1) →
              S M2 ∧ aAny C ops S K Kp f (L ||| 2 ^ j ||| 2 ^ i) (eput (eput env oj.dst v) oi.dst u) M2 := fun u M2 ⟨M1, e, hb1, hs1, hx⟩ => by
            subst e; exact cont u M1 hb1 hs1 hx
          cases n <;> first
            | exact hn'.elim
            | exact conv _ _ hn'
            | exact ACalls.mono hn' conv (fun _ _ h => h)
        · rename_i hw; rw [if_neg hw] at h; exact cont _ M hb h.1 h.2
      · have hwf : wantedE ops oj env = false := by simpa using hwj0
        refine bopG_no hwf ⟨hSM, back undef M hSM ?_⟩
        have cont : ∀ u M1, S M1 → aAny C ops S K Kp (f + 1) (L ||| 2 ^ i) (eput env oi.dst u) M1 →
            S M1 ∧ aAny C ops S K Kp f (L ||| 2 ^ j ||| 2 ^ i) (eput (eput env oj.dst undef) oi.dst u) M1 := fun u M1 hs1 hx => by
          refine ⟨hs1, ?_⟩
          have step : ∀ hf1 : FinM M1, S M1 ∧ aAny C ops S K Kp f (L ||| 2 ^ i ||| 2 ^ j) (eput (eput env oi.dst u) oj.dst undef) M1 := fun hf1 => by
            have hjj := (hx hf1).2 j hj'
            unfold bopI at hjj; rw [hoj] at hjj; simp only at hjj
            unfold bopG at hjj
            rw [if_neg (by rw [hwj u]; exact hwj0)] at hjj
            exact hjj
          have e : eput (eput env oj.dst undef) oi.dst u = eput (eput env oi.dst u) oj.dst undef := eput_comm (fun d hd => fun he => a2 d he hd)
          rw [e, or_swap L j i]
          cases f with
          | zero => exact fun hf2 => (step hf2).2 hf2
          | succ f => exact fun hf2 => (step hf2).2 hf2
        unfold bopG at h ⊢
        rw [hwi undef]
        split
        · rename_i hw; rw [if_pos hw] at h
          have h3 := h
          unfold bop at h3 ⊢
          rw [hei undef]
          rw [hci] at h3 ⊢
          simp only at h3 ⊢
          refine awp_mono C.P _ h3 (fun n M' hn' => ?_) (fun _ _ h => h)
          cases n <;> first
            | exact hn'.elim
            | exact cont _ _ hn'.1 hn'.2
            | exact ACalls.mono hn' (fun u M2 hx => cont u M2 hx.1 hx.2) (fun _ _ h => h)
        · rename_i hw; rw [if_neg hw] at h; exact cont _ M h.1 h.2

end
end Go.AF
