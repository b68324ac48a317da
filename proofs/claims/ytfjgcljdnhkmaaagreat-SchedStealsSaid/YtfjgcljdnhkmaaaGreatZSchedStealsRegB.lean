/- A part of proofs about functions of one program: a condition over a partial memory that is enough for a call, and what calls answer by it. No condition of its own. -/
import Derived.Test.YtfjgcljdnhkmaaaGreatZSchedStealsReg
set_option linter.unusedVariables false
namespace Go.AF

def rdyB (ops : Array Oper) (L i : Nat) : Bool := match ops[i]? with
  | some o => !L.testBit i && o.after.all fun e => !Region.binds .any e || L.testBit e.on
  | none => false

def compat : Cls → Cls → Bool
  | .pure, _ => true
  | .read, .pure => true
  | .read, .read => true
  | .read, .new => true
  | .new, .pure => true
  | .new, .new => true
  | _, _ => false

def freeB (P : Program) (ops : Array Oper) (anc : List Nat) (L i : Nat) : Bool := match ops[i]? with
  | some oi => (List.range ops.size).all fun j => Nat.beq j i || L.testBit j || (anc.getD j 0).testBit i || (match ops[j]? with
    | some oj => oi.apart ops oj && compat (cls P oi) (cls P oj)
    | none => true)
  | none => false

def ancStep (anc : List Nat) (s : Nat) (e : Edge) : Nat := if Region.binds .any e then s ||| 2 ^ e.on ||| anc.getD e.on 0 else s

def ancOk (ops : Array Oper) (anc : List Nat) : Bool := (List.range ops.size).all fun j => match ops[j]? with
  | some o => (o.after.toList.all fun e => !Region.binds .any e || decide (e.on < j)) && Nat.beq (anc.getD j 0) (o.after.toList.foldl (ancStep anc) 0)
  | none => true

def bopI (C : Ctx) (ops : Array Oper) (Kp : List PanicEntry → Mem → Prop) (i : Nat) (env : Nat → Value) (M : Mem) (K : (Nat → Value) → Mem → Prop) : Prop := match ops[i]? with
  | some o => bopG C ops o env M K Kp
  | none => K env M

def FinM (M : Mem) : Prop := ∃ N, ∀ b, N ≤ b → M b = none
theorem FinM.set {M : Mem} (h : FinM M) (b : Nat) (o : Obj) : FinM (M.set b o) := by
  obtain ⟨N, h⟩ := h
  exact ⟨max N (b + 1), fun i hi => by simp only [Mem.set]; rw [if_neg (by omega)]; exact h i (by omega)⟩

/-- In whatever order the edges allow; behind each operation S holds. -/
def aAny (C : Ctx) (ops : Array Oper) (S : Mem → Prop) (K : (Nat → Value) → Mem → Prop) (Kp : List PanicEntry → Mem → Prop) : Nat → Nat → (Nat → Value) → Mem → Prop
  | 0, L, env, M => FinM M → (∀ i, rdyB ops L i = false) ∧ K env M
  | f + 1, L, env, M => FinM M → ((∀ i, rdyB ops L i = false) → K env M) ∧ ∀ i, rdyB ops L i = true → bopI C ops Kp i env M fun env' M' => S M' ∧ aAny C ops S K Kp f (L ||| 2 ^ i) env' M'

def MonoS (S : Mem → Prop) : Prop := ∀ M M', Mem.le M M' → S M → S M'

theorem bit_add (L i j : Nat) : (L ||| 2 ^ i).testBit j = (L.testBit j || decide (i = j)) := by
  rw [Nat.testBit_or, Nat.testBit_two_pow]

theorem rdyB_iff {ops : Array Oper} {L i : Nat} : rdyB ops L i = true ↔ L.testBit i = false ∧ ∃ o, ops[i]? = some o ∧ ∀ e ∈ o.after, Region.binds .any e = true → L.testBit e.on = true := by
  unfold rdyB
  cases ho : ops[i]? with
  | none => simp
  | some o =>
    simp only [Bool.and_eq_true, Bool.not_eq_true', Array.all_eq_true_iff_forall_mem, Bool.or_eq_true, Option.some.injEq, exists_eq_left']
    constructor
    · rintro ⟨h0, h⟩
      exact ⟨h0, fun e he hb => (h e he).resolve_left (by simp [hb])⟩
    · rintro ⟨h0, h⟩
      exact ⟨h0, fun e he => by cases hb : Region.binds .any e <;> simp [h e he, hb]⟩

theorem rdyB_add {ops : Array Oper} {L i j : Nat} (hj : rdyB ops L j = true) (hne : j ≠ i) : rdyB ops (L ||| 2 ^ i) j = true := by
  rw [rdyB_iff] at *
  obtain ⟨h0, o, ho, hall⟩ := hj
  exact ⟨by rw [bit_add, h0]; simp [Ne.symm hne], o, ho, fun e he hb => by rw [bit_add, hall e he hb]; rfl⟩

def Dn (ops : Array Oper) (L : Nat) : Prop := ∀ k o, L.testBit k = true → ops[k]? = some o → ∀ e ∈ o.after, Region.binds .any e = true → L.testBit e.on = true

theorem Dn.add {ops : Array Oper} {L i : Nat} (h : Dn ops L) (hi : rdyB ops L i = true) : Dn ops (L ||| 2 ^ i) := by
  obtain ⟨_, o, ho, hall⟩ := rdyB_iff.1 hi
  intro k o' hk hk' e he hb
  rw [bit_add] at hk ⊢
  simp only [Bool.or_eq_true, decide_eq_true_eq] at hk ⊢
  rcases hk with hk | rfl
  · exact .inl (h k o' hk hk' e he hb)
  · rw [ho] at hk'; cases hk'; exact .inl (hall e he hb)

theorem fold_bit {anc : List Nat} : ∀ (l : List Edge) (s i : Nat), (l.foldl (ancStep anc) s).testBit i = true → s.testBit i = true ∨ ∃ e ∈ l, Region.binds .any e = true ∧ (e.on = i ∨ (anc.getD e.on 0).testBit i = true)
  | [], s, i, h => .inl h
  | e :: l, s, i, h => by
    simp only [List.foldl_cons] at h
    rcases fold_bit l _ i h with h1 | ⟨e', he', hb, h1⟩
    · unfold ancStep at h1
      split at h1
      · rename_i hb
        simp only [Nat.testBit_or, Bool.or_eq_true, Nat.testBit_two_pow, decide_eq_true_eq] at h1
        rcases h1 with (h1 | h1) | h1
        · exact .inl h1
        · exact .inr ⟨e, List.mem_cons_self .., hb, .inl h1⟩
        · exact .inr ⟨e, List.mem_cons_self .., hb, .inr h1⟩
      · exact .inl h1
    · exact .inr ⟨e', List.mem_cons_of_mem _ he', hb, h1⟩

theorem anc_listed {ops : Array Oper} {anc : List Nat} (ha : ancOk ops anc = true) {L : Nat} (hd : Dn ops L) :
    ∀ (j : Nat) (o : Oper), ops[j]? = some o → (∀ e ∈ o.after, Region.binds .any e = true → L.testBit e.on = true) → ∀ i, (anc.getD j 0).testBit i = true → L.testBit i = true := by
  intro j
  induction j using Nat.strongRecOn with
  | _ j ih =>
    intro o ho hall i hi
    have hlt : j < ops.size := (Array.getElem?_eq_some_iff.1 ho).1
    have := List.all_eq_true.1 ha j (List.mem_range.2 hlt)
    rw [ho] at this
    simp only [Bool.and_eq_true, List.all_eq_true, Bool.or_eq_true, Bool.not_eq_true', decide_eq_true_eq] at this
    obtain ⟨h1, h2⟩ := this
    rw [Nat.eq_of_beq_eq_true h2] at hi
    rcases fold_bit _ 0 i hi with h | ⟨e, he, hb, h⟩
    · simp at h
    · have hon := hall e (by simpa using he) hb
      rcases h with rfl | h
      · exact hon
      · have hlt' := (h1 e he).resolve_left (by simp [hb])
        cases hoe : ops[e.on]? with
        | none =>
          have : ops.size ≤ e.on := by simpa using hoe
          omega
        | some o' => exact ih e.on hlt' o' hoe (fun e' he' hb' => hd e.on o' hon hoe e' he' hb') i h

theorem set_comm {M : Mem} {b b' : Nat} {o o' : Obj} (h : b ≠ b') : (M.set b o).set b' o' = (M.set b' o').set b o := by
  funext i; simp only [Mem.set]; by_cases h1 : i = b <;> by_cases h2 : i = b' <;> simp_all

theorem le_set {M : Mem} {b : Nat} {o : Obj} (h : M b = none) : M.le (M.set b o) := fun i x hi => by
  simp only [Mem.set]; rw [if_neg (by rintro rfl; simp [h] at hi)]; exact hi

section
variable {C : Ctx} {ops : Array Oper} {K : (Nat → Value) → Mem → Prop} {Kp : List PanicEntry → Mem → Prop}

theorem bopI_mono {i : Nat} {env : Nat → Value} {M : Mem} {K K' : (Nat → Value) → Mem → Prop} (h : bopI C ops Kp i env M K) (hk : ∀ v M', K v M' → K' v M') : bopI C ops Kp i env M K' := by
  unfold bopI at *
  split
  · rename_i o ho; rw [ho] at h; exact bopG_mono h hk
  · rename_i ho; rw [ho] at h; exact hk _ _ h

/-- Operation j beside the put of a slot that it does not look at. -/
theorem bopG_put {oi oj : Oper} {v : Value} {env : Nat → Value} {M : Mem} {K' : (Nat → Value) → Mem → Prop} (hap : oi.apart ops oj = true) (hsj : ∀ cs b, oj.op ≠ .select cs b)
    (h : bopG C ops oj (eput env oi.dst v) M K' Kp) : bopG C ops oj env M (fun env' M' => K' (eput env' oi.dst v) M') Kp := by
  obtain ⟨h1, h2, h3⟩ := Oper.apart_spec hap
  unfold bopG at h ⊢
  rw [wantedE_eput oj env oi.dst v h1] at h
  split
  · rename_i hw
    rw [if_pos hw] at h
    unfold bop at h ⊢
    rw [execOp_eput oj hsj env oi.dst v h1] at h
    have hc : ∀ u, eput (eput env oi.dst v) oj.dst u = eput (eput env oj.dst u) oi.dst v := fun u => eput_comm h2
    simpa only [hc] using h
  · rename_i hw
    rw [if_neg hw] at h
    rw [← eput_comm h2]; exact h

theorem or_swap (L i j : Nat) : L ||| 2 ^ i ||| 2 ^ j = L ||| 2 ^ j ||| 2 ^ i := by
  apply Nat.eq_of_testBit_eq; intro k; simp only [bit_add]; cases L.testBit k <;> simp [Bool.or_comm]

theorem freeB_add {j L i : Nat} {oi : Oper} {P : Program} (hi : ops[i]? = some oi) {anc : List Nat} (hfree : freeB P ops anc L i = true) : freeB P ops anc (L ||| 2 ^ j) i = true := by
  unfold freeB at hfree ⊢; rw [hi] at hfree ⊢
  refine List.all_eq_true.2 fun k hk => ?_
  have := List.all_eq_true.1 hfree k hk
  simp only [Bool.or_eq_true] at this ⊢
  rcases this with ((h' | h') | h') | h'
  · exact .inl (.inl (.inl h'))
  · exact .inl (.inl (.inr (by rw [bit_add, h']; rfl)))
  · exact .inl (.inr h')
  · exact .inr h'

theorem eff_never {i j L : Nat} {oi oj : Oper} (hi : ops[i]? = some oi) {anc : List Nat} (ha : ancOk ops anc = true) (hdn : Dn ops L) (hfree : freeB C.P ops anc L i = true) (hr : rdyB ops L i = true)
    (hj : rdyB ops L j = true) (hoj : ops[j]? = some oj) (hji : j ≠ i) : oi.apart ops oj = true ∧ compat (cls C.P oi) (cls C.P oj) = true := by
  obtain ⟨hjL, oj', hoj', hall⟩ := rdyB_iff.1 hj
  rw [hoj] at hoj'; cases hoj'
  unfold freeB at hfree; rw [hi] at hfree
  have := List.all_eq_true.1 hfree j (List.mem_range.2 (Array.getElem?_eq_some_iff.1 hoj).1)
  simp only [hjL, hoj, Bool.or_false, Bool.or_eq_true, Bool.and_eq_true] at this
  rcases this with (h' | h') | h'
  · exact absurd (Nat.eq_of_beq_eq_true h') hji
  · have := anc_listed ha hdn j oj hoj hall i h'
    rw [(rdyB_iff.1 hr).1] at this; cases this
  · exact h'

/-- One that is ready, and that nothing beside it hangs on or disturbs, may be taken first. -/
theorem aAny_first {S : Mem → Prop} (hS : MonoS S) {i : Nat} {oi : Oper} (hi : ops[i]? = some oi) (hsel : ∀ (j : Nat) (o : Oper) cs b, ops[j]? = some o → o.op ≠ .select cs b) {anc : List Nat} (ha : ancOk ops anc = true) :
    ∀ (f L : Nat) (env : Nat → Value) (M : Mem), S M → Dn ops L → freeB C.P ops anc L i = true → rdyB ops L i = true →
      bopI C ops Kp i env M (fun env' M' => S M' ∧ aAny C ops S K Kp f (L ||| 2 ^ i) env' M') → aAny C ops S K Kp (f + 1) L env M := by
  intro f
  induction f with
  | zero =>
    intro L env M hSM hdn hfree hr h hfin
    refine ⟨fun hno => (by rw [hno i] at hr; cases hr), fun j hj => ?_⟩
    by_cases hji : j = i
    · subst hji; exact h
    · exfalso
      obtain ⟨hjL, oj, hoj, hall⟩ := rdyB_iff.1 hj
      obtain ⟨_, hcomp⟩ := eff_never hi ha hdn hfree hr hj hoj hji
      have hj' := rdyB_add (i := i) hj hji
      unfold bopI at h; rw [hi] at h; simp only at h
      unfold bopG at h
      split at h
      · unfold bop at h
        cases hc : cls C.P oi <;> rw [hc] at h hcomp <;> simp only at h
        · obtain ⟨v, _, _, h⟩ := h; have := (h hfin).1 j; rw [this] at hj'; cases hj'
        · obtain ⟨v, _, _, h⟩ := h; have := (h hfin).1 j; rw [this] at hj'; cases hj'
        · obtain ⟨ob, k, _, h⟩ := h
          obtain ⟨N, hN⟩ := hfin
          obtain ⟨v, _, _, h⟩ := h N (hN N (Nat.le_refl _)); have := (h (FinM.set ⟨N, hN⟩ _ _)).1 j; rw [this] at hj'; cases hj'
        · cases hh : cls C.P oj <;> rw [hh] at hcomp <;> simp [compat] at hcomp
      · have := (h.2 hfin).1 j; rw [this] at hj'; cases hj'
  | succ f ih =>
    intro L env M hSM hdn hfree hr h hfin
    refine ⟨fun hno => (by rw [hno i] at hr; cases hr), fun j hj => ?_⟩
    by_cases hji : j = i
    · subst hji; exact h
    · obtain ⟨hjL, oj, hoj, hall⟩ := rdyB_iff.1 hj
      obtain ⟨hap, hcomp⟩ := eff_never hi ha hdn hfree hr hj hoj hji
      obtain ⟨a1, a2, a3⟩ := Oper.apart_spec hap
      have hsi := fun cs b => hsel i oi cs b hi
      have hsj := fun cs b => hsel j oj cs b hoj
      have hdn' := hdn.add hj
      have hr' := rdyB_add (i := j) hr (Ne.symm hji)
      have hfree' := freeB_add (j := j) hi hfree
      have hj' := rdyB_add (i := i) hj hji
      have hor : L ||| 2 ^ i ||| 2 ^ j = L ||| 2 ^ j ||| 2 ^ i := or_swap L i j
      unfold bopI at h; rw [hi] at h; simp only at h
      show bopI C ops Kp j env M _
      unfold bopI; rw [hoj]; simp only
      -- i, had behind j
      have back : ∀ (u : Value) (M1 : Mem), S M1 → bopG C ops oi (eput env oj.dst u) M1 (fun env' M' => S M' ∧ aAny C ops S K Kp f (L ||| 2 ^ j ||| 2 ^ i) env' M') Kp →
          aAny C ops S K Kp (f + 1) (L ||| 2 ^ j) (eput env oj.dst u) M1 := fun u M1 hs1 hb => by
        refine ih (L ||| 2 ^ j) _ M1 hs1 hdn' hfree' hr' ?_
        unfold bopI; rw [hi]; exact hb
      have hwi : ∀ u, wantedE ops oi (eput env oj.dst u) = wantedE ops oi env := fun u => wantedE_eput oi env oj.dst u a3
      have hei : ∀ u, execOp (evE (eput env oj.dst u)) oi = execOp (evE env) oi := fun u => execOp_eput oi hsi env oj.dst u a3
      have hwj : ∀ u, wantedE ops oj (eput env oi.dst u) = wantedE ops oj env := fun u => wantedE_eput oj env oi.dst u a1
      -- i's value is known, whatever the memory: it goes behind anything
      have known : ∀ v, (∀ u M1, S M1 → aAny C ops S K Kp f (L ||| 2 ^ j ||| 2 ^ i) (eput (eput env oj.dst u) oi.dst v) M1 → aAny C ops S K Kp (f + 1) (L ||| 2 ^ j) (eput env oj.dst u) M1) →
          bopG C ops oj (eput env oi.dst v) M (fun env' M' => S M' ∧ aAny C ops S K Kp f (L ||| 2 ^ i ||| 2 ^ j) env' M') Kp →
          bopG C ops oj env M (fun env' M' => S M' ∧ aAny C ops S K Kp (f + 1) (L ||| 2 ^ j) env' M') Kp := fun v hb hjj => by
        rw [hor] at hjj
        have h2 := bopG_put hap hsj hjj
        unfold bopG at h2 ⊢
        split
        · rename_i hw; rw [if_pos hw] at h2; exact bop_mono h2 fun u M1 hx => ⟨hx.1, hb u M1 hx.1 hx.2⟩
        · rename_i hw; rw [if_neg hw] at h2; exact ⟨h2.1, hb _ _ h2.1 h2.2⟩
      by_cases hw : wantedE ops oi env = true
      · unfold bopG at h
        rw [if_pos hw] at h
        have hwi' : ∀ u, wantedE ops oi (eput env oj.dst u) = true := fun u => (hwi u).trans hw
        unfold bop at h
        cases hc : cls C.P oi with
        | pure =>
          rw [hc] at h; simp only at h
          obtain ⟨v, hv, _, h⟩ := h
          have hjj := (h hfin).2 j hj'
          unfold bopI at hjj; rw [hoj] at hjj; simp only at hjj
          refine known v (fun u M1 hs1 hx => back u M1 hs1 (bopG_yes (hwi' u) ?_)) hjj
          unfold bop; rw [hc]; simp only [hei]
          exact ⟨v, hv, hs1, hx⟩
        | read =>
          rw [hc] at h; simp only at h
          obtain ⟨v, hv, _, h⟩ := h
          have hjj := (h hfin).2 j hj'
          unfold bopI at hjj; rw [hoj] at hjj; simp only at hjj
          rw [hor] at hjj
          have h2 := bopG_put hap hsj hjj
          have fin : ∀ u M1, M.le M1 → S M1 → aAny C ops S K Kp f (L ||| 2 ^ j ||| 2 ^ i) (eput (eput env oj.dst u) oi.dst v) M1 → aAny C ops S K Kp (f + 1) (L ||| 2 ^ j) (eput env oj.dst u) M1 :=
            fun u M1 hle hs1 hx => back u M1 hs1 (bopG_yes (hwi' u) (by
              unfold bop; rw [hc]; simp only [hei]
              exact ⟨v, rdS_mono C.P _ hle hv, hs1, hx⟩))
          unfold bopG at h2 ⊢
          split
          · rename_i hwj'; rw [if_pos hwj'] at h2
            unfold bop at h2 ⊢
            cases hcj : cls C.P oj <;> rw [hcj, hc] at hcomp <;> rw [hcj] at h2 <;> simp only at h2 ⊢
            · obtain ⟨u, hu, h2⟩ := h2; exact ⟨u, hu, h2.1, fin u M (fun _ _ h => h) h2.1 h2.2⟩
            · obtain ⟨u, hu, h2⟩ := h2; exact ⟨u, hu, h2.1, fin u M (fun _ _ h => h) h2.1 h2.2⟩
            · obtain ⟨ob, k, hn, h2⟩ := h2
              refine ⟨ob, k, hn, fun b hb => ?_⟩
              obtain ⟨u, hu, h2⟩ := h2 b hb
              exact ⟨u, hu, h2.1, fin u _ (le_set hb) h2.1 h2.2⟩
            · simp [compat] at hcomp
          · rename_i hwj'; rw [if_neg hwj'] at h2; exact ⟨h2.1, fin _ _ (fun _ _ h => h) h2.1 h2.2⟩
        | new =>
          rw [hc] at h; simp only at h
          obtain ⟨ob, k, hn, h⟩ := h
          -- what j does beside each new block of i's
          have each : ∀ b, M b = none → ∃ v, rdS C.P (k b) Mem.empty = some (.value v) ∧
              bopG C ops oj env (M.set b ob) (fun env' M' => S M' ∧ aAny C ops S K Kp f (L ||| 2 ^ j ||| 2 ^ i) (eput env' oi.dst v) M') Kp := fun b hb => by
            obtain ⟨v, hv, _, hx⟩ := h b hb
            have hjj := (hx (hfin.set b ob)).2 j hj'
            unfold bopI at hjj; rw [hoj] at hjj; simp only at hjj
            rw [hor] at hjj
            exact ⟨v, hv, bopG_put hap hsj hjj⟩
          obtain ⟨N, hN⟩ := hfin
          obtain ⟨v0, hv0, h0⟩ := each N (hN N (Nat.le_refl _))
          have fin : ∀ u M1, S M1 → (∀ b, M1 b = none → ∃ v, rdS C.P (k b) Mem.empty = some (.value v) ∧ aAny C ops S K Kp f (L ||| 2 ^ j ||| 2 ^ i) (eput (eput env oj.dst u) oi.dst v) (M1.set b ob)) →
              aAny C ops S K Kp (f + 1) (L ||| 2 ^ j) (eput env oj.dst u) M1 :=
            fun u M1 hs1 hx => back u M1 hs1 (bopG_yes (hwi' u) (by
              unfold bop; rw [hc]; simp only [hei]
              exact ⟨ob, k, hn, fun b hb => let ⟨v, hv, hy⟩ := hx b hb; ⟨v, hv, hS _ _ (le_set hb) hs1, hy⟩⟩))
          unfold bopG at h0 ⊢
          split
          · rename_i hwj'; rw [if_pos hwj'] at h0
            unfold bop at h0 ⊢
            cases hcj : cls C.P oj <;> rw [hcj, hc] at hcomp <;> rw [hcj] at h0 <;> simp only at h0 ⊢
            · obtain ⟨u, hu, h0⟩ := h0
              refine ⟨u, hu, hSM, fin u M hSM fun b hb => ?_⟩
              obtain ⟨v, hv, h1⟩ := each b hb
              unfold bopG at h1; rw [if_pos hwj'] at h1
              unfold bop at h1; rw [hcj] at h1; simp only at h1
              obtain ⟨u', hu', _, h1⟩ := h1
              have : u' = u := by have e1 := hu' M; rw [hu M] at e1; cases e1; rfl
              subst this
              exact ⟨v, hv, h1⟩
            · simp [compat] at hcomp
            · obtain ⟨ob', k', hn', h0⟩ := h0
              refine ⟨ob', k', hn', fun b' hb' => ?_⟩
              have dec : ∀ b, M b = none → b ≠ b' → ∃ v u, rdS C.P (k b) Mem.empty = some (.value v) ∧ rdS C.P (k' b') Mem.empty = some (.value u) ∧
                  aAny C ops S K Kp f (L ||| 2 ^ j ||| 2 ^ i) (eput (eput env oj.dst u) oi.dst v) ((M.set b ob).set b' ob') := fun b hb hne => by
                obtain ⟨v, hv, h1⟩ := each b hb
                unfold bopG at h1; rw [if_pos hwj'] at h1
                unfold bop at h1; rw [hcj] at h1; simp only at h1
                obtain ⟨ob2, k2, hn2, h1⟩ := h1
                rw [hn'] at hn2; cases hn2
                obtain ⟨u, hu, _, h1⟩ := h1 b' (by simp only [Mem.set]; rw [if_neg (Ne.symm hne)]; exact hb')
                exact ⟨v, u, hv, hu, h1⟩
              obtain ⟨_, u, _, hu, _⟩ := dec (max N (b' + 1)) (hN _ (by omega)) (by omega)
              refine ⟨u, hu, hS _ _ (le_set hb') hSM, fin u _ (hS _ _ (le_set hb') hSM) fun b hb => ?_⟩
              have hne : b ≠ b' := by rintro rfl; simp [Mem.set] at hb
              have hb2 : M b = none := by simpa [Mem.set, hne] using hb
              obtain ⟨v, u', hv, hu', h1⟩ := dec b hb2 hne
              rw [hu] at hu'; cases hu'
              exact ⟨v, hv, by rw [← set_comm hne]; exact h1⟩
            · simp [compat] at hcomp
          · rename_i hwj'
            refine ⟨hSM, fin _ _ hSM fun b hb => ?_⟩
            obtain ⟨v, hv, h1⟩ := each b hb
            unfold bopG at h1; rw [if_neg hwj'] at h1
            exact ⟨v, hv, h1.2⟩
        | eff => rw [hc] at hcomp; cases hh : cls C.P oj <;> rw [hh] at hcomp <;> simp [compat] at hcomp
      · have hwf : wantedE ops oi env = false := by simpa using hw
        unfold bopG at h
        rw [if_neg hw] at h
        have hjj := (h.2 hfin).2 j hj'
        unfold bopI at hjj; rw [hoj] at hjj; simp only at hjj
        exact known undef (fun u M1 hs1 hx => back u M1 hs1 (bopG_no ((hwi u).trans hwf) ⟨hs1, hx⟩)) hjj

/-- All that may still come beside one is apart from it. -/
def apartB (ops : Array Oper) (anc : List Nat) (L i : Nat) : Bool := match ops[i]? with
  | some oi => (List.range ops.size).all fun j => Nat.beq j i || L.testBit j || (anc.getD j 0).testBit i || (match ops[j]? with
    | some oj => oi.apart ops oj
    | none => true)
  | none => false

theorem apartB_add {j L i : Nat} {oi : Oper} (hi : ops[i]? = some oi) {anc : List Nat} (hfree : apartB ops anc L i = true) : apartB ops anc (L ||| 2 ^ j) i = true := by
  unfold apartB at hfree ⊢; rw [hi] at hfree ⊢
  refine List.all_eq_true.2 fun k hk => ?_
  have := List.all_eq_true.1 hfree k hk
  simp only [Bool.or_eq_true] at this ⊢
  rcases this with ((h' | h') | h') | h'
  · exact .inl (.inl (.inl h'))
  · exact .inl (.inl (.inr (by rw [bit_add, h']; rfl)))
  · exact .inl (.inr h')
  · exact .inr h'

theorem apart_of {i j L : Nat} {oi oj : Oper} (hi : ops[i]? = some oi) {anc : List Nat} (ha : ancOk ops anc = true) (hdn : Dn ops L) (hfree : apartB ops anc L i = true) (hr : rdyB ops L i = true)
    (hj : rdyB ops L j = true) (hoj : ops[j]? = some oj) (hji : j ≠ i) : oi.apart ops oj = true := by
  obtain ⟨hjL, oj', hoj', hall⟩ := rdyB_iff.1 hj
  rw [hoj] at hoj'; cases hoj'
  unfold apartB at hfree; rw [hi] at hfree
  have := List.all_eq_true.1 hfree j (List.mem_range.2 (Array.getElem?_eq_some_iff.1 hoj).1)
  simp only [hjL, hoj, Bool.or_false, Bool.or_eq_true] at this
  rcases this with (h' | h') | h'
  · exact absurd (Nat.eq_of_beq_eq_true h') hji
  · have := anc_listed ha hdn j oj hoj hall i h'
    rw [(rdyB_iff.1 hr).1] at this; cases this
  · exact h'

/-- A read may be taken first if what it read stays to be read behind all that comes: that is promised, and held behind each operation. -/
theorem aAny_prom {i : Nat} {oi : Oper} (hi : ops[i]? = some oi) (hsel : ∀ (j : Nat) (o : Oper) cs b, ops[j]? = some o → o.op ≠ .select cs b) {anc : List Nat} (ha : ancOk ops anc = true)
    (hc : cls C.P oi = .read) {S : Mem → Prop} {s : Sem Next} {v : Value} :
    ∀ (f L : Nat) (env : Nat → Value) (M : Mem), Dn ops L → apartB ops anc L i = true → rdyB ops L i = true → wantedE ops oi env = true → execOp (evE env) oi = s → rdS C.P s M = some (.value v) → S M →
      aAny C ops (fun M' => S M' ∧ rdS C.P s M' = some (.value v)) K Kp f (L ||| 2 ^ i) (eput env oi.dst v) M → aAny C ops S K Kp (f + 1) L env M := by
  intro f
  induction f with
  | zero =>
    intro L env M hdn hfree hr hw he hv hSM h hfin
    refine ⟨fun hno => (by rw [hno i] at hr; cases hr), fun j hj => ?_⟩
    by_cases hji : j = i
    · subst hji
      unfold bopI; rw [hi]; simp only
      refine bopG_yes hw ?_
      unfold bop; rw [hc]; simp only [he]
      exact ⟨v, hv, hSM, h⟩
    · have hj' := rdyB_add (i := i) hj hji
      have := (h hfin).1 j; rw [this] at hj'; cases hj'
  | succ f ih =>
    intro L env M hdn hfree hr hw he hv hSM h hfin
    have weak : ∀ (f L : Nat) (env : Nat → Value) (M : Mem), aAny C ops (fun M' => S M' ∧ rdS C.P s M' = some (.value v)) K Kp f L env M → aAny C ops S K Kp f L env M := by
      intro f
      induction f with
      | zero => intro L env M h; exact h
      | succ f ihw => intro L env M h hfin; exact ⟨(h hfin).1, fun j hj => bopI_mono ((h hfin).2 j hj) fun env' M' hx => ⟨hx.1.1, ihw _ _ _ hx.2⟩⟩
    refine ⟨fun hno => (by rw [hno i] at hr; cases hr), fun j hj => ?_⟩
    by_cases hji : j = i
    · subst hji
      unfold bopI; rw [hi]; simp only
      refine bopG_yes hw ?_
      unfold bop; rw [hc]; simp only [he]
      exact ⟨v, hv, hSM, weak _ _ _ _ h⟩
    · obtain ⟨hjL, oj, hoj, hall⟩ := rdyB_iff.1 hj
      have hap := apart_of hi ha hdn hfree hr hj hoj hji
      obtain ⟨a1, a2, a3⟩ := Oper.apart_spec hap
      have hsi := fun cs b => hsel i oi cs b hi
      have hsj := fun cs b => hsel j oj cs b hoj
      have hj' := rdyB_add (i := i) hj hji
      have hjj := (h hfin).2 j hj'
      unfold bopI at hjj ⊢; rw [hoj] at hjj ⊢; simp only at hjj ⊢
      rw [or_swap L i j] at hjj
      have h2 := bopG_put hap hsj hjj
      have fin : ∀ u M1, (S M1 ∧ rdS C.P s M1 = some (.value v)) ∧ aAny C ops (fun M' => S M' ∧ rdS C.P s M' = some (.value v)) K Kp f (L ||| 2 ^ j ||| 2 ^ i) (eput (eput env oj.dst u) oi.dst v) M1 →
          S M1 ∧ aAny C ops S K Kp (f + 1) (L ||| 2 ^ j) (eput env oj.dst u) M1 := fun u M1 hx =>
        ⟨hx.1.1, ih (L ||| 2 ^ j) _ M1 (hdn.add hj) (apartB_add hi hfree) (rdyB_add hr (Ne.symm hji)) ((wantedE_eput oi env oj.dst u a3).trans hw) ((execOp_eput oi hsi env oj.dst u a3).trans he) hx.1.2 hx.1.1 hx.2⟩
      unfold bopG at h2 ⊢
      split
      · rename_i hwj; rw [if_pos hwj] at h2; exact bop_mono h2 fun u M1 hx => fin u M1 hx
      · rename_i hwj; rw [if_neg hwj] at h2; exact fin _ _ h2

end
end Go.AF
