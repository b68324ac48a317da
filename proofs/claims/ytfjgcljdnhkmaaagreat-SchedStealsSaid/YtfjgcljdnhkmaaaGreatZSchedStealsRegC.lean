/- A part of proofs about functions of one program: a condition over a partial memory that is enough for a call, and what calls answer by it. No condition of its own. -/
import Derived.Test.YtfjgcljdnhkmaaaGreatZSchedStealsRegL
set_option linter.unusedVariables false
namespace Go.AF
variable {E : WEnv}

inductive Ex where
  | done
  | step (i : Nat) (t : Ex)      -- nothing beside it disturbs it, or is disturbed
  | prom (i : Nat) (t : Ex)      -- a read, taken first: what it read is promised to stay
  | late (i : Nat) (t : Ex)      -- one with an effect: what makes memory beside it is done later
  | fork (i : Nat) (a b : Ex)
  | dead

def noneReady (ops : Array Oper) (L cov : Nat) : Bool := (List.range ops.size).all fun i => !rdyB ops L i || cov.testBit i

/-- What was promised, and then. -/
def withS : List (Mem → Prop) → Mem → Prop → Prop
  | [], _, X => X
  | s :: l, M, X => s M ∧ withS l M X

def allS (l : List (Mem → Prop)) (M : Mem) : Prop := ∀ s ∈ l, s M

theorem withS_iff : ∀ {l : List (Mem → Prop)} {M : Mem} {X : Prop}, withS l M X ↔ allS l M ∧ X
  | [], M, X => by simp [withS, allS]
  | s :: l, M, X => by
    simp only [withS, withS_iff (l := l), allS, List.mem_cons, forall_eq_or_imp]
    constructor
    · rintro ⟨a, b, c⟩; exact ⟨⟨a, b⟩, c⟩
    · rintro ⟨⟨a, b⟩, c⟩; exact ⟨a, b, c⟩

/-- A load, with the promise that it stays. -/
def loadPK (P : Program) (t : TypeId) (x : Value) (M : Mem) (K : Value → (Mem → Prop) → Prop) : Prop :=
  match x with
  | .pointer p => nilc p fun b o =>
    match P.underlying t with
    | some (.struct _) | some (.array _ _) =>
      if (flat P 8 t).length = P.cellsOf t then
        ldCs M ⟨b, o, none⟩ (flat P 8 t) 0 fun vs => K (.agg vs.toArray) (fun M' => M'.lds ⟨b, o, none⟩ 0 (P.cellsOf t) = some vs)
      else False
    | some d => exC (csh d) (M.ld ⟨b, o, none⟩) fun v => K v (fun M' => M'.ld ⟨b, o, none⟩ = some v)
    | none => False
  | _ => False

def promK (P : Program) (ρ : Operand → Value) (o : Oper) (M : Mem) (K : Value → (Mem → Prop) → Prop) : Prop :=
  match o.op with
  | .load t a => loadPK P t (ρ a) M K
  | _ => False

/-- As aopG, for a read with its promise. -/
def promG (C : Ctx) (ops : Array Oper) (o : Oper) (env : Nat → Value) (M : Mem) (K : (Nat → Value) → List (Mem → Prop) → Prop) : Prop :=
  match o.guard with
  | none => promK C.P (evE env) o M (fun v p => K (eput env o.dst v) [p])
  | some (j, want) => match gslot ops j with
    | some s => match env s with
      | .bool e => match want with
        | true => bsp e (promK C.P (evE (eput env (some s) (.bool true))) o M (fun v p => K (eput (eput env (some s) (.bool true)) o.dst v) [p])) (K (eput (eput env (some s) (.bool false)) o.dst undef) [])
        | false => bsp e (K (eput (eput env (some s) (.bool true)) o.dst undef) []) (promK C.P (evE (eput env (some s) (.bool false))) o M (fun v p => K (eput (eput env (some s) (.bool false)) o.dst v) [p]))
      | _ => K (eput env o.dst undef) []
    | none => K (eput env o.dst undef) []

def newOkP (P : Program) (ρ : Operand → Value) (o : Oper) : Prop :=
  match o.op with
  | .buildSlice t len parts => match P.underlying t with
    | some (.slice e) => match P.info? e with
      | some i => match i.zero with
        | some z => if z.cells.toList.length = i.size ∧ len * i.size ≤ 16777216 then
            (match fillL (fun k => some (k * i.size, i.size)) (List.replicate len z.cells.toList).flatten (parts.toList.map fun p => (p.1, ρ p.2)) with
            | some _ => True
            | none => False) else False
        | none => False
      | none => False
    | _ => False
  | .alloc e => match zeroOf P e with
    | some _ => True
    | none => False
  | .box _ _ => True
  | _ => False

def newOksP (C : Ctx) (ops : Array Oper) (env : Nat → Value) (L i : Nat) : List Nat → Prop → Prop
  | [], X => X
  | j :: l, X => bif Nat.beq j i || !rdyB ops L j then newOksP C ops env L i l X else
      (match ops[j]? with
      | some o => newOkP C.P (evE env) o ∧ newOksP C ops env L i l X
      | none => newOksP C ops env L i l X)

def isEff (P : Program) (o : Oper) : Bool := match cls P o with
  | .eff => true
  | _ => false

/-- Behind an operation: what was promised is held behind those that have an effect. -/
def behind (C : Ctx) (o : Oper) (Ss : List (Mem → Prop)) (M : Mem) (X : Prop) : Prop := bif isEff C.P o then withS Ss M X else X

/-- Along a tree: what is free is taken; else each that may come next. -/
def areg (C : Ctx) (ops : Array Oper) (anc : List Nat) (K : (Nat → Value) → Mem → Prop) (Kp : List PanicEntry → Mem → Prop) : Ex → List (Mem → Prop) → Nat → Nat → (Nat → Value) → Mem → Prop
  | .done, _, L, _, env, M => bif noneReady ops L 0 then K env M else False
  | .step i t, Ss, L, _, env, M => bif rdyB ops L i && freeB C.P ops anc L i then
      (match ops[i]? with
      | some o => aopG C ops o env M (fun env' M' => behind C o Ss M' (areg C ops anc K Kp t Ss (L ||| 2 ^ i) 0 env' M')) Kp
      | none => False) else False
  | .prom i t, Ss, L, _, env, M => bif rdyB ops L i && apartB ops anc L i then
      (match ops[i]? with
      | some o => promG C ops o env M (fun env' p => areg C ops anc K Kp t (p ++ Ss) (L ||| 2 ^ i) 0 env' M)
      | none => False) else False
  | .late i t, Ss, L, _, env, M => bif rdyB ops L i && lateB C.P ops anc L i then
      (match ops[i]? with
      | some o => bif isEff C.P o then newOksP C ops env L i (List.range ops.size) (aopG C ops o env M (fun env' M' => withS Ss M' (areg C ops anc K Kp t Ss (L ||| 2 ^ i) 0 env' M')) Kp) else False
      | none => False) else False
  | .fork i a b, Ss, L, cov, env, M => bif rdyB ops L i then
      (match ops[i]? with
      | some o => aopG C ops o env M (fun env' M' => behind C o Ss M' (areg C ops anc K Kp a Ss (L ||| 2 ^ i) 0 env' M')) Kp ∧ areg C ops anc K Kp b Ss L (cov ||| 2 ^ i) env M
      | none => False) else False
  | .dead, _, L, cov, _, _ => bif noneReady ops L cov && !Nat.beq cov 0 then True else False

def upKp (Kp : List PanicEntry → Mem → Prop) : List PanicEntry → Mem → Prop := fun c M => ∃ M1, M1.le M ∧ Kp c M1
theorem upKp_up (Kp : List PanicEntry → Mem → Prop) : UpKp (upKp Kp) := fun _ _ _ hle ⟨M1, h1, h2⟩ => ⟨M1, fun b o h => hle b o (h1 b o h), h2⟩

theorem With.up {F : Mem} {Kp : List PanicEntry → Mem → Prop} {c : List PanicEntry} {w : World} (h : With E F (upKp Kp c) w) : With E F (Kp c) w := by
  obtain ⟨M, ⟨M1, hle, hk⟩, hd, hi⟩ := h
  refine ⟨M1, hk, fun b => ?_, ⟨fun b o hb => ?_, hi.2⟩⟩
  · rcases hd b with h | h
    · left; cases hm : M1 b with
      | none => rfl
      | some o => rw [hle b o hm] at h; cases h
    · exact .inr h
  · unfold Mem.union at hb
    cases hm : M1 b with
    | some o' => rw [hm] at hb; cases hb; exact hi.1 b o (Mem.union_left (hle b o hm))
    | none =>
      rw [hm] at hb
      refine hi.1 b o ?_
      unfold Mem.union
      rcases hd b with h | h
      · rw [h]; exact hb
      · rw [h] at hb; cases hb

section
variable {C : Ctx} {ops : Array Oper} {K : (Nat → Value) → Mem → Prop} {Kp : List PanicEntry → Mem → Prop}

theorem noneReady_spec {L cov : Nat} (h : noneReady ops L cov = true) (i : Nat) (hi : rdyB ops L i = true) : cov.testBit i = true := by
  obtain ⟨_, o, ho, _⟩ := rdyB_iff.1 hi
  have := List.all_eq_true.1 h i (List.mem_range.2 (Array.getElem?_eq_some_iff.1 ho).1)
  simpa [hi] using this

theorem aAny_done {S : Mem → Prop} {L : Nat} {env : Nat → Value} {M : Mem} (h : ∀ i, rdyB ops L i = false) (hk : K env M) : ∀ f, aAny C ops S K Kp f L env M
  | 0 => fun _ => ⟨h, hk⟩
  | f + 1 => fun _ => ⟨fun _ => hk, fun i hi => by rw [h i] at hi; cases hi⟩

theorem cond_true {b : Bool} {X : Prop} (h : bif b then X else False) : b = true ∧ X := by cases b; exact h.elim; exact ⟨rfl, h⟩

theorem bop_kp {ρ : Operand → Value} {o : Oper} {M : Mem} {K : Value → Mem → Prop} {Kp' : List PanicEntry → Mem → Prop} (h : bop C ρ o M K Kp) (hp : ∀ c M', Kp c M' → Kp' c M') : bop C ρ o M K Kp' := by
  unfold bop at h ⊢
  split at h
  · exact h
  · exact h
  · exact h
  · refine awp_mono C.P _ h (fun n M' hn => ?_) (fun _ _ h => hp _ _ h)
    cases n <;> first | exact hn.elim | exact hn | exact ACalls.mono hn (fun _ _ h => h) hp

theorem bopG_kp {o : Oper} {env : Nat → Value} {M : Mem} {Kp' : List PanicEntry → Mem → Prop} (h : bopG C ops o env M K Kp) (hp : ∀ c M', Kp c M' → Kp' c M') : bopG C ops o env M K Kp' := by
  unfold bopG at h ⊢
  split
  · rename_i hw; rw [if_pos hw] at h; exact bop_kp h hp
  · rename_i hw; rw [if_neg hw] at h; exact h

theorem aAny_weak {S S' : Mem → Prop} (hs : ∀ M, S M → S' M) : ∀ (f L : Nat) (env : Nat → Value) (M : Mem), aAny C ops S K Kp f L env M → aAny C ops S' K Kp f L env M := by
  intro f
  induction f with
  | zero => intro L env M h; exact h
  | succ f ih => intro L env M h hfin; exact ⟨(h hfin).1, fun j hj => bopI_mono ((h hfin).2 j hj) fun env' M' hx => ⟨hs _ hx.1, ih _ _ _ hx.2⟩⟩

/-- Behind one that has no effect what was promised still holds. -/
theorem bopG_behind {o : Oper} {env : Nat → Value} {M : Mem} {Ss : List (Mem → Prop)} {X : (Nat → Value) → Mem → Prop} (hS : MonoS (allS Ss)) (hSM : allS Ss M)
    (h : bopG C ops o env M (fun env' M' => behind C o Ss M' (X env' M')) Kp) : bopG C ops o env M (fun env' M' => allS Ss M' ∧ X env' M') Kp := by
  unfold bopG at h ⊢
  cases he : isEff C.P o with
  | true =>
    simp only [behind, he] at h
    split
    · rename_i hw; rw [if_pos hw] at h; exact bop_mono h fun v M' hv => withS_iff.1 hv
    · rename_i hw; rw [if_neg hw] at h; exact withS_iff.1 h
  | false =>
    simp only [behind, he, cond_false] at h
    split
    · rename_i hw; rw [if_pos hw] at h
      unfold bop at h ⊢
      unfold isEff at he
      cases hc : cls C.P o <;> rw [hc] at h he <;> simp only at h ⊢
      · obtain ⟨v, hv, h⟩ := h; exact ⟨v, hv, hSM, h⟩
      · obtain ⟨v, hv, h⟩ := h; exact ⟨v, hv, hSM, h⟩
      · obtain ⟨ob, k, hn, h⟩ := h
        exact ⟨ob, k, hn, fun b hb => let ⟨v, hv, h⟩ := h b hb; ⟨v, hv, hS _ _ (le_set hb) hSM, h⟩⟩
      · simp at he
    · rename_i hw; rw [if_neg hw] at h; exact ⟨hSM, h⟩

theorem lds_mono {M M' : Mem} (h : M.le M') {a : Addr} : ∀ (n i : Nat) (vs : List Value), M.lds a i n = some vs → M'.lds a i n = some vs
  | 0, i, vs, hv => hv
  | n + 1, i, vs, hv => by
    simp only [Mem.lds] at hv ⊢
    cases hx : M.ld (a.add i) with
    | none => simp [hx] at hv
    | some v =>
      rw [Mem.le_ld h hx]
      simp only [hx] at hv
      cases hr : M.lds a (i + 1) n with
      | none => simp [hr] at hv
      | some rest => rw [lds_mono h n (i + 1) rest hr]; rw [hr] at hv; exact hv

theorem loadPK_spec {P : Program} {t : TypeId} {x : Value} {M : Mem} {K : Value → (Mem → Prop) → Prop} (h : loadPK P t x M K) :
    ∃ v p, (∀ M', p M' → rdS P (Instr.loadAt t x) M' = some v) ∧ p M ∧ MonoS p ∧ K v p := by
  unfold loadPK at h
  cases x <;> try exact h.elim
  rename_i p
  obtain ⟨b, o, hp, h2⟩ := nilc_spec h
  subst hp
  clear h
  cases hd : P.underlying t with
  | none => rw [hd] at h2; exact h2.elim
  | some d =>
    rw [hd] at h2
    have agg : aggD d = true → (if (flat P 8 t).length = P.cellsOf t then ldCs M ⟨b, o, none⟩ (flat P 8 t) 0 fun vs => K (.agg vs.toArray) (fun M' => M'.lds ⟨b, o, none⟩ 0 (P.cellsOf t) = some vs) else False) →
        ∃ v p, (∀ M', p M' → rdS P (Instr.loadAt t (.pointer (some ⟨b, o, none⟩))) M' = some v) ∧ p M ∧ MonoS p ∧ K v p := by
      intro hag h
      split at h
      · rename_i hl
        obtain ⟨vs, hvs, h⟩ := ldCs_spec h
        rw [hl] at hvs
        exact ⟨_, _, fun M' hm => rd_load_agg hd hag rfl hm, hvs, fun M1 M2 hle h1 => lds_mono hle _ _ _ h1, h⟩
      · exact h.elim
    cases d with
    | struct fs => exact agg rfl h2
    | array m e => exact agg rfl h2
    | _ => (obtain ⟨v, hv, h⟩ := exC_spec h2; exact ⟨v, _, fun M' hm => rd_load_one hd rfl hm, hv, fun M1 M2 hle h1 => Mem.le_ld hle h1, h⟩)

theorem promK_spec {P : Program} {ρ : Operand → Value} {o : Oper} {M : Mem} {K : Value → (Mem → Prop) → Prop} (h : promK P ρ o M K) :
    cls P o = .read ∧ ∃ v p, (∀ M', p M' → rdS P (execOp ρ o) M' = some (.value v)) ∧ p M ∧ MonoS p ∧ K v p := by
  unfold promK at h
  split at h
  · rename_i t a ho
    obtain ⟨v, p, h1, h2, h3, h4⟩ := loadPK_spec h
    obtain ⟨dst, op, type, pos, after, guard⟩ := o
    simp only at ho; subst ho
    exact ⟨rfl, v, p, fun M' hp => rd_value (h1 M' hp), h2, h3, h4⟩
  · exact h.elim

theorem newOkP_spec {o : Oper} {env : Nat → Value} (h : newOkP C.P (evE env) o) : newOk C.P ops env o := by
  intro _
  unfold newOkP at h
  split at h
  · rename_i t len parts ho
    split at h
    · rename_i e hu
      split at h
      · rename_i i hi
        split at h
        · rename_i z hz
          split at h
          · rename_i hc
            split at h
            · rename_i cs hcs
              have hb : newK C.P (evE env) o Mem.empty (fun _ _ => True) := by
                unfold newK; rw [ho]; simp only
                unfold bslK; rw [hu]; simp only
                rw [hi]; simp only
                rw [hz]; simp only
                rw [if_pos hc, hcs]
                exact fun _ _ => trivial
              obtain ⟨ob, k, hn, hk⟩ := newK_nw hb
              exact ⟨ob, k, hn, fun b => let ⟨v, hv, _⟩ := hk b rfl; ⟨v, hv⟩⟩
            · exact h.elim
          · exact h.elim
        · exact h.elim
      · exact h.elim
    · exact h.elim
  · rename_i e ho
    obtain ⟨dst, op, type, pos, after, guard⟩ := o
    simp only at ho; subst ho
    split at h
    · rename_i z hz
      unfold zeroOf at hz
      cases hi : C.P.info? e with
      | none => simp [hi] at hz
      | some i =>
        simp only [hi, Option.bind_some] at hz
        refine ⟨.cells z.cells e, fun b => pure (Next.value (.pointer (some ⟨b, 0, none⟩))), ?_, fun b => ⟨_, rfl⟩⟩
        simp only [execOp]
        rw [nwS_bind C.P (Instr.alloc e true (.tuple #[])) _ (ob := .cells z.cells e) (k := fun b => pure (.pointer (some ⟨b, 0, none⟩))) (by
          unfold Instr.alloc
          rw [nwS_ev C.P _ _ (ev_zero hi hz)]
          rfl)]
        rfl
    · exact h.elim
  · rename_i e x ho
    obtain ⟨dst, op, type, pos, after, guard⟩ := o
    simp only at ho; subst ho
    exact ⟨.cells (evE env x).cells e, fun b => pure (Next.value (.pointer (some ⟨b, 0, none⟩))), rfl, fun b => ⟨_, rfl⟩⟩
  · exact h.elim

theorem newOksP_spec {env : Nat → Value} {L i : Nat} : ∀ {l : List Nat} {X : Prop}, newOksP C ops env L i l X → X ∧ ∀ j ∈ l, j ≠ i → rdyB ops L j = true → ∀ oj, ops[j]? = some oj → newOk C.P ops env oj
  | [], X, h => ⟨h, fun j hj => by cases hj⟩
  | j :: l, X, h => by
    unfold newOksP at h
    cases hb : (Nat.beq j i || !rdyB ops L j) with
    | true =>
      rw [hb] at h
      obtain ⟨h1, h2⟩ := newOksP_spec (l := l) h
      refine ⟨h1, fun k hk hki hr oj hoj => ?_⟩
      rcases List.mem_cons.1 hk with rfl | hk
      · simp only [Bool.or_eq_true, Bool.not_eq_true', hr] at hb
        rcases hb with hb | hb
        · exact absurd (Nat.eq_of_beq_eq_true hb) hki
        · cases hb
      · exact h2 k hk hki hr oj hoj
    | false =>
      rw [hb] at h
      simp only [cond_false] at h
      cases ho : ops[j]? with
      | none =>
        rw [ho] at h
        obtain ⟨h1, h2⟩ := newOksP_spec (l := l) h
        refine ⟨h1, fun k hk hki hr oj hoj => ?_⟩
        rcases List.mem_cons.1 hk with rfl | hk
        · rw [ho] at hoj; cases hoj
        · exact h2 k hk hki hr oj hoj
      | some o =>
        rw [ho] at h
        obtain ⟨h0, h⟩ := h
        obtain ⟨h1, h2⟩ := newOksP_spec (l := l) h
        refine ⟨h1, fun k hk hki hr oj hoj => ?_⟩
        rcases List.mem_cons.1 hk with rfl | hk
        · rw [ho] at hoj; cases hoj; exact newOkP_spec h0
        · exact h2 k hk hki hr oj hoj

/-- An operation that is not wanted does nothing, whenever it comes. -/
theorem aAny_skip {i : Nat} {o : Oper} (ho : ops[i]? = some o) (hsel : ∀ (j : Nat) (o : Oper) cs b, ops[j]? = some o → o.op ≠ .select cs b) {anc : List Nat} (ha : ancOk ops anc = true) {S : Mem → Prop} {Kp : List PanicEntry → Mem → Prop} :
    ∀ (f L : Nat) (env : Nat → Value) (M : Mem), S M → Dn ops L → apartB ops anc L i = true → rdyB ops L i = true → wantedE ops o env = false →
      aAny C ops S K Kp f (L ||| 2 ^ i) (eput env o.dst undef) M → aAny C ops S K Kp (f + 1) L env M
  | 0, L, env, M, hSM, hd, hf, hr, hw, hx => fun hfin => by
    refine ⟨fun hno => (by rw [hno i] at hr; cases hr), fun j hj => ?_⟩
    by_cases hji : j = i
    · subst hji; unfold bopI; rw [ho]; exact bopG_no hw ⟨hSM, hx⟩
    · have hj' := rdyB_add (i := i) hj hji
      have := (hx hfin).1 j; rw [this] at hj'; cases hj'
  | f + 1, L, env, M, hSM, hd, hf, hr, hw, hx => fun hfin => by
    obtain ⟨hL, o1, ho1, hall⟩ := rdyB_iff.1 hr
    rw [ho] at ho1; cases ho1
    refine ⟨fun hno => (by rw [hno i] at hr; cases hr), fun j hj => ?_⟩
    by_cases hji : j = i
    · subst hji; unfold bopI; rw [ho]; exact bopG_no hw ⟨hSM, hx⟩
    · obtain ⟨hjL, oj, hoj, hallj⟩ := rdyB_iff.1 hj
      have hap := apart_of ho ha hd hf hr hj hoj hji
      obtain ⟨a1, a2, a3⟩ := Oper.apart_spec hap
      have hj' := rdyB_add (i := i) hj hji
      have hjj := (hx hfin).2 j hj'
      unfold bopI at hjj ⊢; rw [hoj] at hjj ⊢; simp only at hjj ⊢
      rw [or_swap L i j] at hjj
      have h2 := bopG_put hap (fun cs b => hsel j oj cs b hoj) hjj
      have fin : ∀ u M1, S M1 ∧ aAny C ops S K Kp f (L ||| 2 ^ j ||| 2 ^ i) (eput (eput env oj.dst u) o.dst undef) M1 →
          S M1 ∧ aAny C ops S K Kp (f + 1) (L ||| 2 ^ j) (eput env oj.dst u) M1 := fun u M1 hy =>
        ⟨hy.1, aAny_skip ho hsel ha f (L ||| 2 ^ j) (eput env oj.dst u) M1 hy.1 (hd.add hj) (apartB_add ho hf) (rdyB_add hr (Ne.symm hji)) ((wantedE_eput o env oj.dst u a3).trans hw) hy.2⟩
      unfold bopG at h2 ⊢
      split
      · rename_i hwj; rw [if_pos hwj] at h2; exact bop_mono h2 fun u M1 hy => fin u M1 hy
      · rename_i hwj; rw [if_neg hwj] at h2; exact fin _ _ h2

theorem areg_sound (hC : C.Good) (hsel : ∀ (j : Nat) (o : Oper) cs b, ops[j]? = some o → o.op ≠ .select cs b) {anc : List Nat} (ha : ancOk ops anc = true) (t : Ex) :
    ∀ (Ss : List (Mem → Prop)), MonoS (allS Ss) →
    (∀ (L : Nat) (env : Nat → Value) (M : Mem), allS Ss M → Dn ops L → areg C ops anc K Kp t Ss L 0 env M → aAny C ops (allS Ss) K (upKp Kp) (cnt ops.size L) L env M) ∧
    (∀ (L cov : Nat) (env : Nat → Value) (M : Mem) (f : Nat), allS Ss M → cnt ops.size L = f + 1 → FinM M → Dn ops L → areg C ops anc K Kp t Ss L cov env M → cov ≠ 0 →
      ∀ i, rdyB ops L i = true → cov.testBit i = false → bopI C ops (upKp Kp) i env M fun env' M' => allS Ss M' ∧ aAny C ops (allS Ss) K (upKp Kp) f (L ||| 2 ^ i) env' M') := by
  have kp : ∀ c M', Kp c M' → upKp Kp c M' := fun c M' h => ⟨M', fun _ _ h => h, h⟩
  -- from 'taken first' to 'whichever comes next'
  have both : ∀ (t : Ex) (Ss : List (Mem → Prop)), (∀ (L : Nat) (cov : Nat) (env : Nat → Value) (M : Mem), allS Ss M → Dn ops L → areg C ops anc K Kp t Ss L cov env M → aAny C ops (allS Ss) K (upKp Kp) (cnt ops.size L) L env M) →
      (∀ (L : Nat) (env : Nat → Value) (M : Mem), allS Ss M → Dn ops L → areg C ops anc K Kp t Ss L 0 env M → aAny C ops (allS Ss) K (upKp Kp) (cnt ops.size L) L env M) ∧
      (∀ (L cov : Nat) (env : Nat → Value) (M : Mem) (f : Nat), allS Ss M → cnt ops.size L = f + 1 → FinM M → Dn ops L → areg C ops anc K Kp t Ss L cov env M → cov ≠ 0 →
        ∀ i, rdyB ops L i = true → cov.testBit i = false → bopI C ops (upKp Kp) i env M fun env' M' => allS Ss M' ∧ aAny C ops (allS Ss) K (upKp Kp) f (L ||| 2 ^ i) env' M') := fun t Ss h =>
    ⟨fun L env M => h L 0 env M, fun L cov env M f hSM hcnt hfin hd ht _ j hj _ => by
      have hh := h L cov env M hSM hd ht
      rw [hcnt] at hh
      exact (hh hfin).2 j hj⟩
  induction t with
  | done =>
    intro Ss hS
    refine ⟨fun L env M hSM hd h => ?_, fun L cov env M f _ _ _ hd h hcov i hi hci => ?_⟩
    · obtain ⟨h1, h2⟩ := cond_true h
      refine aAny_done (fun i => ?_) h2 _
      cases hr : rdyB ops L i with
      | false => rfl
      | true => have := noneReady_spec h1 i hr; simp at this
    · obtain ⟨h1, h2⟩ := cond_true h
      have := noneReady_spec h1 i hi; simp at this
  | step i t ih =>
    intro Ss hS
    refine both _ _ fun L cov env M hSM hd h => ?_
    obtain ⟨h1, h2⟩ := cond_true h
    simp only [Bool.and_eq_true] at h1
    obtain ⟨hr, hf⟩ := h1
    obtain ⟨hL, o, ho, hall⟩ := rdyB_iff.1 hr
    rw [ho] at h2; simp only at h2
    rw [cnt_add (Array.getElem?_eq_some_iff.1 ho).1 hL]
    refine aAny_first hS ho hsel ha _ L env M hSM hd hf hr ?_
    unfold bopI; rw [ho]; simp only
    exact bopG_mono (bopG_kp (bopG_behind hS hSM (bopG_of_aopG hC h2)) kp) fun env' M' hx => ⟨hx.1, (ih Ss hS).1 _ env' M' hx.1 (hd.add hr) hx.2⟩
  | prom i t ih =>
    intro Ss hS
    refine both _ _ fun L cov env M hSM hd h => ?_
    obtain ⟨h1, h2⟩ := cond_true h
    simp only [Bool.and_eq_true] at h1
    obtain ⟨hr, hf⟩ := h1
    obtain ⟨hL, o, ho, hall⟩ := rdyB_iff.1 hr
    rw [ho] at h2; simp only at h2
    rw [cnt_add (Array.getElem?_eq_some_iff.1 ho).1 hL]
    have yes : wantedE ops o env = true → promK C.P (evE env) o M (fun v p => areg C ops anc K Kp t ([p] ++ Ss) (L ||| 2 ^ i) 0 (eput env o.dst v) M) →
        aAny C ops (allS Ss) K (upKp Kp) (cnt ops.size (L ||| 2 ^ i) + 1) L env M := fun hw hp => by
      obtain ⟨hc, v, p, p1, p2, p3, p4⟩ := promK_spec hp
      have hS' : MonoS (allS ([p] ++ Ss)) := fun M1 M2 hle hx s hs => by
        rcases List.mem_cons.1 hs with rfl | hs
        · exact p3 _ _ hle (hx _ (List.mem_cons_self ..))
        · exact hS M1 M2 hle (fun s hs => hx s (List.mem_cons_of_mem _ hs)) s hs
      have hSM' : allS ([p] ++ Ss) M := fun s hs => by
        rcases List.mem_cons.1 hs with rfl | hs
        · exact p2
        · exact hSM s hs
      refine aAny_prom ho hsel ha hc (s := execOp (evE env) o) (v := v) _ L env M hd hf hr hw rfl (p1 M p2) hSM ?_
      refine aAny_weak (fun M' hx => ?_) _ _ _ _ ((ih _ hS').1 _ _ M hSM' (hd.add hr) p4)
      exact ⟨fun s hs => hx s (List.mem_cons_of_mem _ hs), p1 M' (hx p (List.mem_cons_self ..))⟩
    have no : wantedE ops o env = false → areg C ops anc K Kp t ([] ++ Ss) (L ||| 2 ^ i) 0 (eput env o.dst undef) M →
        aAny C ops (allS Ss) K (upKp Kp) (cnt ops.size (L ||| 2 ^ i) + 1) L env M := fun hw hp =>
      aAny_skip ho hsel ha _ L env M hSM hd hf hr hw ((ih Ss hS).1 _ _ M hSM (hd.add hr) hp)
    unfold promG at h2
    cases hg : o.guard with
    | none => rw [hg] at h2; exact yes (wantedE_none hg) h2
    | some jw =>
      obtain ⟨j, want⟩ := jw
      rw [hg] at h2
      simp only at h2
      cases hs : gslot ops j with
      | none => rw [hs] at h2; exact no (wantedE_no hg hs) h2
      | some s =>
        rw [hs] at h2
        simp only at h2
        cases he : env s <;> rw [he] at h2 <;> simp only at h2
        case bool e =>
          have hw := wantedE_bool hg hs he
          cases e
          · rw [eput_same he] at h2
            cases want <;> simp only [bsp] at h2
            · exact yes hw h2
            · exact no hw h2
          · rw [eput_same he] at h2
            cases want <;> simp only [bsp] at h2
            · exact no hw h2
            · exact yes hw h2
        all_goals exact no (wantedE_other hg hs (by simp [he])) h2
  | late i t ih =>
    intro Ss hS
    refine both _ _ fun L cov env M hSM hd h => ?_
    obtain ⟨h1, h2⟩ := cond_true h
    simp only [Bool.and_eq_true] at h1
    obtain ⟨hr, hl⟩ := h1
    obtain ⟨hL, o, ho, hall⟩ := rdyB_iff.1 hr
    rw [ho] at h2; simp only at h2
    obtain ⟨he, h2⟩ := cond_true h2
    have hce : cls C.P o = .eff := by unfold isEff at he; cases hc : cls C.P o <;> rw [hc] at he <;> simp at he
    obtain ⟨h3, h4⟩ := newOksP_spec h2
    have hc := cnt_add (n := ops.size) (Array.getElem?_eq_some_iff.1 ho).1 hL
    rw [hc]
    refine aAny_late hS (upKp_up Kp) ho hce hsel ha _ L env M hc hSM hd hl hr (fun j oj hj hoj hji => h4 j (List.mem_range.2 (Array.getElem?_eq_some_iff.1 hoj).1) hji hj oj hoj) ?_
    unfold bopI; rw [ho]; simp only
    exact bopG_mono (bopG_kp (bopG_of_aopG hC h3) kp) fun env' M' hx => ⟨(withS_iff.1 hx).1, (ih Ss hS).1 _ env' M' (withS_iff.1 hx).1 (hd.add hr) (withS_iff.1 hx).2⟩
  | fork i a b iha ihb =>
    intro Ss hS
    refine ⟨fun L env M hSM hd h => ?_, fun L cov env M f hSM hcnt hfin hd h hcov j hj hcj => ?_⟩
    · obtain ⟨hr, h2⟩ := cond_true h
      obtain ⟨hL, o, ho, hall⟩ := rdyB_iff.1 hr
      rw [ho] at h2; simp only at h2
      have hc := cnt_add (n := ops.size) (Array.getElem?_eq_some_iff.1 ho).1 hL
      rw [hc]
      refine fun hfin => ⟨fun hno => (by rw [hno i] at hr; cases hr), fun j hj => ?_⟩
      by_cases hji : j = i
      · subst hji
        unfold bopI; rw [ho]; simp only
        exact bopG_mono (bopG_kp (bopG_behind hS hSM (bopG_of_aopG hC h2.1)) kp) fun env' M' hx => ⟨hx.1, (iha Ss hS).1 _ env' M' hx.1 (hd.add hr) hx.2⟩
      · exact (ihb Ss hS).2 L (0 ||| 2 ^ i) env M (cnt ops.size (L ||| 2 ^ i)) hSM hc hfin hd h2.2 (by simp) j hj (by rw [bit_add]; simp [Ne.symm hji])
    · obtain ⟨hr, h2⟩ := cond_true h
      obtain ⟨hL, o, ho, hall⟩ := rdyB_iff.1 hr
      rw [ho] at h2; simp only at h2
      have hc := cnt_add (n := ops.size) (Array.getElem?_eq_some_iff.1 ho).1 hL
      by_cases hji : j = i
      · subst hji
        unfold bopI; rw [ho]; simp only
        have hf : f = cnt ops.size (L ||| 2 ^ j) := by omega
        subst hf
        exact bopG_mono (bopG_kp (bopG_behind hS hSM (bopG_of_aopG hC h2.1)) kp) fun env' M' hx => ⟨hx.1, (iha Ss hS).1 _ env' M' hx.1 (hd.add hr) hx.2⟩
      · exact (ihb Ss hS).2 L (cov ||| 2 ^ i) env M f hSM hcnt hfin hd h2.2 (by intro h0; have := bit_add cov i i; rw [h0] at this; simp at this) j hj (by rw [bit_add, hcj]; simp [Ne.symm hji])
  | dead =>
    intro Ss hS
    refine ⟨fun L env M hSM hd h => ?_, fun L cov env M f _ _ _ hd h hcov i hi hci => ?_⟩
    · obtain ⟨h1, _⟩ := cond_true h
      simp at h1
    · obtain ⟨h1, _⟩ := cond_true h
      simp only [Bool.and_eq_true] at h1
      have := noneReady_spec h1.1 i hi; rw [hci] at this; cases this

/-! ### down to the machine -/

theorem opwp_of_awp {P : Program} {a : Act} {o : Oper} {M F : Mem} {w : World} {K : Value → Mem → Prop} {Kp : List PanicEntry → Mem → Prop} {next : Act → World → Prop} {Q : Exit → Act → World → Prop}
    (h : awp P (execOp a.eval o) M (nextK P K Kp) (fun v M' => Kp [{ v, recovered := false }] M')) (hd : M.dj F) (hi : (M.union F).In E w)
    (hn : ∀ v w', With E F (K v) w' → next (a.put o.dst v) w') (hp : ∀ c w', With E F (Kp c) w' → Q (.panic c) a w') : o.wp P a w next Q := by
  have hr := awp_sound P _ h hd hi
  unfold RunsTo at hr
  unfold Oper.wp
  split at hr
  · rename_i n w' hrun
    rw [hrun]
    obtain ⟨M', hk, hd', hi'⟩ := hr
    cases n <;> first | exact hk.elim | skip
    · exact hn _ _ ⟨M', hk, hd', hi'⟩
    · exact hn _ _ ⟨M', hk, hd', hi'⟩
    · rename_i f args
      refine (hk E F w' hd' hi').mono fun e w'' he => ?_
      cases e with
      | returned v => exact hn _ _ he
      | panicked c => exact hp _ _ he
      | outgrown => exact he.elim
  · rename_i v w' hrun
    rw [hrun]
    exact hp _ _ hr
  · exact hr.elim

theorem wanted_agree {N : Nat} {env : Nat → Value} {a : Act} (hag : Agree N env a.tmps) (hfit : ∀ o ∈ ops.toList, opFits N o = true) (o : Oper) :
    Region.wanted o (yielded ops a.tmps) = wantedE ops o env := by
  unfold Region.wanted wantedE
  cases hg : o.guard with
  | none => rfl
  | some jw =>
    obtain ⟨j, want⟩ := jw
    simp only
    have hy : yielded ops a.tmps j = match (gslot ops j).map env with | some (.bool b) => some b | _ => none := by
      unfold yielded gslot
      cases hj : ops[j]? with
      | none => rfl
      | some oj =>
        simp only [Option.bind_some]
        cases hd : oj.dst with
        | none => rfl
        | some s =>
          have hm : oj ∈ ops.toList := by have := Array.mem_of_getElem? hj; simpa using this
          have hs := (opFits_spec (hfit oj hm)).2.1 s hd
          simp only [Option.bind_some, hag.2 s hs, Option.map_some]
          cases env s <;> rfl
    rw [hy]
    cases (gslot ops j).map env with
    | none => rfl
    | some v => cases v <;> first | rfl | (cases want <;> rename_i b <;> cases b <;> rfl)

structure Post (E : WEnv) (N : Nat) (Z : Act → Prop) (F : Mem) (K : (Nat → Value) → Mem → Prop) (Kp : List PanicEntry → Mem → Prop) (Q : Exit → Act → World → Prop) : Prop where
  normal : ∀ env M a w, Agree N env a.tmps → Z a → M.dj F → (M.union F).In E w → K env M → Q .normal a w
  panic : ∀ c a w, Z a → With E F (Kp c) w → Q (.panic c) a w

theorem put_defers {a : Act} {dst : Option Tmp} {v : Value} : (a.put dst v).defers = a.defers := by cases dst <;> rfl

theorem wpOp_of_bopI {N : Nat} {Z : Act → Prop} {F : Mem} {Q : Exit → Act → World → Prop} (hz : ∀ o ∈ ops.toList, ∀ (a : Act) (v : Value), Z a → Z (a.put o.dst v)) (hfit : ∀ o ∈ ops.toList, opFits N o = true)
    (hp : ∀ c a w, Z a → With E F (Kp c) w → Q (.panic c) a w) {i : Nat} {env : Nat → Value} {M : Mem} {a : Act} {w : World} {K' : (Nat → Value) → Mem → Prop} {next : Act → World → Prop}
    (hag : Agree N env a.tmps) (hds : Z a) (hd : M.dj F) (hi : (M.union F).In E w)
    (hn : ∀ env' M' a' w', Agree N env' a'.tmps → Z a' → M'.dj F → (M'.union F).In E w' → K' env' M' → next a' w') (h : bopI C ops Kp i env M K') : wpOp C.P ops Q i next a w := by
  unfold wpOp
  unfold bopI at h
  cases ho : ops[i]? with
  | none => rw [ho] at h; exact hn _ _ _ _ hag hds hd hi h
  | some o =>
    rw [ho] at h
    simp only at h
    have hm : o ∈ ops.toList := by have := Array.mem_of_getElem? ho; simpa using this
    have hf := hfit o hm
    simp only
    rw [wanted_agree hag hfit]
    unfold bopG at h
    split
    · rename_i hw
      rw [if_pos hw] at h
      refine .inl (opwp_of_awp (K := fun v M' => K' (eput env o.dst v) M') (Kp := Kp) (F := F) (by rw [← hag.execOp hf]; exact awp_of_bop h) hd hi (fun v w' hv => ?_) (fun c w' hc => hp _ _ _ hds hc))
      obtain ⟨M', hk, hd', hi'⟩ := hv
      exact hn _ _ _ _ (hag.put (opFits_spec hf).2.1 v) (hz o hm _ _ hds) hd' hi' hk
    · rename_i hw
      rw [if_neg hw] at h
      exact hn _ _ _ _ (hag.put (opFits_spec hf).2.1 undef) (hz o hm _ _ hds) hd hi h

def ListedIs (ops : Array Oper) (arr : Array Bool) (L : Nat) : Prop := arr.size = ops.size ∧ ∀ i, i < ops.size → arr[i]? = some (L.testBit i)

theorem ListedIs.add {arr : Array Bool} {L i : Nat} (h : ListedIs ops arr L) (hi : i < ops.size) : ListedIs ops (arr.setIfInBounds i true) (L ||| 2 ^ i) := by
  refine ⟨by simp [h.1], fun k hk => ?_⟩
  by_cases hki : i = k
  · subst hki; simp [h.1, hi]
  · rw [Array.getElem?_setIfInBounds_ne hki, h.2 k hk, bit_add]; simp [hki]

theorem ready_iff {arr : Array Bool} {L : Nat} (h : ListedIs ops arr L) (hedge : ∀ (j : Nat) (o : Oper), ops[j]? = some o → ∀ e ∈ o.after, Region.binds .any e = true → e.on < ops.size) (i : Nat) :
    i ∈ Region.ready .any ops arr ↔ rdyB ops L i = true := by
  rw [mem_ready, rdyB_iff]
  constructor
  · rintro ⟨h0, o, ho, hall⟩
    have hlt := (Array.getElem?_eq_some_iff.1 ho).1
    refine ⟨?_, o, ho, fun e he hb => ?_⟩
    · have := h.2 i hlt; simp [Array.getD_eq_getD_getElem?, this] at h0; exact h0
    · have h1 := hall e he hb
      have := h.2 e.on (hedge i o ho e he hb)
      simpa [Array.getD_eq_getD_getElem?, this] using h1
  · rintro ⟨h0, o, ho, hall⟩
    have hlt := (Array.getElem?_eq_some_iff.1 ho).1
    refine ⟨by simp [Array.getD_eq_getD_getElem?, h.2 i hlt, h0], o, ho, fun e he hb => ?_⟩
    have := h.2 e.on (hedge i o ho e he hb)
    simp [Array.getD_eq_getD_getElem?, this, hall e he hb]

theorem wpAny_of_aAny {S : Mem → Prop} {N : Nat} {Z : Act → Prop} {F : Mem} {Q : Exit → Act → World → Prop} (hz : ∀ o ∈ ops.toList, ∀ (a : Act) (v : Value), Z a → Z (a.put o.dst v)) (hfit : ∀ o ∈ ops.toList, opFits N o = true)
    (hedge : ∀ (j : Nat) (o : Oper), ops[j]? = some o → ∀ e ∈ o.after, Region.binds .any e = true → e.on < ops.size) (hpost : Post E N Z F K Kp Q) :
    ∀ (f L : Nat) (arr : Array Bool) (env : Nat → Value) (M : Mem) (a : Act) (w : World), ListedIs ops arr L → Agree N env a.tmps → Z a → M.dj F → (M.union F).In E w →
      aAny C ops S K (upKp Kp) f L env M → wpAny C.P .any ops Q f arr a w := by
  intro f
  induction f with
  | zero =>
    intro L arr env M a w hl hag hds hd hi h
    have hfin : FinM M := ⟨w.heap.size, fun b hb => by
      cases hm : M b with
      | none => rfl
      | some o => have := hi.lt (Mem.union_left (F := F) hm); omega⟩
    obtain ⟨h1, h2⟩ := h hfin
    refine ⟨?_, hpost.normal _ _ _ _ hag hds hd hi h2⟩
    rw [List.eq_nil_iff_forall_not_mem]
    intro i hmem
    have := (ready_iff hl hedge i).1 hmem
    rw [h1 i] at this; cases this
  | succ f ih =>
    intro L arr env M a w hl hag hds hd hi h
    have hfin : FinM M := ⟨w.heap.size, fun b hb => by
      cases hm : M b with
      | none => rfl
      | some o => have := hi.lt (Mem.union_left (F := F) hm); omega⟩
    obtain ⟨h1, h2⟩ := h hfin
    refine ⟨fun hnil => ?_, fun i hmem => ?_⟩
    · refine hpost.normal _ _ _ _ hag hds hd hi (h1 fun i => ?_)
      cases hr : rdyB ops L i with
      | false => rfl
      | true => have := (ready_iff hl hedge i).2 hr; rw [hnil] at this; cases this
    · have hr := (ready_iff hl hedge i).1 hmem
      obtain ⟨_, o, ho, _⟩ := rdyB_iff.1 hr
      exact wpOp_of_bopI hz hfit (fun c a w h1 h2 => hpost.panic c a w h1 h2.up) hag hds hd hi (fun env' M' a' w' g1 g2 g3 g4 g5 => ih _ _ _ _ _ _ (hl.add (Array.getElem?_eq_some_iff.1 ho).1) g1 g2 g3 g4 g5.2) (h2 i hr)

/-- Where no order is drawn: one behind the other. -/
def aops (C : Ctx) (ops : Array Oper) (K : (Nat → Value) → Mem → Prop) (Kp : List PanicEntry → Mem → Prop) : List Oper → (Nat → Value) → Mem → Prop
  | [], env, M => K env M
  | o :: rest, env, M => aopG C ops o env M (fun env' M' => aops C ops K Kp rest env' M') Kp

end
end Go.AF
