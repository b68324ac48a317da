/- A part of proofs about functions of one program: a condition over a partial memory that is enough for a call, and what calls answer by it. No condition of its own. -/
import Derived.Test.YtfjgcljdnhkmaaaGreatZSchedStealsFrame
set_option linter.unusedVariables false
namespace Go.AF

def eput (env : Nat → Value) (dst : Option Tmp) (v : Value) : Nat → Value :=
  match dst with
  | some d => fun i => bif Nat.beq i d then v else env i
  | none => env

def Agree (n : Nat) (env : Nat → Value) (tmps : Array Value) : Prop := tmps.size = n ∧ ∀ i, i < n → tmps[i]? = some (env i)

def opFits (n : Nat) (o : Oper) : Bool :=
  (o.op.operands.toList.all fun x => match x with | .tmp t => decide (t < n) | _ => true) && (match o.dst with | some d => decide (d < n) | none => true) &&
  (match o.op with | .select .. => false | _ => true)

theorem eput_get {env : Nat → Value} {d i : Nat} {v : Value} : eput env (some d) v i = if i = d then v else env i := by
  unfold eput
  by_cases h : i = d
  · subst h; simp
  · have : Nat.beq i d = false := by cases hb : Nat.beq i d with
      | false => rfl
      | true => exact absurd (Nat.eq_of_beq_eq_true hb) h
    simp [this, h]

theorem Agree.put {n : Nat} {env : Nat → Value} {a : Act} (h : Agree n env a.tmps) {dst : Option Tmp} (hd : ∀ d, dst = some d → d < n) (v : Value) :
    Agree n (eput env dst v) (a.put dst v).tmps := by
  cases dst with
  | none => exact h
  | some d =>
    have hd := hd d rfl
    refine ⟨by simp [Act.put, h.1], fun i hi => ?_⟩
    rw [eput_get]
    by_cases he : i = d
    · subst he
      simp [Act.put, h.1, hi]
    · simp only [Act.put, he, if_false]
      rw [Array.getElem?_setIfInBounds_ne (Ne.symm he)]
      exact h.2 i hi

theorem opFits_spec {n : Nat} {o : Oper} (h : opFits n o = true) : (∀ t, Operand.tmp t ∈ o.op.operands → t < n) ∧ (∀ d, o.dst = some d → d < n) ∧ (∀ cs b, o.op ≠ .select cs b) := by
  unfold opFits at h
  simp only [Bool.and_eq_true, List.all_eq_true] at h
  refine ⟨fun t ht => ?_, fun d hd => ?_, fun cs b hs => ?_⟩
  · have := h.1.1 (.tmp t) (by simpa using ht)
    simpa using this
  · have := h.1.2; simp only [hd] at this; simpa using this
  · have := h.2; simp [hs] at this

theorem Agree.eval {n : Nat} {env : Nat → Value} {a : Act} (h : Agree n env a.tmps) {x : Operand} (hx : ∀ t, x = .tmp t → t < n) : evE env x = a.eval x := by
  cases x with
  | tmp t =>
    have := h.2 t (hx t rfl)
    simp [evE, Act.eval, this]
  | _ => rfl

theorem Agree.execOp {n : Nat} {env : Nat → Value} {a : Act} (h : Agree n env a.tmps) {o : Oper} (hf : opFits n o = true) : execOp (evE env) o = Go.execOp a.eval o := by
  obtain ⟨h1, h2, h3⟩ := opFits_spec hf
  exact execOp_congr o h3 fun x hx => h.eval fun t ht => h1 t (ht ▸ hx)

def gslot (ops : Array Oper) (j : Nat) : Option Nat := (ops[j]?).bind (·.dst)

/-- One operation, its guard first. -/
def aopG (C : Ctx) (ops : Array Oper) (o : Oper) (env : Nat → Value) (M : Mem) (K : (Nat → Value) → Mem → Prop) (Kp : List PanicEntry → Mem → Prop) : Prop :=
  match o.guard with
  | none => aop C (evE env) o M (fun v M' => K (eput env o.dst v) M') Kp
  | some (j, want) => match gslot ops j with
    | some s => match env s with
      | .bool e => match want with
        | true => bsp e (aop C (evE (eput env (some s) (.bool true))) o M (fun v M' => K (eput (eput env (some s) (.bool true)) o.dst v) M') Kp) (K (eput (eput env (some s) (.bool false)) o.dst undef) M)
        | false => bsp e (K (eput (eput env (some s) (.bool true)) o.dst undef) M) (aop C (evE (eput env (some s) (.bool false))) o M (fun v M' => K (eput (eput env (some s) (.bool false)) o.dst v) M') Kp)
      | _ => K (eput env o.dst undef) M
    | none => K (eput env o.dst undef) M

/-- What an operation comes to, by its class. -/
def bop (C : Ctx) (ρ : Operand → Value) (o : Oper) (M : Mem) (K : Value → Mem → Prop) (Kp : List PanicEntry → Mem → Prop) : Prop :=
  match cls C.P o with
  | .pure => ∃ v, (∀ M', rdS C.P (execOp ρ o) M' = some (.value v)) ∧ K v M
  | .read => ∃ v, rdS C.P (execOp ρ o) M = some (.value v) ∧ K v M
  | .new => ∃ (ob : Obj) (k : Nat → Sem Next), nwS C.P (execOp ρ o) = some (ob, k) ∧ ∀ b, M b = none → ∃ v, rdS C.P (k b) Mem.empty = some (.value v) ∧ K v (M.set b ob)
  | .eff => awp C.P (execOp ρ o) M (nextK C.P K Kp) (fun v M' => Kp [{ v, recovered := false }] M')


theorem bop_of_aop {C : Ctx} (hC : C.Good) {ρ : Operand → Value} {o : Oper} {M : Mem} {K : Value → Mem → Prop} {Kp : List PanicEntry → Mem → Prop} (h : aop C ρ o M K Kp) : bop C ρ o M K Kp := by
  unfold aop at h
  unfold bop
  cases hc : cls C.P o <;> rw [hc] at h <;> simp only at h ⊢
  · exact pureK_spec h
  · split at h
    · rename_i t a ho
      obtain ⟨v, hv, hk⟩ := loadK_spec h
      obtain ⟨dst, op, type, pos, after, guard⟩ := o
      simp only at ho; subst ho
      exact ⟨v, rd_value hv, hk⟩
    · exact h.elim
  · exact newK_nw h
  · exact effK_spec hC h

theorem awp_of_bop {C : Ctx} {ρ : Operand → Value} {o : Oper} {M : Mem} {K : Value → Mem → Prop} {Kp : List PanicEntry → Mem → Prop} (h : bop C ρ o M K Kp) :
    awp C.P (execOp ρ o) M (nextK C.P K Kp) (fun v M' => Kp [{ v, recovered := false }] M') := by
  unfold bop at h
  split at h
  · obtain ⟨v, hv, hk⟩ := h; exact awp_of_rdS C.P _ (hv M) hk
  · obtain ⟨v, hv, hk⟩ := h; exact awp_of_rdS C.P _ hv hk
  · obtain ⟨ob, k, hn, h⟩ := h
    refine nwS_spec C.P _ hn fun b hb => ?_
    obtain ⟨v, hv, hk⟩ := h b hb
    exact awp_of_rdS C.P _ (rdS_mono C.P _ (fun b o hb => by simp [Mem.empty] at hb) hv) hk
  · exact h

theorem bop_mono {C : Ctx} {ρ : Operand → Value} {o : Oper} {M : Mem} {K K' : Value → Mem → Prop} {Kp : List PanicEntry → Mem → Prop} (h : bop C ρ o M K Kp)
    (hk : ∀ v M', K v M' → K' v M') : bop C ρ o M K' Kp := by
  unfold bop at h ⊢
  split at h
  · obtain ⟨v, hv, h⟩ := h; exact ⟨v, hv, hk _ _ h⟩
  · obtain ⟨v, hv, h⟩ := h; exact ⟨v, hv, hk _ _ h⟩
  · obtain ⟨ob, k, hn, h⟩ := h
    exact ⟨ob, k, hn, fun b hb => let ⟨v, hv, h⟩ := h b hb; ⟨v, hv, hk _ _ h⟩⟩
  · refine awp_mono C.P _ h (fun n M' hn => ?_) (fun _ _ h => h)
    cases n <;> first | exact hn.elim | exact hk _ _ hn | exact ACalls.mono hn hk (fun _ _ h => h)

def wantedE (ops : Array Oper) (o : Oper) (env : Nat → Value) : Bool :=
  match o.guard with
  | none => true
  | some (j, want) => match (gslot ops j).map env with
    | some (.bool b) => b == want
    | _ => false

def bopG (C : Ctx) (ops : Array Oper) (o : Oper) (env : Nat → Value) (M : Mem) (K : (Nat → Value) → Mem → Prop) (Kp : List PanicEntry → Mem → Prop) : Prop :=
  if wantedE ops o env = true then bop C (evE env) o M (fun v M' => K (eput env o.dst v) M') Kp else K (eput env o.dst undef) M

theorem bopG_mono {C : Ctx} {ops : Array Oper} {o : Oper} {env : Nat → Value} {M : Mem} {K K' : (Nat → Value) → Mem → Prop} {Kp : List PanicEntry → Mem → Prop} (h : bopG C ops o env M K Kp)
    (hk : ∀ v M', K v M' → K' v M') : bopG C ops o env M K' Kp := by
  unfold bopG at h ⊢
  split
  · rename_i hw; rw [if_pos hw] at h; exact bop_mono h fun v M' hv => hk _ _ hv
  · rename_i hw; rw [if_neg hw] at h; exact hk _ _ h

theorem eput_same {env : Nat → Value} {s : Nat} {v : Value} (h : env s = v) : eput env (some s) v = env := by
  funext i; rw [eput_get]; split
  · rename_i hi; rw [hi, h]
  · rfl

theorem wantedE_none {ops : Array Oper} {o : Oper} {env : Nat → Value} (h : o.guard = none) : wantedE ops o env = true := by unfold wantedE; rw [h]
theorem wantedE_no {ops : Array Oper} {o : Oper} {env : Nat → Value} {j : Nat} {w : Bool} (h : o.guard = some (j, w)) (hs : gslot ops j = none) : wantedE ops o env = false := by
  unfold wantedE; rw [h]; simp only [hs]; rfl
theorem wantedE_bool {ops : Array Oper} {o : Oper} {env : Nat → Value} {j s : Nat} {w e : Bool} (h : o.guard = some (j, w)) (hs : gslot ops j = some s) (he : env s = .bool e) : wantedE ops o env = (e == w) := by
  unfold wantedE; rw [h]; simp only [hs, Option.map_some, he]
theorem wantedE_other {ops : Array Oper} {o : Oper} {env : Nat → Value} {j s : Nat} {w : Bool} (h : o.guard = some (j, w)) (hs : gslot ops j = some s) (he : ∀ e, env s ≠ .bool e) : wantedE ops o env = false := by
  unfold wantedE; rw [h]; simp only [hs, Option.map_some]
  cases hx : env s <;> first | rfl | exact absurd hx (he _)

theorem bopG_yes {C : Ctx} {ops : Array Oper} {o : Oper} {env : Nat → Value} {M : Mem} {K : (Nat → Value) → Mem → Prop} {Kp : List PanicEntry → Mem → Prop} (hw : wantedE ops o env = true)
    (h : bop C (evE env) o M (fun v M' => K (eput env o.dst v) M') Kp) : bopG C ops o env M K Kp := by unfold bopG; rw [if_pos hw]; exact h
theorem bopG_no {C : Ctx} {ops : Array Oper} {o : Oper} {env : Nat → Value} {M : Mem} {K : (Nat → Value) → Mem → Prop} {Kp : List PanicEntry → Mem → Prop} (hw : wantedE ops o env = false)
    (h : K (eput env o.dst undef) M) : bopG C ops o env M K Kp := by unfold bopG; rw [if_neg (by simp [hw])]; exact h

theorem bopG_of_aopG {C : Ctx} (hC : C.Good) {ops : Array Oper} {o : Oper} {env : Nat → Value} {M : Mem} {K : (Nat → Value) → Mem → Prop} {Kp : List PanicEntry → Mem → Prop} (h : aopG C ops o env M K Kp) :
    bopG C ops o env M K Kp := by
  unfold aopG at h
  cases hg : o.guard with
  | none => rw [hg] at h; exact bopG_yes (wantedE_none hg) (bop_of_aop hC h)
  | some jw =>
    obtain ⟨j, want⟩ := jw
    rw [hg] at h
    simp only at h
    cases hs : gslot ops j with
    | none => rw [hs] at h; exact bopG_no (wantedE_no hg hs) h
    | some s =>
      rw [hs] at h
      simp only at h
      cases he : env s <;> rw [he] at h <;> simp only at h
      case bool e =>
        have hw := wantedE_bool hg hs he
        cases e
        · rw [eput_same he] at h
          cases want <;> simp only [bsp] at h
          · exact bopG_yes hw (bop_of_aop hC h)
          · exact bopG_no hw h
        · rw [eput_same he] at h
          cases want <;> simp only [bsp] at h
          · exact bopG_no hw h
          · exact bopG_yes hw (bop_of_aop hC h)
      all_goals exact bopG_no (wantedE_other hg hs (by simp [he])) h

theorem eput_comm {env : Nat → Value} {x y : Option Tmp} {v u : Value} (h : ∀ d, x = some d → y ≠ some d) : eput (eput env x v) y u = eput (eput env y u) x v := by
  cases x with
  | none => rfl
  | some d =>
    cases y with
    | none => rfl
    | some e =>
      have hne : d ≠ e := fun he => h d rfl (he ▸ rfl)
      funext i
      simp only [eput_get]
      by_cases h1 : i = d <;> by_cases h2 : i = e <;> simp_all

theorem evE_put {env : Nat → Value} {dst : Option Tmp} {v : Value} {x : Operand} (h : ∀ d, dst = some d → x ≠ .tmp d) : evE (eput env dst v) x = evE env x := by
  cases dst with
  | none => rfl
  | some d =>
    cases x with
    | tmp t =>
      have : d ≠ t := fun e => h d rfl (e ▸ rfl)
      simp only [evE, eput_get]
      rw [if_neg (Ne.symm this)]
    | _ => rfl

theorem execOp_eput {ops : Array Oper} (o : Oper) (hs : ∀ cs b, o.op ≠ .select cs b) (env : Nat → Value) (dst : Option Tmp) (v : Value) (h : ∀ d, dst = some d → d ∉ o.looksAt ops) :
    execOp (evE (eput env dst v)) o = execOp (evE env) o :=
  execOp_congr o hs fun x hx => evE_put fun d hd hxd => h d hd (by
    subst hxd
    exact List.mem_append_left _ (List.mem_filterMap.2 ⟨.tmp d, by simpa using hx, rfl⟩))

theorem wantedE_eput {ops : Array Oper} (o : Oper) (env : Nat → Value) (dst : Option Tmp) (v : Value) (h : ∀ d, dst = some d → d ∉ o.looksAt ops) :
    wantedE ops o (eput env dst v) = wantedE ops o env := by
  cases dst with
  | none => rfl
  | some d =>
    unfold wantedE
    cases hg : o.guard with
    | none => rfl
    | some gw =>
      obtain ⟨g, want⟩ := gw
      simp only
      cases ht : gslot ops g with
      | none => rfl
      | some t =>
        have hne : t ≠ d := fun e => h d rfl (by
          subst e
          unfold gslot at ht
          simp [Oper.looksAt, hg, ht])
        simp only [Option.map_some, eput_get, if_neg hne]

end Go.AF
