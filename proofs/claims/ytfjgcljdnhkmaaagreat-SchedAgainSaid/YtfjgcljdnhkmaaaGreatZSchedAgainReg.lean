/- A part of proofs about one program. -/
import Derived.Test.YtfjgcljdnhkmaaaGreatZSchedAgainFrame
set_option linter.unusedVariables false
namespace Go.AF
def bu (env : Nat → Value) (dst : Option Tmp) (v : Value) : Nat → Value :=
 match dst with
 | some d => fun i => bif Nat.beq i d then v else env i
 | none => env
def eE (n : Nat) (env : Nat → Value) (tmps : Array Value) : Prop := tmps.size = n ∧ ∀ i, i < n → tmps[i]? = some (env i)
def nG (n : Nat) (o : Oper) : Bool :=
 (o.op.operands.toList.all fun x => match x with | .tmp t => decide (t < n) | _ => true) && (match o.dst with | some d => decide (d < n) | none => true) &&
 (match o.op with | .select .. => false | _ => true)
theorem g6 {env : Nat → Value} {d i : Nat} {v : Value} : bu env (some d) v i = if i = d then v else env i := by
 unfold bu
 by_cases h : i = d
 ·subst h; simp
 ·have : Nat.beq i d = false := by cases hb : Nat.beq i d with
   | false => rfl
   | true => exact absurd (Nat.eq_of_beq_eq_true hb) h
  simp [this, h]
theorem eE.put {n : Nat} {env : Nat → Value} {a : Act} (h : eE n env a.tmps) {dst : Option Tmp} (hd : ∀ d, dst = some d → d < n) (v : Value) :
  eE n (bu env dst v) (a.put dst v).tmps := by
 cases dst with
 | none => exact h
 | some d =>
  have hd := hd d rfl
  refine ⟨by simp [Act.put, h.1], fun i hi => ?_⟩
  rw [g6]
  by_cases he : i = d
  ·subst he
   simp [Act.put, h.1, hi]
  ·simp only [Act.put, he, if_false]
   rw [Array.getElem?_setIfInBounds_ne (Ne.symm he)]
   exact h.2 i hi
theorem gy {n : Nat} {o : Oper} (h : nG n o = true) : (∀ t, Operand.tmp t ∈ o.op.operands → t < n) ∧ (∀ d, o.dst = some d → d < n) ∧ (∀ cs b, o.op ≠ .select cs b) := by
 unfold nG at h
 simp only [Bool.and_eq_true, List.all_eq_true] at h
 refine ⟨fun t ht => ?_, fun d hd => ?_, fun cs b hs => ?_⟩
 ·have := h.1.1 (.tmp t) (by simpa using ht)
  simpa using this
 ·have := h.1.2; simp only [hd] at this; simpa using this
 ·have := h.2; simp [hs] at this
theorem eE.eval {n : Nat} {env : Nat → Value} {a : Act} (h : eE n env a.tmps) {x : Operand} (hx : ∀ t, x = .tmp t → t < n) : mw env x = a.eval x := by
 cases x with
 | tmp t =>
  have := h.2 t (hx t rfl)
  simp [mw, Act.eval, this]
 | _ => rfl
theorem eE.execOp {n : Nat} {env : Nat → Value} {a : Act} (h : eE n env a.tmps) {o : Oper} (hf : nG n o = true) : execOp (mw env) o = Go.execOp a.eval o := by
 obtain ⟨h1, h2, h3⟩ := gy hf
 exact execOp_congr o h3 fun x hx => h.eval fun t ht => h1 t (ht ▸ hx)
def mO (ops : Array Oper) (j : Nat) : Option Nat := (ops[j]?).bind (·.dst)
def Kr (C : Ctx) (ops : Array Oper) (o : Oper) (env : Nat → Value) (M : Mem) (K : (Nat → Value) → Mem → Prop) (Kp : List PanicEntry → Mem → Prop) : Prop :=
 match o.guard with
 | none => Ye C (mw env) o M (fun v M' => K (bu env o.dst v) M') Kp
 | some (j, want) => match mO ops j with
  | some s => match env s with
   | .bool e => match want with
    | true => aV e (Ye C (mw (bu env (some s) (.bool true))) o M (fun v M' => K (bu (bu env (some s) (.bool true)) o.dst v) M') Kp) (K (bu (bu env (some s) (.bool false)) o.dst undef) M)
    | false => aV e (K (bu (bu env (some s) (.bool true)) o.dst undef) M) (Ye C (mw (bu env (some s) (.bool false))) o M (fun v M' => K (bu (bu env (some s) (.bool false)) o.dst v) M') Kp)
   | _ => K (bu env o.dst undef) M
  | none => K (bu env o.dst undef) M
def sA (C : Ctx) (ρ : Operand → Value) (o : Oper) (M : Mem) (K : Value → Mem → Prop) (Kp : List PanicEntry → Mem → Prop) : Prop :=
 match cls C.P o with
 | .pure => ∃ v, (∀ M', bQ C.P (execOp ρ o) M' = some (.value v)) ∧ K v M
 | .read => ∃ v, bQ C.P (execOp ρ o) M = some (.value v) ∧ K v M
 | .new => ∃ (ob : Obj) (k : Nat → Sem Next), CZ C.P (execOp ρ o) = some (ob, k) ∧ ∀ b, M b = none → ∃ v, bQ C.P (k b) Mem.empty = some (.value v) ∧ K v (M.set b ob)
 | .Kk => ej C.P (execOp ρ o) M (mN C.P K Kp) (fun v M' => Kp [{ v, recovered := false }] M')
theorem sO {C : Ctx} (hC : C.Good) {ρ : Operand → Value} {o : Oper} {M : Mem} {K : Value → Mem → Prop} {Kp : List PanicEntry → Mem → Prop} (h : Ye C ρ o M K Kp) : sA C ρ o M K Kp := by
 unfold Ye at h
 unfold sA
 cases hc : cls C.P o <;> rw [hc] at h <;> simp only at h ⊢
 ·exact GC h
 ·split at h
  ·rename_i t a ho
   obtain ⟨v, hv, hk⟩ := yH h
   obtain ⟨dst, op, type, pos, after, guard⟩ := o
   simp only at ho; subst ho
   exact ⟨v, gu hv, hk⟩
  ·exact h.elim
 ·exact IY h
 ·exact Km hC h
theorem yN {C : Ctx} {ρ : Operand → Value} {o : Oper} {M : Mem} {K : Value → Mem → Prop} {Kp : List PanicEntry → Mem → Prop} (h : sA C ρ o M K Kp) :
  ej C.P (execOp ρ o) M (mN C.P K Kp) (fun v M' => Kp [{ v, recovered := false }] M') := by
 unfold sA at h
 split at h
 ·obtain ⟨v, hv, hk⟩ := h; exact hJ C.P _ (hv M) hk
 ·obtain ⟨v, hv, hk⟩ := h; exact hJ C.P _ hv hk
 ·obtain ⟨ob, k, hn, h⟩ := h
  refine MO C.P _ hn fun b hb => ?_
  obtain ⟨v, hv, hk⟩ := h b hb
  exact hJ C.P _ (mK C.P _ (fun b o hb => by simp [Mem.empty] at hb) hv) hk
 ·exact h
theorem mP {C : Ctx} {ρ : Operand → Value} {o : Oper} {M : Mem} {K K' : Value → Mem → Prop} {Kp : List PanicEntry → Mem → Prop} (h : sA C ρ o M K Kp)
  (hk : ∀ v M', K v M' → K' v M') : sA C ρ o M K' Kp := by
 unfold sA at h ⊢
 split at h
 ·obtain ⟨v, hv, h⟩ := h; exact ⟨v, hv, hk _ _ h⟩
 ·obtain ⟨v, hv, h⟩ := h; exact ⟨v, hv, hk _ _ h⟩
 ·obtain ⟨ob, k, hn, h⟩ := h
  exact ⟨ob, k, hn, fun b hb => let ⟨v, hv, h⟩ := h b hb; ⟨v, hv, hk _ _ h⟩⟩
 ·refine iE C.P _ h (fun n M' hn => ?_) (fun _ _ h => h)
  cases n <;> first | exact hn.elim | exact hk _ _ hn | exact aa.mono hn hk (fun _ _ h => h)
def bW (ops : Array Oper) (o : Oper) (env : Nat → Value) : Bool :=
 match o.guard with
 | none => true
 | some (j, want) => match (mO ops j).map env with
  | some (.bool b) => b == want
  | _ => false
def eO (C : Ctx) (ops : Array Oper) (o : Oper) (env : Nat → Value) (M : Mem) (K : (Nat → Value) → Mem → Prop) (Kp : List PanicEntry → Mem → Prop) : Prop :=
 if bW ops o env = true then sA C (mw env) o M (fun v M' => K (bu env o.dst v) M') Kp else K (bu env o.dst undef) M
theorem jk {C : Ctx} {ops : Array Oper} {o : Oper} {env : Nat → Value} {M : Mem} {K K' : (Nat → Value) → Mem → Prop} {Kp : List PanicEntry → Mem → Prop} (h : eO C ops o env M K Kp)
  (hk : ∀ v M', K v M' → K' v M') : eO C ops o env M K' Kp := by
 unfold eO at h ⊢
 split
 ·rename_i hw; rw [if_pos hw] at h; exact mP h fun v M' hv => hk _ _ hv
 ·rename_i hw; rw [if_neg hw] at h; exact hk _ _ h
theorem mQ {env : Nat → Value} {s : Nat} {v : Value} (h : env s = v) : bu env (some s) v = env := by
 funext i; rw [g6]; split
 ·rename_i hi; rw [hi, h]
 ·rfl
theorem uc {ops : Array Oper} {o : Oper} {env : Nat → Value} (h : o.guard = none) : bW ops o env = true := by unfold bW; rw [h]
theorem yO {ops : Array Oper} {o : Oper} {env : Nat → Value} {j : Nat} {w : Bool} (h : o.guard = some (j, w)) (hs : mO ops j = none) : bW ops o env = false := by
 unfold bW; rw [h]; simp only [hs]; rfl
theorem ud {ops : Array Oper} {o : Oper} {env : Nat → Value} {j s : Nat} {w e : Bool} (h : o.guard = some (j, w)) (hs : mO ops j = some s) (he : env s = .bool e) : bW ops o env = (e == w) := by
 unfold bW; rw [h]; simp only [hs, Option.map_some, he]
theorem sB {ops : Array Oper} {o : Oper} {env : Nat → Value} {j s : Nat} {w : Bool} (h : o.guard = some (j, w)) (hs : mO ops j = some s) (he : ∀ e, env s ≠ .bool e) : bW ops o env = false := by
 unfold bW; rw [h]; simp only [hs, Option.map_some]
 cases hx : env s <;> first | rfl | exact absurd hx (he _)
theorem iG {C : Ctx} {ops : Array Oper} {o : Oper} {env : Nat → Value} {M : Mem} {K : (Nat → Value) → Mem → Prop} {Kp : List PanicEntry → Mem → Prop} (hw : bW ops o env = true)
  (h : sA C (mw env) o M (fun v M' => K (bu env o.dst v) M') Kp) : eO C ops o env M K Kp := by unfold eO; rw [if_pos hw]; exact h
theorem lP {C : Ctx} {ops : Array Oper} {o : Oper} {env : Nat → Value} {M : Mem} {K : (Nat → Value) → Mem → Prop} {Kp : List PanicEntry → Mem → Prop} (hw : bW ops o env = false)
  (h : K (bu env o.dst undef) M) : eO C ops o env M K Kp := by unfold eO; rw [if_neg (by simp [hw])]; exact h
theorem iH {C : Ctx} (hC : C.Good) {ops : Array Oper} {o : Oper} {env : Nat → Value} {M : Mem} {K : (Nat → Value) → Mem → Prop} {Kp : List PanicEntry → Mem → Prop} (h : Kr C ops o env M K Kp) :
  eO C ops o env M K Kp := by
 unfold Kr at h
 cases hg : o.guard with
 | none => rw [hg] at h; exact iG (uc hg) (sO hC h)
 | some jw =>
  obtain ⟨j, want⟩ := jw
  rw [hg] at h
  simp only at h
  cases hs : mO ops j with
  | none => rw [hs] at h; exact lP (yO hg hs) h
  | some s =>
   rw [hs] at h
   simp only at h
   cases he : env s <;> rw [he] at h <;> simp only at h
   case bool e =>
    have hw := ud hg hs he
    cases e
    ·rw [mQ he] at h
     cases want <;> simp only [aV] at h
     ·exact iG hw (sO hC h)
     ·exact lP hw h
    ·rw [mQ he] at h
     cases want <;> simp only [aV] at h
     ·exact lP hw h
     ·exact iG hw (sO hC h)
   all_goals exact lP (sB hg hs (by simp [he])) h
theorem qJ {env : Nat → Value} {x y : Option Tmp} {v u : Value} (h : ∀ d, x = some d → y ≠ some d) : bu (bu env x v) y u = bu (bu env y u) x v := by
 cases x with
 | none => rfl
 | some d =>
  cases y with
  | none => rfl
  | some e =>
   have hne : d ≠ e := fun he => h d rfl (he ▸ rfl)
   funext i
   simp only [g6]
   by_cases h1 : i = d <;> by_cases h2 : i = e <;> simp_all
theorem Qp {env : Nat → Value} {dst : Option Tmp} {v : Value} {x : Operand} (h : ∀ d, dst = some d → x ≠ .tmp d) : mw (bu env dst v) x = mw env x := by
 cases dst with
 | none => rfl
 | some d =>
  cases x with
  | tmp t =>
   have : d ≠ t := fun e => h d rfl (e ▸ rfl)
   simp only [mw, g6]
   rw [if_neg (Ne.symm this)]
  | _ => rfl
theorem ij {ops : Array Oper} (o : Oper) (hs : ∀ cs b, o.op ≠ .select cs b) (env : Nat → Value) (dst : Option Tmp) (v : Value) (h : ∀ d, dst = some d → d ∉ o.looksAt ops) :
  execOp (mw (bu env dst v)) o = execOp (mw env) o :=
 execOp_congr o hs fun x hx => Qp fun d hd hxd => h d hd (by
  subst hxd
  exact List.mem_append_left _ (List.mem_filterMap.2 ⟨.tmp d, by simpa using hx, rfl⟩))
theorem eV {ops : Array Oper} (o : Oper) (env : Nat → Value) (dst : Option Tmp) (v : Value) (h : ∀ d, dst = some d → d ∉ o.looksAt ops) :
  bW ops o (bu env dst v) = bW ops o env := by
 cases dst with
 | none => rfl
 | some d =>
  unfold bW
  cases hg : o.guard with
  | none => rfl
  | some gw =>
   obtain ⟨g, want⟩ := gw
   simp only
   cases ht : mO ops g with
   | none => rfl
   | some t =>
    have hne : t ≠ d := fun e => h d rfl (by
     subst e
     unfold mO at ht
     simp [Oper.looksAt, hg, ht])
    simp only [Option.map_some, g6, if_neg hne]
end Go.AF
