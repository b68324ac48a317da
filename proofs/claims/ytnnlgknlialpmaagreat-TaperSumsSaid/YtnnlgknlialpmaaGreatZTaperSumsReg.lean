/- A part of proofs about one program. -/
import Derived.Test.YtnnlgknlialpmaaGreatZTaperSumsFrame
set_option linter.unusedVariables false
namespace Go.AF
def bx (env : Nat → Value) (dst : Option Tmp) (v : Value) : Nat → Value :=
 match dst with
 | some d => fun i => bif Nat.beq i d then v else env i
 | none => env
def eF (n : Nat) (env : Nat → Value) (tmps : Array Value) : Prop := tmps.size = n ∧ ∀ i, i < n → tmps[i]? = some (env i)
def od (n : Nat) (o : Oper) : Bool :=
 (o.op.operands.toList.all fun x => match x with | .tmp t => decide (t < n) | _ => true) && (match o.dst with | some d => decide (d < n) | none => true) &&
 (match o.op with | .select .. => false | _ => true)
theorem ia {env : Nat → Value} {d i : Nat} {v : Value} : bx env (some d) v i = if i = d then v else env i := by
 unfold bx
 by_cases h : i = d
 ·subst h; simp
 ·have : Nat.beq i d = false := by cases hb : Nat.beq i d with
   | false => rfl
   | true => exact absurd (Nat.eq_of_beq_eq_true hb) h
  simp [this, h]
theorem eF.put {n : Nat} {env : Nat → Value} {a : Act} (h : eF n env a.tmps) {dst : Option Tmp} (hd : ∀ d, dst = some d → d < n) (v : Value) :
  eF n (bx env dst v) (a.put dst v).tmps := by
 cases dst with
 | none => exact h
 | some d =>
  have hd := hd d rfl
  refine ⟨by simp [Act.put, h.1], fun i hi => ?_⟩
  rw [ia]
  by_cases he : i = d
  ·subst he
   simp [Act.put, h.1, hi]
  ·simp only [Act.put, he, if_false]
   rw [Array.getElem?_setIfInBounds_ne (Ne.symm he)]
   exact h.2 i hi
theorem gE {n : Nat} {o : Oper} (h : od n o = true) : (∀ t, Operand.tmp t ∈ o.op.operands → t < n) ∧ (∀ d, o.dst = some d → d < n) ∧ (∀ cs b, o.op ≠ .select cs b) := by
 unfold od at h
 simp only [Bool.and_eq_true, List.all_eq_true] at h
 refine ⟨fun t ht => ?_, fun d hd => ?_, fun cs b hs => ?_⟩
 ·have := h.1.1 (.tmp t) (by simpa using ht)
  simpa using this
 ·have := h.1.2; simp only [hd] at this; simpa using this
 ·have := h.2; simp [hs] at this
theorem eF.eval {n : Nat} {env : Nat → Value} {a : Act} (h : eF n env a.tmps) {x : Operand} (hx : ∀ t, x = .tmp t → t < n) : pL env x = a.eval x := by
 cases x with
 | tmp t =>
  have := h.2 t (hx t rfl)
  simp [pL, Act.eval, this]
 | _ => rfl
theorem eF.execOp {n : Nat} {env : Nat → Value} {a : Act} (h : eF n env a.tmps) {o : Oper} (hf : od n o = true) : execOp (pL env) o = Go.execOp a.eval o := by
 obtain ⟨h1, h2, h3⟩ := gE hf
 exact execOp_congr o h3 fun x hx => h.eval fun t ht => h1 t (ht ▸ hx)
def m5 (ops : Array Oper) (j : Nat) : Option Nat := (ops[j]?).bind (·.dst)
def LZ (C : Ctx) (ops : Array Oper) (o : Oper) (env : Nat → Value) (M : Mem) (K : (Nat → Value) → Mem → Prop) (Kp : List PanicEntry → Mem → Prop) : Prop :=
 match o.guard with
 | none => ZO C (pL env) o M (fun v M' => K (bx env o.dst v) M') Kp
 | some (j, want) => match m5 ops j with
  | some s => match env s with
   | .bool e => match want with
    | true => aQ e (ZO C (pL (bx env (some s) (.bool true))) o M (fun v M' => K (bx (bx env (some s) (.bool true)) o.dst v) M') Kp) (K (bx (bx env (some s) (.bool false)) o.dst undef) M)
    | false => aQ e (K (bx (bx env (some s) (.bool true)) o.dst undef) M) (ZO C (pL (bx env (some s) (.bool false))) o M (fun v M' => K (bx (bx env (some s) (.bool false)) o.dst v) M') Kp)
   | _ => K (bx env o.dst undef) M
  | none => K (bx env o.dst undef) M
def tN (C : Ctx) (ρ : Operand → Value) (o : Oper) (M : Mem) (K : Value → Mem → Prop) (Kp : List PanicEntry → Mem → Prop) : Prop :=
 match cls C.P o with
 | .pure => ∃ v, (∀ M', bO C.P (execOp ρ o) M' = some (.value v)) ∧ K v M
 | .read => ∃ v, bO C.P (execOp ρ o) M = some (.value v) ∧ K v M
 | .new => ∃ (ob : Obj) (k : Nat → Sem Next), DZ C.P (execOp ρ o) = some (ob, k) ∧ ∀ b, M b = none → ∃ v, bO C.P (k b) Mem.empty = some (.value v) ∧ K v (M.set b ob)
 | .LU => dV C.P (execOp ρ o) M (mZ C.P K Kp) (fun v M' => Kp [{ v, recovered := false }] M')
theorem ua {C : Ctx} (hC : C.Good) {ρ : Operand → Value} {o : Oper} {M : Mem} {K : Value → Mem → Prop} {Kp : List PanicEntry → Mem → Prop} (h : ZO C ρ o M K Kp) : tN C ρ o M K Kp := by
 unfold ZO at h
 unfold tN
 cases hc : cls C.P o <;> rw [hc] at h <;> simp only at h ⊢
 ·exact Ik h
 ·split at h
  ·rename_i t a ho
   obtain ⟨v, hv, hk⟩ := Aa h
   obtain ⟨dst, op, type, pos, after, guard⟩ := o
   simp only at ho; subst ho
   exact ⟨v, gB hv, hk⟩
  ·exact h.elim
 ·exact Ks h
 ·exact LW hC h
theorem Ai {C : Ctx} {ρ : Operand → Value} {o : Oper} {M : Mem} {K : Value → Mem → Prop} {Kp : List PanicEntry → Mem → Prop} (h : tN C ρ o M K Kp) :
  dV C.P (execOp ρ o) M (mZ C.P K Kp) (fun v M' => Kp [{ v, recovered := false }] M') := by
 unfold tN at h
 split at h
 ·obtain ⟨v, hv, hk⟩ := h; exact gA C.P _ (hv M) hk
 ·obtain ⟨v, hv, hk⟩ := h; exact gA C.P _ hv hk
 ·obtain ⟨ob, k, hn, h⟩ := h
  refine OC C.P _ hn fun b hb => ?_
  obtain ⟨v, hv, hk⟩ := h b hb
  exact gA C.P _ (mX C.P _ (fun b o hb => by simp [Mem.empty] at hb) hv) hk
 ·exact h
theorem m6 {C : Ctx} {ρ : Operand → Value} {o : Oper} {M : Mem} {K K' : Value → Mem → Prop} {Kp : List PanicEntry → Mem → Prop} (h : tN C ρ o M K Kp)
  (hk : ∀ v M', K v M' → K' v M') : tN C ρ o M K' Kp := by
 unfold tN at h ⊢
 split at h
 ·obtain ⟨v, hv, h⟩ := h; exact ⟨v, hv, hk _ _ h⟩
 ·obtain ⟨v, hv, h⟩ := h; exact ⟨v, hv, hk _ _ h⟩
 ·obtain ⟨ob, k, hn, h⟩ := h
  exact ⟨ob, k, hn, fun b hb => let ⟨v, hv, h⟩ := h b hb; ⟨v, hv, hk _ _ h⟩⟩
 ·refine hU C.P _ h (fun n M' hn => ?_) (fun _ _ h => h)
  cases n <;> first | exact hn.elim | exact hk _ _ hn | exact aa.mono hn hk (fun _ _ h => h)
def bU (ops : Array Oper) (o : Oper) (env : Nat → Value) : Bool :=
 match o.guard with
 | none => true
 | some (j, want) => match (m5 ops j).map env with
  | some (.bool b) => b == want
  | _ => false
def eT (C : Ctx) (ops : Array Oper) (o : Oper) (env : Nat → Value) (M : Mem) (K : (Nat → Value) → Mem → Prop) (Kp : List PanicEntry → Mem → Prop) : Prop :=
 if bU ops o env = true then tN C (pL env) o M (fun v M' => K (bx env o.dst v) M') Kp else K (bx env o.dst undef) M
theorem jv {C : Ctx} {ops : Array Oper} {o : Oper} {env : Nat → Value} {M : Mem} {K K' : (Nat → Value) → Mem → Prop} {Kp : List PanicEntry → Mem → Prop} (h : eT C ops o env M K Kp)
  (hk : ∀ v M', K v M' → K' v M') : eT C ops o env M K' Kp := by
 unfold eT at h ⊢
 split
 ·rename_i hw; rw [if_pos hw] at h; exact m6 h fun v M' hv => hk _ _ hv
 ·rename_i hw; rw [if_neg hw] at h; exact hk _ _ h
theorem m7 {env : Nat → Value} {s : Nat} {v : Value} (h : env s = v) : bx env (some s) v = env := by
 funext i; rw [ia]; split
 ·rename_i hi; rw [hi, h]
 ·rfl
theorem vp {ops : Array Oper} {o : Oper} {env : Nat → Value} (h : o.guard = none) : bU ops o env = true := by unfold bU; rw [h]
theorem Aj {ops : Array Oper} {o : Oper} {env : Nat → Value} {j : Nat} {w : Bool} (h : o.guard = some (j, w)) (hs : m5 ops j = none) : bU ops o env = false := by
 unfold bU; rw [h]; simp only [hs]; rfl
theorem vq {ops : Array Oper} {o : Oper} {env : Nat → Value} {j s : Nat} {w e : Bool} (h : o.guard = some (j, w)) (hs : m5 ops j = some s) (he : env s = .bool e) : bU ops o env = (e == w) := by
 unfold bU; rw [h]; simp only [hs, Option.map_some, he]
theorem tO {ops : Array Oper} {o : Oper} {env : Nat → Value} {j s : Nat} {w : Bool} (h : o.guard = some (j, w)) (hs : m5 ops j = some s) (he : ∀ e, env s ≠ .bool e) : bU ops o env = false := by
 unfold bU; rw [h]; simp only [hs, Option.map_some]
 cases hx : env s <;> first | rfl | exact absurd hx (he _)
theorem iR {C : Ctx} {ops : Array Oper} {o : Oper} {env : Nat → Value} {M : Mem} {K : (Nat → Value) → Mem → Prop} {Kp : List PanicEntry → Mem → Prop} (hw : bU ops o env = true)
  (h : tN C (pL env) o M (fun v M' => K (bx env o.dst v) M') Kp) : eT C ops o env M K Kp := by unfold eT; rw [if_pos hw]; exact h
theorem mq {C : Ctx} {ops : Array Oper} {o : Oper} {env : Nat → Value} {M : Mem} {K : (Nat → Value) → Mem → Prop} {Kp : List PanicEntry → Mem → Prop} (hw : bU ops o env = false)
  (h : K (bx env o.dst undef) M) : eT C ops o env M K Kp := by unfold eT; rw [if_neg (by simp [hw])]; exact h
theorem iS {C : Ctx} (hC : C.Good) {ops : Array Oper} {o : Oper} {env : Nat → Value} {M : Mem} {K : (Nat → Value) → Mem → Prop} {Kp : List PanicEntry → Mem → Prop} (h : LZ C ops o env M K Kp) :
  eT C ops o env M K Kp := by
 unfold LZ at h
 cases hg : o.guard with
 | none => rw [hg] at h; exact iR (vp hg) (ua hC h)
 | some jw =>
  obtain ⟨j, want⟩ := jw
  rw [hg] at h
  simp only at h
  cases hs : m5 ops j with
  | none => rw [hs] at h; exact mq (Aj hg hs) h
  | some s =>
   rw [hs] at h
   simp only at h
   cases he : env s <;> rw [he] at h <;> simp only at h
   case bool e =>
    have hw := vq hg hs he
    cases e
    ·rw [m7 he] at h
     cases want <;> simp only [aQ] at h
     ·exact iR hw (ua hC h)
     ·exact mq hw h
    ·rw [m7 he] at h
     cases want <;> simp only [aQ] at h
     ·exact mq hw h
     ·exact iR hw (ua hC h)
   all_goals exact mq (tO hg hs (by simp [he])) h
theorem rE {env : Nat → Value} {x y : Option Tmp} {v u : Value} (h : ∀ d, x = some d → y ≠ some d) : bx (bx env x v) y u = bx (bx env y u) x v := by
 cases x with
 | none => rfl
 | some d =>
  cases y with
  | none => rfl
  | some e =>
   have hne : d ≠ e := fun he => h d rfl (he ▸ rfl)
   funext i
   simp only [ia]
   by_cases h1 : i = d <;> by_cases h2 : i = e <;> simp_all
theorem Sr {env : Nat → Value} {dst : Option Tmp} {v : Value} {x : Operand} (h : ∀ d, dst = some d → x ≠ .tmp d) : pL (bx env dst v) x = pL env x := by
 cases dst with
 | none => rfl
 | some d =>
  cases x with
  | tmp t =>
   have : d ≠ t := fun e => h d rfl (e ▸ rfl)
   simp only [pL, ia]
   rw [if_neg (Ne.symm this)]
  | _ => rfl
theorem iC {ops : Array Oper} (o : Oper) (hs : ∀ cs b, o.op ≠ .select cs b) (env : Nat → Value) (dst : Option Tmp) (v : Value) (h : ∀ d, dst = some d → d ∉ o.looksAt ops) :
  execOp (pL (bx env dst v)) o = execOp (pL env) o :=
 execOp_congr o hs fun x hx => Sr fun d hd hxd => h d hd (by
  subst hxd
  exact List.mem_append_left _ (List.mem_filterMap.2 ⟨.tmp d, by simpa using hx, rfl⟩))
theorem eZ {ops : Array Oper} (o : Oper) (env : Nat → Value) (dst : Option Tmp) (v : Value) (h : ∀ d, dst = some d → d ∉ o.looksAt ops) :
  bU ops o (bx env dst v) = bU ops o env := by
 cases dst with
 | none => rfl
 | some d =>
  unfold bU
  cases hg : o.guard with
  | none => rfl
  | some gw =>
   obtain ⟨g, want⟩ := gw
   simp only
   cases ht : m5 ops g with
   | none => rfl
   | some t =>
    have hne : t ≠ d := fun e => h d rfl (by
     subst e
     unfold m5 at ht
     simp [Oper.looksAt, hg, ht])
    simp only [Option.map_some, ia, if_neg hne]
end Go.AF
