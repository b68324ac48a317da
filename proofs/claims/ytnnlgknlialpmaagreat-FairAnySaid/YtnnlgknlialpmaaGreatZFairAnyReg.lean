/- A part of proofs about one program. -/
import Derived.Test.YtnnlgknlialpmaaGreatZFairAnyFrame
set_option linter.unusedVariables false
namespace Go.AF
def bl (env : Nat → Value) (dst : Option Tmp) (v : Value) : Nat → Value :=
 match dst with
 | some d => fun i => bif Nat.beq i d then v else env i
 | none => env
def dS (n : Nat) (env : Nat → Value) (tmps : Array Value) : Prop := tmps.size = n ∧ ∀ i, i < n → tmps[i]? = some (env i)
def nt (n : Nat) (o : Oper) : Bool :=
 (o.op.operands.toList.all fun x => match x with | .tmp t => decide (t < n) | _ => true) && (match o.dst with | some d => decide (d < n) | none => true) &&
 (match o.op with | .select .. => false | _ => true)
theorem gO {env : Nat → Value} {d i : Nat} {v : Value} : bl env (some d) v i = if i = d then v else env i := by
 unfold bl
 by_cases h : i = d
 ·subst h; simp
 ·have : Nat.beq i d = false := by cases hb : Nat.beq i d with
   | false => rfl
   | true => exact absurd (Nat.eq_of_beq_eq_true hb) h
  simp [this, h]
theorem dS.put {n : Nat} {env : Nat → Value} {a : Act} (h : dS n env a.tmps) {dst : Option Tmp} (hd : ∀ d, dst = some d → d < n) (v : Value) :
  dS n (bl env dst v) (a.put dst v).tmps := by
 cases dst with
 | none => exact h
 | some d =>
  have hd := hd d rfl
  refine ⟨by simp [Act.put, h.1], fun i hi => ?_⟩
  rw [gO]
  by_cases he : i = d
  ·subst he
   simp [Act.put, h.1, hi]
  ·simp only [Act.put, he, if_false]
   rw [Array.getElem?_setIfInBounds_ne (Ne.symm he)]
   exact h.2 i hi
theorem gq {n : Nat} {o : Oper} (h : nt n o = true) : (∀ t, Operand.tmp t ∈ o.op.operands → t < n) ∧ (∀ d, o.dst = some d → d < n) ∧ (∀ cs b, o.op ≠ .select cs b) := by
 unfold nt at h
 simp only [Bool.and_eq_true, List.all_eq_true] at h
 refine ⟨fun t ht => ?_, fun d hd => ?_, fun cs b hs => ?_⟩
 ·have := h.1.1 (.tmp t) (by simpa using ht)
  simpa using this
 ·have := h.1.2; simp only [hd] at this; simpa using this
 ·have := h.2; simp [hs] at this
theorem dS.eval {n : Nat} {env : Nat → Value} {a : Act} (h : dS n env a.tmps) {x : Operand} (hx : ∀ t, x = .tmp t → t < n) : oQ env x = a.eval x := by
 cases x with
 | tmp t =>
  have := h.2 t (hx t rfl)
  simp [oQ, Act.eval, this]
 | _ => rfl
theorem dS.execOp {n : Nat} {env : Nat → Value} {a : Act} (h : dS n env a.tmps) {o : Oper} (hf : nt n o = true) : execOp (oQ env) o = Go.execOp a.eval o := by
 obtain ⟨h1, h2, h3⟩ := gq hf
 exact execOp_congr o h3 fun x hx => h.eval fun t ht => h1 t (ht ▸ hx)
def my (ops : Array Oper) (j : Nat) : Option Nat := (ops[j]?).bind (·.dst)
def JC (C : Ctx) (ops : Array Oper) (o : Oper) (env : Nat → Value) (M : Mem) (K : (Nat → Value) → Mem → Prop) (Kp : List PanicEntry → Mem → Prop) : Prop :=
 match o.guard with
 | none => Xj C (oQ env) o M (fun v M' => K (bl env o.dst v) M') Kp
 | some (j, want) => match my ops j with
  | some s => match env s with
   | .bool e => match want with
    | true => aO e (Xj C (oQ (bl env (some s) (.bool true))) o M (fun v M' => K (bl (bl env (some s) (.bool true)) o.dst v) M') Kp) (K (bl (bl env (some s) (.bool false)) o.dst undef) M)
    | false => aO e (K (bl (bl env (some s) (.bool true)) o.dst undef) M) (Xj C (oQ (bl env (some s) (.bool false))) o M (fun v M' => K (bl (bl env (some s) (.bool false)) o.dst v) M') Kp)
   | _ => K (bl env o.dst undef) M
  | none => K (bl env o.dst undef) M
def r8 (C : Ctx) (ρ : Operand → Value) (o : Oper) (M : Mem) (K : Value → Mem → Prop) (Kp : List PanicEntry → Mem → Prop) : Prop :=
 match cls C.P o with
 | .pure => ∃ v, (∀ M', bK C.P (execOp ρ o) M' = some (.value v)) ∧ K v M
 | .read => ∃ v, bK C.P (execOp ρ o) M = some (.value v) ∧ K v M
 | .new => ∃ (ob : Obj) (k : Nat → Sem Next), CE C.P (execOp ρ o) = some (ob, k) ∧ ∀ b, M b = none → ∃ v, bK C.P (k b) Mem.empty = some (.value v) ∧ K v (M.set b ob)
 | .Jx => dx C.P (execOp ρ o) M (mw C.P K Kp) (fun v M' => Kp [{ v, recovered := false }] M')
theorem sD {C : Ctx} (hC : C.Good) {ρ : Operand → Value} {o : Oper} {M : Mem} {K : Value → Mem → Prop} {Kp : List PanicEntry → Mem → Prop} (h : Xj C ρ o M K Kp) : r8 C ρ o M K Kp := by
 unfold Xj at h
 unfold r8
 cases hc : cls C.P o <;> rw [hc] at h <;> simp only at h ⊢
 ·exact F2 h
 ·split at h
  ·rename_i t a ho
   obtain ⟨v, hv, hk⟩ := ym h
   obtain ⟨dst, op, type, pos, after, guard⟩ := o
   simp only at ho; subst ho
   exact ⟨v, gm hv, hk⟩
  ·exact h.elim
 ·exact H9 h
 ·exact Jz hC h
theorem yw {C : Ctx} {ρ : Operand → Value} {o : Oper} {M : Mem} {K : Value → Mem → Prop} {Kp : List PanicEntry → Mem → Prop} (h : r8 C ρ o M K Kp) :
  dx C.P (execOp ρ o) M (mw C.P K Kp) (fun v M' => Kp [{ v, recovered := false }] M') := by
 unfold r8 at h
 split at h
 ·obtain ⟨v, hv, hk⟩ := h; exact gZ C.P _ (hv M) hk
 ·obtain ⟨v, hv, hk⟩ := h; exact gZ C.P _ hv hk
 ·obtain ⟨ob, k, hn, h⟩ := h
  refine LY C.P _ hn fun b hb => ?_
  obtain ⟨v, hv, hk⟩ := h b hb
  exact gZ C.P _ (mo C.P _ (fun b o hb => by simp [Mem.empty] at hb) hv) hk
 ·exact h
theorem mz {C : Ctx} {ρ : Operand → Value} {o : Oper} {M : Mem} {K K' : Value → Mem → Prop} {Kp : List PanicEntry → Mem → Prop} (h : r8 C ρ o M K Kp)
  (hk : ∀ v M', K v M' → K' v M') : r8 C ρ o M K' Kp := by
 unfold r8 at h ⊢
 split at h
 ·obtain ⟨v, hv, h⟩ := h; exact ⟨v, hv, hk _ _ h⟩
 ·obtain ⟨v, hv, h⟩ := h; exact ⟨v, hv, hk _ _ h⟩
 ·obtain ⟨ob, k, hn, h⟩ := h
  exact ⟨ob, k, hn, fun b hb => let ⟨v, hv, h⟩ := h b hb; ⟨v, hv, hk _ _ h⟩⟩
 ·refine iA C.P _ h (fun n M' hn => ?_) (fun _ _ h => h)
  cases n <;> first | exact hn.elim | exact hk _ _ hn | exact aa.mono hn hk (fun _ _ h => h)
def bP (ops : Array Oper) (o : Oper) (env : Nat → Value) : Bool :=
 match o.guard with
 | none => true
 | some (j, want) => match (my ops j).map env with
  | some (.bool b) => b == want
  | _ => false
def ei (C : Ctx) (ops : Array Oper) (o : Oper) (env : Nat → Value) (M : Mem) (K : (Nat → Value) → Mem → Prop) (Kp : List PanicEntry → Mem → Prop) : Prop :=
 if bP ops o env = true then r8 C (oQ env) o M (fun v M' => K (bl env o.dst v) M') Kp else K (bl env o.dst undef) M
theorem jc {C : Ctx} {ops : Array Oper} {o : Oper} {env : Nat → Value} {M : Mem} {K K' : (Nat → Value) → Mem → Prop} {Kp : List PanicEntry → Mem → Prop} (h : ei C ops o env M K Kp)
  (hk : ∀ v M', K v M' → K' v M') : ei C ops o env M K' Kp := by
 unfold ei at h ⊢
 split
 ·rename_i hw; rw [if_pos hw] at h; exact mz h fun v M' hv => hk _ _ hv
 ·rename_i hw; rw [if_neg hw] at h; exact hk _ _ h
theorem mA {env : Nat → Value} {s : Nat} {v : Value} (h : env s = v) : bl env (some s) v = env := by
 funext i; rw [gO]; split
 ·rename_i hi; rw [hi, h]
 ·rfl
theorem tQ {ops : Array Oper} {o : Oper} {env : Nat → Value} (h : o.guard = none) : bP ops o env = true := by unfold bP; rw [h]
theorem yx {ops : Array Oper} {o : Oper} {env : Nat → Value} {j : Nat} {w : Bool} (h : o.guard = some (j, w)) (hs : my ops j = none) : bP ops o env = false := by
 unfold bP; rw [h]; simp only [hs]; rfl
theorem tR {ops : Array Oper} {o : Oper} {env : Nat → Value} {j s : Nat} {w e : Bool} (h : o.guard = some (j, w)) (hs : my ops j = some s) (he : env s = .bool e) : bP ops o env = (e == w) := by
 unfold bP; rw [h]; simp only [hs, Option.map_some, he]
theorem r9 {ops : Array Oper} {o : Oper} {env : Nat → Value} {j s : Nat} {w : Bool} (h : o.guard = some (j, w)) (hs : my ops j = some s) (he : ∀ e, env s ≠ .bool e) : bP ops o env = false := by
 unfold bP; rw [h]; simp only [hs, Option.map_some]
 cases hx : env s <;> first | rfl | exact absurd hx (he _)
theorem iC {C : Ctx} {ops : Array Oper} {o : Oper} {env : Nat → Value} {M : Mem} {K : (Nat → Value) → Mem → Prop} {Kp : List PanicEntry → Mem → Prop} (hw : bP ops o env = true)
  (h : r8 C (oQ env) o M (fun v M' => K (bl env o.dst v) M') Kp) : ei C ops o env M K Kp := by unfold ei; rw [if_pos hw]; exact h
theorem lB {C : Ctx} {ops : Array Oper} {o : Oper} {env : Nat → Value} {M : Mem} {K : (Nat → Value) → Mem → Prop} {Kp : List PanicEntry → Mem → Prop} (hw : bP ops o env = false)
  (h : K (bl env o.dst undef) M) : ei C ops o env M K Kp := by unfold ei; rw [if_neg (by simp [hw])]; exact h
theorem iD {C : Ctx} (hC : C.Good) {ops : Array Oper} {o : Oper} {env : Nat → Value} {M : Mem} {K : (Nat → Value) → Mem → Prop} {Kp : List PanicEntry → Mem → Prop} (h : JC C ops o env M K Kp) :
  ei C ops o env M K Kp := by
 unfold JC at h
 cases hg : o.guard with
 | none => rw [hg] at h; exact iC (tQ hg) (sD hC h)
 | some jw =>
  obtain ⟨j, want⟩ := jw
  rw [hg] at h
  simp only at h
  cases hs : my ops j with
  | none => rw [hs] at h; exact lB (yx hg hs) h
  | some s =>
   rw [hs] at h
   simp only at h
   cases he : env s <;> rw [he] at h <;> simp only at h
   case bool e =>
    have hw := tR hg hs he
    cases e
    ·rw [mA he] at h
     cases want <;> simp only [aO] at h
     ·exact iC hw (sD hC h)
     ·exact lB hw h
    ·rw [mA he] at h
     cases want <;> simp only [aO] at h
     ·exact lB hw h
     ·exact iC hw (sD hC h)
   all_goals exact lB (r9 hg hs (by simp [he])) h
theorem qw {env : Nat → Value} {x y : Option Tmp} {v u : Value} (h : ∀ d, x = some d → y ≠ some d) : bl (bl env x v) y u = bl (bl env y u) x v := by
 cases x with
 | none => rfl
 | some d =>
  cases y with
  | none => rfl
  | some e =>
   have hne : d ≠ e := fun he => h d rfl (he ▸ rfl)
   funext i
   simp only [gO]
   by_cases h1 : i = d <;> by_cases h2 : i = e <;> simp_all
theorem P0 {env : Nat → Value} {dst : Option Tmp} {v : Value} {x : Operand} (h : ∀ d, dst = some d → x ≠ .tmp d) : oQ (bl env dst v) x = oQ env x := by
 cases dst with
 | none => rfl
 | some d =>
  cases x with
  | tmp t =>
   have : d ≠ t := fun e => h d rfl (e ▸ rfl)
   simp only [oQ, gO]
   rw [if_neg (Ne.symm this)]
  | _ => rfl
theorem ig {ops : Array Oper} (o : Oper) (hs : ∀ cs b, o.op ≠ .select cs b) (env : Nat → Value) (dst : Option Tmp) (v : Value) (h : ∀ d, dst = some d → d ∉ o.looksAt ops) :
  execOp (oQ (bl env dst v)) o = execOp (oQ env) o :=
 execOp_congr o hs fun x hx => P0 fun d hd hxd => h d hd (by
  subst hxd
  exact List.mem_append_left _ (List.mem_filterMap.2 ⟨.tmp d, by simpa using hx, rfl⟩))
theorem eu {ops : Array Oper} (o : Oper) (env : Nat → Value) (dst : Option Tmp) (v : Value) (h : ∀ d, dst = some d → d ∉ o.looksAt ops) :
  bP ops o (bl env dst v) = bP ops o env := by
 cases dst with
 | none => rfl
 | some d =>
  unfold bP
  cases hg : o.guard with
  | none => rfl
  | some gw =>
   obtain ⟨g, want⟩ := gw
   simp only
   cases ht : my ops g with
   | none => rfl
   | some t =>
    have hne : t ≠ d := fun e => h d rfl (by
     subst e
     unfold my at ht
     simp [Oper.looksAt, hg, ht])
    simp only [Option.map_some, gO, if_neg hne]
end Go.AF
