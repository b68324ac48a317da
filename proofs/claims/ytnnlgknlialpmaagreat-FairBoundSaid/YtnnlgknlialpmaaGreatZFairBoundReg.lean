/- A part of proofs about one program. -/
import Derived.Test.YtnnlgknlialpmaaGreatZFairBoundFrame
set_option linter.unusedVariables false
namespace Go.AF
def bl (env : Nat → Value) (dst : Option Tmp) (v : Value) : Nat → Value :=
 match dst with
 | some d => fun i => bif Nat.beq i d then v else env i
 | none => env
def dS (n : Nat) (env : Nat → Value) (tmps : Array Value) : Prop := tmps.size = n ∧ ∀ i, i < n → tmps[i]? = some (env i)
def nx (n : Nat) (o : Oper) : Bool :=
 (o.op.operands.toList.all fun x => match x with | .tmp t => decide (t < n) | _ => true) && (match o.dst with | some d => decide (d < n) | none => true) &&
 (match o.op with | .select .. => false | _ => true)
theorem gR {env : Nat → Value} {d i : Nat} {v : Value} : bl env (some d) v i = if i = d then v else env i := by
 unfold bl
 by_cases h : i = d
 ·subst h; simp
 ·have : Nat.beq i d = false := by cases hb : Nat.beq i d with
   | false => rfl
   | true => exact absurd (Nat.eq_of_beq_eq_true hb) h
  simp [this, h]
theorem dS.put {n : Nat} {env : Nat → Value} {a : Act} (h : dS n env a.tmps) {dst : Option Tmp} (hd : ∀ d, dst = some d → d < n) (v : Value) :
  dS n (bl env dst v) (a.put dst v).tmps := by
 cases dst with
 | none => exact h
 | some d =>
  have hd := hd d rfl
  refine ⟨by simp [Act.put, h.1], fun i hi => ?_⟩
  rw [gR]
  by_cases he : i = d
  ·subst he
   simp [Act.put, h.1, hi]
  ·simp only [Act.put, he, if_false]
   rw [Array.getElem?_setIfInBounds_ne (Ne.symm he)]
   exact h.2 i hi
theorem gv {n : Nat} {o : Oper} (h : nx n o = true) : (∀ t, Operand.tmp t ∈ o.op.operands → t < n) ∧ (∀ d, o.dst = some d → d < n) ∧ (∀ cs b, o.op ≠ .select cs b) := by
 unfold nx at h
 simp only [Bool.and_eq_true, List.all_eq_true] at h
 refine ⟨fun t ht => ?_, fun d hd => ?_, fun cs b hs => ?_⟩
 ·have := h.1.1 (.tmp t) (by simpa using ht)
  simpa using this
 ·have := h.1.2; simp only [hd] at this; simpa using this
 ·have := h.2; simp [hs] at this
theorem dS.eval {n : Nat} {env : Nat → Value} {a : Act} (h : dS n env a.tmps) {x : Operand} (hx : ∀ t, x = .tmp t → t < n) : oU env x = a.eval x := by
 cases x with
 | tmp t =>
  have := h.2 t (hx t rfl)
  simp [oU, Act.eval, this]
 | _ => rfl
theorem dS.execOp {n : Nat} {env : Nat → Value} {a : Act} (h : dS n env a.tmps) {o : Oper} (hf : nx n o = true) : execOp (oU env) o = Go.execOp a.eval o := by
 obtain ⟨h1, h2, h3⟩ := gv hf
 exact execOp_congr o h3 fun x hx => h.eval fun t ht => h1 t (ht ▸ hx)
def mD (ops : Array Oper) (j : Nat) : Option Nat := (ops[j]?).bind (·.dst)
def JJ (C : Ctx) (ops : Array Oper) (o : Oper) (env : Nat → Value) (M : Mem) (K : (Nat → Value) → Mem → Prop) (Kp : List PanicEntry → Mem → Prop) : Prop :=
 match o.guard with
 | none => Xx C (oU env) o M (fun v M' => K (bl env o.dst v) M') Kp
 | some (j, want) => match mD ops j with
  | some s => match env s with
   | .bool e => match want with
    | true => aO e (Xx C (oU (bl env (some s) (.bool true))) o M (fun v M' => K (bl (bl env (some s) (.bool true)) o.dst v) M') Kp) (K (bl (bl env (some s) (.bool false)) o.dst undef) M)
    | false => aO e (K (bl (bl env (some s) (.bool true)) o.dst undef) M) (Xx C (oU (bl env (some s) (.bool false))) o M (fun v M' => K (bl (bl env (some s) (.bool false)) o.dst v) M') Kp)
   | _ => K (bl env o.dst undef) M
  | none => K (bl env o.dst undef) M
def r9 (C : Ctx) (ρ : Operand → Value) (o : Oper) (M : Mem) (K : Value → Mem → Prop) (Kp : List PanicEntry → Mem → Prop) : Prop :=
 match cls C.P o with
 | .pure => ∃ v, (∀ M', bL C.P (execOp ρ o) M' = some (.value v)) ∧ K v M
 | .read => ∃ v, bL C.P (execOp ρ o) M = some (.value v) ∧ K v M
 | .new => ∃ (ob : Obj) (k : Nat → Sem Next), CN C.P (execOp ρ o) = some (ob, k) ∧ ∀ b, M b = none → ∃ v, bL C.P (k b) Mem.empty = some (.value v) ∧ K v (M.set b ob)
 | .JE => dy C.P (execOp ρ o) M (mC C.P K Kp) (fun v M' => Kp [{ v, recovered := false }] M')
theorem sE {C : Ctx} (hC : C.Good) {ρ : Operand → Value} {o : Oper} {M : Mem} {K : Value → Mem → Prop} {Kp : List PanicEntry → Mem → Prop} (h : Xx C ρ o M K Kp) : r9 C ρ o M K Kp := by
 unfold Xx at h
 unfold r9
 cases hc : cls C.P o <;> rw [hc] at h <;> simp only at h ⊢
 ·exact F9 h
 ·split at h
  ·rename_i t a ho
   obtain ⟨v, hv, hk⟩ := yq h
   obtain ⟨dst, op, type, pos, after, guard⟩ := o
   simp only at ho; subst ho
   exact ⟨v, gq hv, hk⟩
  ·exact h.elim
 ·exact Ii h
 ·exact JG hC h
theorem yA {C : Ctx} {ρ : Operand → Value} {o : Oper} {M : Mem} {K : Value → Mem → Prop} {Kp : List PanicEntry → Mem → Prop} (h : r9 C ρ o M K Kp) :
  dy C.P (execOp ρ o) M (mC C.P K Kp) (fun v M' => Kp [{ v, recovered := false }] M') := by
 unfold r9 at h
 split at h
 ·obtain ⟨v, hv, hk⟩ := h; exact g8 C.P _ (hv M) hk
 ·obtain ⟨v, hv, hk⟩ := h; exact g8 C.P _ hv hk
 ·obtain ⟨ob, k, hn, h⟩ := h
  refine Mc C.P _ hn fun b hb => ?_
  obtain ⟨v, hv, hk⟩ := h b hb
  exact g8 C.P _ (mA C.P _ (fun b o hb => by simp [Mem.empty] at hb) hv) hk
 ·exact h
theorem mE {C : Ctx} {ρ : Operand → Value} {o : Oper} {M : Mem} {K K' : Value → Mem → Prop} {Kp : List PanicEntry → Mem → Prop} (h : r9 C ρ o M K Kp)
  (hk : ∀ v M', K v M' → K' v M') : r9 C ρ o M K' Kp := by
 unfold r9 at h ⊢
 split at h
 ·obtain ⟨v, hv, h⟩ := h; exact ⟨v, hv, hk _ _ h⟩
 ·obtain ⟨v, hv, h⟩ := h; exact ⟨v, hv, hk _ _ h⟩
 ·obtain ⟨ob, k, hn, h⟩ := h
  exact ⟨ob, k, hn, fun b hb => let ⟨v, hv, h⟩ := h b hb; ⟨v, hv, hk _ _ h⟩⟩
 ·refine iE C.P _ h (fun n M' hn => ?_) (fun _ _ h => h)
  cases n <;> first | exact hn.elim | exact hk _ _ hn | exact aa.mono hn hk (fun _ _ h => h)
def bQ (ops : Array Oper) (o : Oper) (env : Nat → Value) : Bool :=
 match o.guard with
 | none => true
 | some (j, want) => match (mD ops j).map env with
  | some (.bool b) => b == want
  | _ => false
def ei (C : Ctx) (ops : Array Oper) (o : Oper) (env : Nat → Value) (M : Mem) (K : (Nat → Value) → Mem → Prop) (Kp : List PanicEntry → Mem → Prop) : Prop :=
 if bQ ops o env = true then r9 C (oU env) o M (fun v M' => K (bl env o.dst v) M') Kp else K (bl env o.dst undef) M
theorem jf {C : Ctx} {ops : Array Oper} {o : Oper} {env : Nat → Value} {M : Mem} {K K' : (Nat → Value) → Mem → Prop} {Kp : List PanicEntry → Mem → Prop} (h : ei C ops o env M K Kp)
  (hk : ∀ v M', K v M' → K' v M') : ei C ops o env M K' Kp := by
 unfold ei at h ⊢
 split
 ·rename_i hw; rw [if_pos hw] at h; exact mE h fun v M' hv => hk _ _ hv
 ·rename_i hw; rw [if_neg hw] at h; exact hk _ _ h
theorem mF {env : Nat → Value} {s : Nat} {v : Value} (h : env s = v) : bl env (some s) v = env := by
 funext i; rw [gR]; split
 ·rename_i hi; rw [hi, h]
 ·rfl
theorem tV {ops : Array Oper} {o : Oper} {env : Nat → Value} (h : o.guard = none) : bQ ops o env = true := by unfold bQ; rw [h]
theorem yB {ops : Array Oper} {o : Oper} {env : Nat → Value} {j : Nat} {w : Bool} (h : o.guard = some (j, w)) (hs : mD ops j = none) : bQ ops o env = false := by
 unfold bQ; rw [h]; simp only [hs]; rfl
theorem tW {ops : Array Oper} {o : Oper} {env : Nat → Value} {j s : Nat} {w e : Bool} (h : o.guard = some (j, w)) (hs : mD ops j = some s) (he : env s = .bool e) : bQ ops o env = (e == w) := by
 unfold bQ; rw [h]; simp only [hs, Option.map_some, he]
theorem sg {ops : Array Oper} {o : Oper} {env : Nat → Value} {j s : Nat} {w : Bool} (h : o.guard = some (j, w)) (hs : mD ops j = some s) (he : ∀ e, env s ≠ .bool e) : bQ ops o env = false := by
 unfold bQ; rw [h]; simp only [hs, Option.map_some]
 cases hx : env s <;> first | rfl | exact absurd hx (he _)
theorem iG {C : Ctx} {ops : Array Oper} {o : Oper} {env : Nat → Value} {M : Mem} {K : (Nat → Value) → Mem → Prop} {Kp : List PanicEntry → Mem → Prop} (hw : bQ ops o env = true)
  (h : r9 C (oU env) o M (fun v M' => K (bl env o.dst v) M') Kp) : ei C ops o env M K Kp := by unfold ei; rw [if_pos hw]; exact h
theorem lG {C : Ctx} {ops : Array Oper} {o : Oper} {env : Nat → Value} {M : Mem} {K : (Nat → Value) → Mem → Prop} {Kp : List PanicEntry → Mem → Prop} (hw : bQ ops o env = false)
  (h : K (bl env o.dst undef) M) : ei C ops o env M K Kp := by unfold ei; rw [if_neg (by simp [hw])]; exact h
theorem iH {C : Ctx} (hC : C.Good) {ops : Array Oper} {o : Oper} {env : Nat → Value} {M : Mem} {K : (Nat → Value) → Mem → Prop} {Kp : List PanicEntry → Mem → Prop} (h : JJ C ops o env M K Kp) :
  ei C ops o env M K Kp := by
 unfold JJ at h
 cases hg : o.guard with
 | none => rw [hg] at h; exact iG (tV hg) (sE hC h)
 | some jw =>
  obtain ⟨j, want⟩ := jw
  rw [hg] at h
  simp only at h
  cases hs : mD ops j with
  | none => rw [hs] at h; exact lG (yB hg hs) h
  | some s =>
   rw [hs] at h
   simp only at h
   cases he : env s <;> rw [he] at h <;> simp only at h
   case bool e =>
    have hw := tW hg hs he
    cases e
    ·rw [mF he] at h
     cases want <;> simp only [aO] at h
     ·exact iG hw (sE hC h)
     ·exact lG hw h
    ·rw [mF he] at h
     cases want <;> simp only [aO] at h
     ·exact lG hw h
     ·exact iG hw (sE hC h)
   all_goals exact lG (sg hg hs (by simp [he])) h
theorem qB {env : Nat → Value} {x y : Option Tmp} {v u : Value} (h : ∀ d, x = some d → y ≠ some d) : bl (bl env x v) y u = bl (bl env y u) x v := by
 cases x with
 | none => rfl
 | some d =>
  cases y with
  | none => rfl
  | some e =>
   have hne : d ≠ e := fun he => h d rfl (he ▸ rfl)
   funext i
   simp only [gR]
   by_cases h1 : i = d <;> by_cases h2 : i = e <;> simp_all
theorem P8 {env : Nat → Value} {dst : Option Tmp} {v : Value} {x : Operand} (h : ∀ d, dst = some d → x ≠ .tmp d) : oU (bl env dst v) x = oU env x := by
 cases dst with
 | none => rfl
 | some d =>
  cases x with
  | tmp t =>
   have : d ≠ t := fun e => h d rfl (e ▸ rfl)
   simp only [oU, gR]
   rw [if_neg (Ne.symm this)]
  | _ => rfl
theorem ir {ops : Array Oper} (o : Oper) (hs : ∀ cs b, o.op ≠ .select cs b) (env : Nat → Value) (dst : Option Tmp) (v : Value) (h : ∀ d, dst = some d → d ∉ o.looksAt ops) :
  execOp (oU (bl env dst v)) o = execOp (oU env) o :=
 execOp_congr o hs fun x hx => P8 fun d hd hxd => h d hd (by
  subst hxd
  exact List.mem_append_left _ (List.mem_filterMap.2 ⟨.tmp d, by simpa using hx, rfl⟩))
theorem eA {ops : Array Oper} (o : Oper) (env : Nat → Value) (dst : Option Tmp) (v : Value) (h : ∀ d, dst = some d → d ∉ o.looksAt ops) :
  bQ ops o (bl env dst v) = bQ ops o env := by
 cases dst with
 | none => rfl
 | some d =>
  unfold bQ
  cases hg : o.guard with
  | none => rfl
  | some gw =>
   obtain ⟨g, want⟩ := gw
   simp only
   cases ht : mD ops g with
   | none => rfl
   | some t =>
    have hne : t ≠ d := fun e => h d rfl (by
     subst e
     unfold mD at ht
     simp [Oper.looksAt, hg, ht])
    simp only [Option.map_some, gR, if_neg hne]
end Go.AF
