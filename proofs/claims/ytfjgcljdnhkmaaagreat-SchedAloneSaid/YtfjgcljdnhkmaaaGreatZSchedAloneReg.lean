/- A part of proofs about one program. -/
import Derived.Test.YtfjgcljdnhkmaaaGreatZSchedAloneFrame
set_option linter.unusedVariables false
namespace Go.AF
def aU (env : Nat → Value) (dst : Option Tmp) (v : Value) : Nat → Value :=
 match dst with
 | some d => fun i => bif Nat.beq i d then v else env i
 | none => env
def da (n : Nat) (env : Nat → Value) (tmps : Array Value) : Prop := tmps.size = n ∧ ∀ i, i < n → tmps[i]? = some (env i)
def lg (n : Nat) (o : Oper) : Bool :=
 (o.op.operands.toList.all fun x => match x with | .tmp t => decide (t < n) | _ => true) && (match o.dst with | some d => decide (d < n) | none => true) &&
 (match o.op with | .select .. => false | _ => true)
theorem fP {env : Nat → Value} {d i : Nat} {v : Value} : aU env (some d) v i = if i = d then v else env i := by
 unfold aU
 by_cases h : i = d
 ·subst h; simp
 ·have : Nat.beq i d = false := by cases hb : Nat.beq i d with
   | false => rfl
   | true => exact absurd (Nat.eq_of_beq_eq_true hb) h
  simp [this, h]
theorem da.put {n : Nat} {env : Nat → Value} {a : Act} (h : da n env a.tmps) {dst : Option Tmp} (hd : ∀ d, dst = some d → d < n) (v : Value) :
  da n (aU env dst v) (a.put dst v).tmps := by
 cases dst with
 | none => exact h
 | some d =>
  have hd := hd d rfl
  refine ⟨by simp [Act.put, h.1], fun i hi => ?_⟩
  rw [fP]
  by_cases he : i = d
  ·subst he
   simp [Act.put, h.1, hi]
  ·simp only [Act.put, he, if_false]
   rw [Array.getElem?_setIfInBounds_ne (Ne.symm he)]
   exact h.2 i hi
theorem fj {n : Nat} {o : Oper} (h : lg n o = true) : (∀ t, Operand.tmp t ∈ o.op.operands → t < n) ∧ (∀ d, o.dst = some d → d < n) ∧ (∀ cs b, o.op ≠ .select cs b) := by
 unfold lg at h
 simp only [Bool.and_eq_true, List.all_eq_true] at h
 refine ⟨fun t ht => ?_, fun d hd => ?_, fun cs b hs => ?_⟩
 ·have := h.1.1 (.tmp t) (by simpa using ht)
  simpa using this
 ·have := h.1.2; simp only [hd] at this; simpa using this
 ·have := h.2; simp [hs] at this
theorem da.eval {n : Nat} {env : Nat → Value} {a : Act} (h : da n env a.tmps) {x : Operand} (hx : ∀ t, x = .tmp t → t < n) : mL env x = a.eval x := by
 cases x with
 | tmp t =>
  have := h.2 t (hx t rfl)
  simp [mL, Act.eval, this]
 | _ => rfl
theorem da.execOp {n : Nat} {env : Nat → Value} {a : Act} (h : da n env a.tmps) {o : Oper} (hf : lg n o = true) : execOp (mL env) o = Go.execOp a.eval o := by
 obtain ⟨h1, h2, h3⟩ := fj hf
 exact execOp_congr o h3 fun x hx => h.eval fun t ht => h1 t (ht ▸ hx)
def j9 (ops : Array Oper) (j : Nat) : Option Nat := (ops[j]?).bind (·.dst)
def Fa (C : Ctx) (ops : Array Oper) (o : Oper) (env : Nat → Value) (M : Mem) (K : (Nat → Value) → Mem → Prop) (Kp : List PanicEntry → Mem → Prop) : Prop :=
 match o.guard with
 | none => Rc C (mL env) o M (fun v M' => K (aU env o.dst v) M') Kp
 | some (j, want) => match j9 ops j with
  | some s => match env s with
   | .bool e => match want with
    | true => aQ e (Rc C (mL (aU env (some s) (.bool true))) o M (fun v M' => K (aU (aU env (some s) (.bool true)) o.dst v) M') Kp) (K (aU (aU env (some s) (.bool false)) o.dst undef) M)
    | false => aQ e (K (aU (aU env (some s) (.bool true)) o.dst undef) M) (Rc C (mL (aU env (some s) (.bool false))) o M (fun v M' => K (aU (aU env (some s) (.bool false)) o.dst v) M') Kp)
   | _ => K (aU env o.dst undef) M
  | none => K (aU env o.dst undef) M
def pI (C : Ctx) (ρ : Operand → Value) (o : Oper) (M : Mem) (K : Value → Mem → Prop) (Kp : List PanicEntry → Mem → Prop) : Prop :=
 match cls C.P o with
 | .pure => ∃ v, (∀ M', bC C.P (execOp ρ o) M' = some (.value v)) ∧ K v M
 | .read => ∃ v, bC C.P (execOp ρ o) M = some (.value v) ∧ K v M
 | .new => ∃ (ob : Obj) (k : Nat → Sem Next), y8 C.P (execOp ρ o) = some (ob, k) ∧ ∀ b, M b = none → ∃ v, bC C.P (k b) Mem.empty = some (.value v) ∧ K v (M.set b ob)
 | .E5 => cW C.P (execOp ρ o) M (j8 C.P K Kp) (fun v M' => Kp [{ v, recovered := false }] M')
theorem pR {C : Ctx} (hC : C.Good) {ρ : Operand → Value} {o : Oper} {M : Mem} {K : Value → Mem → Prop} {Kp : List PanicEntry → Mem → Prop} (h : Rc C ρ o M K Kp) : pI C ρ o M K Kp := by
 unfold Rc at h
 unfold pI
 cases hc : cls C.P o <;> rw [hc] at h <;> simp only at h ⊢
 ·exact Cs h
 ·split at h
  ·rename_i t a ho
   obtain ⟨v, hv, hk⟩ := u4 h
   obtain ⟨dst, op, type, pos, after, guard⟩ := o
   simp only at ho; subst ho
   exact ⟨v, fa hv, hk⟩
  ·exact h.elim
 ·exact D2 h
 ·exact E7 hC h
theorem vb {C : Ctx} {ρ : Operand → Value} {o : Oper} {M : Mem} {K : Value → Mem → Prop} {Kp : List PanicEntry → Mem → Prop} (h : pI C ρ o M K Kp) :
  cW C.P (execOp ρ o) M (j8 C.P K Kp) (fun v M' => Kp [{ v, recovered := false }] M') := by
 unfold pI at h
 split at h
 ·obtain ⟨v, hv, hk⟩ := h; exact fW C.P _ (hv M) hk
 ·obtain ⟨v, hv, hk⟩ := h; exact fW C.P _ hv hk
 ·obtain ⟨ob, k, hn, h⟩ := h
  refine Hl C.P _ hn fun b hb => ?_
  obtain ⟨v, hv, hk⟩ := h b hb
  exact fW C.P _ (j6 C.P _ (fun b o hb => by simp [Mem.empty] at hb) hv) hk
 ·exact h
theorem ke {C : Ctx} {ρ : Operand → Value} {o : Oper} {M : Mem} {K K' : Value → Mem → Prop} {Kp : List PanicEntry → Mem → Prop} (h : pI C ρ o M K Kp)
  (hk : ∀ v M', K v M' → K' v M') : pI C ρ o M K' Kp := by
 unfold pI at h ⊢
 split at h
 ·obtain ⟨v, hv, h⟩ := h; exact ⟨v, hv, hk _ _ h⟩
 ·obtain ⟨v, hv, h⟩ := h; exact ⟨v, hv, hk _ _ h⟩
 ·obtain ⟨ob, k, hn, h⟩ := h
  exact ⟨ob, k, hn, fun b hb => let ⟨v, hv, h⟩ := h b hb; ⟨v, hv, hk _ _ h⟩⟩
 ·refine gx C.P _ h (fun n M' hn => ?_) (fun _ _ h => h)
  cases n <;> first | exact hn.elim | exact hk _ _ hn | exact aa.mono hn hk (fun _ _ h => h)
def bH (ops : Array Oper) (o : Oper) (env : Nat → Value) : Bool :=
 match o.guard with
 | none => true
 | some (j, want) => match (j9 ops j).map env with
  | some (.bool b) => b == want
  | _ => false
def dw (C : Ctx) (ops : Array Oper) (o : Oper) (env : Nat → Value) (M : Mem) (K : (Nat → Value) → Mem → Prop) (Kp : List PanicEntry → Mem → Prop) : Prop :=
 if bH ops o env = true then pI C (mL env) o M (fun v M' => K (aU env o.dst v) M') Kp else K (aU env o.dst undef) M
theorem gX {C : Ctx} {ops : Array Oper} {o : Oper} {env : Nat → Value} {M : Mem} {K K' : (Nat → Value) → Mem → Prop} {Kp : List PanicEntry → Mem → Prop} (h : dw C ops o env M K Kp)
  (hk : ∀ v M', K v M' → K' v M') : dw C ops o env M K' Kp := by
 unfold dw at h ⊢
 split
 ·rename_i hw; rw [if_pos hw] at h; exact ke h fun v M' hv => hk _ _ hv
 ·rename_i hw; rw [if_neg hw] at h; exact hk _ _ h
theorem kf {env : Nat → Value} {s : Nat} {v : Value} (h : env s = v) : aU env (some s) v = env := by
 funext i; rw [fP]; split
 ·rename_i hi; rw [hi, h]
 ·rfl
theorem qN {ops : Array Oper} {o : Oper} {env : Nat → Value} (h : o.guard = none) : bH ops o env = true := by unfold bH; rw [h]
theorem ve {ops : Array Oper} {o : Oper} {env : Nat → Value} {j : Nat} {w : Bool} (h : o.guard = some (j, w)) (hs : j9 ops j = none) : bH ops o env = false := by
 unfold bH; rw [h]; simp only [hs]; rfl
theorem qO {ops : Array Oper} {o : Oper} {env : Nat → Value} {j s : Nat} {w e : Bool} (h : o.guard = some (j, w)) (hs : j9 ops j = some s) (he : env s = .bool e) : bH ops o env = (e == w) := by
 unfold bH; rw [h]; simp only [hs, Option.map_some, he]
theorem pJ {ops : Array Oper} {o : Oper} {env : Nat → Value} {j s : Nat} {w : Bool} (h : o.guard = some (j, w)) (hs : j9 ops j = some s) (he : ∀ e, env s ≠ .bool e) : bH ops o env = false := by
 unfold bH; rw [h]; simp only [hs, Option.map_some]
 cases hx : env s <;> first | rfl | exact absurd hx (he _)
theorem gz {C : Ctx} {ops : Array Oper} {o : Oper} {env : Nat → Value} {M : Mem} {K : (Nat → Value) → Mem → Prop} {Kp : List PanicEntry → Mem → Prop} (hw : bH ops o env = true)
  (h : pI C (mL env) o M (fun v M' => K (aU env o.dst v) M') Kp) : dw C ops o env M K Kp := by unfold dw; rw [if_pos hw]; exact h
theorem jD {C : Ctx} {ops : Array Oper} {o : Oper} {env : Nat → Value} {M : Mem} {K : (Nat → Value) → Mem → Prop} {Kp : List PanicEntry → Mem → Prop} (hw : bH ops o env = false)
  (h : K (aU env o.dst undef) M) : dw C ops o env M K Kp := by unfold dw; rw [if_neg (by simp [hw])]; exact h
theorem gA {C : Ctx} (hC : C.Good) {ops : Array Oper} {o : Oper} {env : Nat → Value} {M : Mem} {K : (Nat → Value) → Mem → Prop} {Kp : List PanicEntry → Mem → Prop} (h : Fa C ops o env M K Kp) :
  dw C ops o env M K Kp := by
 unfold Fa at h
 cases hg : o.guard with
 | none => rw [hg] at h; exact gz (qN hg) (pR hC h)
 | some jw =>
  obtain ⟨j, want⟩ := jw
  rw [hg] at h
  simp only at h
  cases hs : j9 ops j with
  | none => rw [hs] at h; exact jD (ve hg hs) h
  | some s =>
   rw [hs] at h
   simp only at h
   cases he : env s <;> rw [he] at h <;> simp only at h
   case bool e =>
    have hw := qO hg hs he
    cases e
    ·rw [kf he] at h
     cases want <;> simp only [aQ] at h
     ·exact gz hw (pR hC h)
     ·exact jD hw h
    ·rw [kf he] at h
     cases want <;> simp only [aQ] at h
     ·exact jD hw h
     ·exact gz hw (pR hC h)
   all_goals exact jD (pJ hg hs (by simp [he])) h
theorem oh {env : Nat → Value} {x y : Option Tmp} {v u : Value} (h : ∀ d, x = some d → y ≠ some d) : aU (aU env x v) y u = aU (aU env y u) x v := by
 cases x with
 | none => rfl
 | some d =>
  cases y with
  | none => rfl
  | some e =>
   have hne : d ≠ e := fun he => h d rfl (he ▸ rfl)
   funext i
   simp only [fP]
   by_cases h1 : i = d <;> by_cases h2 : i = e <;> simp_all
theorem KB {env : Nat → Value} {dst : Option Tmp} {v : Value} {x : Operand} (h : ∀ d, dst = some d → x ≠ .tmp d) : mL (aU env dst v) x = mL env x := by
 cases dst with
 | none => rfl
 | some d =>
  cases x with
  | tmp t =>
   have : d ≠ t := fun e => h d rfl (e ▸ rfl)
   simp only [mL, fP]
   rw [if_neg (Ne.symm this)]
  | _ => rfl
theorem gj {ops : Array Oper} (o : Oper) (hs : ∀ cs b, o.op ≠ .select cs b) (env : Nat → Value) (dst : Option Tmp) (v : Value) (h : ∀ d, dst = some d → d ∉ o.looksAt ops) :
  execOp (mL (aU env dst v)) o = execOp (mL env) o :=
 execOp_congr o hs fun x hx => KB fun d hd ZR => h d hd (by
  subst ZR
  exact List.mem_append_left _ (List.mem_filterMap.2 ⟨.tmp d, by simpa using hx, rfl⟩))
theorem dH {ops : Array Oper} (o : Oper) (env : Nat → Value) (dst : Option Tmp) (v : Value) (h : ∀ d, dst = some d → d ∉ o.looksAt ops) :
  bH ops o (aU env dst v) = bH ops o env := by
 cases dst with
 | none => rfl
 | some d =>
  unfold bH
  cases hg : o.guard with
  | none => rfl
  | some gw =>
   obtain ⟨g, want⟩ := gw
   simp only
   cases ht : j9 ops g with
   | none => rfl
   | some t =>
    have hne : t ≠ d := fun e => h d rfl (by
     subst e
     unfold j9 at ht
     simp [Oper.looksAt, hg, ht])
    simp only [Option.map_some, fP, if_neg hne]
end Go.AF
