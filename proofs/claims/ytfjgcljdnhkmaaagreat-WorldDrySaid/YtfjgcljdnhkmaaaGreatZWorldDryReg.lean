/- A part of proofs about one program. -/
import Derived.Test.YtfjgcljdnhkmaaaGreatZWorldDryFrame
set_option linter.unusedVariables false
namespace Go.AF
def bD (env : Nat → Value) (dst : Option Tmp) (v : Value) : Nat → Value :=
 match dst with
 | some d => fun i => bif Nat.beq i d then v else env i
 | none => env
def eO (n : Nat) (env : Nat → Value) (tmps : Array Value) : Prop := tmps.size = n ∧ ∀ i, i < n → tmps[i]? = some (env i)
def lq (n : Nat) (o : Oper) : Bool :=
 (o.op.operands.toList.all fun x => match x with | .tmp t => decide (t < n) | _ => true) && (match o.dst with | some d => decide (d < n) | none => true) &&
 (match o.op with | .select .. => false | _ => true)
theorem iN {env : Nat → Value} {d i : Nat} {v : Value} : bD env (some d) v i = if i = d then v else env i := by
 unfold bD
 by_cases h : i = d
 ·subst h; simp
 ·have : Nat.beq i d = false := by cases hb : Nat.beq i d with
   | false => rfl
   | true => exact absurd (Nat.eq_of_beq_eq_true hb) h
  simp [this, h]
theorem eO.put {n : Nat} {env : Nat → Value} {a : Act} (h : eO n env a.tmps) {dst : Option Tmp} (hd : ∀ d, dst = some d → d < n) (v : Value) :
  eO n (bD env dst v) (a.put dst v).tmps := by
 cases dst with
 | none => exact h
 | some d =>
  have hd := hd d rfl
  refine ⟨by simp [Act.put, h.1], fun i hi => ?_⟩
  rw [iN]
  by_cases he : i = d
  ·subst he
   simp [Act.put, h.1, hi]
  ·simp only [Act.put, he, if_false]
   rw [Array.getElem?_setIfInBounds_ne (Ne.symm he)]
   exact h.2 i hi
theorem fJ {n : Nat} {o : Oper} (h : lq n o = true) : (∀ t, Operand.tmp t ∈ o.op.operands → t < n) ∧ (∀ d, o.dst = some d → d < n) ∧ (∀ cs b, o.op ≠ .select cs b) := by
 unfold lq at h
 simp only [Bool.and_eq_true, List.all_eq_true] at h
 refine ⟨fun t ht => ?_, fun d hd => ?_, fun cs b hs => ?_⟩
 ·have := h.1.1 (.tmp t) (by simpa using ht)
  simpa using this
 ·have := h.1.2; simp only [hd] at this; simpa using this
 ·have := h.2; simp [hs] at this
theorem eO.eval {n : Nat} {env : Nat → Value} {a : Act} (h : eO n env a.tmps) {x : Operand} (hx : ∀ t, x = .tmp t → t < n) : qL env x = a.eval x := by
 cases x with
 | tmp t =>
  have := h.2 t (hx t rfl)
  simp [qL, Act.eval, this]
 | _ => rfl
theorem eO.execOp {n : Nat} {env : Nat → Value} {a : Act} (h : eO n env a.tmps) {o : Oper} (hf : lq n o = true) : execOp (qL env) o = Go.execOp a.eval o := by
 obtain ⟨h1, h2, h3⟩ := fJ hf
 exact execOp_congr o h3 fun x hx => h.eval fun t ht => h1 t (ht ▸ hx)
def od (ops : Array Oper) (j : Nat) : Option Nat := (ops[j]?).bind (·.dst)
def Pk (C : Ctx) (ops : Array Oper) (o : Oper) (env : Nat → Value) (M : Mem) (K : (Nat → Value) → Mem → Prop) (Kp : List PanicEntry → Mem → Prop) : Prop :=
 match o.guard with
 | none => aop C (qL env) o M (fun v M' => K (bD env o.dst v) M') Kp
 | some (j, want) => match od ops j with
  | some s => match env s with
   | .bool e => match want with
    | true => aM e (aop C (qL (bD env (some s) (.bool true))) o M (fun v M' => K (bD (bD env (some s) (.bool true)) o.dst v) M') Kp) (K (bD (bD env (some s) (.bool false)) o.dst undef) M)
    | false => aM e (K (bD (bD env (some s) (.bool true)) o.dst undef) M) (aop C (qL (bD env (some s) (.bool false))) o M (fun v M' => K (bD (bD env (some s) (.bool false)) o.dst v) M') Kp)
   | _ => K (bD env o.dst undef) M
  | none => K (bD env o.dst undef) M
def u6 (C : Ctx) (ρ : Operand → Value) (o : Oper) (M : Mem) (K : Value → Mem → Prop) (Kp : List PanicEntry → Mem → Prop) : Prop :=
 match cls C.P o with
 | .pure => ∃ v, (∀ M', bV C.P (execOp ρ o) M' = some (.value v)) ∧ K v M
 | .read => ∃ v, bV C.P (execOp ρ o) M = some (.value v) ∧ K v M
 | .new => ∃ (ob : Obj) (k : Nat → Sem Next), Fm C.P (execOp ρ o) = some (ob, k) ∧ ∀ b, M b = none → ∃ v, bV C.P (k b) Mem.empty = some (.value v) ∧ K v (M.set b ob)
 | .Pe => eU C.P (execOp ρ o) M (oa C.P K Kp) (fun v M' => Kp [{ v, recovered := false }] M')
theorem vp {C : Ctx} (hC : C.Good) {ρ : Operand → Value} {o : Oper} {M : Mem} {K : Value → Mem → Prop} {Kp : List PanicEntry → Mem → Prop} (h : aop C ρ o M K Kp) : u6 C ρ o M K Kp := by
 unfold aop at h
 unfold u6
 cases hc : cls C.P o <;> rw [hc] at h <;> simp only at h ⊢
 ·exact KP h
 ·split at h
  ·rename_i t a ho
   obtain ⟨v, hv, hk⟩ := AY h
   obtain ⟨dst, op, type, pos, after, guard⟩ := o
   simp only at ho; subst ho
   exact ⟨v, gX hv, hk⟩
  ·exact h.elim
 ·exact N7 h
 ·exact Pg hC h
theorem vq {C : Ctx} {ρ : Operand → Value} {o : Oper} {M : Mem} {K : Value → Mem → Prop} {Kp : List PanicEntry → Mem → Prop} (h : u6 C ρ o M K Kp) :
  eU C.P (execOp ρ o) M (oa C.P K Kp) (fun v M' => Kp [{ v, recovered := false }] M') := by
 unfold u6 at h
 split at h
 ·obtain ⟨v, hv, hk⟩ := h; exact jd C.P _ (hv M) hk
 ·obtain ⟨v, hv, hk⟩ := h; exact jd C.P _ hv hk
 ·obtain ⟨ob, k, hn, h⟩ := h
  refine R0 C.P _ hn fun b hb => ?_
  obtain ⟨v, hv, hk⟩ := h b hb
  exact jd C.P _ (mm C.P _ (fun b o hb => by simp [Mem.empty] at hb) hv) hk
 ·exact h
theorem oe {C : Ctx} {ρ : Operand → Value} {o : Oper} {M : Mem} {K K' : Value → Mem → Prop} {Kp : List PanicEntry → Mem → Prop} (h : u6 C ρ o M K Kp)
  (hk : ∀ v M', K v M' → K' v M') : u6 C ρ o M K' Kp := by
 unfold u6 at h ⊢
 split at h
 ·obtain ⟨v, hv, h⟩ := h; exact ⟨v, hv, hk _ _ h⟩
 ·obtain ⟨v, hv, h⟩ := h; exact ⟨v, hv, hk _ _ h⟩
 ·obtain ⟨ob, k, hn, h⟩ := h
  exact ⟨ob, k, hn, fun b hb => let ⟨v, hv, h⟩ := h b hb; ⟨v, hv, hk _ _ h⟩⟩
 ·refine jM C.P _ h (fun n M' hn => ?_) (fun _ _ h => h)
  cases n <;> first | exact hn.elim | exact hk _ _ hn | exact ae.mono hn hk (fun _ _ h => h)
def ck (ops : Array Oper) (o : Oper) (env : Nat → Value) : Bool :=
 match o.guard with
 | none => true
 | some (j, want) => match (od ops j).map env with
  | some (.bool b) => b == want
  | _ => false
def fz (C : Ctx) (ops : Array Oper) (o : Oper) (env : Nat → Value) (M : Mem) (K : (Nat → Value) → Mem → Prop) (Kp : List PanicEntry → Mem → Prop) : Prop :=
 if ck ops o env = true then u6 C (qL env) o M (fun v M' => K (bD env o.dst v) M') Kp else K (bD env o.dst undef) M
theorem kA {C : Ctx} {ops : Array Oper} {o : Oper} {env : Nat → Value} {M : Mem} {K K' : (Nat → Value) → Mem → Prop} {Kp : List PanicEntry → Mem → Prop} (h : fz C ops o env M K Kp)
  (hk : ∀ v M', K v M' → K' v M') : fz C ops o env M K' Kp := by
 unfold fz at h ⊢
 split
 ·rename_i hw; rw [if_pos hw] at h; exact oe h fun v M' hv => hk _ _ hv
 ·rename_i hw; rw [if_neg hw] at h; exact hk _ _ h
theorem og {env : Nat → Value} {s : Nat} {v : Value} (h : env s = v) : bD env (some s) v = env := by
 funext i; rw [iN]; split
 ·rename_i hi; rw [hi, h]
 ·rfl
theorem wM {ops : Array Oper} {o : Oper} {env : Nat → Value} (h : o.guard = none) : ck ops o env = true := by unfold ck; rw [h]
theorem Be {ops : Array Oper} {o : Oper} {env : Nat → Value} {j : Nat} {w : Bool} (h : o.guard = some (j, w)) (hs : od ops j = none) : ck ops o env = false := by
 unfold ck; rw [h]; simp only [hs]; rfl
theorem wN {ops : Array Oper} {o : Oper} {env : Nat → Value} {j s : Nat} {w e : Bool} (h : o.guard = some (j, w)) (hs : od ops j = some s) (he : env s = .bool e) : ck ops o env = (e == w) := by
 unfold ck; rw [h]; simp only [hs, Option.map_some, he]
theorem u7 {ops : Array Oper} {o : Oper} {env : Nat → Value} {j s : Nat} {w : Bool} (h : o.guard = some (j, w)) (hs : od ops j = some s) (he : ∀ e, env s ≠ .bool e) : ck ops o env = false := by
 unfold ck; rw [h]; simp only [hs, Option.map_some]
 cases hx : env s <;> first | rfl | exact absurd hx (he _)
theorem jN {C : Ctx} {ops : Array Oper} {o : Oper} {env : Nat → Value} {M : Mem} {K : (Nat → Value) → Mem → Prop} {Kp : List PanicEntry → Mem → Prop} (hw : ck ops o env = true)
  (h : u6 C (qL env) o M (fun v M' => K (bD env o.dst v) M') Kp) : fz C ops o env M K Kp := by unfold fz; rw [if_pos hw]; exact h
theorem mZ {C : Ctx} {ops : Array Oper} {o : Oper} {env : Nat → Value} {M : Mem} {K : (Nat → Value) → Mem → Prop} {Kp : List PanicEntry → Mem → Prop} (hw : ck ops o env = false)
  (h : K (bD env o.dst undef) M) : fz C ops o env M K Kp := by unfold fz; rw [if_neg (by simp [hw])]; exact h
theorem iz {C : Ctx} (hC : C.Good) {ops : Array Oper} {o : Oper} {env : Nat → Value} {M : Mem} {K : (Nat → Value) → Mem → Prop} {Kp : List PanicEntry → Mem → Prop} (h : Pk C ops o env M K Kp) :
  fz C ops o env M K Kp := by
 unfold Pk at h
 cases hg : o.guard with
 | none => rw [hg] at h; exact jN (wM hg) (vp hC h)
 | some jw =>
  obtain ⟨j, want⟩ := jw
  rw [hg] at h
  simp only at h
  cases hs : od ops j with
  | none => rw [hs] at h; exact mZ (Be hg hs) h
  | some s =>
   rw [hs] at h
   simp only at h
   cases he : env s <;> rw [he] at h <;> simp only at h
   case bool e =>
    have hw := wN hg hs he
    cases e
    ·rw [og he] at h
     cases want <;> simp only [aM] at h
     ·exact jN hw (vp hC h)
     ·exact mZ hw h
    ·rw [og he] at h
     cases want <;> simp only [aM] at h
     ·exact mZ hw h
     ·exact jN hw (vp hC h)
   all_goals exact mZ (u7 hg hs (by simp [he])) h
theorem th {env : Nat → Value} {x y : Option Tmp} {v u : Value} (h : ∀ d, x = some d → y ≠ some d) : bD (bD env x v) y u = bD (bD env y u) x v := by
 cases x with
 | none => rfl
 | some d =>
  cases y with
  | none => rfl
  | some e =>
   have hne : d ≠ e := fun he => h d rfl (he ▸ rfl)
   funext i
   simp only [iN]
   by_cases h1 : i = d <;> by_cases h2 : i = e <;> simp_all
theorem WU {env : Nat → Value} {dst : Option Tmp} {v : Value} {x : Operand} (h : ∀ d, dst = some d → x ≠ .tmp d) : qL (bD env dst v) x = qL env x := by
 cases dst with
 | none => rfl
 | some d =>
  cases x with
  | tmp t =>
   have : d ≠ t := fun e => h d rfl (e ▸ rfl)
   simp only [qL, iN]
   rw [if_neg (Ne.symm this)]
  | _ => rfl
theorem jv {ops : Array Oper} (o : Oper) (hs : ∀ cs b, o.op ≠ .select cs b) (env : Nat → Value) (dst : Option Tmp) (v : Value) (h : ∀ d, dst = some d → d ∉ o.looksAt ops) :
  execOp (qL (bD env dst v)) o = execOp (qL env) o :=
 execOp_congr o hs fun x hx => WU fun d hd hxd => h d hd (by
  subst hxd
  exact List.mem_append_left _ (List.mem_filterMap.2 ⟨.tmp d, by simpa using hx, rfl⟩))
theorem fK {ops : Array Oper} (o : Oper) (env : Nat → Value) (dst : Option Tmp) (v : Value) (h : ∀ d, dst = some d → d ∉ o.looksAt ops) :
  ck ops o (bD env dst v) = ck ops o env := by
 cases dst with
 | none => rfl
 | some d =>
  unfold ck
  cases hg : o.guard with
  | none => rfl
  | some gw =>
   obtain ⟨g, want⟩ := gw
   simp only
   cases ht : od ops g with
   | none => rfl
   | some t =>
    have hne : t ≠ d := fun e => h d rfl (by
     subst e
     unfold od at ht
     simp [Oper.looksAt, hg, ht])
    simp only [Option.map_some, iN, if_neg hne]
end Go.AF
