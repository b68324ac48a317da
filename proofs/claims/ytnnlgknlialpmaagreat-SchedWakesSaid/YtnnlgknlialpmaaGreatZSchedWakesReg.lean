/- A part of proofs about one program. -/
import Derived.Test.YtnnlgknlialpmaaGreatZSchedWakesFrame
set_option linter.unusedVariables false
namespace Go.AF
def aX (env : Nat → Value) (dst : Option Tmp) (v : Value) : Nat → Value :=
 match dst with
 | some d => fun i => bif Nat.beq i d then v else env i
 | none => env
def dB (n : Nat) (env : Nat → Value) (tmps : Array Value) : Prop := tmps.size = n ∧ ∀ i, i < n → tmps[i]? = some (env i)
def lO (n : Nat) (o : Oper) : Bool :=
 (o.op.operands.toList.all fun x => match x with | .tmp t => decide (t < n) | _ => true) && (match o.dst with | some d => decide (d < n) | none => true) &&
 (match o.op with | .select .. => false | _ => true)
theorem gk {env : Nat → Value} {d i : Nat} {v : Value} : aX env (some d) v i = if i = d then v else env i := by
 unfold aX
 by_cases h : i = d
 ·subst h; simp
 ·have : Nat.beq i d = false := by cases hb : Nat.beq i d with
   | false => rfl
   | true => exact absurd (Nat.eq_of_beq_eq_true hb) h
  simp [this, h]
theorem dB.put {n : Nat} {env : Nat → Value} {a : Act} (h : dB n env a.tmps) {dst : Option Tmp} (hd : ∀ d, dst = some d → d < n) (v : Value) :
  dB n (aX env dst v) (a.put dst v).tmps := by
 cases dst with
 | none => exact h
 | some d =>
  have hd := hd d rfl
  refine ⟨by simp [Act.put, h.1], fun i hi => ?_⟩
  rw [gk]
  by_cases he : i = d
  ·subst he
   simp [Act.put, h.1, hi]
  ·simp only [Act.put, he, if_false]
   rw [Array.getElem?_setIfInBounds_ne (Ne.symm he)]
   exact h.2 i hi
theorem fI {n : Nat} {o : Oper} (h : lO n o = true) : (∀ t, Operand.tmp t ∈ o.op.operands → t < n) ∧ (∀ d, o.dst = some d → d < n) ∧ (∀ cs b, o.op ≠ .select cs b) := by
 unfold lO at h
 simp only [Bool.and_eq_true, List.all_eq_true] at h
 refine ⟨fun t ht => ?_, fun d hd => ?_, fun cs b hs => ?_⟩
 ·have := h.1.1 (.tmp t) (by simpa using ht)
  simpa using this
 ·have := h.1.2; simp only [hd] at this; simpa using this
 ·have := h.2; simp [hs] at this
theorem dB.eval {n : Nat} {env : Nat → Value} {a : Act} (h : dB n env a.tmps) {x : Operand} (hx : ∀ t, x = .tmp t → t < n) : nf env x = a.eval x := by
 cases x with
 | tmp t =>
  have := h.2 t (hx t rfl)
  simp [nf, Act.eval, this]
 | _ => rfl
theorem dB.execOp {n : Nat} {env : Nat → Value} {a : Act} (h : dB n env a.tmps) {o : Oper} (hf : lO n o = true) : execOp (nf env) o = Go.execOp a.eval o := by
 obtain ⟨h1, h2, h3⟩ := fI hf
 exact execOp_congr o h3 fun x hx => h.eval fun t ht => h1 t (ht ▸ hx)
def kO (ops : Array Oper) (j : Nat) : Option Nat := (ops[j]?).bind (·.dst)
def F2 (C : Ctx) (ops : Array Oper) (o : Oper) (env : Nat → Value) (M : Mem) (K : (Nat → Value) → Mem → Prop) (Kp : List PanicEntry → Mem → Prop) : Prop :=
 match o.guard with
 | none => Sw C (nf env) o M (fun v M' => K (aX env o.dst v) M') Kp
 | some (j, want) => match kO ops j with
  | some s => match env s with
   | .bool e => match want with
    | true => aO e (Sw C (nf (aX env (some s) (.bool true))) o M (fun v M' => K (aX (aX env (some s) (.bool true)) o.dst v) M') Kp) (K (aX (aX env (some s) (.bool false)) o.dst undef) M)
    | false => aO e (K (aX (aX env (some s) (.bool true)) o.dst undef) M) (Sw C (nf (aX env (some s) (.bool false))) o M (fun v M' => K (aX (aX env (some s) (.bool false)) o.dst v) M') Kp)
   | _ => K (aX env o.dst undef) M
  | none => K (aX env o.dst undef) M
def qf (C : Ctx) (ρ : Operand → Value) (o : Oper) (M : Mem) (K : Value → Mem → Prop) (Kp : List PanicEntry → Mem → Prop) : Prop :=
 match cls C.P o with
 | .pure => ∃ v, (∀ M', bE C.P (execOp ρ o) M' = some (.value v)) ∧ K v M
 | .read => ∃ v, bE C.P (execOp ρ o) M = some (.value v) ∧ K v M
 | .new => ∃ (ob : Obj) (k : Nat → Sem Next), zL C.P (execOp ρ o) = some (ob, k) ∧ ∀ b, M b = none → ∃ v, bE C.P (k b) Mem.empty = some (.value v) ∧ K v (M.set b ob)
 | .FX => dc C.P (execOp ρ o) M (kN C.P K Kp) (fun v M' => Kp [{ v, recovered := false }] M')
theorem ql {C : Ctx} (hC : C.Good) {ρ : Operand → Value} {o : Oper} {M : Mem} {K : Value → Mem → Prop} {Kp : List PanicEntry → Mem → Prop} (h : Sw C ρ o M K Kp) : qf C ρ o M K Kp := by
 unfold Sw at h
 unfold qf
 cases hc : cls C.P o <;> rw [hc] at h <;> simp only at h ⊢
 ·exact Dg h
 ·split at h
  ·rename_i t a ho
   obtain ⟨v, hv, hk⟩ := vS h
   obtain ⟨dst, op, type, pos, after, guard⟩ := o
   simp only at ho; subst ho
   exact ⟨v, fF hv, hk⟩
  ·exact h.elim
 ·exact ET h
 ·exact FZ hC h
theorem vY {C : Ctx} {ρ : Operand → Value} {o : Oper} {M : Mem} {K : Value → Mem → Prop} {Kp : List PanicEntry → Mem → Prop} (h : qf C ρ o M K Kp) :
  dc C.P (execOp ρ o) M (kN C.P K Kp) (fun v M' => Kp [{ v, recovered := false }] M') := by
 unfold qf at h
 split at h
 ·obtain ⟨v, hv, hk⟩ := h; exact gr C.P _ (hv M) hk
 ·obtain ⟨v, hv, hk⟩ := h; exact gr C.P _ hv hk
 ·obtain ⟨ob, k, hn, h⟩ := h
  refine Ia C.P _ hn fun b hb => ?_
  obtain ⟨v, hv, hk⟩ := h b hb
  exact gr C.P _ (kL C.P _ (fun b o hb => by simp [Mem.empty] at hb) hv) hk
 ·exact h
theorem kP {C : Ctx} {ρ : Operand → Value} {o : Oper} {M : Mem} {K K' : Value → Mem → Prop} {Kp : List PanicEntry → Mem → Prop} (h : qf C ρ o M K Kp)
  (hk : ∀ v M', K v M' → K' v M') : qf C ρ o M K' Kp := by
 unfold qf at h ⊢
 split at h
 ·obtain ⟨v, hv, h⟩ := h; exact ⟨v, hv, hk _ _ h⟩
 ·obtain ⟨v, hv, h⟩ := h; exact ⟨v, hv, hk _ _ h⟩
 ·obtain ⟨ob, k, hn, h⟩ := h
  exact ⟨ob, k, hn, fun b hb => let ⟨v, hv, h⟩ := h b hb; ⟨v, hv, hk _ _ h⟩⟩
 ·refine gJ C.P _ h (fun n M' hn => ?_) (fun _ _ h => h)
  cases n <;> first | exact hn.elim | exact hk _ _ hn | exact aa.mono hn hk (fun _ _ h => h)
def bJ (ops : Array Oper) (o : Oper) (env : Nat → Value) : Bool :=
 match o.guard with
 | none => true
 | some (j, want) => match (kO ops j).map env with
  | some (.bool b) => b == want
  | _ => false
def dL (C : Ctx) (ops : Array Oper) (o : Oper) (env : Nat → Value) (M : Mem) (K : (Nat → Value) → Mem → Prop) (Kp : List PanicEntry → Mem → Prop) : Prop :=
 if bJ ops o env = true then qf C (nf env) o M (fun v M' => K (aX env o.dst v) M') Kp else K (aX env o.dst undef) M
theorem ig {C : Ctx} {ops : Array Oper} {o : Oper} {env : Nat → Value} {M : Mem} {K K' : (Nat → Value) → Mem → Prop} {Kp : List PanicEntry → Mem → Prop} (h : dL C ops o env M K Kp)
  (hk : ∀ v M', K v M' → K' v M') : dL C ops o env M K' Kp := by
 unfold dL at h ⊢
 split
 ·rename_i hw; rw [if_pos hw] at h; exact kP h fun v M' hv => hk _ _ hv
 ·rename_i hw; rw [if_neg hw] at h; exact hk _ _ h
theorem kQ {env : Nat → Value} {s : Nat} {v : Value} (h : env s = v) : aX env (some s) v = env := by
 funext i; rw [gk]; split
 ·rename_i hi; rw [hi, h]
 ·rfl
theorem rH {ops : Array Oper} {o : Oper} {env : Nat → Value} (h : o.guard = none) : bJ ops o env = true := by unfold bJ; rw [h]
theorem vZ {ops : Array Oper} {o : Oper} {env : Nat → Value} {j : Nat} {w : Bool} (h : o.guard = some (j, w)) (hs : kO ops j = none) : bJ ops o env = false := by
 unfold bJ; rw [h]; simp only [hs]; rfl
theorem rJ {ops : Array Oper} {o : Oper} {env : Nat → Value} {j s : Nat} {w e : Bool} (h : o.guard = some (j, w)) (hs : kO ops j = some s) (he : env s = .bool e) : bJ ops o env = (e == w) := by
 unfold bJ; rw [h]; simp only [hs, Option.map_some, he]
theorem qg {ops : Array Oper} {o : Oper} {env : Nat → Value} {j s : Nat} {w : Bool} (h : o.guard = some (j, w)) (hs : kO ops j = some s) (he : ∀ e, env s ≠ .bool e) : bJ ops o env = false := by
 unfold bJ; rw [h]; simp only [hs, Option.map_some]
 cases hx : env s <;> first | rfl | exact absurd hx (he _)
theorem gL {C : Ctx} {ops : Array Oper} {o : Oper} {env : Nat → Value} {M : Mem} {K : (Nat → Value) → Mem → Prop} {Kp : List PanicEntry → Mem → Prop} (hw : bJ ops o env = true)
  (h : qf C (nf env) o M (fun v M' => K (aX env o.dst v) M') Kp) : dL C ops o env M K Kp := by unfold dL; rw [if_pos hw]; exact h
theorem jV {C : Ctx} {ops : Array Oper} {o : Oper} {env : Nat → Value} {M : Mem} {K : (Nat → Value) → Mem → Prop} {Kp : List PanicEntry → Mem → Prop} (hw : bJ ops o env = false)
  (h : K (aX env o.dst undef) M) : dL C ops o env M K Kp := by unfold dL; rw [if_neg (by simp [hw])]; exact h
theorem gM {C : Ctx} (hC : C.Good) {ops : Array Oper} {o : Oper} {env : Nat → Value} {M : Mem} {K : (Nat → Value) → Mem → Prop} {Kp : List PanicEntry → Mem → Prop} (h : F2 C ops o env M K Kp) :
  dL C ops o env M K Kp := by
 unfold F2 at h
 cases hg : o.guard with
 | none => rw [hg] at h; exact gL (rH hg) (ql hC h)
 | some jw =>
  obtain ⟨j, want⟩ := jw
  rw [hg] at h
  simp only at h
  cases hs : kO ops j with
  | none => rw [hs] at h; exact jV (vZ hg hs) h
  | some s =>
   rw [hs] at h
   simp only at h
   cases he : env s <;> rw [he] at h <;> simp only at h
   case bool e =>
    have hw := rJ hg hs he
    cases e
    ·rw [kQ he] at h
     cases want <;> simp only [aO] at h
     ·exact gL hw (ql hC h)
     ·exact jV hw h
    ·rw [kQ he] at h
     cases want <;> simp only [aO] at h
     ·exact jV hw h
     ·exact gL hw (ql hC h)
   all_goals exact jV (qg hg hs (by simp [he])) h
theorem oP {env : Nat → Value} {x y : Option Tmp} {v u : Value} (h : ∀ d, x = some d → y ≠ some d) : aX (aX env x v) y u = aX (aX env y u) x v := by
 cases x with
 | none => rfl
 | some d =>
  cases y with
  | none => rfl
  | some e =>
   have hne : d ≠ e := fun he => h d rfl (he ▸ rfl)
   funext i
   simp only [gk]
   by_cases h1 : i = d <;> by_cases h2 : i = e <;> simp_all
theorem Lq {env : Nat → Value} {dst : Option Tmp} {v : Value} {x : Operand} (h : ∀ d, dst = some d → x ≠ .tmp d) : nf (aX env dst v) x = nf env x := by
 cases dst with
 | none => rfl
 | some d =>
  cases x with
  | tmp t =>
   have : d ≠ t := fun e => h d rfl (e ▸ rfl)
   simp only [nf, gk]
   rw [if_neg (Ne.symm this)]
  | _ => rfl
theorem gD {ops : Array Oper} (o : Oper) (hs : ∀ cs b, o.op ≠ .select cs b) (env : Nat → Value) (dst : Option Tmp) (v : Value) (h : ∀ d, dst = some d → d ∉ o.looksAt ops) :
  execOp (nf (aX env dst v)) o = execOp (nf env) o :=
 execOp_congr o hs fun x hx => Lq fun d hd hxd => h d hd (by
  subst hxd
  exact List.mem_append_left _ (List.mem_filterMap.2 ⟨.tmp d, by simpa using hx, rfl⟩))
theorem dP {ops : Array Oper} (o : Oper) (env : Nat → Value) (dst : Option Tmp) (v : Value) (h : ∀ d, dst = some d → d ∉ o.looksAt ops) :
  bJ ops o (aX env dst v) = bJ ops o env := by
 cases dst with
 | none => rfl
 | some d =>
  unfold bJ
  cases hg : o.guard with
  | none => rfl
  | some gw =>
   obtain ⟨g, want⟩ := gw
   simp only
   cases ht : kO ops g with
   | none => rfl
   | some t =>
    have hne : t ≠ d := fun e => h d rfl (by
     subst e
     unfold kO at ht
     simp [Oper.looksAt, hg, ht])
    simp only [Option.map_some, gk, if_neg hne]
end Go.AF
