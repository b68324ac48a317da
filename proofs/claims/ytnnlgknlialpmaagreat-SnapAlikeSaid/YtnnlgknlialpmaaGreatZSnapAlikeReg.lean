/- A part of proofs about one program. -/
import Derived.Test.YtnnlgknlialpmaaGreatZSnapAlikeFrame
set_option linter.unusedVariables false
namespace Go.AF
def bz (env : Nat → Value) (dst : Option Tmp) (v : Value) : Nat → Value :=
 match dst with
 | some d => fun i => bif Nat.beq i d then v else env i
 | none => env
def eL (n : Nat) (env : Nat → Value) (tmps : Array Value) : Prop := tmps.size = n ∧ ∀ i, i < n → tmps[i]? = some (env i)
def oq (n : Nat) (o : Oper) : Bool :=
 (o.op.operands.toList.all fun x => match x with | .tmp t => decide (t < n) | _ => true) && (match o.dst with | some d => decide (d < n) | none => true) &&
 (match o.op with | .select .. => false | _ => true)
theorem iu {env : Nat → Value} {d i : Nat} {v : Value} : bz env (some d) v i = if i = d then v else env i := by
 unfold bz
 by_cases h : i = d
 ·subst h; simp
 ·have : Nat.beq i d = false := by cases hb : Nat.beq i d with
   | false => rfl
   | true => exact absurd (Nat.eq_of_beq_eq_true hb) h
  simp [this, h]
theorem eL.put {n : Nat} {env : Nat → Value} {a : Act} (h : eL n env a.tmps) {dst : Option Tmp} (hd : ∀ d, dst = some d → d < n) (v : Value) :
  eL n (bz env dst v) (a.put dst v).tmps := by
 cases dst with
 | none => exact h
 | some d =>
  have hd := hd d rfl
  refine ⟨by simp [Act.put, h.1], fun i hi => ?_⟩
  rw [iu]
  by_cases he : i = d
  ·subst he
   simp [Act.put, h.1, hi]
  ·simp only [Act.put, he, if_false]
   rw [Array.getElem?_setIfInBounds_ne (Ne.symm he)]
   exact h.2 i hi
theorem gN {n : Nat} {o : Oper} (h : oq n o = true) : (∀ t, Operand.tmp t ∈ o.op.operands → t < n) ∧ (∀ d, o.dst = some d → d < n) ∧ (∀ cs b, o.op ≠ .select cs b) := by
 unfold oq at h
 simp only [Bool.and_eq_true, List.all_eq_true] at h
 refine ⟨fun t ht => ?_, fun d hd => ?_, fun cs b hs => ?_⟩
 ·have := h.1.1 (.tmp t) (by simpa using ht)
  simpa using this
 ·have := h.1.2; simp only [hd] at this; simpa using this
 ·have := h.2; simp [hs] at this
theorem eL.eval {n : Nat} {env : Nat → Value} {a : Act} (h : eL n env a.tmps) {x : Operand} (hx : ∀ t, x = .tmp t → t < n) : pW env x = a.eval x := by
 cases x with
 | tmp t =>
  have := h.2 t (hx t rfl)
  simp [pW, Act.eval, this]
 | _ => rfl
theorem eL.execOp {n : Nat} {env : Nat → Value} {a : Act} (h : eL n env a.tmps) {o : Oper} (hf : oq n o = true) : execOp (pW env) o = Go.execOp a.eval o := by
 obtain ⟨h1, h2, h3⟩ := gN hf
 exact execOp_congr o h3 fun x hx => h.eval fun t ht => h1 t (ht ▸ hx)
def nh (ops : Array Oper) (j : Nat) : Option Nat := (ops[j]?).bind (·.dst)
def LW (C : Ctx) (ops : Array Oper) (o : Oper) (env : Nat → Value) (M : Mem) (K : (Nat → Value) → Mem → Prop) (Kp : List PanicEntry → Mem → Prop) : Prop :=
 match o.guard with
 | none => Z4 C (pW env) o M (fun v M' => K (bz env o.dst v) M') Kp
 | some (j, want) => match nh ops j with
  | some s => match env s with
   | .bool e => match want with
    | true => aS e (Z4 C (pW (bz env (some s) (.bool true))) o M (fun v M' => K (bz (bz env (some s) (.bool true)) o.dst v) M') Kp) (K (bz (bz env (some s) (.bool false)) o.dst undef) M)
    | false => aS e (K (bz (bz env (some s) (.bool true)) o.dst undef) M) (Z4 C (pW (bz env (some s) (.bool false))) o M (fun v M' => K (bz (bz env (some s) (.bool false)) o.dst v) M') Kp)
   | _ => K (bz env o.dst undef) M
  | none => K (bz env o.dst undef) M
def tV (C : Ctx) (ρ : Operand → Value) (o : Oper) (M : Mem) (K : Value → Mem → Prop) (Kp : List PanicEntry → Mem → Prop) : Prop :=
 match cls C.P o with
 | .pure => ∃ v, (∀ M', bQ C.P (execOp ρ o) M' = some (.value v)) ∧ K v M
 | .read => ∃ v, bQ C.P (execOp ρ o) M = some (.value v) ∧ K v M
 | .new => ∃ (ob : Obj) (k : Nat → Sem Next), D7 C.P (execOp ρ o) = some (ob, k) ∧ ∀ b, M b = none → ∃ v, bQ C.P (k b) Mem.empty = some (.value v) ∧ K v (M.set b ob)
 | .LQ => ee C.P (execOp ρ o) M (ng C.P K Kp) (fun v M' => Kp [{ v, recovered := false }] M')
theorem ug {C : Ctx} (hC : C.Good) {ρ : Operand → Value} {o : Oper} {M : Mem} {K : Value → Mem → Prop} {Kp : List PanicEntry → Mem → Prop} (h : Z4 C ρ o M K Kp) : tV C ρ o M K Kp := by
 unfold Z4 at h
 unfold tV
 cases hc : cls C.P o <;> rw [hc] at h <;> simp only at h ⊢
 ·exact It h
 ·split at h
  ·rename_i t a ho
   obtain ⟨v, hv, hk⟩ := z9 h
   obtain ⟨dst, op, type, pos, after, guard⟩ := o
   simp only at ho; subst ho
   exact ⟨v, gK hv, hk⟩
  ·exact h.elim
 ·exact KA h
 ·exact LS hC h
theorem Ai {C : Ctx} {ρ : Operand → Value} {o : Oper} {M : Mem} {K : Value → Mem → Prop} {Kp : List PanicEntry → Mem → Prop} (h : tV C ρ o M K Kp) :
  ee C.P (execOp ρ o) M (ng C.P K Kp) (fun v M' => Kp [{ v, recovered := false }] M') := by
 unfold tV at h
 split at h
 ·obtain ⟨v, hv, hk⟩ := h; exact gJ C.P _ (hv M) hk
 ·obtain ⟨v, hv, hk⟩ := h; exact gJ C.P _ hv hk
 ·obtain ⟨ob, k, hn, h⟩ := h
  refine OA C.P _ hn fun b hb => ?_
  obtain ⟨v, hv, hk⟩ := h b hb
  exact gJ C.P _ (m8 C.P _ (fun b o hb => by simp [Mem.empty] at hb) hv) hk
 ·exact h
theorem ni {C : Ctx} {ρ : Operand → Value} {o : Oper} {M : Mem} {K K' : Value → Mem → Prop} {Kp : List PanicEntry → Mem → Prop} (h : tV C ρ o M K Kp)
  (hk : ∀ v M', K v M' → K' v M') : tV C ρ o M K' Kp := by
 unfold tV at h ⊢
 split at h
 ·obtain ⟨v, hv, h⟩ := h; exact ⟨v, hv, hk _ _ h⟩
 ·obtain ⟨v, hv, h⟩ := h; exact ⟨v, hv, hk _ _ h⟩
 ·obtain ⟨ob, k, hn, h⟩ := h
  exact ⟨ob, k, hn, fun b hb => let ⟨v, hv, h⟩ := h b hb; ⟨v, hv, hk _ _ h⟩⟩
 ·refine ir C.P _ h (fun n M' hn => ?_) (fun _ _ h => h)
  cases n <;> first | exact hn.elim | exact hk _ _ hn | exact aa.mono hn hk (fun _ _ h => h)
def bX (ops : Array Oper) (o : Oper) (env : Nat → Value) : Bool :=
 match o.guard with
 | none => true
 | some (j, want) => match (nh ops j).map env with
  | some (.bool b) => b == want
  | _ => false
def fh (C : Ctx) (ops : Array Oper) (o : Oper) (env : Nat → Value) (M : Mem) (K : (Nat → Value) → Mem → Prop) (Kp : List PanicEntry → Mem → Prop) : Prop :=
 if bX ops o env = true then tV C (pW env) o M (fun v M' => K (bz env o.dst v) M') Kp else K (bz env o.dst undef) M
theorem jF {C : Ctx} {ops : Array Oper} {o : Oper} {env : Nat → Value} {M : Mem} {K K' : (Nat → Value) → Mem → Prop} {Kp : List PanicEntry → Mem → Prop} (h : fh C ops o env M K Kp)
  (hk : ∀ v M', K v M' → K' v M') : fh C ops o env M K' Kp := by
 unfold fh at h ⊢
 split
 ·rename_i hw; rw [if_pos hw] at h; exact ni h fun v M' hv => hk _ _ hv
 ·rename_i hw; rw [if_neg hw] at h; exact hk _ _ h
theorem nj {env : Nat → Value} {s : Nat} {v : Value} (h : env s = v) : bz env (some s) v = env := by
 funext i; rw [iu]; split
 ·rename_i hi; rw [hi, h]
 ·rfl
theorem vA {ops : Array Oper} {o : Oper} {env : Nat → Value} (h : o.guard = none) : bX ops o env = true := by unfold bX; rw [h]
theorem Aj {ops : Array Oper} {o : Oper} {env : Nat → Value} {j : Nat} {w : Bool} (h : o.guard = some (j, w)) (hs : nh ops j = none) : bX ops o env = false := by
 unfold bX; rw [h]; simp only [hs]; rfl
theorem vB {ops : Array Oper} {o : Oper} {env : Nat → Value} {j s : Nat} {w e : Bool} (h : o.guard = some (j, w)) (hs : nh ops j = some s) (he : env s = .bool e) : bX ops o env = (e == w) := by
 unfold bX; rw [h]; simp only [hs, Option.map_some, he]
theorem tW {ops : Array Oper} {o : Oper} {env : Nat → Value} {j s : Nat} {w : Bool} (h : o.guard = some (j, w)) (hs : nh ops j = some s) (he : ∀ e, env s ≠ .bool e) : bX ops o env = false := by
 unfold bX; rw [h]; simp only [hs, Option.map_some]
 cases hx : env s <;> first | rfl | exact absurd hx (he _)
theorem iU {C : Ctx} {ops : Array Oper} {o : Oper} {env : Nat → Value} {M : Mem} {K : (Nat → Value) → Mem → Prop} {Kp : List PanicEntry → Mem → Prop} (hw : bX ops o env = true)
  (h : tV C (pW env) o M (fun v M' => K (bz env o.dst v) M') Kp) : fh C ops o env M K Kp := by unfold fh; rw [if_pos hw]; exact h
theorem mC {C : Ctx} {ops : Array Oper} {o : Oper} {env : Nat → Value} {M : Mem} {K : (Nat → Value) → Mem → Prop} {Kp : List PanicEntry → Mem → Prop} (hw : bX ops o env = false)
  (h : K (bz env o.dst undef) M) : fh C ops o env M K Kp := by unfold fh; rw [if_neg (by simp [hw])]; exact h
theorem iW {C : Ctx} (hC : C.Good) {ops : Array Oper} {o : Oper} {env : Nat → Value} {M : Mem} {K : (Nat → Value) → Mem → Prop} {Kp : List PanicEntry → Mem → Prop} (h : LW C ops o env M K Kp) :
  fh C ops o env M K Kp := by
 unfold LW at h
 cases hg : o.guard with
 | none => rw [hg] at h; exact iU (vA hg) (ug hC h)
 | some jw =>
  obtain ⟨j, want⟩ := jw
  rw [hg] at h
  simp only at h
  cases hs : nh ops j with
  | none => rw [hs] at h; exact mC (Aj hg hs) h
  | some s =>
   rw [hs] at h
   simp only at h
   cases he : env s <;> rw [he] at h <;> simp only at h
   case bool e =>
    have hw := vB hg hs he
    cases e
    ·rw [nj he] at h
     cases want <;> simp only [aS] at h
     ·exact iU hw (ug hC h)
     ·exact mC hw h
    ·rw [nj he] at h
     cases want <;> simp only [aS] at h
     ·exact mC hw h
     ·exact iU hw (ug hC h)
   all_goals exact mC (tW hg hs (by simp [he])) h
theorem rO {env : Nat → Value} {x y : Option Tmp} {v u : Value} (h : ∀ d, x = some d → y ≠ some d) : bz (bz env x v) y u = bz (bz env y u) x v := by
 cases x with
 | none => rfl
 | some d =>
  cases y with
  | none => rfl
  | some e =>
   have hne : d ≠ e := fun he => h d rfl (he ▸ rfl)
   funext i
   simp only [iu]
   by_cases h1 : i = d <;> by_cases h2 : i = e <;> simp_all
theorem Sh {env : Nat → Value} {dst : Option Tmp} {v : Value} {x : Operand} (h : ∀ d, dst = some d → x ≠ .tmp d) : pW (bz env dst v) x = pW env x := by
 cases dst with
 | none => rfl
 | some d =>
  cases x with
  | tmp t =>
   have : d ≠ t := fun e => h d rfl (e ▸ rfl)
   simp only [pW, iu]
   rw [if_neg (Ne.symm this)]
  | _ => rfl
theorem iJ {ops : Array Oper} (o : Oper) (hs : ∀ cs b, o.op ≠ .select cs b) (env : Nat → Value) (dst : Option Tmp) (v : Value) (h : ∀ d, dst = some d → d ∉ o.looksAt ops) :
  execOp (pW (bz env dst v)) o = execOp (pW env) o :=
 execOp_congr o hs fun x hx => Sh fun d hd hxd => h d hd (by
  subst hxd
  exact List.mem_append_left _ (List.mem_filterMap.2 ⟨.tmp d, by simpa using hx, rfl⟩))
theorem fq {ops : Array Oper} (o : Oper) (env : Nat → Value) (dst : Option Tmp) (v : Value) (h : ∀ d, dst = some d → d ∉ o.looksAt ops) :
  bX ops o (bz env dst v) = bX ops o env := by
 cases dst with
 | none => rfl
 | some d =>
  unfold bX
  cases hg : o.guard with
  | none => rfl
  | some gw =>
   obtain ⟨g, want⟩ := gw
   simp only
   cases ht : nh ops g with
   | none => rfl
   | some t =>
    have hne : t ≠ d := fun e => h d rfl (by
     subst e
     unfold nh at ht
     simp [Oper.looksAt, hg, ht])
    simp only [Option.map_some, iu, if_neg hne]
end Go.AF
