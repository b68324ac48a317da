/- A part of proofs about one program. -/
import Derived.Test.YtfjgcljdnhkmaaaZWorldSleepsFrame
set_option linter.unusedVariables false
namespace Go.AF
def aL (env : Nat → Value) (dst : Option Tmp) (v : Value) : Nat → Value :=
 match dst with
 | some d => fun i => bif Nat.beq i d then v else env i
 | none => env
def cO (n : Nat) (env : Nat → Value) (tmps : Array Value) : Prop := tmps.size = n ∧ ∀ i, i < n → tmps[i]? = some (env i)
def iQ (n : Nat) (o : Oper) : Bool :=
 (o.op.operands.toList.all fun x => match x with | .tmp t => decide (t < n) | _ => true) && (match o.dst with | some d => decide (d < n) | none => true) &&
 (match o.op with | .select .. => false | _ => true)
theorem fD {env : Nat → Value} {d i : Nat} {v : Value} : aL env (some d) v i = if i = d then v else env i := by
 unfold aL
 by_cases h : i = d
 ·subst h; simp
 ·have : Nat.beq i d = false := by cases hb : Nat.beq i d with
   | false => rfl
   | true => exact absurd (Nat.eq_of_beq_eq_true hb) h
  simp [this, h]
theorem cO.put {n : Nat} {env : Nat → Value} {a : Act} (h : cO n env a.tmps) {dst : Option Tmp} (hd : ∀ d, dst = some d → d < n) (v : Value) :
  cO n (aL env dst v) (a.put dst v).tmps := by
 cases dst with
 | none => exact h
 | some d =>
  have hd := hd d rfl
  refine ⟨by simp [Act.put, h.1], fun i hi => ?_⟩
  rw [fD]
  by_cases he : i = d
  ·subst he
   simp [Act.put, h.1, hi]
  ·simp only [Act.put, he, if_false]
   rw [Array.getElem?_setIfInBounds_ne (Ne.symm he)]
   exact h.2 i hi
theorem dH {n : Nat} {o : Oper} (h : iQ n o = true) : (∀ t, Operand.tmp t ∈ o.op.operands → t < n) ∧ (∀ d, o.dst = some d → d < n) ∧ (∀ cs b, o.op ≠ .select cs b) := by
 unfold iQ at h
 simp only [Bool.and_eq_true, List.all_eq_true] at h
 refine ⟨fun t ht => ?_, fun d hd => ?_, fun cs b hs => ?_⟩
 ·have := h.1.1 (.tmp t) (by simpa using ht)
  simpa using this
 ·have := h.1.2; simp only [hd] at this; simpa using this
 ·have := h.2; simp [hs] at this
theorem cO.eval {n : Nat} {env : Nat → Value} {a : Act} (h : cO n env a.tmps) {x : Operand} (hx : ∀ t, x = .tmp t → t < n) : jL env x = a.eval x := by
 cases x with
 | tmp t =>
  have := h.2 t (hx t rfl)
  simp [jL, Act.eval, this]
 | _ => rfl
theorem cO.execOp {n : Nat} {env : Nat → Value} {a : Act} (h : cO n env a.tmps) {o : Oper} (hf : iQ n o = true) : execOp (jL env) o = Go.execOp a.eval o := by
 obtain ⟨h1, h2, h3⟩ := dH hf
 exact execOp_congr o h3 fun x hx => h.eval fun t ht => h1 t (ht ▸ hx)
def ig (ops : Array Oper) (j : Nat) : Option Nat := (ops[j]?).bind (·.dst)
def zi (C : Ctx) (ops : Array Oper) (o : Oper) (env : Nat → Value) (M : Mem) (K : (Nat → Value) → Mem → Prop) (Kp : List PanicEntry → Mem → Prop) : Prop :=
 match o.guard with
 | none => GI C (jL env) o M (fun v M' => K (aL env o.dst v) M') Kp
 | some (j, want) => match ig ops j with
  | some s => match env s with
   | .bool e => match want with
    | true => aX e (GI C (jL (aL env (some s) (.bool true))) o M (fun v M' => K (aL (aL env (some s) (.bool true)) o.dst v) M') Kp) (K (aL (aL env (some s) (.bool false)) o.dst undef) M)
    | false => aX e (K (aL (aL env (some s) (.bool true)) o.dst undef) M) (GI C (jL (aL env (some s) (.bool false))) o M (fun v M' => K (aL (aL env (some s) (.bool false)) o.dst v) M') Kp)
   | _ => K (aL env o.dst undef) M
  | none => K (aL env o.dst undef) M
def lZ (C : Ctx) (ρ : Operand → Value) (o : Oper) (M : Mem) (K : Value → Mem → Prop) (Kp : List PanicEntry → Mem → Prop) : Prop :=
 match cls C.P o with
 | .pure => ∃ v, (∀ M', aV C.P (execOp ρ o) M' = some (.value v)) ∧ K v M
 | .read => ∃ v, aV C.P (execOp ρ o) M = some (.value v) ∧ K v M
 | .new => ∃ (ob : Obj) (k : Nat → Sem Next), tR C.P (execOp ρ o) = some (ob, k) ∧ ∀ b, M b = none → ∃ v, aV C.P (k b) Mem.empty = some (.value v) ∧ K v (M.set b ob)
 | .zd => cj C.P (execOp ρ o) M (hU C.P K Kp) (fun v M' => Kp [{ v, recovered := false }] M')
theorem mh {C : Ctx} (hC : C.Good) {ρ : Operand → Value} {o : Oper} {M : Mem} {K : Value → Mem → Prop} {Kp : List PanicEntry → Mem → Prop} (h : GI C ρ o M K Kp) : lZ C ρ o M K Kp := by
 unfold GI at h
 unfold lZ
 cases hc : cls C.P o <;> rw [hc] at h <;> simp only at h ⊢
 ·exact wV h
 ·split at h
  ·rename_i t a ho
   obtain ⟨v, hv, hk⟩ := qo h
   obtain ⟨dst, op, type, pos, after, guard⟩ := o
   simp only at ho; subst ho
   exact ⟨v, dD hv, hk⟩
  ·exact h.elim
 ·exact yl h
 ·exact zf hC h
theorem qw {C : Ctx} {ρ : Operand → Value} {o : Oper} {M : Mem} {K : Value → Mem → Prop} {Kp : List PanicEntry → Mem → Prop} (h : lZ C ρ o M K Kp) :
  cj C.P (execOp ρ o) M (hU C.P K Kp) (fun v M' => Kp [{ v, recovered := false }] M') := by
 unfold lZ at h
 split at h
 ·obtain ⟨v, hv, hk⟩ := h; exact ez C.P _ (hv M) hk
 ·obtain ⟨v, hv, hk⟩ := h; exact ez C.P _ hv hk
 ·obtain ⟨ob, k, hn, h⟩ := h
  refine AE C.P _ hn fun b hb => ?_
  obtain ⟨v, hv, hk⟩ := h b hb
  exact ez C.P _ (jP C.P _ (fun b o hb => by simp [Mem.empty] at hb) hv) hk
 ·exact h
theorem ij {C : Ctx} {ρ : Operand → Value} {o : Oper} {M : Mem} {K K' : Value → Mem → Prop} {Kp : List PanicEntry → Mem → Prop} (h : lZ C ρ o M K Kp)
  (hk : ∀ v M', K v M' → K' v M') : lZ C ρ o M K' Kp := by
 unfold lZ at h ⊢
 split at h
 ·obtain ⟨v, hv, h⟩ := h; exact ⟨v, hv, hk _ _ h⟩
 ·obtain ⟨v, hv, h⟩ := h; exact ⟨v, hv, hk _ _ h⟩
 ·obtain ⟨ob, k, hn, h⟩ := h
  exact ⟨ob, k, hn, fun b hb => let ⟨v, hv, h⟩ := h b hb; ⟨v, hv, hk _ _ h⟩⟩
 ·refine eP C.P _ h (fun n M' hn => ?_) (fun _ _ h => h)
  cases n <;> first | exact hn.elim | exact hk _ _ hn | exact ae.mono hn hk (fun _ _ h => h)
def aZ (ops : Array Oper) (o : Oper) (env : Nat → Value) : Bool :=
 match o.guard with
 | none => true
 | some (j, want) => match (ig ops j).map env with
  | some (.bool b) => b == want
  | _ => false
def cK (C : Ctx) (ops : Array Oper) (o : Oper) (env : Nat → Value) (M : Mem) (K : (Nat → Value) → Mem → Prop) (Kp : List PanicEntry → Mem → Prop) : Prop :=
 if aZ ops o env = true then lZ C (jL env) o M (fun v M' => K (aL env o.dst v) M') Kp else K (aL env o.dst undef) M
theorem fy {C : Ctx} {ops : Array Oper} {o : Oper} {env : Nat → Value} {M : Mem} {K K' : (Nat → Value) → Mem → Prop} {Kp : List PanicEntry → Mem → Prop} (h : cK C ops o env M K Kp)
  (hk : ∀ v M', K v M' → K' v M') : cK C ops o env M K' Kp := by
 unfold cK at h ⊢
 split
 ·rename_i hw; rw [if_pos hw] at h; exact ij h fun v M' hv => hk _ _ hv
 ·rename_i hw; rw [if_neg hw] at h; exact hk _ _ h
theorem ik {env : Nat → Value} {s : Nat} {v : Value} (h : env s = v) : aL env (some s) v = env := by
 funext i; rw [fD]; split
 ·rename_i hi; rw [hi, h]
 ·rfl
theorem nh {ops : Array Oper} {o : Oper} {env : Nat → Value} (h : o.guard = none) : aZ ops o env = true := by unfold aZ; rw [h]
theorem qx {ops : Array Oper} {o : Oper} {env : Nat → Value} {j : Nat} {w : Bool} (h : o.guard = some (j, w)) (hs : ig ops j = none) : aZ ops o env = false := by
 unfold aZ; rw [h]; simp only [hs]; rfl
theorem ni {ops : Array Oper} {o : Oper} {env : Nat → Value} {j s : Nat} {w e : Bool} (h : o.guard = some (j, w)) (hs : ig ops j = some s) (he : env s = .bool e) : aZ ops o env = (e == w) := by
 unfold aZ; rw [h]; simp only [hs, Option.map_some, he]
theorem l5 {ops : Array Oper} {o : Oper} {env : Nat → Value} {j s : Nat} {w : Bool} (h : o.guard = some (j, w)) (hs : ig ops j = some s) (he : ∀ e, env s ≠ .bool e) : aZ ops o env = false := by
 unfold aZ; rw [h]; simp only [hs, Option.map_some]
 cases hx : env s <;> first | rfl | exact absurd hx (he _)
theorem eR {C : Ctx} {ops : Array Oper} {o : Oper} {env : Nat → Value} {M : Mem} {K : (Nat → Value) → Mem → Prop} {Kp : List PanicEntry → Mem → Prop} (hw : aZ ops o env = true)
  (h : lZ C (jL env) o M (fun v M' => K (aL env o.dst v) M') Kp) : cK C ops o env M K Kp := by unfold cK; rw [if_pos hw]; exact h
theorem gL {C : Ctx} {ops : Array Oper} {o : Oper} {env : Nat → Value} {M : Mem} {K : (Nat → Value) → Mem → Prop} {Kp : List PanicEntry → Mem → Prop} (hw : aZ ops o env = false)
  (h : K (aL env o.dst undef) M) : cK C ops o env M K Kp := by unfold cK; rw [if_neg (by simp [hw])]; exact h
theorem eT {C : Ctx} (hC : C.Good) {ops : Array Oper} {o : Oper} {env : Nat → Value} {M : Mem} {K : (Nat → Value) → Mem → Prop} {Kp : List PanicEntry → Mem → Prop} (h : zi C ops o env M K Kp) :
  cK C ops o env M K Kp := by
 unfold zi at h
 cases hg : o.guard with
 | none => rw [hg] at h; exact eR (nh hg) (mh hC h)
 | some jw =>
  obtain ⟨j, want⟩ := jw
  rw [hg] at h
  simp only at h
  cases hs : ig ops j with
  | none => rw [hs] at h; exact gL (qx hg hs) h
  | some s =>
   rw [hs] at h
   simp only at h
   cases he : env s <;> rw [he] at h <;> simp only at h
   case bool e =>
    have hw := ni hg hs he
    cases e
    ·rw [ik he] at h
     cases want <;> simp only [aX] at h
     ·exact eR hw (mh hC h)
     ·exact gL hw h
    ·rw [ik he] at h
     cases want <;> simp only [aX] at h
     ·exact gL hw h
     ·exact eR hw (mh hC h)
   all_goals exact gL (l5 hg hs (by simp [he])) h
theorem kS {env : Nat → Value} {x y : Option Tmp} {v u : Value} (h : ∀ d, x = some d → y ≠ some d) : aL (aL env x v) y u = aL (aL env y u) x v := by
 cases x with
 | none => rfl
 | some d =>
  cases y with
  | none => rfl
  | some e =>
   have hne : d ≠ e := fun he => h d rfl (he ▸ rfl)
   funext i
   simp only [fD]
   by_cases h1 : i = d <;> by_cases h2 : i = e <;> simp_all
theorem CI {env : Nat → Value} {dst : Option Tmp} {v : Value} {x : Operand} (h : ∀ d, dst = some d → x ≠ .tmp d) : jL (aL env dst v) x = jL env x := by
 cases dst with
 | none => rfl
 | some d =>
  cases x with
  | tmp t =>
   have : d ≠ t := fun e => h d rfl (e ▸ rfl)
   simp only [jL, fD]
   rw [if_neg (Ne.symm this)]
  | _ => rfl
theorem eG {ops : Array Oper} (o : Oper) (hs : ∀ cs b, o.op ≠ .select cs b) (env : Nat → Value) (dst : Option Tmp) (v : Value) (h : ∀ d, dst = some d → d ∉ o.looksAt ops) :
  execOp (jL (aL env dst v)) o = execOp (jL env) o :=
 execOp_congr o hs fun x hx => CI fun d hd NK => h d hd (by
  subst NK
  exact List.mem_append_left _ (List.mem_filterMap.2 ⟨.tmp d, by simpa using hx, rfl⟩))
theorem cP {ops : Array Oper} (o : Oper) (env : Nat → Value) (dst : Option Tmp) (v : Value) (h : ∀ d, dst = some d → d ∉ o.looksAt ops) :
  aZ ops o (aL env dst v) = aZ ops o env := by
 cases dst with
 | none => rfl
 | some d =>
  unfold aZ
  cases hg : o.guard with
  | none => rfl
  | some gw =>
   obtain ⟨g, want⟩ := gw
   simp only
   cases ht : ig ops g with
   | none => rfl
   | some t =>
    have hne : t ≠ d := fun e => h d rfl (by
     subst e
     unfold ig at ht
     simp [Oper.looksAt, hg, ht])
    simp only [Option.map_some, fD, if_neg hne]
end Go.AF
