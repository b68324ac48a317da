/- A part of proofs about one program. -/
import Derived.Test.YtnnlgknlialpmaaGreatZReplayToldFrame
set_option linter.unusedVariables false
namespace Go.AF
def aT (env : Nat → Value) (dst : Option Tmp) (v : Value) : Nat → Value :=
 match dst with
 | some d => fun i => bif Nat.beq i d then v else env i
 | none => env
def cS (n : Nat) (env : Nat → Value) (tmps : Array Value) : Prop := tmps.size = n ∧ ∀ i, i < n → tmps[i]? = some (env i)
def j5 (n : Nat) (o : Oper) : Bool :=
 (o.op.operands.toList.all fun x => match x with | .tmp t => decide (t < n) | _ => true) && (match o.dst with | some d => decide (d < n) | none => true) &&
 (match o.op with | .select .. => false | _ => true)
theorem fm {env : Nat → Value} {d i : Nat} {v : Value} : aT env (some d) v i = if i = d then v else env i := by
 unfold aT
 by_cases h : i = d
 ·subst h; simp
 ·have : Nat.beq i d = false := by cases hb : Nat.beq i d with
   | false => rfl
   | true => exact absurd (Nat.eq_of_beq_eq_true hb) h
  simp [this, h]
theorem cS.put {n : Nat} {env : Nat → Value} {a : Act} (h : cS n env a.tmps) {dst : Option Tmp} (hd : ∀ d, dst = some d → d < n) (v : Value) :
  cS n (aT env dst v) (a.put dst v).tmps := by
 cases dst with
 | none => exact h
 | some d =>
  have hd := hd d rfl
  refine ⟨by simp [Act.put, h.1], fun i hi => ?_⟩
  rw [fm]
  by_cases he : i = d
  ·subst he
   simp [Act.put, h.1, hi]
  ·simp only [Act.put, he, if_false]
   rw [Array.getElem?_setIfInBounds_ne (Ne.symm he)]
   exact h.2 i hi
theorem eM {n : Nat} {o : Oper} (h : j5 n o = true) : (∀ t, Operand.tmp t ∈ o.op.operands → t < n) ∧ (∀ d, o.dst = some d → d < n) ∧ (∀ cs b, o.op ≠ .select cs b) := by
 unfold j5 at h
 simp only [Bool.and_eq_true, List.all_eq_true] at h
 refine ⟨fun t ht => ?_, fun d hd => ?_, fun cs b hs => ?_⟩
 ·have := h.1.1 (.tmp t) (by simpa using ht)
  simpa using this
 ·have := h.1.2; simp only [hd] at this; simpa using this
 ·have := h.2; simp [hs] at this
theorem cS.eval {n : Nat} {env : Nat → Value} {a : Act} (h : cS n env a.tmps) {x : Operand} (hx : ∀ t, x = .tmp t → t < n) : lE env x = a.eval x := by
 cases x with
 | tmp t =>
  have := h.2 t (hx t rfl)
  simp [lE, Act.eval, this]
 | _ => rfl
theorem cS.execOp {n : Nat} {env : Nat → Value} {a : Act} (h : cS n env a.tmps) {o : Oper} (hf : j5 n o = true) : execOp (lE env) o = Go.execOp a.eval o := by
 obtain ⟨h1, h2, h3⟩ := eM hf
 exact execOp_congr o h3 fun x hx => h.eval fun t ht => h1 t (ht ▸ hx)
def jF (ops : Array Oper) (j : Nat) : Option Nat := (ops[j]?).bind (·.dst)
def EE (C : Ctx) (ops : Array Oper) (o : Oper) (env : Nat → Value) (M : Mem) (K : (Nat → Value) → Mem → Prop) (Kp : List PanicEntry → Mem → Prop) : Prop :=
 match o.guard with
 | none => PX C (lE env) o M (fun v M' => K (aT env o.dst v) M') Kp
 | some (j, want) => match jF ops j with
  | some s => match env s with
   | .bool e => match want with
    | true => aK e (PX C (lE (aT env (some s) (.bool true))) o M (fun v M' => K (aT (aT env (some s) (.bool true)) o.dst v) M') Kp) (K (aT (aT env (some s) (.bool false)) o.dst undef) M)
    | false => aK e (K (aT (aT env (some s) (.bool true)) o.dst undef) M) (PX C (lE (aT env (some s) (.bool false))) o M (fun v M' => K (aT (aT env (some s) (.bool false)) o.dst v) M') Kp)
   | _ => K (aT env o.dst undef) M
  | none => K (aT env o.dst undef) M
def oe (C : Ctx) (ρ : Operand → Value) (o : Oper) (M : Mem) (K : Value → Mem → Prop) (Kp : List PanicEntry → Mem → Prop) : Prop :=
 match cls C.P o with
 | .pure => ∃ v, (∀ M', br C.P (execOp ρ o) M' = some (.value v)) ∧ K v M
 | .read => ∃ v, br C.P (execOp ρ o) M = some (.value v) ∧ K v M
 | .new => ∃ (ob : Obj) (k : Nat → Sem Next), yz C.P (execOp ρ o) = some (ob, k) ∧ ∀ b, M b = none → ∃ v, br C.P (k b) Mem.empty = some (.value v) ∧ K v (M.set b ob)
 | .Ez => cO C.P (execOp ρ o) M (jE C.P K Kp) (fun v M' => Kp [{ v, recovered := false }] M')
theorem oD {C : Ctx} (hC : C.Good) {ρ : Operand → Value} {o : Oper} {M : Mem} {K : Value → Mem → Prop} {Kp : List PanicEntry → Mem → Prop} (h : PX C ρ o M K Kp) : oe C ρ o M K Kp := by
 unfold PX at h
 unfold oe
 cases hc : cls C.P o <;> rw [hc] at h <;> simp only at h ⊢
 ·exact Cg h
 ·split at h
  ·rename_i t a ho
   obtain ⟨v, hv, hk⟩ := uq h
   obtain ⟨dst, op, type, pos, after, guard⟩ := o
   simp only at ho; subst ho
   exact ⟨v, eJ hv, hk⟩
  ·exact h.elim
 ·exact DJ h
 ·exact EB hC h
theorem uy {C : Ctx} {ρ : Operand → Value} {o : Oper} {M : Mem} {K : Value → Mem → Prop} {Kp : List PanicEntry → Mem → Prop} (h : oe C ρ o M K Kp) :
  cO C.P (execOp ρ o) M (jE C.P K Kp) (fun v M' => Kp [{ v, recovered := false }] M') := by
 unfold oe at h
 split at h
 ·obtain ⟨v, hv, hk⟩ := h; exact fz C.P _ (hv M) hk
 ·obtain ⟨v, hv, hk⟩ := h; exact fz C.P _ hv hk
 ·obtain ⟨ob, k, hn, h⟩ := h
  refine GD C.P _ hn fun b hb => ?_
  obtain ⟨v, hv, hk⟩ := h b hb
  exact fz C.P _ (jC C.P _ (fun b o hb => by simp [Mem.empty] at hb) hv) hk
 ·exact h
theorem jG {C : Ctx} {ρ : Operand → Value} {o : Oper} {M : Mem} {K K' : Value → Mem → Prop} {Kp : List PanicEntry → Mem → Prop} (h : oe C ρ o M K Kp)
  (hk : ∀ v M', K v M' → K' v M') : oe C ρ o M K' Kp := by
 unfold oe at h ⊢
 split at h
 ·obtain ⟨v, hv, h⟩ := h; exact ⟨v, hv, hk _ _ h⟩
 ·obtain ⟨v, hv, h⟩ := h; exact ⟨v, hv, hk _ _ h⟩
 ·obtain ⟨ob, k, hn, h⟩ := h
  exact ⟨ob, k, hn, fun b hb => let ⟨v, hv, h⟩ := h b hb; ⟨v, hv, hk _ _ h⟩⟩
 ·refine fN C.P _ h (fun n M' hn => ?_) (fun _ _ h => h)
  cases n <;> first | exact hn.elim | exact hk _ _ hn | exact aa.mono hn hk (fun _ _ h => h)
def bx (ops : Array Oper) (o : Oper) (env : Nat → Value) : Bool :=
 match o.guard with
 | none => true
 | some (j, want) => match (jF ops j).map env with
  | some (.bool b) => b == want
  | _ => false
def cZ (C : Ctx) (ops : Array Oper) (o : Oper) (env : Nat → Value) (M : Mem) (K : (Nat → Value) → Mem → Prop) (Kp : List PanicEntry → Mem → Prop) : Prop :=
 if bx ops o env = true then oe C (lE env) o M (fun v M' => K (aT env o.dst v) M') Kp else K (aT env o.dst undef) M
theorem gv {C : Ctx} {ops : Array Oper} {o : Oper} {env : Nat → Value} {M : Mem} {K K' : (Nat → Value) → Mem → Prop} {Kp : List PanicEntry → Mem → Prop} (h : cZ C ops o env M K Kp)
  (hk : ∀ v M', K v M' → K' v M') : cZ C ops o env M K' Kp := by
 unfold cZ at h ⊢
 split
 ·rename_i hw; rw [if_pos hw] at h; exact jG h fun v M' hv => hk _ _ hv
 ·rename_i hw; rw [if_neg hw] at h; exact hk _ _ h
theorem jH {env : Nat → Value} {s : Nat} {v : Value} (h : env s = v) : aT env (some s) v = env := by
 funext i; rw [fm]; split
 ·rename_i hi; rw [hi, h]
 ·rfl
theorem pN {ops : Array Oper} {o : Oper} {env : Nat → Value} (h : o.guard = none) : bx ops o env = true := by unfold bx; rw [h]
theorem uz {ops : Array Oper} {o : Oper} {env : Nat → Value} {j : Nat} {w : Bool} (h : o.guard = some (j, w)) (hs : jF ops j = none) : bx ops o env = false := by
 unfold bx; rw [h]; simp only [hs]; rfl
theorem pO {ops : Array Oper} {o : Oper} {env : Nat → Value} {j s : Nat} {w e : Bool} (h : o.guard = some (j, w)) (hs : jF ops j = some s) (he : env s = .bool e) : bx ops o env = (e == w) := by
 unfold bx; rw [h]; simp only [hs, Option.map_some, he]
theorem oh {ops : Array Oper} {o : Oper} {env : Nat → Value} {j s : Nat} {w : Bool} (h : o.guard = some (j, w)) (hs : jF ops j = some s) (he : ∀ e, env s ≠ .bool e) : bx ops o env = false := by
 unfold bx; rw [h]; simp only [hs, Option.map_some]
 cases hx : env s <;> first | rfl | exact absurd hx (he _)
theorem fO {C : Ctx} {ops : Array Oper} {o : Oper} {env : Nat → Value} {M : Mem} {K : (Nat → Value) → Mem → Prop} {Kp : List PanicEntry → Mem → Prop} (hw : bx ops o env = true)
  (h : oe C (lE env) o M (fun v M' => K (aT env o.dst v) M') Kp) : cZ C ops o env M K Kp := by unfold cZ; rw [if_pos hw]; exact h
theorem iZ {C : Ctx} {ops : Array Oper} {o : Oper} {env : Nat → Value} {M : Mem} {K : (Nat → Value) → Mem → Prop} {Kp : List PanicEntry → Mem → Prop} (hw : bx ops o env = false)
  (h : K (aT env o.dst undef) M) : cZ C ops o env M K Kp := by unfold cZ; rw [if_neg (by simp [hw])]; exact h
theorem fP {C : Ctx} (hC : C.Good) {ops : Array Oper} {o : Oper} {env : Nat → Value} {M : Mem} {K : (Nat → Value) → Mem → Prop} {Kp : List PanicEntry → Mem → Prop} (h : EE C ops o env M K Kp) :
  cZ C ops o env M K Kp := by
 unfold EE at h
 cases hg : o.guard with
 | none => rw [hg] at h; exact fO (pN hg) (oD hC h)
 | some jw =>
  obtain ⟨j, want⟩ := jw
  rw [hg] at h
  simp only at h
  cases hs : jF ops j with
  | none => rw [hs] at h; exact iZ (uz hg hs) h
  | some s =>
   rw [hs] at h
   simp only at h
   cases he : env s <;> rw [he] at h <;> simp only at h
   case bool e =>
    have hw := pO hg hs he
    cases e
    ·rw [jH he] at h
     cases want <;> simp only [aK] at h
     ·exact fO hw (oD hC h)
     ·exact iZ hw h
    ·rw [jH he] at h
     cases want <;> simp only [aK] at h
     ·exact iZ hw h
     ·exact fO hw (oD hC h)
   all_goals exact iZ (oh hg hs (by simp [he])) h
theorem mU {env : Nat → Value} {x y : Option Tmp} {v u : Value} (h : ∀ d, x = some d → y ≠ some d) : aT (aT env x v) y u = aT (aT env y u) x v := by
 cases x with
 | none => rfl
 | some d =>
  cases y with
  | none => rfl
  | some e =>
   have hne : d ≠ e := fun he => h d rfl (he ▸ rfl)
   funext i
   simp only [fm]
   by_cases h1 : i = d <;> by_cases h2 : i = e <;> simp_all
theorem JL {env : Nat → Value} {dst : Option Tmp} {v : Value} {x : Operand} (h : ∀ d, dst = some d → x ≠ .tmp d) : lE (aT env dst v) x = lE env x := by
 cases dst with
 | none => rfl
 | some d =>
  cases x with
  | tmp t =>
   have : d ≠ t := fun e => h d rfl (e ▸ rfl)
   simp only [lE, fm]
   rw [if_neg (Ne.symm this)]
  | _ => rfl
theorem fH {ops : Array Oper} (o : Oper) (hs : ∀ cs b, o.op ≠ .select cs b) (env : Nat → Value) (dst : Option Tmp) (v : Value) (h : ∀ d, dst = some d → d ∉ o.looksAt ops) :
  execOp (lE (aT env dst v)) o = execOp (lE env) o :=
 execOp_congr o hs fun x hx => JL fun d hd hxd => h d hd (by
  subst hxd
  exact List.mem_append_left _ (List.mem_filterMap.2 ⟨.tmp d, by simpa using hx, rfl⟩))
theorem c8 {ops : Array Oper} (o : Oper) (env : Nat → Value) (dst : Option Tmp) (v : Value) (h : ∀ d, dst = some d → d ∉ o.looksAt ops) :
  bx ops o (aT env dst v) = bx ops o env := by
 cases dst with
 | none => rfl
 | some d =>
  unfold bx
  cases hg : o.guard with
  | none => rfl
  | some gw =>
   obtain ⟨g, want⟩ := gw
   simp only
   cases ht : jF ops g with
   | none => rfl
   | some t =>
    have hne : t ≠ d := fun e => h d rfl (by
     subst e
     unfold jF at ht
     simp [Oper.looksAt, hg, ht])
    simp only [Option.map_some, fm, if_neg hne]
end Go.AF
