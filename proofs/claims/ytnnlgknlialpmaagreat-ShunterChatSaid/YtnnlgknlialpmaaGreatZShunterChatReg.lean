/- A part of proofs about one program. -/
import Derived.Test.YtnnlgknlialpmaaGreatZShunterChatFrame
set_option linter.unusedVariables false
namespace Go.AF
def aY (env : Nat → Value) (dst : Option Tmp) (v : Value) : Nat → Value :=
 match dst with
 | some d => fun i => bif Nat.beq i d then v else env i
 | none => env
def dG (n : Nat) (env : Nat → Value) (tmps : Array Value) : Prop := tmps.size = n ∧ ∀ i, i < n → tmps[i]? = some (env i)
def mD (n : Nat) (o : Oper) : Bool :=
 (o.op.operands.toList.all fun x => match x with | .tmp t => decide (t < n) | _ => true) && (match o.dst with | some d => decide (d < n) | none => true) &&
 (match o.op with | .select .. => false | _ => true)
theorem gy {env : Nat → Value} {d i : Nat} {v : Value} : aY env (some d) v i = if i = d then v else env i := by
 unfold aY
 by_cases h : i = d
 ·subst h; simp
 ·have : Nat.beq i d = false := by cases hb : Nat.beq i d with
   | false => rfl
   | true => exact absurd (Nat.eq_of_beq_eq_true hb) h
  simp [this, h]
theorem dG.put {n : Nat} {env : Nat → Value} {a : Act} (h : dG n env a.tmps) {dst : Option Tmp} (hd : ∀ d, dst = some d → d < n) (v : Value) :
  dG n (aY env dst v) (a.put dst v).tmps := by
 cases dst with
 | none => exact h
 | some d =>
  have hd := hd d rfl
  refine ⟨by simp [Act.put, h.1], fun i hi => ?_⟩
  rw [gy]
  by_cases he : i = d
  ·subst he
   simp [Act.put, h.1, hi]
  ·simp only [Act.put, he, if_false]
   rw [Array.getElem?_setIfInBounds_ne (Ne.symm he)]
   exact h.2 i hi
theorem fR {n : Nat} {o : Oper} (h : mD n o = true) : (∀ t, Operand.tmp t ∈ o.op.operands → t < n) ∧ (∀ d, o.dst = some d → d < n) ∧ (∀ cs b, o.op ≠ .select cs b) := by
 unfold mD at h
 simp only [Bool.and_eq_true, List.all_eq_true] at h
 refine ⟨fun t ht => ?_, fun d hd => ?_, fun cs b hs => ?_⟩
 ·have := h.1.1 (.tmp t) (by simpa using ht)
  simpa using this
 ·have := h.1.2; simp only [hd] at this; simpa using this
 ·have := h.2; simp [hs] at this
theorem dG.eval {n : Nat} {env : Nat → Value} {a : Act} (h : dG n env a.tmps) {x : Operand} (hx : ∀ t, x = .tmp t → t < n) : nW env x = a.eval x := by
 cases x with
 | tmp t =>
  have := h.2 t (hx t rfl)
  simp [nW, Act.eval, this]
 | _ => rfl
theorem dG.execOp {n : Nat} {env : Nat → Value} {a : Act} (h : dG n env a.tmps) {o : Oper} (hf : mD n o = true) : execOp (nW env) o = Go.execOp a.eval o := by
 obtain ⟨h1, h2, h3⟩ := fR hf
 exact execOp_congr o h3 fun x hx => h.eval fun t ht => h1 t (ht ▸ hx)
def lF (ops : Array Oper) (j : Nat) : Option Nat := (ops[j]?).bind (·.dst)
def IM (C : Ctx) (ops : Array Oper) (o : Oper) (env : Nat → Value) (M : Mem) (K : (Nat → Value) → Mem → Prop) (Kp : List PanicEntry → Mem → Prop) : Prop :=
 match o.guard with
 | none => VQ C (nW env) o M (fun v M' => K (aY env o.dst v) M') Kp
 | some (j, want) => match lF ops j with
  | some s => match env s with
   | .bool e => match want with
    | true => aM e (VQ C (nW (aY env (some s) (.bool true))) o M (fun v M' => K (aY (aY env (some s) (.bool true)) o.dst v) M') Kp) (K (aY (aY env (some s) (.bool false)) o.dst undef) M)
    | false => aM e (K (aY (aY env (some s) (.bool true)) o.dst undef) M) (VQ C (nW (aY env (some s) (.bool false))) o M (fun v M' => K (aY (aY env (some s) (.bool false)) o.dst v) M') Kp)
   | _ => K (aY env o.dst undef) M
  | none => K (aY env o.dst undef) M
def qN (C : Ctx) (ρ : Operand → Value) (o : Oper) (M : Mem) (K : Value → Mem → Prop) (Kp : List PanicEntry → Mem → Prop) : Prop :=
 match cls C.P o with
 | .pure => ∃ v, (∀ M', bF C.P (execOp ρ o) M' = some (.value v)) ∧ K v M
 | .read => ∃ v, bF C.P (execOp ρ o) M = some (.value v) ∧ K v M
 | .new => ∃ (ob : Obj) (k : Nat → Sem Next), BH C.P (execOp ρ o) = some (ob, k) ∧ ∀ b, M b = none → ∃ v, bF C.P (k b) Mem.empty = some (.value v) ∧ K v (M.set b ob)
 | .IG => da C.P (execOp ρ o) M (lE C.P K Kp) (fun v M' => Kp [{ v, recovered := false }] M')
theorem ri {C : Ctx} (hC : C.Good) {ρ : Operand → Value} {o : Oper} {M : Mem} {K : Value → Mem → Prop} {Kp : List PanicEntry → Mem → Prop} (h : VQ C ρ o M K Kp) : qN C ρ o M K Kp := by
 unfold VQ at h
 unfold qN
 cases hc : cls C.P o <;> rw [hc] at h <;> simp only at h ⊢
 ·exact Fe h
 ·split at h
  ·rename_i t a ho
   obtain ⟨v, hv, hk⟩ := xl h
   obtain ⟨dst, op, type, pos, after, guard⟩ := o
   simp only at ho; subst ho
   exact ⟨v, fO hv, hk⟩
  ·exact h.elim
 ·exact G6 h
 ·exact IJ hC h
theorem xu {C : Ctx} {ρ : Operand → Value} {o : Oper} {M : Mem} {K : Value → Mem → Prop} {Kp : List PanicEntry → Mem → Prop} (h : qN C ρ o M K Kp) :
  da C.P (execOp ρ o) M (lE C.P K Kp) (fun v M' => Kp [{ v, recovered := false }] M') := by
 unfold qN at h
 split at h
 ·obtain ⟨v, hv, hk⟩ := h; exact fN C.P _ (hv M) hk
 ·obtain ⟨v, hv, hk⟩ := h; exact fN C.P _ hv hk
 ·obtain ⟨ob, k, hn, h⟩ := h
  refine KY C.P _ hn fun b hb => ?_
  obtain ⟨v, hv, hk⟩ := h b hb
  exact fN C.P _ (lB C.P _ (fun b o hb => by simp [Mem.empty] at hb) hv) hk
 ·exact h
theorem lG {C : Ctx} {ρ : Operand → Value} {o : Oper} {M : Mem} {K K' : Value → Mem → Prop} {Kp : List PanicEntry → Mem → Prop} (h : qN C ρ o M K Kp)
  (hk : ∀ v M', K v M' → K' v M') : qN C ρ o M K' Kp := by
 unfold qN at h ⊢
 split at h
 ·obtain ⟨v, hv, h⟩ := h; exact ⟨v, hv, hk _ _ h⟩
 ·obtain ⟨v, hv, h⟩ := h; exact ⟨v, hv, hk _ _ h⟩
 ·obtain ⟨ob, k, hn, h⟩ := h
  exact ⟨ob, k, hn, fun b hb => let ⟨v, hv, h⟩ := h b hb; ⟨v, hv, hk _ _ h⟩⟩
 ·refine gZ C.P _ h (fun n M' hn => ?_) (fun _ _ h => h)
  cases n <;> first | exact hn.elim | exact hk _ _ hn | exact aa.mono hn hk (fun _ _ h => h)
def bK (ops : Array Oper) (o : Oper) (env : Nat → Value) : Bool :=
 match o.guard with
 | none => true
 | some (j, want) => match (lF ops j).map env with
  | some (.bool b) => b == want
  | _ => false
def dO (C : Ctx) (ops : Array Oper) (o : Oper) (env : Nat → Value) (M : Mem) (K : (Nat → Value) → Mem → Prop) (Kp : List PanicEntry → Mem → Prop) : Prop :=
 if bK ops o env = true then qN C (nW env) o M (fun v M' => K (aY env o.dst v) M') Kp else K (aY env o.dst undef) M
theorem iJ {C : Ctx} {ops : Array Oper} {o : Oper} {env : Nat → Value} {M : Mem} {K K' : (Nat → Value) → Mem → Prop} {Kp : List PanicEntry → Mem → Prop} (h : dO C ops o env M K Kp)
  (hk : ∀ v M', K v M' → K' v M') : dO C ops o env M K' Kp := by
 unfold dO at h ⊢
 split
 ·rename_i hw; rw [if_pos hw] at h; exact lG h fun v M' hv => hk _ _ hv
 ·rename_i hw; rw [if_neg hw] at h; exact hk _ _ h
theorem lH {env : Nat → Value} {s : Nat} {v : Value} (h : env s = v) : aY env (some s) v = env := by
 funext i; rw [gy]; split
 ·rename_i hi; rw [hi, h]
 ·rfl
theorem sI {ops : Array Oper} {o : Oper} {env : Nat → Value} (h : o.guard = none) : bK ops o env = true := by unfold bK; rw [h]
theorem xw {ops : Array Oper} {o : Oper} {env : Nat → Value} {j : Nat} {w : Bool} (h : o.guard = some (j, w)) (hs : lF ops j = none) : bK ops o env = false := by
 unfold bK; rw [h]; simp only [hs]; rfl
theorem sJ {ops : Array Oper} {o : Oper} {env : Nat → Value} {j s : Nat} {w e : Bool} (h : o.guard = some (j, w)) (hs : lF ops j = some s) (he : env s = .bool e) : bK ops o env = (e == w) := by
 unfold bK; rw [h]; simp only [hs, Option.map_some, he]
theorem qO {ops : Array Oper} {o : Oper} {env : Nat → Value} {j s : Nat} {w : Bool} (h : o.guard = some (j, w)) (hs : lF ops j = some s) (he : ∀ e, env s ≠ .bool e) : bK ops o env = false := by
 unfold bK; rw [h]; simp only [hs, Option.map_some]
 cases hx : env s <;> first | rfl | exact absurd hx (he _)
theorem g7 {C : Ctx} {ops : Array Oper} {o : Oper} {env : Nat → Value} {M : Mem} {K : (Nat → Value) → Mem → Prop} {Kp : List PanicEntry → Mem → Prop} (hw : bK ops o env = true)
  (h : qN C (nW env) o M (fun v M' => K (aY env o.dst v) M') Kp) : dO C ops o env M K Kp := by unfold dO; rw [if_pos hw]; exact h
theorem kB {C : Ctx} {ops : Array Oper} {o : Oper} {env : Nat → Value} {M : Mem} {K : (Nat → Value) → Mem → Prop} {Kp : List PanicEntry → Mem → Prop} (hw : bK ops o env = false)
  (h : K (aY env o.dst undef) M) : dO C ops o env M K Kp := by unfold dO; rw [if_neg (by simp [hw])]; exact h
theorem g8 {C : Ctx} (hC : C.Good) {ops : Array Oper} {o : Oper} {env : Nat → Value} {M : Mem} {K : (Nat → Value) → Mem → Prop} {Kp : List PanicEntry → Mem → Prop} (h : IM C ops o env M K Kp) :
  dO C ops o env M K Kp := by
 unfold IM at h
 cases hg : o.guard with
 | none => rw [hg] at h; exact g7 (sI hg) (ri hC h)
 | some jw =>
  obtain ⟨j, want⟩ := jw
  rw [hg] at h
  simp only at h
  cases hs : lF ops j with
  | none => rw [hs] at h; exact kB (xw hg hs) h
  | some s =>
   rw [hs] at h
   simp only at h
   cases he : env s <;> rw [he] at h <;> simp only at h
   case bool e =>
    have hw := sJ hg hs he
    cases e
    ·rw [lH he] at h
     cases want <;> simp only [aM] at h
     ·exact g7 hw (ri hC h)
     ·exact kB hw h
    ·rw [lH he] at h
     cases want <;> simp only [aM] at h
     ·exact kB hw h
     ·exact g7 hw (ri hC h)
   all_goals exact kB (qO hg hs (by simp [he])) h
theorem pK {env : Nat → Value} {x y : Option Tmp} {v u : Value} (h : ∀ d, x = some d → y ≠ some d) : aY (aY env x v) y u = aY (aY env y u) x v := by
 cases x with
 | none => rfl
 | some d =>
  cases y with
  | none => rfl
  | some e =>
   have hne : d ≠ e := fun he => h d rfl (he ▸ rfl)
   funext i
   simp only [gy]
   by_cases h1 : i = d <;> by_cases h2 : i = e <;> simp_all
theorem OO {env : Nat → Value} {dst : Option Tmp} {v : Value} {x : Operand} (h : ∀ d, dst = some d → x ≠ .tmp d) : nW (aY env dst v) x = nW env x := by
 cases dst with
 | none => rfl
 | some d =>
  cases x with
  | tmp t =>
   have : d ≠ t := fun e => h d rfl (e ▸ rfl)
   simp only [nW, gy]
   rw [if_neg (Ne.symm this)]
  | _ => rfl
theorem gP {ops : Array Oper} (o : Oper) (hs : ∀ cs b, o.op ≠ .select cs b) (env : Nat → Value) (dst : Option Tmp) (v : Value) (h : ∀ d, dst = some d → d ∉ o.looksAt ops) :
  execOp (nW (aY env dst v)) o = execOp (nW env) o :=
 execOp_congr o hs fun x hx => OO fun d hd hxd => h d hd (by
  subst hxd
  exact List.mem_append_left _ (List.mem_filterMap.2 ⟨.tmp d, by simpa using hx, rfl⟩))
theorem dS {ops : Array Oper} (o : Oper) (env : Nat → Value) (dst : Option Tmp) (v : Value) (h : ∀ d, dst = some d → d ∉ o.looksAt ops) :
  bK ops o (aY env dst v) = bK ops o env := by
 cases dst with
 | none => rfl
 | some d =>
  unfold bK
  cases hg : o.guard with
  | none => rfl
  | some gw =>
   obtain ⟨g, want⟩ := gw
   simp only
   cases ht : lF ops g with
   | none => rfl
   | some t =>
    have hne : t ≠ d := fun e => h d rfl (by
     subst e
     unfold lF at ht
     simp [Oper.looksAt, hg, ht])
    simp only [Option.map_some, gy, if_neg hne]
end Go.AF
