/- A part of proofs about one program. -/
import Derived.Test.YtnnlgknlialpmaaGreatZTraceSeenFrame
set_option linter.unusedVariables false
namespace Go.AF
def bt (env : Nat → Value) (dst : Option Tmp) (v : Value) : Nat → Value :=
 match dst with
 | some d => fun i => bif Nat.beq i d then v else env i
 | none => env
def eD (n : Nat) (env : Nat → Value) (tmps : Array Value) : Prop := tmps.size = n ∧ ∀ i, i < n → tmps[i]? = some (env i)
def nE (n : Nat) (o : Oper) : Bool :=
 (o.op.operands.toList.all fun x => match x with | .tmp t => decide (t < n) | _ => true) && (match o.dst with | some d => decide (d < n) | none => true) &&
 (match o.op with | .select .. => false | _ => true)
theorem g6 {env : Nat → Value} {d i : Nat} {v : Value} : bt env (some d) v i = if i = d then v else env i := by
 unfold bt
 by_cases h : i = d
 ·subst h; simp
 ·have : Nat.beq i d = false := by cases hb : Nat.beq i d with
   | false => rfl
   | true => exact absurd (Nat.eq_of_beq_eq_true hb) h
  simp [this, h]
theorem eD.put {n : Nat} {env : Nat → Value} {a : Act} (h : eD n env a.tmps) {dst : Option Tmp} (hd : ∀ d, dst = some d → d < n) (v : Value) :
  eD n (bt env dst v) (a.put dst v).tmps := by
 cases dst with
 | none => exact h
 | some d =>
  have hd := hd d rfl
  refine ⟨by simp [Act.put, h.1], fun i hi => ?_⟩
  rw [g6]
  by_cases he : i = d
  ·subst he
   simp [Act.put, h.1, hi]
  ·simp only [Act.put, he, if_false]
   rw [Array.getElem?_setIfInBounds_ne (Ne.symm he)]
   exact h.2 i hi
theorem gx {n : Nat} {o : Oper} (h : nE n o = true) : (∀ t, Operand.tmp t ∈ o.op.operands → t < n) ∧ (∀ d, o.dst = some d → d < n) ∧ (∀ cs b, o.op ≠ .select cs b) := by
 unfold nE at h
 simp only [Bool.and_eq_true, List.all_eq_true] at h
 refine ⟨fun t ht => ?_, fun d hd => ?_, fun cs b hs => ?_⟩
 ·have := h.1.1 (.tmp t) (by simpa using ht)
  simpa using this
 ·have := h.1.2; simp only [hd] at this; simpa using this
 ·have := h.2; simp [hs] at this
theorem eD.eval {n : Nat} {env : Nat → Value} {a : Act} (h : eD n env a.tmps) {x : Operand} (hx : ∀ t, x = .tmp t → t < n) : pe env x = a.eval x := by
 cases x with
 | tmp t =>
  have := h.2 t (hx t rfl)
  simp [pe, Act.eval, this]
 | _ => rfl
theorem eD.execOp {n : Nat} {env : Nat → Value} {a : Act} (h : eD n env a.tmps) {o : Oper} (hf : nE n o = true) : execOp (pe env) o = Go.execOp a.eval o := by
 obtain ⟨h1, h2, h3⟩ := gx hf
 exact execOp_congr o h3 fun x hx => h.eval fun t ht => h1 t (ht ▸ hx)
def mP (ops : Array Oper) (j : Nat) : Option Nat := (ops[j]?).bind (·.dst)
def JH (C : Ctx) (ops : Array Oper) (o : Oper) (env : Nat → Value) (M : Mem) (K : (Nat → Value) → Mem → Prop) (Kp : List PanicEntry → Mem → Prop) : Prop :=
 match o.guard with
 | none => Xs C (pe env) o M (fun v M' => K (bt env o.dst v) M') Kp
 | some (j, want) => match mP ops j with
  | some s => match env s with
   | .bool e => match want with
    | true => aP e (Xs C (pe (bt env (some s) (.bool true))) o M (fun v M' => K (bt (bt env (some s) (.bool true)) o.dst v) M') Kp) (K (bt (bt env (some s) (.bool false)) o.dst undef) M)
    | false => aP e (K (bt (bt env (some s) (.bool true)) o.dst undef) M) (Xs C (pe (bt env (some s) (.bool false))) o M (fun v M' => K (bt (bt env (some s) (.bool false)) o.dst v) M') Kp)
   | _ => K (bt env o.dst undef) M
  | none => K (bt env o.dst undef) M
def sQ (C : Ctx) (ρ : Operand → Value) (o : Oper) (M : Mem) (K : Value → Mem → Prop) (Kp : List PanicEntry → Mem → Prop) : Prop :=
 match cls C.P o with
 | .pure => ∃ v, (∀ M', bR C.P (execOp ρ o) M' = some (.value v)) ∧ K v M
 | .read => ∃ v, bR C.P (execOp ρ o) M = some (.value v) ∧ K v M
 | .new => ∃ (ob : Obj) (k : Nat → Sem Next), CM C.P (execOp ρ o) = some (ob, k) ∧ ∀ b, M b = none → ∃ v, bR C.P (k b) Mem.empty = some (.value v) ∧ K v (M.set b ob)
 | .JC => dV C.P (execOp ρ o) M (mO C.P K Kp) (fun v M' => Kp [{ v, recovered := false }] M')
theorem tf {C : Ctx} (hC : C.Good) {ρ : Operand → Value} {o : Oper} {M : Mem} {K : Value → Mem → Prop} {Kp : List PanicEntry → Mem → Prop} (h : Xs C ρ o M K Kp) : sQ C ρ o M K Kp := by
 unfold Xs at h
 unfold sQ
 cases hc : cls C.P o <;> rw [hc] at h <;> simp only at h ⊢
 ·exact Gk h
 ·split at h
  ·rename_i t a ho
   obtain ⟨v, hv, hk⟩ := yW h
   obtain ⟨dst, op, type, pos, after, guard⟩ := o
   simp only at ho; subst ho
   exact ⟨v, gr hv, hk⟩
  ·exact h.elim
 ·exact Im h
 ·exact JE hC h
theorem y5 {C : Ctx} {ρ : Operand → Value} {o : Oper} {M : Mem} {K : Value → Mem → Prop} {Kp : List PanicEntry → Mem → Prop} (h : sQ C ρ o M K Kp) :
  dV C.P (execOp ρ o) M (mO C.P K Kp) (fun v M' => Kp [{ v, recovered := false }] M') := by
 unfold sQ at h
 split at h
 ·obtain ⟨v, hv, hk⟩ := h; exact ie C.P _ (hv M) hk
 ·obtain ⟨v, hv, hk⟩ := h; exact ie C.P _ hv hk
 ·obtain ⟨ob, k, hn, h⟩ := h
  refine LU C.P _ hn fun b hb => ?_
  obtain ⟨v, hv, hk⟩ := h b hb
  exact ie C.P _ (mL C.P _ (fun b o hb => by simp [Mem.empty] at hb) hv) hk
 ·exact h
theorem mQ {C : Ctx} {ρ : Operand → Value} {o : Oper} {M : Mem} {K K' : Value → Mem → Prop} {Kp : List PanicEntry → Mem → Prop} (h : sQ C ρ o M K Kp)
  (hk : ∀ v M', K v M' → K' v M') : sQ C ρ o M K' Kp := by
 unfold sQ at h ⊢
 split at h
 ·obtain ⟨v, hv, h⟩ := h; exact ⟨v, hv, hk _ _ h⟩
 ·obtain ⟨v, hv, h⟩ := h; exact ⟨v, hv, hk _ _ h⟩
 ·obtain ⟨ob, k, hn, h⟩ := h
  exact ⟨ob, k, hn, fun b hb => let ⟨v, hv, h⟩ := h b hb; ⟨v, hv, hk _ _ h⟩⟩
 ·refine iN C.P _ h (fun n M' hn => ?_) (fun _ _ h => h)
  cases n <;> first | exact hn.elim | exact hk _ _ hn | exact aa.mono hn hk (fun _ _ h => h)
def bU (ops : Array Oper) (o : Oper) (env : Nat → Value) : Bool :=
 match o.guard with
 | none => true
 | some (j, want) => match (mP ops j).map env with
  | some (.bool b) => b == want
  | _ => false
def eO (C : Ctx) (ops : Array Oper) (o : Oper) (env : Nat → Value) (M : Mem) (K : (Nat → Value) → Mem → Prop) (Kp : List PanicEntry → Mem → Prop) : Prop :=
 if bU ops o env = true then sQ C (pe env) o M (fun v M' => K (bt env o.dst v) M') Kp else K (bt env o.dst undef) M
theorem jy {C : Ctx} {ops : Array Oper} {o : Oper} {env : Nat → Value} {M : Mem} {K K' : (Nat → Value) → Mem → Prop} {Kp : List PanicEntry → Mem → Prop} (h : eO C ops o env M K Kp)
  (hk : ∀ v M', K v M' → K' v M') : eO C ops o env M K' Kp := by
 unfold eO at h ⊢
 split
 ·rename_i hw; rw [if_pos hw] at h; exact mQ h fun v M' hv => hk _ _ hv
 ·rename_i hw; rw [if_neg hw] at h; exact hk _ _ h
theorem mR {env : Nat → Value} {s : Nat} {v : Value} (h : env s = v) : bt env (some s) v = env := by
 funext i; rw [g6]; split
 ·rename_i hi; rw [hi, h]
 ·rfl
theorem uh {ops : Array Oper} {o : Oper} {env : Nat → Value} (h : o.guard = none) : bU ops o env = true := by unfold bU; rw [h]
theorem y6 {ops : Array Oper} {o : Oper} {env : Nat → Value} {j : Nat} {w : Bool} (h : o.guard = some (j, w)) (hs : mP ops j = none) : bU ops o env = false := by
 unfold bU; rw [h]; simp only [hs]; rfl
theorem uj {ops : Array Oper} {o : Oper} {env : Nat → Value} {j s : Nat} {w e : Bool} (h : o.guard = some (j, w)) (hs : mP ops j = some s) (he : env s = .bool e) : bU ops o env = (e == w) := by
 unfold bU; rw [h]; simp only [hs, Option.map_some, he]
theorem sR {ops : Array Oper} {o : Oper} {env : Nat → Value} {j s : Nat} {w : Bool} (h : o.guard = some (j, w)) (hs : mP ops j = some s) (he : ∀ e, env s ≠ .bool e) : bU ops o env = false := by
 unfold bU; rw [h]; simp only [hs, Option.map_some]
 cases hx : env s <;> first | rfl | exact absurd hx (he _)
theorem iO {C : Ctx} {ops : Array Oper} {o : Oper} {env : Nat → Value} {M : Mem} {K : (Nat → Value) → Mem → Prop} {Kp : List PanicEntry → Mem → Prop} (hw : bU ops o env = true)
  (h : sQ C (pe env) o M (fun v M' => K (bt env o.dst v) M') Kp) : eO C ops o env M K Kp := by unfold eO; rw [if_pos hw]; exact h
theorem lV {C : Ctx} {ops : Array Oper} {o : Oper} {env : Nat → Value} {M : Mem} {K : (Nat → Value) → Mem → Prop} {Kp : List PanicEntry → Mem → Prop} (hw : bU ops o env = false)
  (h : K (bt env o.dst undef) M) : eO C ops o env M K Kp := by unfold eO; rw [if_neg (by simp [hw])]; exact h
theorem iP {C : Ctx} (hC : C.Good) {ops : Array Oper} {o : Oper} {env : Nat → Value} {M : Mem} {K : (Nat → Value) → Mem → Prop} {Kp : List PanicEntry → Mem → Prop} (h : JH C ops o env M K Kp) :
  eO C ops o env M K Kp := by
 unfold JH at h
 cases hg : o.guard with
 | none => rw [hg] at h; exact iO (uh hg) (tf hC h)
 | some jw =>
  obtain ⟨j, want⟩ := jw
  rw [hg] at h
  simp only at h
  cases hs : mP ops j with
  | none => rw [hs] at h; exact lV (y6 hg hs) h
  | some s =>
   rw [hs] at h
   simp only at h
   cases he : env s <;> rw [he] at h <;> simp only at h
   case bool e =>
    have hw := uj hg hs he
    cases e
    ·rw [mR he] at h
     cases want <;> simp only [aP] at h
     ·exact iO hw (tf hC h)
     ·exact lV hw h
    ·rw [mR he] at h
     cases want <;> simp only [aP] at h
     ·exact lV hw h
     ·exact iO hw (tf hC h)
   all_goals exact lV (sR hg hs (by simp [he])) h
theorem qL {env : Nat → Value} {x y : Option Tmp} {v u : Value} (h : ∀ d, x = some d → y ≠ some d) : bt (bt env x v) y u = bt (bt env y u) x v := by
 cases x with
 | none => rfl
 | some d =>
  cases y with
  | none => rfl
  | some e =>
   have hne : d ≠ e := fun he => h d rfl (he ▸ rfl)
   funext i
   simp only [g6]
   by_cases h1 : i = d <;> by_cases h2 : i = e <;> simp_all
theorem PK {env : Nat → Value} {dst : Option Tmp} {v : Value} {x : Operand} (h : ∀ d, dst = some d → x ≠ .tmp d) : pe (bt env dst v) x = pe env x := by
 cases dst with
 | none => rfl
 | some d =>
  cases x with
  | tmp t =>
   have : d ≠ t := fun e => h d rfl (e ▸ rfl)
   simp only [pe, g6]
   rw [if_neg (Ne.symm this)]
  | _ => rfl
theorem iB {ops : Array Oper} (o : Oper) (hs : ∀ cs b, o.op ≠ .select cs b) (env : Nat → Value) (dst : Option Tmp) (v : Value) (h : ∀ d, dst = some d → d ∉ o.looksAt ops) :
  execOp (pe (bt env dst v)) o = execOp (pe env) o :=
 execOp_congr o hs fun x hx => PK fun d hd hxd => h d hd (by
  subst hxd
  exact List.mem_append_left _ (List.mem_filterMap.2 ⟨.tmp d, by simpa using hx, rfl⟩))
theorem eU {ops : Array Oper} (o : Oper) (env : Nat → Value) (dst : Option Tmp) (v : Value) (h : ∀ d, dst = some d → d ∉ o.looksAt ops) :
  bU ops o (bt env dst v) = bU ops o env := by
 cases dst with
 | none => rfl
 | some d =>
  unfold bU
  cases hg : o.guard with
  | none => rfl
  | some gw =>
   obtain ⟨g, want⟩ := gw
   simp only
   cases ht : mP ops g with
   | none => rfl
   | some t =>
    have hne : t ≠ d := fun e => h d rfl (by
     subst e
     unfold mP at ht
     simp [Oper.looksAt, hg, ht])
    simp only [Option.map_some, g6, if_neg hne]
end Go.AF
