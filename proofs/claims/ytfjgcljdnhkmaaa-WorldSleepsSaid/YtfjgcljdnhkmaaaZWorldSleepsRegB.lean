/- A part of proofs about one program. -/
import Derived.Test.YtfjgcljdnhkmaaaZWorldSleepsReg
set_option linter.unusedVariables false
namespace Go.AF
def dc (ops : Array Oper) (L i : Nat) : Bool := match ops[i]? with
 | some o => !L.testBit i && o.after.all fun e => !Region.binds .any e || L.testBit e.on
 | none => false
def mj : JF → JF → Bool
 | .pure, _ => true
 | .read, .pure => true
 | .read, .read => true
 | .read, .new => true
 | .new, .pure => true
 | .new, .new => true
 | _, _ => false
def qy (P : Program) (ops : Array Oper) (cV : List Nat) (L i : Nat) : Bool := match ops[i]? with
 | some oi => (List.range ops.size).all fun j => Nat.beq j i || L.testBit j || (cV.getD j 0).testBit i || (match ops[j]? with
  | some oj => oi.apart ops oj && mj (cls P oi) (cls P oj)
  | none => true)
 | none => false
def tU (cV : List Nat) (s : Nat) (e : Edge) : Nat := if Region.binds .any e then s ||| 2 ^ e.on ||| cV.getD e.on 0 else s
def jr (ops : Array Oper) (cV : List Nat) : Bool := (List.range ops.size).all fun j => match ops[j]? with
 | some o => (o.after.toList.all fun e => !Region.binds .any e || decide (e.on < j)) && Nat.beq (cV.getD j 0) (o.after.toList.foldl (tU cV) 0)
 | none => true
def dy (C : Ctx) (ops : Array Oper) (Kp : List PanicEntry → Mem → Prop) (i : Nat) (env : Nat → Value) (M : Mem) (K : (Nat → Value) → Mem → Prop) : Prop := match ops[i]? with
 | some o => cK C ops o env M K Kp
 | none => K env M
def nj (M : Mem) : Prop := ∃ N, ∀ b, N ≤ b → M b = none
theorem nj.set {M : Mem} (h : nj M) (b : Nat) (o : Obj) : nj (M.set b o) := by
 obtain ⟨N, h⟩ := h
 exact ⟨max N (b + 1), fun i hi => by simp only [Mem.set]; rw [if_neg (by omega)]; exact h i (by omega)⟩
def b6 (C : Ctx) (ops : Array Oper) (S : Mem → Prop) (K : (Nat → Value) → Mem → Prop) (Kp : List PanicEntry → Mem → Prop) : Nat → Nat → (Nat → Value) → Mem → Prop
 | 0, L, env, M => nj M → (∀ i, dc ops L i = false) ∧ K env M
 | f + 1, L, env, M => nj M → ((∀ i, dc ops L i = false) → K env M) ∧ ∀ i, dc ops L i = true → dy C ops Kp i env M fun env' M' => S M' ∧ b6 C ops S K Kp f (L ||| 2 ^ i) env' M'
def o5 (S : Mem → Prop) : Prop := ∀ M M', Mem.le M M' → S M → S M'
theorem cD (L i j : Nat) : (L ||| 2 ^ i).testBit j = (L.testBit j || decide (i = j)) := by
 rw [Nat.testBit_or, Nat.testBit_two_pow]
theorem aU {ops : Array Oper} {L i : Nat} : dc ops L i = true ↔ L.testBit i = false ∧ ∃ o, ops[i]? = some o ∧ ∀ e ∈ o.after, Region.binds .any e = true → L.testBit e.on = true := by
 unfold dc
 cases ho : ops[i]? with
 | none => simp
 | some o =>
  simp only [Bool.and_eq_true, Bool.not_eq_true', Array.all_eq_true_iff_forall_mem, Bool.or_eq_true, Option.some.injEq, exists_eq_left']
  constructor
  ·rintro ⟨h0, h⟩
   exact ⟨h0, fun e he hb => (h e he).resolve_left (by simp [hb])⟩
  ·rintro ⟨h0, h⟩
   exact ⟨h0, fun e he => by cases hb : Region.binds .any e <;> simp [h e he, hb]⟩
theorem dh {ops : Array Oper} {L i j : Nat} (hj : dc ops L j = true) (hne : j ≠ i) : dc ops (L ||| 2 ^ i) j = true := by
 rw [aU] at *
 obtain ⟨h0, o, ho, dW⟩ := hj
 exact ⟨by rw [cD, h0]; simp [Ne.symm hne], o, ho, fun e he hb => by rw [cD, dW e he hb]; rfl⟩
def Dn (ops : Array Oper) (L : Nat) : Prop := ∀ k o, L.testBit k = true → ops[k]? = some o → ∀ e ∈ o.after, Region.binds .any e = true → L.testBit e.on = true
theorem Dn.add {ops : Array Oper} {L i : Nat} (h : Dn ops L) (hi : dc ops L i = true) : Dn ops (L ||| 2 ^ i) := by
 obtain ⟨_, o, ho, dW⟩ := aU.1 hi
 intro k o' hk hk' e he hb
 rw [cD] at hk ⊢
 simp only [Bool.or_eq_true, decide_eq_true_eq] at hk ⊢
 rcases hk with hk | rfl
 ·exact .inl (h k o' hk hk' e he hb)
 ·rw [ho] at hk'; cases hk'; exact .inl (dW e he hb)
theorem va {cV : List Nat} : ∀ (l : List Edge) (s i : Nat), (l.foldl (tU cV) s).testBit i = true → s.testBit i = true ∨ ∃ e ∈ l, Region.binds .any e = true ∧ (e.on = i ∨ (cV.getD e.on 0).testBit i = true)
 | [], s, i, h => .inl h
 | e :: l, s, i, h => by
  simp only [List.foldl_cons] at h
  rcases va l _ i h with h1 | ⟨e', he', hb, h1⟩
  ·unfold tU at h1
   split at h1
   ·rename_i hb
    simp only [Nat.testBit_or, Bool.or_eq_true, Nat.testBit_two_pow, decide_eq_true_eq] at h1
    rcases h1 with (h1 | h1) | h1
    ·exact .inl h1
    ·exact .inr ⟨e, List.mem_cons_self .., hb, .inl h1⟩
    ·exact .inr ⟨e, List.mem_cons_self .., hb, .inr h1⟩
   ·exact .inl h1
  ·exact .inr ⟨e', List.mem_cons_of_mem _ he', hb, h1⟩
theorem iR {ops : Array Oper} {cV : List Nat} (ha : jr ops cV = true) {L : Nat} (hd : Dn ops L) :
  ∀ (j : Nat) (o : Oper), ops[j]? = some o → (∀ e ∈ o.after, Region.binds .any e = true → L.testBit e.on = true) → ∀ i, (cV.getD j 0).testBit i = true → L.testBit i = true := by
 intro j
 induction j using Nat.strongRecOn with
 | _ j ih =>
  intro o ho dW i hi
  have hlt : j < ops.size := (Array.getElem?_eq_some_iff.1 ho).1
  have := List.all_eq_true.1 ha j (List.mem_range.2 hlt)
  rw [ho] at this
  simp only [Bool.and_eq_true, List.all_eq_true, Bool.or_eq_true, Bool.not_eq_true', decide_eq_true_eq] at this
  obtain ⟨h1, h2⟩ := this
  rw [Nat.eq_of_beq_eq_true h2] at hi
  rcases va _ 0 i hi with h | ⟨e, he, hb, h⟩
  ·simp at h
  ·have MI := dW e (by simpa using he) hb
   rcases h with rfl | h
   ·exact MI
   ·have JG := (h1 e he).resolve_left (by simp [hb])
    cases JH : ops[e.on]? with
    | none =>
     have : ops.size ≤ e.on := by simpa using JH
     omega
    | some o' => exact ih e.on JG o' JH (fun e' he' hb' => hd e.on o' MI JH e' he' hb') i h
theorem set_comm {M : Mem} {b b' : Nat} {o o' : Obj} (h : b ≠ b') : (M.set b o).set b' o' = (M.set b' o').set b o := by
 funext i; simp only [Mem.set]; by_cases h1 : i = b <;> by_cases h2 : i = b' <;> simp_all
theorem jU {M : Mem} {b : Nat} {o : Obj} (h : M b = none) : M.le (M.set b o) := fun i x hi => by
 simp only [Mem.set]; rw [if_neg (by rintro rfl; simp [h] at hi)]; exact hi
section
variable {C : Ctx} {ops : Array Oper} {K : (Nat → Value) → Mem → Prop} {Kp : List PanicEntry → Mem → Prop}
theorem sK {i : Nat} {env : Nat → Value} {M : Mem} {K K' : (Nat → Value) → Mem → Prop} (h : dy C ops Kp i env M K) (hk : ∀ v M', K v M' → K' v M') : dy C ops Kp i env M K' := by
 unfold dy at *
 split
 ·rename_i o ho; rw [ho] at h; exact fy h hk
 ·rename_i ho; rw [ho] at h; exact hk _ _ h
theorem jV {oi oj : Oper} {v : Value} {env : Nat → Value} {M : Mem} {K' : (Nat → Value) → Mem → Prop} (hap : oi.apart ops oj = true) (hsj : ∀ cs b, oj.op ≠ .select cs b)
  (h : cK C ops oj (aL env oi.dst v) M K' Kp) : cK C ops oj env M (fun env' M' => K' (aL env' oi.dst v) M') Kp := by
 obtain ⟨h1, h2, h3⟩ := Oper.apart_spec hap
 unfold cK at h ⊢
 rw [cP oj env oi.dst v h1] at h
 split
 ·rename_i hw
  rw [if_pos hw] at h
  unfold lZ at h ⊢
  rw [eG oj hsj env oi.dst v h1] at h
  have hc : ∀ u, aL (aL env oi.dst v) oj.dst u = aL (aL env oj.dst u) oi.dst v := fun u => kS h2
  simpa only [hc] using h
 ·rename_i hw
  rw [if_neg hw] at h
  rw [← kS h2]; exact h
theorem nk (L i j : Nat) : L ||| 2 ^ i ||| 2 ^ j = L ||| 2 ^ j ||| 2 ^ i := by
 apply Nat.eq_of_testBit_eq; intro k; simp only [cD]; cases L.testBit k <;> simp [Bool.or_comm]
theorem zj {j L i : Nat} {oi : Oper} {P : Program} (hi : ops[i]? = some oi) {cV : List Nat} (hfree : qy P ops cV L i = true) : qy P ops cV (L ||| 2 ^ j) i = true := by
 unfold qy at hfree ⊢; rw [hi] at hfree ⊢
 refine List.all_eq_true.2 fun k hk => ?_
 have := List.all_eq_true.1 hfree k hk
 simp only [Bool.or_eq_true] at this ⊢
 rcases this with ((h' | h') | h') | h'
 ·exact .inl (.inl (.inl h'))
 ·exact .inl (.inl (.inr (by rw [cD, h']; rfl)))
 ·exact .inl (.inr h')
 ·exact .inr h'
theorem sL {i j L : Nat} {oi oj : Oper} (hi : ops[i]? = some oi) {cV : List Nat} (ha : jr ops cV = true) (hdn : Dn ops L) (hfree : qy C.P ops cV L i = true) (hr : dc ops L i = true)
  (hj : dc ops L j = true) (fz : ops[j]? = some oj) (fM : j ≠ i) : oi.apart ops oj = true ∧ mj (cls C.P oi) (cls C.P oj) = true := by
 obtain ⟨zk, MJ, vb, dW⟩ := aU.1 hj
 rw [fz] at vb; cases vb
 unfold qy at hfree; rw [hi] at hfree
 have := List.all_eq_true.1 hfree j (List.mem_range.2 (Array.getElem?_eq_some_iff.1 fz).1)
 simp only [zk, fz, Bool.or_false, Bool.or_eq_true, Bool.and_eq_true] at this
 rcases this with (h' | h') | h'
 ·exact absurd (Nat.eq_of_beq_eq_true h') fM
 ·have := iR ha hdn j oj fz dW i h'
  rw [(aU.1 hr).1] at this; cases this
 ·exact h'
theorem wY {S : Mem → Prop} (hS : o5 S) {i : Nat} {oi : Oper} (hi : ops[i]? = some oi) (hsel : ∀ (j : Nat) (o : Oper) cs b, ops[j]? = some o → o.op ≠ .select cs b) {cV : List Nat} (ha : jr ops cV = true) :
  ∀ (f L : Nat) (env : Nat → Value) (M : Mem), S M → Dn ops L → qy C.P ops cV L i = true → dc ops L i = true →
   dy C ops Kp i env M (fun env' M' => S M' ∧ b6 C ops S K Kp f (L ||| 2 ^ i) env' M') → b6 C ops S K Kp (f + 1) L env M := by
 intro f
 induction f with
 | zero =>
  intro L env M gI hdn hfree hr h cX
  refine ⟨fun hno => (by rw [hno i] at hr; cases hr), fun j hj => ?_⟩
  by_cases fM : j = i
  ·subst fM; exact h
  ·exfalso
   obtain ⟨zk, oj, fz, dW⟩ := aU.1 hj
   obtain ⟨_, js⟩ := sL hi ha hdn hfree hr hj fz fM
   have hj' := dh (i := i) hj fM
   unfold dy at h; rw [hi] at h; simp only at h
   unfold cK at h
   split at h
   ·unfold lZ at h
    cases hc : cls C.P oi <;> rw [hc] at h js <;> simp only at h
    ·obtain ⟨v, _, _, h⟩ := h; have := (h cX).1 j; rw [this] at hj'; cases hj'
    ·obtain ⟨v, _, _, h⟩ := h; have := (h cX).1 j; rw [this] at hj'; cases hj'
    ·obtain ⟨ob, k, _, h⟩ := h
     obtain ⟨N, hN⟩ := cX
     obtain ⟨v, _, _, h⟩ := h N (hN N (Nat.le_refl _)); have := (h (nj.set ⟨N, hN⟩ _ _)).1 j; rw [this] at hj'; cases hj'
    ·cases hh : cls C.P oj <;> rw [hh] at js <;> simp [mj] at js
   ·have := (h.2 cX).1 j; rw [this] at hj'; cases hj'
 | succ f ih =>
  intro L env M gI hdn hfree hr h cX
  refine ⟨fun hno => (by rw [hno i] at hr; cases hr), fun j hj => ?_⟩
  by_cases fM : j = i
  ·subst fM; exact h
  ·obtain ⟨zk, oj, fz, dW⟩ := aU.1 hj
   obtain ⟨hap, js⟩ := sL hi ha hdn hfree hr hj fz fM
   obtain ⟨a1, a2, a3⟩ := Oper.apart_spec hap
   have hsi := fun cs b => hsel i oi cs b hi
   have hsj := fun cs b => hsel j oj cs b fz
   have CJ := hdn.add hj
   have CD := dh (i := j) hr (Ne.symm fM)
   have EM := zj (j := j) hi hfree
   have hj' := dh (i := i) hj fM
   have DV : L ||| 2 ^ i ||| 2 ^ j = L ||| 2 ^ j ||| 2 ^ i := nk L i j
   unfold dy at h; rw [hi] at h; simp only at h
   show dy C ops Kp j env M _
   unfold dy; rw [fz]; simp only
   have back : ∀ (u : Value) (M1 : Mem), S M1 → cK C ops oi (aL env oj.dst u) M1 (fun env' M' => S M' ∧ b6 C ops S K Kp f (L ||| 2 ^ j ||| 2 ^ i) env' M') Kp →
     b6 C ops S K Kp (f + 1) (L ||| 2 ^ j) (aL env oj.dst u) M1 := fun u M1 pN hb => by
    refine ih (L ||| 2 ^ j) _ M1 pN CJ EM CD ?_
    unfold dy; rw [hi]; exact hb
   have GK : ∀ u, aZ ops oi (aL env oj.dst u) = aZ ops oi env := fun u => cP oi env oj.dst u a3
   have Gc : ∀ u, execOp (jL (aL env oj.dst u)) oi = execOp (jL env) oi := fun u => eG oi hsi env oj.dst u a3
   have AH : ∀ u, aZ ops oj (aL env oi.dst u) = aZ ops oj env := fun u => cP oj env oi.dst u a1
   have known : ∀ v, (∀ u M1, S M1 → b6 C ops S K Kp f (L ||| 2 ^ j ||| 2 ^ i) (aL (aL env oj.dst u) oi.dst v) M1 → b6 C ops S K Kp (f + 1) (L ||| 2 ^ j) (aL env oj.dst u) M1) →
     cK C ops oj (aL env oi.dst v) M (fun env' M' => S M' ∧ b6 C ops S K Kp f (L ||| 2 ^ i ||| 2 ^ j) env' M') Kp →
     cK C ops oj env M (fun env' M' => S M' ∧ b6 C ops S K Kp (f + 1) (L ||| 2 ^ j) env' M') Kp := fun v hb fj => by
    rw [DV] at fj
    have h2 := jV hap hsj fj
    unfold cK at h2 ⊢
    split
    ·rename_i hw; rw [if_pos hw] at h2; exact ij h2 fun u M1 hx => ⟨hx.1, hb u M1 hx.1 hx.2⟩
    ·rename_i hw; rw [if_neg hw] at h2; exact ⟨h2.1, hb _ _ h2.1 h2.2⟩
   by_cases hw : aZ ops oi env = true
   ·unfold cK at h
    rw [if_pos hw] at h
    have EN : ∀ u, aZ ops oi (aL env oj.dst u) = true := fun u => (GK u).trans hw
    unfold lZ at h
    cases hc : cls C.P oi with
    | pure =>
     rw [hc] at h; simp only at h
     obtain ⟨v, hv, _, h⟩ := h
     have fj := (h cX).2 j hj'
     unfold dy at fj; rw [fz] at fj; simp only at fj
     refine known v (fun u M1 pN hx => back u M1 pN (eR (EN u) ?_)) fj
     unfold lZ; rw [hc]; simp only [Gc]
     exact ⟨v, hv, pN, hx⟩
    | read =>
     rw [hc] at h; simp only at h
     obtain ⟨v, hv, _, h⟩ := h
     have fj := (h cX).2 j hj'
     unfold dy at fj; rw [fz] at fj; simp only at fj
     rw [DV] at fj
     have h2 := jV hap hsj fj
     have fin : ∀ u M1, M.le M1 → S M1 → b6 C ops S K Kp f (L ||| 2 ^ j ||| 2 ^ i) (aL (aL env oj.dst u) oi.dst v) M1 → b6 C ops S K Kp (f + 1) (L ||| 2 ^ j) (aL env oj.dst u) M1 :=
      fun u M1 hle pN hx => back u M1 pN (eR (EN u) (by
       unfold lZ; rw [hc]; simp only [Gc]
       exact ⟨v, jP C.P _ hle hv, pN, hx⟩))
     unfold cK at h2 ⊢
     split
     ·rename_i tV; rw [if_pos tV] at h2
      unfold lZ at h2 ⊢
      cases uK : cls C.P oj <;> rw [uK, hc] at js <;> rw [uK] at h2 <;> simp only at h2 ⊢
      ·obtain ⟨u, hu, h2⟩ := h2; exact ⟨u, hu, h2.1, fin u M (fun _ _ h => h) h2.1 h2.2⟩
      ·obtain ⟨u, hu, h2⟩ := h2; exact ⟨u, hu, h2.1, fin u M (fun _ _ h => h) h2.1 h2.2⟩
      ·obtain ⟨ob, k, hn, h2⟩ := h2
       refine ⟨ob, k, hn, fun b hb => ?_⟩
       obtain ⟨u, hu, h2⟩ := h2 b hb
       exact ⟨u, hu, h2.1, fin u _ (jU hb) h2.1 h2.2⟩
      ·simp [mj] at js
     ·rename_i tV; rw [if_neg tV] at h2; exact ⟨h2.1, fin _ _ (fun _ _ h => h) h2.1 h2.2⟩
    | new =>
     rw [hc] at h; simp only at h
     obtain ⟨ob, k, hn, h⟩ := h
     have each : ∀ b, M b = none → ∃ v, aV C.P (k b) Mem.empty = some (.value v) ∧
       cK C ops oj env (M.set b ob) (fun env' M' => S M' ∧ b6 C ops S K Kp f (L ||| 2 ^ j ||| 2 ^ i) (aL env' oi.dst v) M') Kp := fun b hb => by
      obtain ⟨v, hv, _, hx⟩ := h b hb
      have fj := (hx (cX.set b ob)).2 j hj'
      unfold dy at fj; rw [fz] at fj; simp only at fj
      rw [DV] at fj
      exact ⟨v, hv, jV hap hsj fj⟩
     obtain ⟨N, hN⟩ := cX
     obtain ⟨v0, Qn, h0⟩ := each N (hN N (Nat.le_refl _))
     have fin : ∀ u M1, S M1 → (∀ b, M1 b = none → ∃ v, aV C.P (k b) Mem.empty = some (.value v) ∧ b6 C ops S K Kp f (L ||| 2 ^ j ||| 2 ^ i) (aL (aL env oj.dst u) oi.dst v) (M1.set b ob)) →
       b6 C ops S K Kp (f + 1) (L ||| 2 ^ j) (aL env oj.dst u) M1 :=
      fun u M1 pN hx => back u M1 pN (eR (EN u) (by
       unfold lZ; rw [hc]; simp only [Gc]
       exact ⟨ob, k, hn, fun b hb => let ⟨v, hv, hy⟩ := hx b hb; ⟨v, hv, hS _ _ (jU hb) pN, hy⟩⟩))
     unfold cK at h0 ⊢
     split
     ·rename_i tV; rw [if_pos tV] at h0
      unfold lZ at h0 ⊢
      cases uK : cls C.P oj <;> rw [uK, hc] at js <;> rw [uK] at h0 <;> simp only at h0 ⊢
      ·obtain ⟨u, hu, h0⟩ := h0
       refine ⟨u, hu, gI, fin u M gI fun b hb => ?_⟩
       obtain ⟨v, hv, h1⟩ := each b hb
       unfold cK at h1; rw [if_pos tV] at h1
       unfold lZ at h1; rw [uK] at h1; simp only at h1
       obtain ⟨u', DW, _, h1⟩ := h1
       have : u' = u := by have e1 := DW M; rw [hu M] at e1; cases e1; rfl
       subst this
       exact ⟨v, hv, h1⟩
      ·simp [mj] at js
      ·obtain ⟨MK, k', hn', h0⟩ := h0
       refine ⟨MK, k', hn', fun b' hb' => ?_⟩
       have dec : ∀ b, M b = none → b ≠ b' → ∃ v u, aV C.P (k b) Mem.empty = some (.value v) ∧ aV C.P (k' b') Mem.empty = some (.value u) ∧
         b6 C ops S K Kp f (L ||| 2 ^ j ||| 2 ^ i) (aL (aL env oj.dst u) oi.dst v) ((M.set b ob).set b' MK) := fun b hb hne => by
        obtain ⟨v, hv, h1⟩ := each b hb
        unfold cK at h1; rw [if_pos tV] at h1
        unfold lZ at h1; rw [uK] at h1; simp only at h1
        obtain ⟨NL, k2, sM, h1⟩ := h1
        rw [hn'] at sM; cases sM
        obtain ⟨u, hu, _, h1⟩ := h1 b' (by simp only [Mem.set]; rw [if_neg (Ne.symm hne)]; exact hb')
        exact ⟨v, u, hv, hu, h1⟩
       obtain ⟨_, u, _, hu, _⟩ := dec (max N (b' + 1)) (hN _ (by omega)) (by omega)
       refine ⟨u, hu, hS _ _ (jU hb') gI, fin u _ (hS _ _ (jU hb') gI) fun b hb => ?_⟩
       have hne : b ≠ b' := by rintro rfl; simp [Mem.set] at hb
       have I3 : M b = none := by simpa [Mem.set, hne] using hb
       obtain ⟨v, u', hv, DW, h1⟩ := dec b I3 hne
       rw [hu] at DW; cases DW
       exact ⟨v, hv, by rw [← set_comm hne]; exact h1⟩
      ·simp [mj] at js
     ·rename_i tV
      refine ⟨gI, fin _ _ gI fun b hb => ?_⟩
      obtain ⟨v, hv, h1⟩ := each b hb
      unfold cK at h1; rw [if_neg tV] at h1
      exact ⟨v, hv, h1.2⟩
    | zd => rw [hc] at js; cases hh : cls C.P oj <;> rw [hh] at js <;> simp [mj] at js
   ·have hwf : aZ ops oi env = false := by simpa using hw
    unfold cK at h
    rw [if_neg hw] at h
    have fj := (h.2 cX).2 j hj'
    unfold dy at fj; rw [fz] at fj; simp only at fj
    exact known undef (fun u M1 pN hx => back u M1 pN (gL ((GK u).trans hwf) ⟨pN, hx⟩)) fj
def jW (ops : Array Oper) (cV : List Nat) (L i : Nat) : Bool := match ops[i]? with
 | some oi => (List.range ops.size).all fun j => Nat.beq j i || L.testBit j || (cV.getD j 0).testBit i || (match ops[j]? with
  | some oj => oi.apart ops oj
  | none => true)
 | none => false
theorem qz {j L i : Nat} {oi : Oper} (hi : ops[i]? = some oi) {cV : List Nat} (hfree : jW ops cV L i = true) : jW ops cV (L ||| 2 ^ j) i = true := by
 unfold jW at hfree ⊢; rw [hi] at hfree ⊢
 refine List.all_eq_true.2 fun k hk => ?_
 have := List.all_eq_true.1 hfree k hk
 simp only [Bool.or_eq_true] at this ⊢
 rcases this with ((h' | h') | h') | h'
 ·exact .inl (.inl (.inl h'))
 ·exact .inl (.inl (.inr (by rw [cD, h']; rfl)))
 ·exact .inl (.inr h')
 ·exact .inr h'
theorem ve {i j L : Nat} {oi oj : Oper} (hi : ops[i]? = some oi) {cV : List Nat} (ha : jr ops cV = true) (hdn : Dn ops L) (hfree : jW ops cV L i = true) (hr : dc ops L i = true)
  (hj : dc ops L j = true) (fz : ops[j]? = some oj) (fM : j ≠ i) : oi.apart ops oj = true := by
 obtain ⟨zk, MJ, vb, dW⟩ := aU.1 hj
 rw [fz] at vb; cases vb
 unfold jW at hfree; rw [hi] at hfree
 have := List.all_eq_true.1 hfree j (List.mem_range.2 (Array.getElem?_eq_some_iff.1 fz).1)
 simp only [zk, fz, Bool.or_false, Bool.or_eq_true] at this
 rcases this with (h' | h') | h'
 ·exact absurd (Nat.eq_of_beq_eq_true h') fM
 ·have := iR ha hdn j oj fz dW i h'
  rw [(aU.1 hr).1] at this; cases this
 ·exact h'
theorem zl {i : Nat} {oi : Oper} (hi : ops[i]? = some oi) (hsel : ∀ (j : Nat) (o : Oper) cs b, ops[j]? = some o → o.op ≠ .select cs b) {cV : List Nat} (ha : jr ops cV = true)
  (hc : cls C.P oi = .read) {S : Mem → Prop} {s : Sem Next} {v : Value} :
  ∀ (f L : Nat) (env : Nat → Value) (M : Mem), Dn ops L → jW ops cV L i = true → dc ops L i = true → aZ ops oi env = true → execOp (jL env) oi = s → aV C.P s M = some (.value v) → S M →
   b6 C ops (fun M' => S M' ∧ aV C.P s M' = some (.value v)) K Kp f (L ||| 2 ^ i) (aL env oi.dst v) M → b6 C ops S K Kp (f + 1) L env M := by
 intro f
 induction f with
 | zero =>
  intro L env M hdn hfree hr hw he hv gI h cX
  refine ⟨fun hno => (by rw [hno i] at hr; cases hr), fun j hj => ?_⟩
  by_cases fM : j = i
  ·subst fM
   unfold dy; rw [hi]; simp only
   refine eR hw ?_
   unfold lZ; rw [hc]; simp only [he]
   exact ⟨v, hv, gI, h⟩
  ·have hj' := dh (i := i) hj fM
   have := (h cX).1 j; rw [this] at hj'; cases hj'
 | succ f ih =>
  intro L env M hdn hfree hr hw he hv gI h cX
  have weak : ∀ (f L : Nat) (env : Nat → Value) (M : Mem), b6 C ops (fun M' => S M' ∧ aV C.P s M' = some (.value v)) K Kp f L env M → b6 C ops S K Kp f L env M := by
   intro f
   induction f with
   | zero => intro L env M h; exact h
   | succ f NM => intro L env M h cX; exact ⟨(h cX).1, fun j hj => sK ((h cX).2 j hj) fun env' M' hx => ⟨hx.1.1, NM _ _ _ hx.2⟩⟩
  refine ⟨fun hno => (by rw [hno i] at hr; cases hr), fun j hj => ?_⟩
  by_cases fM : j = i
  ·subst fM
   unfold dy; rw [hi]; simp only
   refine eR hw ?_
   unfold lZ; rw [hc]; simp only [he]
   exact ⟨v, hv, gI, weak _ _ _ _ h⟩
  ·obtain ⟨zk, oj, fz, dW⟩ := aU.1 hj
   have hap := ve hi ha hdn hfree hr hj fz fM
   obtain ⟨a1, a2, a3⟩ := Oper.apart_spec hap
   have hsi := fun cs b => hsel i oi cs b hi
   have hsj := fun cs b => hsel j oj cs b fz
   have hj' := dh (i := i) hj fM
   have fj := (h cX).2 j hj'
   unfold dy at fj ⊢; rw [fz] at fj ⊢; simp only at fj ⊢
   rw [nk L i j] at fj
   have h2 := jV hap hsj fj
   have fin : ∀ u M1, (S M1 ∧ aV C.P s M1 = some (.value v)) ∧ b6 C ops (fun M' => S M' ∧ aV C.P s M' = some (.value v)) K Kp f (L ||| 2 ^ j ||| 2 ^ i) (aL (aL env oj.dst u) oi.dst v) M1 →
     S M1 ∧ b6 C ops S K Kp (f + 1) (L ||| 2 ^ j) (aL env oj.dst u) M1 := fun u M1 hx =>
    ⟨hx.1.1, ih (L ||| 2 ^ j) _ M1 (hdn.add hj) (qz hi hfree) (dh hr (Ne.symm fM)) ((cP oi env oj.dst u a3).trans hw) ((eG oi hsi env oj.dst u a3).trans he) hx.1.2 hx.1.1 hx.2⟩
   unfold cK at h2 ⊢
   split
   ·rename_i AH; rw [if_pos AH] at h2; exact ij h2 fun u M1 hx => fin u M1 hx
   ·rename_i AH; rw [if_neg AH] at h2; exact fin _ _ h2
end
end Go.AF
