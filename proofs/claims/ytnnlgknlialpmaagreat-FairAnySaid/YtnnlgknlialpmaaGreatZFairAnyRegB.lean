/- A part of proofs about one program. -/
import Derived.Test.YtnnlgknlialpmaaGreatZFairAnyReg
set_option linter.unusedVariables false
namespace Go.AF
def fz (ops : Array Oper) (L i : Nat) : Bool := match ops[i]? with
 | some o => !L.testBit i && o.after.all fun e => !Region.binds .any e || L.testBit e.on
 | none => false
def sE : Cls → Cls → Bool
 | .pure, _ => true
 | .read, .pure => true
 | .read, .read => true
 | .read, .new => true
 | .new, .pure => true
 | .new, .new => true
 | _, _ => false
def yy (P : Program) (ops : Array Oper) (eP : List Nat) (L i : Nat) : Bool := match ops[i]? with
 | some oi => (List.range ops.size).all fun j => Nat.beq j i || L.testBit j || (eP.getD j 0).testBit i || (match ops[j]? with
  | some oj => oi.apart ops oj && sE (cls P oi) (cls P oj)
  | none => true)
 | none => false
def CH (eP : List Nat) (s : Nat) (e : Edge) : Nat := if Region.binds .any e then s ||| 2 ^ e.on ||| eP.getD e.on 0 else s
def oa (ops : Array Oper) (eP : List Nat) : Bool := (List.range ops.size).all fun j => match ops[j]? with
 | some o => (o.after.toList.all fun e => !Region.binds .any e || decide (e.on < j)) && Nat.beq (eP.getD j 0) (o.after.toList.foldl (CH eP) 0)
 | none => true
def gf (C : Ctx) (ops : Array Oper) (Kp : List PanicEntry → Mem → Prop) (i : Nat) (env : Nat → Value) (M : Mem) (K : (Nat → Value) → Mem → Prop) : Prop := match ops[i]? with
 | some o => ei C ops o env M K Kp
 | none => K env M
def tS (M : Mem) : Prop := ∃ N, ∀ b, N ≤ b → M b = none
theorem tS.set {M : Mem} (h : tS M) (b : Nat) (o : Obj) : tS (M.set b o) := by
 obtain ⟨N, h⟩ := h
 exact ⟨max N (b + 1), fun i hi => by simp only [Mem.set]; rw [if_neg (by omega)]; exact h i (by omega)⟩
def dH (C : Ctx) (ops : Array Oper) (S : Mem → Prop) (K : (Nat → Value) → Mem → Prop) (Kp : List PanicEntry → Mem → Prop) : Nat → Nat → (Nat → Value) → Mem → Prop
 | 0, L, env, M => tS M → (∀ i, fz ops L i = false) ∧ K env M
 | f + 1, L, env, M => tS M → ((∀ i, fz ops L i = false) → K env M) ∧ ∀ i, fz ops L i = true → gf C ops Kp i env M fun env' M' => S M' ∧ dH C ops S K Kp f (L ||| 2 ^ i) env' M'
def wJ (S : Mem → Prop) : Prop := ∀ M M', Mem.le M M' → S M → S M'
theorem dV (L i j : Nat) : (L ||| 2 ^ i).testBit j = (L.testBit j || decide (i = j)) := by
 rw [Nat.testBit_or, Nat.testBit_two_pow]
theorem bL {ops : Array Oper} {L i : Nat} : fz ops L i = true ↔ L.testBit i = false ∧ ∃ o, ops[i]? = some o ∧ ∀ e ∈ o.after, Region.binds .any e = true → L.testBit e.on = true := by
 unfold fz
 cases ho : ops[i]? with
 | none => simp
 | some o =>
  simp only [Bool.and_eq_true, Bool.not_eq_true', Array.all_eq_true_iff_forall_mem, Bool.or_eq_true, Option.some.injEq, exists_eq_left']
  constructor
  ·rintro ⟨h0, h⟩
   exact ⟨h0, fun e he hb => (h e he).resolve_left (by simp [hb])⟩
  ·rintro ⟨h0, h⟩
   exact ⟨h0, fun e he => by cases hb : Region.binds .any e <;> simp [h e he, hb]⟩
theorem fJ {ops : Array Oper} {L i j : Nat} (hj : fz ops L j = true) (hne : j ≠ i) : fz ops (L ||| 2 ^ i) j = true := by
 rw [bL] at *
 obtain ⟨h0, o, ho, gP⟩ := hj
 exact ⟨by rw [dV, h0]; simp [Ne.symm hne], o, ho, fun e he hb => by rw [dV, gP e he hb]; rfl⟩
def Dn (ops : Array Oper) (L : Nat) : Prop := ∀ k o, L.testBit k = true → ops[k]? = some o → ∀ e ∈ o.after, Region.binds .any e = true → L.testBit e.on = true
theorem Dn.add {ops : Array Oper} {L i : Nat} (h : Dn ops L) (hi : fz ops L i = true) : Dn ops (L ||| 2 ^ i) := by
 obtain ⟨_, o, ho, gP⟩ := bL.1 hi
 intro k o' hk hk' e he hb
 rw [dV] at hk ⊢
 simp only [Bool.or_eq_true, decide_eq_true_eq] at hk ⊢
 rcases hk with hk | rfl
 ·exact .inl (h k o' hk hk' e he hb)
 ·rw [ho] at hk'; cases hk'; exact .inl (gP e he hb)
theorem D1 {eP : List Nat} : ∀ (l : List Edge) (s i : Nat), (l.foldl (CH eP) s).testBit i = true → s.testBit i = true ∨ ∃ e ∈ l, Region.binds .any e = true ∧ (e.on = i ∨ (eP.getD e.on 0).testBit i = true)
 | [], s, i, h => .inl h
 | e :: l, s, i, h => by
  simp only [List.foldl_cons] at h
  rcases D1 l _ i h with h1 | ⟨e', he', hb, h1⟩
  ·unfold CH at h1
   split at h1
   ·rename_i hb
    simp only [Nat.testBit_or, Bool.or_eq_true, Nat.testBit_two_pow, decide_eq_true_eq] at h1
    rcases h1 with (h1 | h1) | h1
    ·exact .inl h1
    ·exact .inr ⟨e, List.mem_cons_self .., hb, .inl h1⟩
    ·exact .inr ⟨e, List.mem_cons_self .., hb, .inr h1⟩
   ·exact .inl h1
  ·exact .inr ⟨e', List.mem_cons_of_mem _ he', hb, h1⟩
theorem nu {ops : Array Oper} {eP : List Nat} (ha : oa ops eP = true) {L : Nat} (hd : Dn ops L) :
  ∀ (j : Nat) (o : Oper), ops[j]? = some o → (∀ e ∈ o.after, Region.binds .any e = true → L.testBit e.on = true) → ∀ i, (eP.getD j 0).testBit i = true → L.testBit i = true := by
 intro j
 induction j using Nat.strongRecOn with
 | _ j ih =>
  intro o ho gP i hi
  have hlt : j < ops.size := (Array.getElem?_eq_some_iff.1 ho).1
  have := List.all_eq_true.1 ha j (List.mem_range.2 hlt)
  rw [ho] at this
  simp only [Bool.and_eq_true, List.all_eq_true, Bool.or_eq_true, Bool.not_eq_true', decide_eq_true_eq] at this
  obtain ⟨h1, h2⟩ := this
  rw [Nat.eq_of_beq_eq_true h2] at hi
  rcases D1 _ 0 i hi with h | ⟨e, he, hb, h⟩
  ·simp at h
  ·have Ma := gP e (by simpa using he) hb
   rcases h with rfl | h
   ·exact Ma
   ·have Mb := (h1 e he).resolve_left (by simp [hb])
    cases hoe : ops[e.on]? with
    | none =>
     have : ops.size ≤ e.on := by simpa using hoe
     omega
    | some o' => exact ih e.on Mb o' hoe (fun e' he' hb' => hd e.on o' Ma hoe e' he' hb') i h
theorem set_comm {M : Mem} {b b' : Nat} {o o' : Obj} (h : b ≠ b') : (M.set b o).set b' o' = (M.set b' o').set b o := by
 funext i; simp only [Mem.set]; by_cases h1 : i = b <;> by_cases h2 : i = b' <;> simp_all
theorem o5 {M : Mem} {b : Nat} {o : Obj} (h : M b = none) : M.le (M.set b o) := fun i x hi => by
 simp only [Mem.set]; rw [if_neg (by rintro rfl; simp [h] at hi)]; exact hi
section
variable {C : Ctx} {ops : Array Oper} {K : (Nat → Value) → Mem → Prop} {Kp : List PanicEntry → Mem → Prop}
theorem Bw {i : Nat} {env : Nat → Value} {M : Mem} {K K' : (Nat → Value) → Mem → Prop} (h : gf C ops Kp i env M K) (hk : ∀ v M', K v M' → K' v M') : gf C ops Kp i env M K' := by
 unfold gf at *
 split
 ·rename_i o ho; rw [ho] at h; exact jc h hk
 ·rename_i ho; rw [ho] at h; exact hk _ _ h
theorem o6 {oi oj : Oper} {v : Value} {env : Nat → Value} {M : Mem} {K' : (Nat → Value) → Mem → Prop} (hap : oi.apart ops oj = true) (hsj : ∀ cs b, oj.op ≠ .select cs b)
  (h : ei C ops oj (bl env oi.dst v) M K' Kp) : ei C ops oj env M (fun env' M' => K' (bl env' oi.dst v) M') Kp := by
 obtain ⟨h1, h2, h3⟩ := Oper.apart_spec hap
 unfold ei at h ⊢
 rw [eu oj env oi.dst v h1] at h
 split
 ·rename_i hw
  rw [if_pos hw] at h
  unfold r8 at h ⊢
  rw [ig oj hsj env oi.dst v h1] at h
  have hc : ∀ u, bl (bl env oi.dst v) oj.dst u = bl (bl env oj.dst u) oi.dst v := fun u => qw h2
  simpa only [hc] using h
 ·rename_i hw
  rw [if_neg hw] at h
  rw [← qw h2]; exact h
theorem tT (L i j : Nat) : L ||| 2 ^ i ||| 2 ^ j = L ||| 2 ^ j ||| 2 ^ i := by
 apply Nat.eq_of_testBit_eq; intro k; simp only [dV]; cases L.testBit k <;> simp [Bool.or_comm]
theorem JD {j L i : Nat} {oi : Oper} {P : Program} (hi : ops[i]? = some oi) {eP : List Nat} (hfree : yy P ops eP L i = true) : yy P ops eP (L ||| 2 ^ j) i = true := by
 unfold yy at hfree ⊢; rw [hi] at hfree ⊢
 refine List.all_eq_true.2 fun k hk => ?_
 have := List.all_eq_true.1 hfree k hk
 simp only [Bool.or_eq_true] at this ⊢
 rcases this with ((h' | h') | h') | h'
 ·exact .inl (.inl (.inl h'))
 ·exact .inl (.inl (.inr (by rw [dV, h']; rfl)))
 ·exact .inl (.inr h')
 ·exact .inr h'
theorem Bx {i j L : Nat} {oi oj : Oper} (hi : ops[i]? = some oi) {eP : List Nat} (ha : oa ops eP = true) (hdn : Dn ops L) (hfree : yy C.P ops eP L i = true) (hr : fz ops L i = true)
  (hj : fz ops L j = true) (jd : ops[j]? = some oj) (jA : j ≠ i) : oi.apart ops oj = true ∧ sE (cls C.P oi) (cls C.P oj) = true := by
 obtain ⟨JE, oj', D2, gP⟩ := bL.1 hj
 rw [jd] at D2; cases D2
 unfold yy at hfree; rw [hi] at hfree
 have := List.all_eq_true.1 hfree j (List.mem_range.2 (Array.getElem?_eq_some_iff.1 jd).1)
 simp only [JE, jd, Bool.or_false, Bool.or_eq_true, Bool.and_eq_true] at this
 rcases this with (h' | h') | h'
 ·exact absurd (Nat.eq_of_beq_eq_true h') jA
 ·have := nu ha hdn j oj jd gP i h'
  rw [(bL.1 hr).1] at this; cases this
 ·exact h'
theorem F5 {S : Mem → Prop} (hS : wJ S) {i : Nat} {oi : Oper} (hi : ops[i]? = some oi) (hsel : ∀ (j : Nat) (o : Oper) cs b, ops[j]? = some o → o.op ≠ .select cs b) {eP : List Nat} (ha : oa ops eP = true) :
  ∀ (f L : Nat) (env : Nat → Value) (M : Mem), S M → Dn ops L → yy C.P ops eP L i = true → fz ops L i = true →
   gf C ops Kp i env M (fun env' M' => S M' ∧ dH C ops S K Kp f (L ||| 2 ^ i) env' M') → dH C ops S K Kp (f + 1) L env M := by
 intro f
 induction f with
 | zero =>
  intro L env M kY hdn hfree hr h eV
  refine ⟨fun hno => (by rw [hno i] at hr; cases hr), fun j hj => ?_⟩
  by_cases jA : j = i
  ·subst jA; exact h
  ·exfalso
   obtain ⟨JE, oj, jd, gP⟩ := bL.1 hj
   obtain ⟨_, oc⟩ := Bx hi ha hdn hfree hr hj jd jA
   have hj' := fJ (i := i) hj jA
   unfold gf at h; rw [hi] at h; simp only at h
   unfold ei at h
   split at h
   ·unfold r8 at h
    cases hc : cls C.P oi <;> rw [hc] at h oc <;> simp only at h
    ·obtain ⟨v, _, _, h⟩ := h; have := (h eV).1 j; rw [this] at hj'; cases hj'
    ·obtain ⟨v, _, _, h⟩ := h; have := (h eV).1 j; rw [this] at hj'; cases hj'
    ·obtain ⟨ob, k, _, h⟩ := h
     obtain ⟨N, hN⟩ := eV
     obtain ⟨v, _, _, h⟩ := h N (hN N (Nat.le_refl _)); have := (h (tS.set ⟨N, hN⟩ _ _)).1 j; rw [this] at hj'; cases hj'
    ·cases hh : cls C.P oj <;> rw [hh] at oc <;> simp [sE] at oc
   ·have := (h.2 eV).1 j; rw [this] at hj'; cases hj'
 | succ f ih =>
  intro L env M kY hdn hfree hr h eV
  refine ⟨fun hno => (by rw [hno i] at hr; cases hr), fun j hj => ?_⟩
  by_cases jA : j = i
  ·subst jA; exact h
  ·obtain ⟨JE, oj, jd, gP⟩ := bL.1 hj
   obtain ⟨hap, oc⟩ := Bx hi ha hdn hfree hr hj jd jA
   obtain ⟨a1, a2, a3⟩ := Oper.apart_spec hap
   have hsi := fun cs b => hsel i oi cs b hi
   have hsj := fun cs b => hsel j oj cs b jd
   have P2 := hdn.add hj
   have PV := fJ (i := j) hr (Ne.symm jA)
   have Tt := JD (j := j) hi hfree
   have hj' := fJ (i := i) hj jA
   have hor : L ||| 2 ^ i ||| 2 ^ j = L ||| 2 ^ j ||| 2 ^ i := tT L i j
   unfold gf at h; rw [hi] at h; simp only at h
   show gf C ops Kp j env M _
   unfold gf; rw [jd]; simp only
   have back : ∀ (u : Value) (M1 : Mem), S M1 → ei C ops oi (bl env oj.dst u) M1 (fun env' M' => S M' ∧ dH C ops S K Kp f (L ||| 2 ^ j ||| 2 ^ i) env' M') Kp →
     dH C ops S K Kp (f + 1) (L ||| 2 ^ j) (bl env oj.dst u) M1 := fun u M1 vr hb => by
    refine ih (L ||| 2 ^ j) _ M1 vr P2 Tt PV ?_
    unfold gf; rw [hi]; exact hb
   have Xl : ∀ u, bP ops oi (bl env oj.dst u) = bP ops oi env := fun u => eu oi env oj.dst u a3
   have WH : ∀ u, execOp (oQ (bl env oj.dst u)) oi = execOp (oQ env) oi := fun u => ig oi hsi env oj.dst u a3
   have Mc : ∀ u, bP ops oj (bl env oi.dst u) = bP ops oj env := fun u => eu oj env oi.dst u a1
   have known : ∀ v, (∀ u M1, S M1 → dH C ops S K Kp f (L ||| 2 ^ j ||| 2 ^ i) (bl (bl env oj.dst u) oi.dst v) M1 → dH C ops S K Kp (f + 1) (L ||| 2 ^ j) (bl env oj.dst u) M1) →
     ei C ops oj (bl env oi.dst v) M (fun env' M' => S M' ∧ dH C ops S K Kp f (L ||| 2 ^ i ||| 2 ^ j) env' M') Kp →
     ei C ops oj env M (fun env' M' => S M' ∧ dH C ops S K Kp (f + 1) (L ||| 2 ^ j) env' M') Kp := fun v hb iT => by
    rw [hor] at iT
    have h2 := o6 hap hsj iT
    unfold ei at h2 ⊢
    split
    ·rename_i hw; rw [if_pos hw] at h2; exact mz h2 fun u M1 hx => ⟨hx.1, hb u M1 hx.1 hx.2⟩
    ·rename_i hw; rw [if_neg hw] at h2; exact ⟨h2.1, hb _ _ h2.1 h2.2⟩
   by_cases hw : bP ops oi env = true
   ·unfold ei at h
    rw [if_pos hw] at h
    have Tu : ∀ u, bP ops oi (bl env oj.dst u) = true := fun u => (Xl u).trans hw
    unfold r8 at h
    cases hc : cls C.P oi with
    | pure =>
     rw [hc] at h; simp only at h
     obtain ⟨v, hv, _, h⟩ := h
     have iT := (h eV).2 j hj'
     unfold gf at iT; rw [jd] at iT; simp only at iT
     refine known v (fun u M1 vr hx => back u M1 vr (iC (Tu u) ?_)) iT
     unfold r8; rw [hc]; simp only [WH]
     exact ⟨v, hv, vr, hx⟩
    | read =>
     rw [hc] at h; simp only at h
     obtain ⟨v, hv, _, h⟩ := h
     have iT := (h eV).2 j hj'
     unfold gf at iT; rw [jd] at iT; simp only at iT
     rw [hor] at iT
     have h2 := o6 hap hsj iT
     have fin : ∀ u M1, M.le M1 → S M1 → dH C ops S K Kp f (L ||| 2 ^ j ||| 2 ^ i) (bl (bl env oj.dst u) oi.dst v) M1 → dH C ops S K Kp (f + 1) (L ||| 2 ^ j) (bl env oj.dst u) M1 :=
      fun u M1 hle vr hx => back u M1 vr (iC (Tu u) (by
       unfold r8; rw [hc]; simp only [WH]
       exact ⟨v, mo C.P _ hle hv, vr, hx⟩))
     unfold ei at h2 ⊢
     split
     ·rename_i CI; rw [if_pos CI] at h2
      unfold r8 at h2 ⊢
      cases DD : cls C.P oj <;> rw [DD, hc] at oc <;> rw [DD] at h2 <;> simp only at h2 ⊢
      ·obtain ⟨u, hu, h2⟩ := h2; exact ⟨u, hu, h2.1, fin u M (fun _ _ h => h) h2.1 h2.2⟩
      ·obtain ⟨u, hu, h2⟩ := h2; exact ⟨u, hu, h2.1, fin u M (fun _ _ h => h) h2.1 h2.2⟩
      ·obtain ⟨ob, k, hn, h2⟩ := h2
       refine ⟨ob, k, hn, fun b hb => ?_⟩
       obtain ⟨u, hu, h2⟩ := h2 b hb
       exact ⟨u, hu, h2.1, fin u _ (o5 hb) h2.1 h2.2⟩
      ·simp [sE] at oc
     ·rename_i CI; rw [if_neg CI] at h2; exact ⟨h2.1, fin _ _ (fun _ _ h => h) h2.1 h2.2⟩
    | new =>
     rw [hc] at h; simp only at h
     obtain ⟨ob, k, hn, h⟩ := h
     have each : ∀ b, M b = none → ∃ v, bK C.P (k b) Mem.empty = some (.value v) ∧
       ei C ops oj env (M.set b ob) (fun env' M' => S M' ∧ dH C ops S K Kp f (L ||| 2 ^ j ||| 2 ^ i) (bl env' oi.dst v) M') Kp := fun b hb => by
      obtain ⟨v, hv, _, hx⟩ := h b hb
      have iT := (hx (eV.set b ob)).2 j hj'
      unfold gf at iT; rw [jd] at iT; simp only at iT
      rw [hor] at iT
      exact ⟨v, hv, o6 hap hsj iT⟩
     obtain ⟨N, hN⟩ := eV
     obtain ⟨v0, hv0, h0⟩ := each N (hN N (Nat.le_refl _))
     have fin : ∀ u M1, S M1 → (∀ b, M1 b = none → ∃ v, bK C.P (k b) Mem.empty = some (.value v) ∧ dH C ops S K Kp f (L ||| 2 ^ j ||| 2 ^ i) (bl (bl env oj.dst u) oi.dst v) (M1.set b ob)) →
       dH C ops S K Kp (f + 1) (L ||| 2 ^ j) (bl env oj.dst u) M1 :=
      fun u M1 vr hx => back u M1 vr (iC (Tu u) (by
       unfold r8; rw [hc]; simp only [WH]
       exact ⟨ob, k, hn, fun b hb => let ⟨v, hv, hy⟩ := hx b hb; ⟨v, hv, hS _ _ (o5 hb) vr, hy⟩⟩))
     unfold ei at h0 ⊢
     split
     ·rename_i CI; rw [if_pos CI] at h0
      unfold r8 at h0 ⊢
      cases DD : cls C.P oj <;> rw [DD, hc] at oc <;> rw [DD] at h0 <;> simp only at h0 ⊢
      ·obtain ⟨u, hu, h0⟩ := h0
       refine ⟨u, hu, kY, fin u M kY fun b hb => ?_⟩
       obtain ⟨v, hv, h1⟩ := each b hb
       unfold ei at h1; rw [if_pos CI] at h1
       unfold r8 at h1; rw [DD] at h1; simp only at h1
       obtain ⟨u', R8, _, h1⟩ := h1
       have : u' = u := by have e1 := R8 M; rw [hu M] at e1; cases e1; rfl
       subst this
       exact ⟨v, hv, h1⟩
      ·simp [sE] at oc
      ·obtain ⟨ob', k', hn', h0⟩ := h0
       refine ⟨ob', k', hn', fun b' hb' => ?_⟩
       have dec : ∀ b, M b = none → b ≠ b' → ∃ v u, bK C.P (k b) Mem.empty = some (.value v) ∧ bK C.P (k' b') Mem.empty = some (.value u) ∧
         dH C ops S K Kp f (L ||| 2 ^ j ||| 2 ^ i) (bl (bl env oj.dst u) oi.dst v) ((M.set b ob).set b' ob') := fun b hb hne => by
        obtain ⟨v, hv, h1⟩ := each b hb
        unfold ei at h1; rw [if_pos CI] at h1
        unfold r8 at h1; rw [DD] at h1; simp only at h1
        obtain ⟨ob2, k2, xl, h1⟩ := h1
        rw [hn'] at xl; cases xl
        obtain ⟨u, hu, _, h1⟩ := h1 b' (by simp only [Mem.set]; rw [if_neg (Ne.symm hne)]; exact hb')
        exact ⟨v, u, hv, hu, h1⟩
       obtain ⟨_, u, _, hu, _⟩ := dec (max N (b' + 1)) (hN _ (by omega)) (by omega)
       refine ⟨u, hu, hS _ _ (o5 hb') kY, fin u _ (hS _ _ (o5 hb') kY) fun b hb => ?_⟩
       have hne : b ≠ b' := by rintro rfl; simp [Mem.set] at hb
       have Lq : M b = none := by simpa [Mem.set, hne] using hb
       obtain ⟨v, u', hv, R8, h1⟩ := dec b Lq hne
       rw [hu] at R8; cases R8
       exact ⟨v, hv, by rw [← set_comm hne]; exact h1⟩
      ·simp [sE] at oc
     ·rename_i CI
      refine ⟨kY, fin _ _ kY fun b hb => ?_⟩
      obtain ⟨v, hv, h1⟩ := each b hb
      unfold ei at h1; rw [if_neg CI] at h1
      exact ⟨v, hv, h1.2⟩
    | Jx => rw [hc] at oc; cases hh : cls C.P oj <;> rw [hh] at oc <;> simp [sE] at oc
   ·have hwf : bP ops oi env = false := by simpa using hw
    unfold ei at h
    rw [if_neg hw] at h
    have iT := (h.2 eV).2 j hj'
    unfold gf at iT; rw [jd] at iT; simp only at iT
    exact known undef (fun u M1 vr hx => back u M1 vr (lB ((Xl u).trans hwf) ⟨vr, hx⟩)) iT
def pb (ops : Array Oper) (eP : List Nat) (L i : Nat) : Bool := match ops[i]? with
 | some oi => (List.range ops.size).all fun j => Nat.beq j i || L.testBit j || (eP.getD j 0).testBit i || (match ops[j]? with
  | some oj => oi.apart ops oj
  | none => true)
 | none => false
theorem yz {j L i : Nat} {oi : Oper} (hi : ops[i]? = some oi) {eP : List Nat} (hfree : pb ops eP L i = true) : pb ops eP (L ||| 2 ^ j) i = true := by
 unfold pb at hfree ⊢; rw [hi] at hfree ⊢
 refine List.all_eq_true.2 fun k hk => ?_
 have := List.all_eq_true.1 hfree k hk
 simp only [Bool.or_eq_true] at this ⊢
 rcases this with ((h' | h') | h') | h'
 ·exact .inl (.inl (.inl h'))
 ·exact .inl (.inl (.inr (by rw [dV, h']; rfl)))
 ·exact .inl (.inr h')
 ·exact .inr h'
theorem D3 {i j L : Nat} {oi oj : Oper} (hi : ops[i]? = some oi) {eP : List Nat} (ha : oa ops eP = true) (hdn : Dn ops L) (hfree : pb ops eP L i = true) (hr : fz ops L i = true)
  (hj : fz ops L j = true) (jd : ops[j]? = some oj) (jA : j ≠ i) : oi.apart ops oj = true := by
 obtain ⟨JE, oj', D2, gP⟩ := bL.1 hj
 rw [jd] at D2; cases D2
 unfold pb at hfree; rw [hi] at hfree
 have := List.all_eq_true.1 hfree j (List.mem_range.2 (Array.getElem?_eq_some_iff.1 jd).1)
 simp only [JE, jd, Bool.or_false, Bool.or_eq_true] at this
 rcases this with (h' | h') | h'
 ·exact absurd (Nat.eq_of_beq_eq_true h') jA
 ·have := nu ha hdn j oj jd gP i h'
  rw [(bL.1 hr).1] at this; cases this
 ·exact h'
theorem JF {i : Nat} {oi : Oper} (hi : ops[i]? = some oi) (hsel : ∀ (j : Nat) (o : Oper) cs b, ops[j]? = some o → o.op ≠ .select cs b) {eP : List Nat} (ha : oa ops eP = true)
  (hc : cls C.P oi = .read) {S : Mem → Prop} {s : Sem Next} {v : Value} :
  ∀ (f L : Nat) (env : Nat → Value) (M : Mem), Dn ops L → pb ops eP L i = true → fz ops L i = true → bP ops oi env = true → execOp (oQ env) oi = s → bK C.P s M = some (.value v) → S M →
   dH C ops (fun M' => S M' ∧ bK C.P s M' = some (.value v)) K Kp f (L ||| 2 ^ i) (bl env oi.dst v) M → dH C ops S K Kp (f + 1) L env M := by
 intro f
 induction f with
 | zero =>
  intro L env M hdn hfree hr hw he hv kY h eV
  refine ⟨fun hno => (by rw [hno i] at hr; cases hr), fun j hj => ?_⟩
  by_cases jA : j = i
  ·subst jA
   unfold gf; rw [hi]; simp only
   refine iC hw ?_
   unfold r8; rw [hc]; simp only [he]
   exact ⟨v, hv, kY, h⟩
  ·have hj' := fJ (i := i) hj jA
   have := (h eV).1 j; rw [this] at hj'; cases hj'
 | succ f ih =>
  intro L env M hdn hfree hr hw he hv kY h eV
  have weak : ∀ (f L : Nat) (env : Nat → Value) (M : Mem), dH C ops (fun M' => S M' ∧ bK C.P s M' = some (.value v)) K Kp f L env M → dH C ops S K Kp f L env M := by
   intro f
   induction f with
   | zero => intro L env M h; exact h
   | succ f ihw => intro L env M h eV; exact ⟨(h eV).1, fun j hj => Bw ((h eV).2 j hj) fun env' M' hx => ⟨hx.1.1, ihw _ _ _ hx.2⟩⟩
  refine ⟨fun hno => (by rw [hno i] at hr; cases hr), fun j hj => ?_⟩
  by_cases jA : j = i
  ·subst jA
   unfold gf; rw [hi]; simp only
   refine iC hw ?_
   unfold r8; rw [hc]; simp only [he]
   exact ⟨v, hv, kY, weak _ _ _ _ h⟩
  ·obtain ⟨JE, oj, jd, gP⟩ := bL.1 hj
   have hap := D3 hi ha hdn hfree hr hj jd jA
   obtain ⟨a1, a2, a3⟩ := Oper.apart_spec hap
   have hsi := fun cs b => hsel i oi cs b hi
   have hsj := fun cs b => hsel j oj cs b jd
   have hj' := fJ (i := i) hj jA
   have iT := (h eV).2 j hj'
   unfold gf at iT ⊢; rw [jd] at iT ⊢; simp only at iT ⊢
   rw [tT L i j] at iT
   have h2 := o6 hap hsj iT
   have fin : ∀ u M1, (S M1 ∧ bK C.P s M1 = some (.value v)) ∧ dH C ops (fun M' => S M' ∧ bK C.P s M' = some (.value v)) K Kp f (L ||| 2 ^ j ||| 2 ^ i) (bl (bl env oj.dst u) oi.dst v) M1 →
     S M1 ∧ dH C ops S K Kp (f + 1) (L ||| 2 ^ j) (bl env oj.dst u) M1 := fun u M1 hx =>
    ⟨hx.1.1, ih (L ||| 2 ^ j) _ M1 (hdn.add hj) (yz hi hfree) (fJ hr (Ne.symm jA)) ((eu oi env oj.dst u a3).trans hw) ((ig oi hsi env oj.dst u a3).trans he) hx.1.2 hx.1.1 hx.2⟩
   unfold ei at h2 ⊢
   split
   ·rename_i Mc; rw [if_pos Mc] at h2; exact mz h2 fun u M1 hx => fin u M1 hx
   ·rename_i Mc; rw [if_neg Mc] at h2; exact fin _ _ h2
end
end Go.AF
