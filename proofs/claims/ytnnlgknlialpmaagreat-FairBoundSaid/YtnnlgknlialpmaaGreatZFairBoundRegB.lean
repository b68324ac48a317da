/- A part of proofs about one program. -/
import Derived.Test.YtnnlgknlialpmaaGreatZFairBoundReg
set_option linter.unusedVariables false
namespace Go.AF
def fD (ops : Array Oper) (L i : Nat) : Bool := match ops[i]? with
 | some o => !L.testBit i && o.after.all fun e => !Region.binds .any e || L.testBit e.on
 | none => false
def sF : Cls → Cls → Bool
 | .pure, _ => true
 | .read, .pure => true
 | .read, .read => true
 | .read, .new => true
 | .new, .pure => true
 | .new, .new => true
 | _, _ => false
def yC (P : Program) (ops : Array Oper) (eY : List Nat) (L i : Nat) : Bool := match ops[i]? with
 | some oi => (List.range ops.size).all fun j => Nat.beq j i || L.testBit j || (eY.getD j 0).testBit i || (match ops[j]? with
  | some oj => oi.apart ops oj && sF (cls P oi) (cls P oj)
  | none => true)
 | none => false
def CQ (eY : List Nat) (s : Nat) (e : Edge) : Nat := if Region.binds .any e then s ||| 2 ^ e.on ||| eY.getD e.on 0 else s
def om (ops : Array Oper) (eY : List Nat) : Bool := (List.range ops.size).all fun j => match ops[j]? with
 | some o => (o.after.toList.all fun e => !Region.binds .any e || decide (e.on < j)) && Nat.beq (eY.getD j 0) (o.after.toList.foldl (CQ eY) 0)
 | none => true
def gm (C : Ctx) (ops : Array Oper) (Kp : List PanicEntry → Mem → Prop) (i : Nat) (env : Nat → Value) (M : Mem) (K : (Nat → Value) → Mem → Prop) : Prop := match ops[i]? with
 | some o => ei C ops o env M K Kp
 | none => K env M
def tX (M : Mem) : Prop := ∃ N, ∀ b, N ≤ b → M b = none
theorem tX.set {M : Mem} (h : tX M) (b : Nat) (o : Obj) : tX (M.set b o) := by
 obtain ⟨N, h⟩ := h
 exact ⟨max N (b + 1), fun i hi => by simp only [Mem.set]; rw [if_neg (by omega)]; exact h i (by omega)⟩
def dH (C : Ctx) (ops : Array Oper) (S : Mem → Prop) (K : (Nat → Value) → Mem → Prop) (Kp : List PanicEntry → Mem → Prop) : Nat → Nat → (Nat → Value) → Mem → Prop
 | 0, L, env, M => tX M → (∀ i, fD ops L i = false) ∧ K env M
 | f + 1, L, env, M => tX M → ((∀ i, fD ops L i = false) → K env M) ∧ ∀ i, fD ops L i = true → gm C ops Kp i env M fun env' M' => S M' ∧ dH C ops S K Kp f (L ||| 2 ^ i) env' M'
def wN (S : Mem → Prop) : Prop := ∀ M M', Mem.le M M' → S M → S M'
theorem dV (L i j : Nat) : (L ||| 2 ^ i).testBit j = (L.testBit j || decide (i = j)) := by
 rw [Nat.testBit_or, Nat.testBit_two_pow]
theorem bM {ops : Array Oper} {L i : Nat} : fD ops L i = true ↔ L.testBit i = false ∧ ∃ o, ops[i]? = some o ∧ ∀ e ∈ o.after, Region.binds .any e = true → L.testBit e.on = true := by
 unfold fD
 cases ho : ops[i]? with
 | none => simp
 | some o =>
  simp only [Bool.and_eq_true, Bool.not_eq_true', Array.all_eq_true_iff_forall_mem, Bool.or_eq_true, Option.some.injEq, exists_eq_left']
  constructor
  ·rintro ⟨h0, h⟩
   exact ⟨h0, fun e he hb => (h e he).resolve_left (by simp [hb])⟩
  ·rintro ⟨h0, h⟩
   exact ⟨h0, fun e he => by cases hb : Region.binds .any e <;> simp [h e he, hb]⟩
theorem fN {ops : Array Oper} {L i j : Nat} (hj : fD ops L j = true) (hne : j ≠ i) : fD ops (L ||| 2 ^ i) j = true := by
 rw [bM] at *
 obtain ⟨h0, o, ho, gS⟩ := hj
 exact ⟨by rw [dV, h0]; simp [Ne.symm hne], o, ho, fun e he hb => by rw [dV, gS e he hb]; rfl⟩
def Dn (ops : Array Oper) (L : Nat) : Prop := ∀ k o, L.testBit k = true → ops[k]? = some o → ∀ e ∈ o.after, Region.binds .any e = true → L.testBit e.on = true
theorem Dn.add {ops : Array Oper} {L i : Nat} (h : Dn ops L) (hi : fD ops L i = true) : Dn ops (L ||| 2 ^ i) := by
 obtain ⟨_, o, ho, gS⟩ := bM.1 hi
 intro k o' hk hk' e he hb
 rw [dV] at hk ⊢
 simp only [Bool.or_eq_true, decide_eq_true_eq] at hk ⊢
 rcases hk with hk | rfl
 ·exact .inl (h k o' hk hk' e he hb)
 ·rw [ho] at hk'; cases hk'; exact .inl (gS e he hb)
theorem Ea {eY : List Nat} : ∀ (l : List Edge) (s i : Nat), (l.foldl (CQ eY) s).testBit i = true → s.testBit i = true ∨ ∃ e ∈ l, Region.binds .any e = true ∧ (e.on = i ∨ (eY.getD e.on 0).testBit i = true)
 | [], s, i, h => .inl h
 | e :: l, s, i, h => by
  simp only [List.foldl_cons] at h
  rcases Ea l _ i h with h1 | ⟨e', he', hb, h1⟩
  ·unfold CQ at h1
   split at h1
   ·rename_i hb
    simp only [Nat.testBit_or, Bool.or_eq_true, Nat.testBit_two_pow, decide_eq_true_eq] at h1
    rcases h1 with (h1 | h1) | h1
    ·exact .inl h1
    ·exact .inr ⟨e, List.mem_cons_self .., hb, .inl h1⟩
    ·exact .inr ⟨e, List.mem_cons_self .., hb, .inr h1⟩
   ·exact .inl h1
  ·exact .inr ⟨e', List.mem_cons_of_mem _ he', hb, h1⟩
theorem ny {ops : Array Oper} {eY : List Nat} (ha : om ops eY = true) {L : Nat} (hd : Dn ops L) :
  ∀ (j : Nat) (o : Oper), ops[j]? = some o → (∀ e ∈ o.after, Region.binds .any e = true → L.testBit e.on = true) → ∀ i, (eY.getD j 0).testBit i = true → L.testBit i = true := by
 intro j
 induction j using Nat.strongRecOn with
 | _ j ih =>
  intro o ho gS i hi
  have hlt : j < ops.size := (Array.getElem?_eq_some_iff.1 ho).1
  have := List.all_eq_true.1 ha j (List.mem_range.2 hlt)
  rw [ho] at this
  simp only [Bool.and_eq_true, List.all_eq_true, Bool.or_eq_true, Bool.not_eq_true', decide_eq_true_eq] at this
  obtain ⟨h1, h2⟩ := this
  rw [Nat.eq_of_beq_eq_true h2] at hi
  rcases Ea _ 0 i hi with h | ⟨e, he, hb, h⟩
  ·simp at h
  ·have Me := gS e (by simpa using he) hb
   rcases h with rfl | h
   ·exact Me
   ·have Mf := (h1 e he).resolve_left (by simp [hb])
    cases hoe : ops[e.on]? with
    | none =>
     have : ops.size ≤ e.on := by simpa using hoe
     omega
    | some o' => exact ih e.on Mf o' hoe (fun e' he' hb' => hd e.on o' Me hoe e' he' hb') i h
theorem set_comm {M : Mem} {b b' : Nat} {o o' : Obj} (h : b ≠ b') : (M.set b o).set b' o' = (M.set b' o').set b o := by
 funext i; simp only [Mem.set]; by_cases h1 : i = b <;> by_cases h2 : i = b' <;> simp_all
theorem pg {M : Mem} {b : Nat} {o : Obj} (h : M b = none) : M.le (M.set b o) := fun i x hi => by
 simp only [Mem.set]; rw [if_neg (by rintro rfl; simp [h] at hi)]; exact hi
section
variable {C : Ctx} {ops : Array Oper} {K : (Nat → Value) → Mem → Prop} {Kp : List PanicEntry → Mem → Prop}
theorem BF {i : Nat} {env : Nat → Value} {M : Mem} {K K' : (Nat → Value) → Mem → Prop} (h : gm C ops Kp i env M K) (hk : ∀ v M', K v M' → K' v M') : gm C ops Kp i env M K' := by
 unfold gm at *
 split
 ·rename_i o ho; rw [ho] at h; exact jf h hk
 ·rename_i ho; rw [ho] at h; exact hk _ _ h
theorem pn {oi oj : Oper} {v : Value} {env : Nat → Value} {M : Mem} {K' : (Nat → Value) → Mem → Prop} (hap : oi.apart ops oj = true) (hsj : ∀ cs b, oj.op ≠ .select cs b)
  (h : ei C ops oj (bl env oi.dst v) M K' Kp) : ei C ops oj env M (fun env' M' => K' (bl env' oi.dst v) M') Kp := by
 obtain ⟨h1, h2, h3⟩ := Oper.apart_spec hap
 unfold ei at h ⊢
 rw [eA oj env oi.dst v h1] at h
 split
 ·rename_i hw
  rw [if_pos hw] at h
  unfold r9 at h ⊢
  rw [ir oj hsj env oi.dst v h1] at h
  have hc : ∀ u, bl (bl env oi.dst v) oj.dst u = bl (bl env oj.dst u) oi.dst v := fun u => qB h2
  simpa only [hc] using h
 ·rename_i hw
  rw [if_neg hw] at h
  rw [← qB h2]; exact h
theorem tY (L i j : Nat) : L ||| 2 ^ i ||| 2 ^ j = L ||| 2 ^ j ||| 2 ^ i := by
 apply Nat.eq_of_testBit_eq; intro k; simp only [dV]; cases L.testBit k <;> simp [Bool.or_comm]
theorem JK {j L i : Nat} {oi : Oper} {P : Program} (hi : ops[i]? = some oi) {eY : List Nat} (hfree : yC P ops eY L i = true) : yC P ops eY (L ||| 2 ^ j) i = true := by
 unfold yC at hfree ⊢; rw [hi] at hfree ⊢
 refine List.all_eq_true.2 fun k hk => ?_
 have := List.all_eq_true.1 hfree k hk
 simp only [Bool.or_eq_true] at this ⊢
 rcases this with ((h' | h') | h') | h'
 ·exact .inl (.inl (.inl h'))
 ·exact .inl (.inl (.inr (by rw [dV, h']; rfl)))
 ·exact .inl (.inr h')
 ·exact .inr h'
theorem BG {i j L : Nat} {oi oj : Oper} (hi : ops[i]? = some oi) {eY : List Nat} (ha : om ops eY = true) (hdn : Dn ops L) (hfree : yC C.P ops eY L i = true) (hr : fD ops L i = true)
  (hj : fD ops L j = true) (jg : ops[j]? = some oj) (jC : j ≠ i) : oi.apart ops oj = true ∧ sF (cls C.P oi) (cls C.P oj) = true := by
 obtain ⟨JL, oj', Eb, gS⟩ := bM.1 hj
 rw [jg] at Eb; cases Eb
 unfold yC at hfree; rw [hi] at hfree
 have := List.all_eq_true.1 hfree j (List.mem_range.2 (Array.getElem?_eq_some_iff.1 jg).1)
 simp only [JL, jg, Bool.or_false, Bool.or_eq_true, Bool.and_eq_true] at this
 rcases this with (h' | h') | h'
 ·exact absurd (Nat.eq_of_beq_eq_true h') jC
 ·have := ny ha hdn j oj jg gS i h'
  rw [(bM.1 hr).1] at this; cases this
 ·exact h'
theorem Gc {S : Mem → Prop} (hS : wN S) {i : Nat} {oi : Oper} (hi : ops[i]? = some oi) (hsel : ∀ (j : Nat) (o : Oper) cs b, ops[j]? = some o → o.op ≠ .select cs b) {eY : List Nat} (ha : om ops eY = true) :
  ∀ (f L : Nat) (env : Nat → Value) (M : Mem), S M → Dn ops L → yC C.P ops eY L i = true → fD ops L i = true →
   gm C ops Kp i env M (fun env' M' => S M' ∧ dH C ops S K Kp f (L ||| 2 ^ i) env' M') → dH C ops S K Kp (f + 1) L env M := by
 intro f
 induction f with
 | zero =>
  intro L env M lp hdn hfree hr h fh
  refine ⟨fun hno => (by rw [hno i] at hr; cases hr), fun j hj => ?_⟩
  by_cases jC : j = i
  ·subst jC; exact h
  ·exfalso
   obtain ⟨JL, oj, jg, gS⟩ := bM.1 hj
   obtain ⟨_, oq⟩ := BG hi ha hdn hfree hr hj jg jC
   have hj' := fN (i := i) hj jC
   unfold gm at h; rw [hi] at h; simp only at h
   unfold ei at h
   split at h
   ·unfold r9 at h
    cases hc : cls C.P oi <;> rw [hc] at h oq <;> simp only at h
    ·obtain ⟨v, _, _, h⟩ := h; have := (h fh).1 j; rw [this] at hj'; cases hj'
    ·obtain ⟨v, _, _, h⟩ := h; have := (h fh).1 j; rw [this] at hj'; cases hj'
    ·obtain ⟨ob, k, _, h⟩ := h
     obtain ⟨N, hN⟩ := fh
     obtain ⟨v, _, _, h⟩ := h N (hN N (Nat.le_refl _)); have := (h (tX.set ⟨N, hN⟩ _ _)).1 j; rw [this] at hj'; cases hj'
    ·cases hh : cls C.P oj <;> rw [hh] at oq <;> simp [sF] at oq
   ·have := (h.2 fh).1 j; rw [this] at hj'; cases hj'
 | succ f ih =>
  intro L env M lp hdn hfree hr h fh
  refine ⟨fun hno => (by rw [hno i] at hr; cases hr), fun j hj => ?_⟩
  by_cases jC : j = i
  ·subst jC; exact h
  ·obtain ⟨JL, oj, jg, gS⟩ := bM.1 hj
   obtain ⟨hap, oq⟩ := BG hi ha hdn hfree hr hj jg jC
   obtain ⟨a1, a2, a3⟩ := Oper.apart_spec hap
   have hsi := fun cs b => hsel i oi cs b hi
   have hsj := fun cs b => hsel j oj cs b jg
   have P9 := hdn.add hj
   have P3 := fN (i := j) hr (Ne.symm jC)
   have TE := JK (j := j) hi hfree
   have hj' := fN (i := i) hj jC
   have hor : L ||| 2 ^ i ||| 2 ^ j = L ||| 2 ^ j ||| 2 ^ i := tY L i j
   unfold gm at h; rw [hi] at h; simp only at h
   show gm C ops Kp j env M _
   unfold gm; rw [jg]; simp only
   have back : ∀ (u : Value) (M1 : Mem), S M1 → ei C ops oi (bl env oj.dst u) M1 (fun env' M' => S M' ∧ dH C ops S K Kp f (L ||| 2 ^ j ||| 2 ^ i) env' M') Kp →
     dH C ops S K Kp (f + 1) (L ||| 2 ^ j) (bl env oj.dst u) M1 := fun u M1 vA hb => by
    refine ih (L ||| 2 ^ j) _ M1 vA P9 TE P3 ?_
    unfold gm; rw [hi]; exact hb
   have Xz : ∀ u, bQ ops oi (bl env oj.dst u) = bQ ops oi env := fun u => eA oi env oj.dst u a3
   have WW : ∀ u, execOp (oU (bl env oj.dst u)) oi = execOp (oU env) oi := fun u => ir oi hsi env oj.dst u a3
   have Mg : ∀ u, bQ ops oj (bl env oi.dst u) = bQ ops oj env := fun u => eA oj env oi.dst u a1
   have known : ∀ v, (∀ u M1, S M1 → dH C ops S K Kp f (L ||| 2 ^ j ||| 2 ^ i) (bl (bl env oj.dst u) oi.dst v) M1 → dH C ops S K Kp (f + 1) (L ||| 2 ^ j) (bl env oj.dst u) M1) →
     ei C ops oj (bl env oi.dst v) M (fun env' M' => S M' ∧ dH C ops S K Kp f (L ||| 2 ^ i ||| 2 ^ j) env' M') Kp →
     ei C ops oj env M (fun env' M' => S M' ∧ dH C ops S K Kp (f + 1) (L ||| 2 ^ j) env' M') Kp := fun v hb iX => by
    rw [hor] at iX
    have h2 := pn hap hsj iX
    unfold ei at h2 ⊢
    split
    ·rename_i hw; rw [if_pos hw] at h2; exact mE h2 fun u M1 hx => ⟨hx.1, hb u M1 hx.1 hx.2⟩
    ·rename_i hw; rw [if_neg hw] at h2; exact ⟨h2.1, hb _ _ h2.1 h2.2⟩
   by_cases hw : bQ ops oi env = true
   ·unfold ei at h
    rw [if_pos hw] at h
    have TF : ∀ u, bQ ops oi (bl env oj.dst u) = true := fun u => (Xz u).trans hw
    unfold r9 at h
    cases hc : cls C.P oi with
    | pure =>
     rw [hc] at h; simp only at h
     obtain ⟨v, hv, _, h⟩ := h
     have iX := (h fh).2 j hj'
     unfold gm at iX; rw [jg] at iX; simp only at iX
     refine known v (fun u M1 vA hx => back u M1 vA (iG (TF u) ?_)) iX
     unfold r9; rw [hc]; simp only [WW]
     exact ⟨v, hv, vA, hx⟩
    | read =>
     rw [hc] at h; simp only at h
     obtain ⟨v, hv, _, h⟩ := h
     have iX := (h fh).2 j hj'
     unfold gm at iX; rw [jg] at iX; simp only at iX
     rw [hor] at iX
     have h2 := pn hap hsj iX
     have fin : ∀ u M1, M.le M1 → S M1 → dH C ops S K Kp f (L ||| 2 ^ j ||| 2 ^ i) (bl (bl env oj.dst u) oi.dst v) M1 → dH C ops S K Kp (f + 1) (L ||| 2 ^ j) (bl env oj.dst u) M1 :=
      fun u M1 hle vA hx => back u M1 vA (iG (TF u) (by
       unfold r9; rw [hc]; simp only [WW]
       exact ⟨v, mA C.P _ hle hv, vA, hx⟩))
     unfold ei at h2 ⊢
     split
     ·rename_i CR; rw [if_pos CR] at h2
      unfold r9 at h2 ⊢
      cases DM : cls C.P oj <;> rw [DM, hc] at oq <;> rw [DM] at h2 <;> simp only at h2 ⊢
      ·obtain ⟨u, hu, h2⟩ := h2; exact ⟨u, hu, h2.1, fin u M (fun _ _ h => h) h2.1 h2.2⟩
      ·obtain ⟨u, hu, h2⟩ := h2; exact ⟨u, hu, h2.1, fin u M (fun _ _ h => h) h2.1 h2.2⟩
      ·obtain ⟨ob, k, hn, h2⟩ := h2
       refine ⟨ob, k, hn, fun b hb => ?_⟩
       obtain ⟨u, hu, h2⟩ := h2 b hb
       exact ⟨u, hu, h2.1, fin u _ (pg hb) h2.1 h2.2⟩
      ·simp [sF] at oq
     ·rename_i CR; rw [if_neg CR] at h2; exact ⟨h2.1, fin _ _ (fun _ _ h => h) h2.1 h2.2⟩
    | new =>
     rw [hc] at h; simp only at h
     obtain ⟨ob, k, hn, h⟩ := h
     have each : ∀ b, M b = none → ∃ v, bL C.P (k b) Mem.empty = some (.value v) ∧
       ei C ops oj env (M.set b ob) (fun env' M' => S M' ∧ dH C ops S K Kp f (L ||| 2 ^ j ||| 2 ^ i) (bl env' oi.dst v) M') Kp := fun b hb => by
      obtain ⟨v, hv, _, hx⟩ := h b hb
      have iX := (hx (fh.set b ob)).2 j hj'
      unfold gm at iX; rw [jg] at iX; simp only at iX
      rw [hor] at iX
      exact ⟨v, hv, pn hap hsj iX⟩
     obtain ⟨N, hN⟩ := fh
     obtain ⟨v0, hv0, h0⟩ := each N (hN N (Nat.le_refl _))
     have fin : ∀ u M1, S M1 → (∀ b, M1 b = none → ∃ v, bL C.P (k b) Mem.empty = some (.value v) ∧ dH C ops S K Kp f (L ||| 2 ^ j ||| 2 ^ i) (bl (bl env oj.dst u) oi.dst v) (M1.set b ob)) →
       dH C ops S K Kp (f + 1) (L ||| 2 ^ j) (bl env oj.dst u) M1 :=
      fun u M1 vA hx => back u M1 vA (iG (TF u) (by
       unfold r9; rw [hc]; simp only [WW]
       exact ⟨ob, k, hn, fun b hb => let ⟨v, hv, hy⟩ := hx b hb; ⟨v, hv, hS _ _ (pg hb) vA, hy⟩⟩))
     unfold ei at h0 ⊢
     split
     ·rename_i CR; rw [if_pos CR] at h0
      unfold r9 at h0 ⊢
      cases DM : cls C.P oj <;> rw [DM, hc] at oq <;> rw [DM] at h0 <;> simp only at h0 ⊢
      ·obtain ⟨u, hu, h0⟩ := h0
       refine ⟨u, hu, lp, fin u M lp fun b hb => ?_⟩
       obtain ⟨v, hv, h1⟩ := each b hb
       unfold ei at h1; rw [if_pos CR] at h1
       unfold r9 at h1; rw [DM] at h1; simp only at h1
       obtain ⟨u', Sj, _, h1⟩ := h1
       have : u' = u := by have e1 := Sj M; rw [hu M] at e1; cases e1; rfl
       subst this
       exact ⟨v, hv, h1⟩
      ·simp [sF] at oq
      ·obtain ⟨ob', k', hn', h0⟩ := h0
       refine ⟨ob', k', hn', fun b' hb' => ?_⟩
       have dec : ∀ b, M b = none → b ≠ b' → ∃ v u, bL C.P (k b) Mem.empty = some (.value v) ∧ bL C.P (k' b') Mem.empty = some (.value u) ∧
         dH C ops S K Kp f (L ||| 2 ^ j ||| 2 ^ i) (bl (bl env oj.dst u) oi.dst v) ((M.set b ob).set b' ob') := fun b hb hne => by
        obtain ⟨v, hv, h1⟩ := each b hb
        unfold ei at h1; rw [if_pos CR] at h1
        unfold r9 at h1; rw [DM] at h1; simp only at h1
        obtain ⟨ob2, k2, xu, h1⟩ := h1
        rw [hn'] at xu; cases xu
        obtain ⟨u, hu, _, h1⟩ := h1 b' (by simp only [Mem.set]; rw [if_neg (Ne.symm hne)]; exact hb')
        exact ⟨v, u, hv, hu, h1⟩
       obtain ⟨_, u, _, hu, _⟩ := dec (max N (b' + 1)) (hN _ (by omega)) (by omega)
       refine ⟨u, hu, hS _ _ (pg hb') lp, fin u _ (hS _ _ (pg hb') lp) fun b hb => ?_⟩
       have hne : b ≠ b' := by rintro rfl; simp [Mem.set] at hb
       have Lx : M b = none := by simpa [Mem.set, hne] using hb
       obtain ⟨v, u', hv, Sj, h1⟩ := dec b Lx hne
       rw [hu] at Sj; cases Sj
       exact ⟨v, hv, by rw [← set_comm hne]; exact h1⟩
      ·simp [sF] at oq
     ·rename_i CR
      refine ⟨lp, fin _ _ lp fun b hb => ?_⟩
      obtain ⟨v, hv, h1⟩ := each b hb
      unfold ei at h1; rw [if_neg CR] at h1
      exact ⟨v, hv, h1.2⟩
    | JE => rw [hc] at oq; cases hh : cls C.P oj <;> rw [hh] at oq <;> simp [sF] at oq
   ·have hwf : bQ ops oi env = false := by simpa using hw
    unfold ei at h
    rw [if_neg hw] at h
    have iX := (h.2 fh).2 j hj'
    unfold gm at iX; rw [jg] at iX; simp only at iX
    exact known undef (fun u M1 vA hx => back u M1 vA (lG ((Xz u).trans hwf) ⟨vA, hx⟩)) iX
def po (ops : Array Oper) (eY : List Nat) (L i : Nat) : Bool := match ops[i]? with
 | some oi => (List.range ops.size).all fun j => Nat.beq j i || L.testBit j || (eY.getD j 0).testBit i || (match ops[j]? with
  | some oj => oi.apart ops oj
  | none => true)
 | none => false
theorem yD {j L i : Nat} {oi : Oper} (hi : ops[i]? = some oi) {eY : List Nat} (hfree : po ops eY L i = true) : po ops eY (L ||| 2 ^ j) i = true := by
 unfold po at hfree ⊢; rw [hi] at hfree ⊢
 refine List.all_eq_true.2 fun k hk => ?_
 have := List.all_eq_true.1 hfree k hk
 simp only [Bool.or_eq_true] at this ⊢
 rcases this with ((h' | h') | h') | h'
 ·exact .inl (.inl (.inl h'))
 ·exact .inl (.inl (.inr (by rw [dV, h']; rfl)))
 ·exact .inl (.inr h')
 ·exact .inr h'
theorem Ec {i j L : Nat} {oi oj : Oper} (hi : ops[i]? = some oi) {eY : List Nat} (ha : om ops eY = true) (hdn : Dn ops L) (hfree : po ops eY L i = true) (hr : fD ops L i = true)
  (hj : fD ops L j = true) (jg : ops[j]? = some oj) (jC : j ≠ i) : oi.apart ops oj = true := by
 obtain ⟨JL, oj', Eb, gS⟩ := bM.1 hj
 rw [jg] at Eb; cases Eb
 unfold po at hfree; rw [hi] at hfree
 have := List.all_eq_true.1 hfree j (List.mem_range.2 (Array.getElem?_eq_some_iff.1 jg).1)
 simp only [JL, jg, Bool.or_false, Bool.or_eq_true] at this
 rcases this with (h' | h') | h'
 ·exact absurd (Nat.eq_of_beq_eq_true h') jC
 ·have := ny ha hdn j oj jg gS i h'
  rw [(bM.1 hr).1] at this; cases this
 ·exact h'
theorem JM {i : Nat} {oi : Oper} (hi : ops[i]? = some oi) (hsel : ∀ (j : Nat) (o : Oper) cs b, ops[j]? = some o → o.op ≠ .select cs b) {eY : List Nat} (ha : om ops eY = true)
  (hc : cls C.P oi = .read) {S : Mem → Prop} {s : Sem Next} {v : Value} :
  ∀ (f L : Nat) (env : Nat → Value) (M : Mem), Dn ops L → po ops eY L i = true → fD ops L i = true → bQ ops oi env = true → execOp (oU env) oi = s → bL C.P s M = some (.value v) → S M →
   dH C ops (fun M' => S M' ∧ bL C.P s M' = some (.value v)) K Kp f (L ||| 2 ^ i) (bl env oi.dst v) M → dH C ops S K Kp (f + 1) L env M := by
 intro f
 induction f with
 | zero =>
  intro L env M hdn hfree hr hw he hv lp h fh
  refine ⟨fun hno => (by rw [hno i] at hr; cases hr), fun j hj => ?_⟩
  by_cases jC : j = i
  ·subst jC
   unfold gm; rw [hi]; simp only
   refine iG hw ?_
   unfold r9; rw [hc]; simp only [he]
   exact ⟨v, hv, lp, h⟩
  ·have hj' := fN (i := i) hj jC
   have := (h fh).1 j; rw [this] at hj'; cases hj'
 | succ f ih =>
  intro L env M hdn hfree hr hw he hv lp h fh
  have weak : ∀ (f L : Nat) (env : Nat → Value) (M : Mem), dH C ops (fun M' => S M' ∧ bL C.P s M' = some (.value v)) K Kp f L env M → dH C ops S K Kp f L env M := by
   intro f
   induction f with
   | zero => intro L env M h; exact h
   | succ f ihw => intro L env M h fh; exact ⟨(h fh).1, fun j hj => BF ((h fh).2 j hj) fun env' M' hx => ⟨hx.1.1, ihw _ _ _ hx.2⟩⟩
  refine ⟨fun hno => (by rw [hno i] at hr; cases hr), fun j hj => ?_⟩
  by_cases jC : j = i
  ·subst jC
   unfold gm; rw [hi]; simp only
   refine iG hw ?_
   unfold r9; rw [hc]; simp only [he]
   exact ⟨v, hv, lp, weak _ _ _ _ h⟩
  ·obtain ⟨JL, oj, jg, gS⟩ := bM.1 hj
   have hap := Ec hi ha hdn hfree hr hj jg jC
   obtain ⟨a1, a2, a3⟩ := Oper.apart_spec hap
   have hsi := fun cs b => hsel i oi cs b hi
   have hsj := fun cs b => hsel j oj cs b jg
   have hj' := fN (i := i) hj jC
   have iX := (h fh).2 j hj'
   unfold gm at iX ⊢; rw [jg] at iX ⊢; simp only at iX ⊢
   rw [tY L i j] at iX
   have h2 := pn hap hsj iX
   have fin : ∀ u M1, (S M1 ∧ bL C.P s M1 = some (.value v)) ∧ dH C ops (fun M' => S M' ∧ bL C.P s M' = some (.value v)) K Kp f (L ||| 2 ^ j ||| 2 ^ i) (bl (bl env oj.dst u) oi.dst v) M1 →
     S M1 ∧ dH C ops S K Kp (f + 1) (L ||| 2 ^ j) (bl env oj.dst u) M1 := fun u M1 hx =>
    ⟨hx.1.1, ih (L ||| 2 ^ j) _ M1 (hdn.add hj) (yD hi hfree) (fN hr (Ne.symm jC)) ((eA oi env oj.dst u a3).trans hw) ((ir oi hsi env oj.dst u a3).trans he) hx.1.2 hx.1.1 hx.2⟩
   unfold ei at h2 ⊢
   split
   ·rename_i Mg; rw [if_pos Mg] at h2; exact mE h2 fun u M1 hx => fin u M1 hx
   ·rename_i Mg; rw [if_neg Mg] at h2; exact fin _ _ h2
end
end Go.AF
