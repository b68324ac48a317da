/- A part of proofs about one program. -/
import Derived.Test.YtnnlgknlialpmaaGreatZSchedWakesReg
set_option linter.unusedVariables false
namespace Go.AF
def eP (ops : Array Oper) (L i : Nat) : Bool := match ops[i]? with
 | some o => !L.testBit i && o.after.all fun e => !Region.binds .any e || L.testBit e.on
 | none => false
def qm : VM → VM → Bool
 | .pure, _ => true
 | .read, .pure => true
 | .read, .read => true
 | .read, .new => true
 | .new, .pure => true
 | .new, .new => true
 | _, _ => false
def wc (P : Program) (ops : Array Oper) (ej : List Nat) (L i : Nat) : Bool := match ops[i]? with
 | some oi => (List.range ops.size).all fun j => Nat.beq j i || L.testBit j || (ej.getD j 0).testBit i || (match ops[j]? with
  | some oj => oi.apart ops oj && qm (cls P oi) (cls P oj)
  | none => true)
 | none => false
def zO (ej : List Nat) (s : Nat) (e : Edge) : Nat := if Region.binds .any e then s ||| 2 ^ e.on ||| ej.getD e.on 0 else s
def mA (ops : Array Oper) (ej : List Nat) : Bool := (List.range ops.size).all fun j => match ops[j]? with
 | some o => (o.after.toList.all fun e => !Region.binds .any e || decide (e.on < j)) && Nat.beq (ej.getD j 0) (o.after.toList.foldl (zO ej) 0)
 | none => true
def fD (C : Ctx) (ops : Array Oper) (Kp : List PanicEntry → Mem → Prop) (i : Nat) (env : Nat → Value) (M : Mem) (K : (Nat → Value) → Mem → Prop) : Prop := match ops[i]? with
 | some o => dL C ops o env M K Kp
 | none => K env M
def rK (M : Mem) : Prop := ∃ N, ∀ b, N ≤ b → M b = none
theorem rK.set {M : Mem} (h : rK M) (b : Nat) (o : Obj) : rK (M.set b o) := by
 obtain ⟨N, h⟩ := h
 exact ⟨max N (b + 1), fun i hi => by simp only [Mem.set]; rw [if_neg (by omega)]; exact h i (by omega)⟩
def cW (C : Ctx) (ops : Array Oper) (S : Mem → Prop) (K : (Nat → Value) → Mem → Prop) (Kp : List PanicEntry → Mem → Prop) : Nat → Nat → (Nat → Value) → Mem → Prop
 | 0, L, env, M => rK M → (∀ i, eP ops L i = false) ∧ K env M
 | f + 1, L, env, M => rK M → ((∀ i, eP ops L i = false) → K env M) ∧ ∀ i, eP ops L i = true → fD C ops Kp i env M fun env' M' => S M' ∧ cW C ops S K Kp f (L ||| 2 ^ i) env' M'
def uC (S : Mem → Prop) : Prop := ∀ M M', Mem.le M M' → S M → S M'
theorem dG (L i j : Nat) : (L ||| 2 ^ i).testBit j = (L.testBit j || decide (i = j)) := by
 rw [Nat.testBit_or, Nat.testBit_two_pow]
theorem bD {ops : Array Oper} {L i : Nat} : eP ops L i = true ↔ L.testBit i = false ∧ ∃ o, ops[i]? = some o ∧ ∀ e ∈ o.after, Region.binds .any e = true → L.testBit e.on = true := by
 unfold eP
 cases ho : ops[i]? with
 | none => simp
 | some o =>
  simp only [Bool.and_eq_true, Bool.not_eq_true', Array.all_eq_true_iff_forall_mem, Bool.or_eq_true, Option.some.injEq, exists_eq_left']
  constructor
  ·rintro ⟨h0, h⟩
   exact ⟨h0, fun e he hb => (h e he).resolve_left (by simp [hb])⟩
  ·rintro ⟨h0, h⟩
   exact ⟨h0, fun e he => by cases hb : Region.binds .any e <;> simp [h e he, hb]⟩
theorem e8 {ops : Array Oper} {L i j : Nat} (hj : eP ops L j = true) (hne : j ≠ i) : eP ops (L ||| 2 ^ i) j = true := by
 rw [bD] at *
 obtain ⟨h0, o, ho, fJ⟩ := hj
 exact ⟨by rw [dG, h0]; simp [Ne.symm hne], o, ho, fun e he hb => by rw [dG, fJ e he hb]; rfl⟩
def Dn (ops : Array Oper) (L : Nat) : Prop := ∀ k o, L.testBit k = true → ops[k]? = some o → ∀ e ∈ o.after, Region.binds .any e = true → L.testBit e.on = true
theorem Dn.add {ops : Array Oper} {L i : Nat} (h : Dn ops L) (hi : eP ops L i = true) : Dn ops (L ||| 2 ^ i) := by
 obtain ⟨_, o, ho, fJ⟩ := bD.1 hi
 intro k o' hk hk' e he hb
 rw [dG] at hk ⊢
 simp only [Bool.or_eq_true, decide_eq_true_eq] at hk ⊢
 rcases hk with hk | rfl
 ·exact .inl (h k o' hk hk' e he hb)
 ·rw [ho] at hk'; cases hk'; exact .inl (fJ e he hb)
theorem Bt {ej : List Nat} : ∀ (l : List Edge) (s i : Nat), (l.foldl (zO ej) s).testBit i = true → s.testBit i = true ∨ ∃ e ∈ l, Region.binds .any e = true ∧ (e.on = i ∨ (ej.getD e.on 0).testBit i = true)
 | [], s, i, h => .inl h
 | e :: l, s, i, h => by
  simp only [List.foldl_cons] at h
  rcases Bt l _ i h with h1 | ⟨e', he', hb, h1⟩
  ·unfold zO at h1
   split at h1
   ·rename_i hb
    simp only [Nat.testBit_or, Bool.or_eq_true, Nat.testBit_two_pow, decide_eq_true_eq] at h1
    rcases h1 with (h1 | h1) | h1
    ·exact .inl h1
    ·exact .inr ⟨e, List.mem_cons_self .., hb, .inl h1⟩
    ·exact .inr ⟨e, List.mem_cons_self .., hb, .inr h1⟩
   ·exact .inl h1
  ·exact .inr ⟨e', List.mem_cons_of_mem _ he', hb, h1⟩
theorem lP {ops : Array Oper} {ej : List Nat} (ha : mA ops ej = true) {L : Nat} (hd : Dn ops L) :
  ∀ (j : Nat) (o : Oper), ops[j]? = some o → (∀ e ∈ o.after, Region.binds .any e = true → L.testBit e.on = true) → ∀ i, (ej.getD j 0).testBit i = true → L.testBit i = true := by
 intro j
 induction j using Nat.strongRecOn with
 | _ j ih =>
  intro o ho fJ i hi
  have hlt : j < ops.size := (Array.getElem?_eq_some_iff.1 ho).1
  have := List.all_eq_true.1 ha j (List.mem_range.2 hlt)
  rw [ho] at this
  simp only [Bool.and_eq_true, List.all_eq_true, Bool.or_eq_true, Bool.not_eq_true', decide_eq_true_eq] at this
  obtain ⟨h1, h2⟩ := this
  rw [Nat.eq_of_beq_eq_true h2] at hi
  rcases Bt _ 0 i hi with h | ⟨e, he, hb, h⟩
  ·simp at h
  ·have Ic := fJ e (by simpa using he) hb
   rcases h with rfl | h
   ·exact Ic
   ·have VN := (h1 e he).resolve_left (by simp [hb])
    cases VO : ops[e.on]? with
    | none =>
     have : ops.size ≤ e.on := by simpa using VO
     omega
    | some o' => exact ih e.on VN o' VO (fun e' he' hb' => hd e.on o' Ic VO e' he' hb') i h
theorem set_comm {M : Mem} {b b' : Nat} {o o' : Obj} (h : b ≠ b') : (M.set b o).set b' o' = (M.set b' o').set b o := by
 funext i; simp only [Mem.set]; by_cases h1 : i = b <;> by_cases h2 : i = b' <;> simp_all
theorem nv {M : Mem} {b : Nat} {o : Obj} (h : M b = none) : M.le (M.set b o) := fun i x hi => by
 simp only [Mem.set]; rw [if_neg (by rintro rfl; simp [h] at hi)]; exact hi
section
variable {C : Ctx} {ops : Array Oper} {K : (Nat → Value) → Mem → Prop} {Kp : List PanicEntry → Mem → Prop}
theorem yF {i : Nat} {env : Nat → Value} {M : Mem} {K K' : (Nat → Value) → Mem → Prop} (h : fD C ops Kp i env M K) (hk : ∀ v M', K v M' → K' v M') : fD C ops Kp i env M K' := by
 unfold fD at *
 split
 ·rename_i o ho; rw [ho] at h; exact ig h hk
 ·rename_i ho; rw [ho] at h; exact hk _ _ h
theorem nw {oi oj : Oper} {v : Value} {env : Nat → Value} {M : Mem} {K' : (Nat → Value) → Mem → Prop} (hap : oi.apart ops oj = true) (hsj : ∀ cs b, oj.op ≠ .select cs b)
  (h : dL C ops oj (aX env oi.dst v) M K' Kp) : dL C ops oj env M (fun env' M' => K' (aX env' oi.dst v) M') Kp := by
 obtain ⟨h1, h2, h3⟩ := Oper.apart_spec hap
 unfold dL at h ⊢
 rw [dP oj env oi.dst v h1] at h
 split
 ·rename_i hw
  rw [if_pos hw] at h
  unfold qf at h ⊢
  rw [gD oj hsj env oi.dst v h1] at h
  have hc : ∀ u, aX (aX env oi.dst v) oj.dst u = aX (aX env oj.dst u) oi.dst v := fun u => oP h2
  simpa only [hc] using h
 ·rename_i hw
  rw [if_neg hw] at h
  rw [← oP h2]; exact h
theorem rL (L i j : Nat) : L ||| 2 ^ i ||| 2 ^ j = L ||| 2 ^ j ||| 2 ^ i := by
 apply Nat.eq_of_testBit_eq; intro k; simp only [dG]; cases L.testBit k <;> simp [Bool.or_comm]
theorem F3 {j L i : Nat} {oi : Oper} {P : Program} (hi : ops[i]? = some oi) {ej : List Nat} (hfree : wc P ops ej L i = true) : wc P ops ej (L ||| 2 ^ j) i = true := by
 unfold wc at hfree ⊢; rw [hi] at hfree ⊢
 refine List.all_eq_true.2 fun k hk => ?_
 have := List.all_eq_true.1 hfree k hk
 simp only [Bool.or_eq_true] at this ⊢
 rcases this with ((h' | h') | h') | h'
 ·exact .inl (.inl (.inl h'))
 ·exact .inl (.inl (.inr (by rw [dG, h']; rfl)))
 ·exact .inl (.inr h')
 ·exact .inr h'
theorem yG {i j L : Nat} {oi oj : Oper} (hi : ops[i]? = some oi) {ej : List Nat} (ha : mA ops ej = true) (hdn : Dn ops L) (hfree : wc C.P ops ej L i = true) (hr : eP ops L i = true)
  (hj : eP ops L j = true) (ij : ops[j]? = some oj) (iH : j ≠ i) : oi.apart ops oj = true ∧ qm (cls C.P oi) (cls C.P oj) = true := by
 obtain ⟨F4, oj', Bu, fJ⟩ := bD.1 hj
 rw [ij] at Bu; cases Bu
 unfold wc at hfree; rw [hi] at hfree
 have := List.all_eq_true.1 hfree j (List.mem_range.2 (Array.getElem?_eq_some_iff.1 ij).1)
 simp only [F4, ij, Bool.or_false, Bool.or_eq_true, Bool.and_eq_true] at this
 rcases this with (h' | h') | h'
 ·exact absurd (Nat.eq_of_beq_eq_true h') iH
 ·have := lP ha hdn j oj ij fJ i h'
  rw [(bD.1 hr).1] at this; cases this
 ·exact h'
theorem Dj {S : Mem → Prop} (hS : uC S) {i : Nat} {oi : Oper} (hi : ops[i]? = some oi) (hsel : ∀ (j : Nat) (o : Oper) cs b, ops[j]? = some o → o.op ≠ .select cs b) {ej : List Nat} (ha : mA ops ej = true) :
  ∀ (f L : Nat) (env : Nat → Value) (M : Mem), S M → Dn ops L → wc C.P ops ej L i = true → eP ops L i = true →
   fD C ops Kp i env M (fun env' M' => S M' ∧ cW C ops S K Kp f (L ||| 2 ^ i) env' M') → cW C ops S K Kp (f + 1) L env M := by
 intro f
 induction f with
 | zero =>
  intro L env M jK hdn hfree hr h eA
  refine ⟨fun hno => (by rw [hno i] at hr; cases hr), fun j hj => ?_⟩
  by_cases iH : j = i
  ·subst iH; exact h
  ·exfalso
   obtain ⟨F4, oj, ij, fJ⟩ := bD.1 hj
   obtain ⟨_, mB⟩ := yG hi ha hdn hfree hr hj ij iH
   have hj' := e8 (i := i) hj iH
   unfold fD at h; rw [hi] at h; simp only at h
   unfold dL at h
   split at h
   ·unfold qf at h
    cases hc : cls C.P oi <;> rw [hc] at h mB <;> simp only at h
    ·obtain ⟨v, _, _, h⟩ := h; have := (h eA).1 j; rw [this] at hj'; cases hj'
    ·obtain ⟨v, _, _, h⟩ := h; have := (h eA).1 j; rw [this] at hj'; cases hj'
    ·obtain ⟨ob, k, _, h⟩ := h
     obtain ⟨N, hN⟩ := eA
     obtain ⟨v, _, _, h⟩ := h N (hN N (Nat.le_refl _)); have := (h (rK.set ⟨N, hN⟩ _ _)).1 j; rw [this] at hj'; cases hj'
    ·cases hh : cls C.P oj <;> rw [hh] at mB <;> simp [qm] at mB
   ·have := (h.2 eA).1 j; rw [this] at hj'; cases hj'
 | succ f ih =>
  intro L env M jK hdn hfree hr h eA
  refine ⟨fun hno => (by rw [hno i] at hr; cases hr), fun j hj => ?_⟩
  by_cases iH : j = i
  ·subst iH; exact h
  ·obtain ⟨F4, oj, ij, fJ⟩ := bD.1 hj
   obtain ⟨hap, mB⟩ := yG hi ha hdn hfree hr hj ij iH
   obtain ⟨a1, a2, a3⟩ := Oper.apart_spec hap
   have hsi := fun cs b => hsel i oi cs b hi
   have hsj := fun cs b => hsel j oj cs b ij
   have Lr := hdn.add hj
   have HW := e8 (i := j) hr (Ne.symm iH)
   have OY := F3 (j := j) hi hfree
   have hj' := e8 (i := i) hj iH
   have VP : L ||| 2 ^ i ||| 2 ^ j = L ||| 2 ^ j ||| 2 ^ i := rL L i j
   unfold fD at h; rw [hi] at h; simp only at h
   show fD C ops Kp j env M _
   unfold fD; rw [ij]; simp only
   have back : ∀ (u : Value) (M1 : Mem), S M1 → dL C ops oi (aX env oj.dst u) M1 (fun env' M' => S M' ∧ cW C ops S K Kp f (L ||| 2 ^ j ||| 2 ^ i) env' M') Kp →
     cW C ops S K Kp (f + 1) (L ||| 2 ^ j) (aX env oj.dst u) M1 := fun u M1 tF hb => by
    refine ih (L ||| 2 ^ j) _ M1 tF Lr OY HW ?_
    unfold fD; rw [hi]; exact hb
   have Sy : ∀ u, bJ ops oi (aX env oj.dst u) = bJ ops oi env := fun u => dP oi env oj.dst u a3
   have RH : ∀ u, execOp (nf (aX env oj.dst u)) oi = execOp (nf env) oi := fun u => gD oi hsi env oj.dst u a3
   have Ie : ∀ u, bJ ops oj (aX env oi.dst u) = bJ ops oj env := fun u => dP oj env oi.dst u a1
   have known : ∀ v, (∀ u M1, S M1 → cW C ops S K Kp f (L ||| 2 ^ j ||| 2 ^ i) (aX (aX env oj.dst u) oi.dst v) M1 → cW C ops S K Kp (f + 1) (L ||| 2 ^ j) (aX env oj.dst u) M1) →
     dL C ops oj (aX env oi.dst v) M (fun env' M' => S M' ∧ cW C ops S K Kp f (L ||| 2 ^ i ||| 2 ^ j) env' M') Kp →
     dL C ops oj env M (fun env' M' => S M' ∧ cW C ops S K Kp (f + 1) (L ||| 2 ^ j) env' M') Kp := fun v hb hH => by
    rw [VP] at hH
    have h2 := nw hap hsj hH
    unfold dL at h2 ⊢
    split
    ·rename_i hw; rw [if_pos hw] at h2; exact kP h2 fun u M1 hx => ⟨hx.1, hb u M1 hx.1 hx.2⟩
    ·rename_i hw; rw [if_neg hw] at h2; exact ⟨h2.1, hb _ _ h2.1 h2.2⟩
   by_cases hw : bJ ops oi env = true
   ·unfold dL at h
    rw [if_pos hw] at h
    have OZ : ∀ u, bJ ops oi (aX env oj.dst u) = true := fun u => (Sy u).trans hw
    unfold qf at h
    cases hc : cls C.P oi with
    | pure =>
     rw [hc] at h; simp only at h
     obtain ⟨v, hv, _, h⟩ := h
     have hH := (h eA).2 j hj'
     unfold fD at hH; rw [ij] at hH; simp only at hH
     refine known v (fun u M1 tF hx => back u M1 tF (gL (OZ u) ?_)) hH
     unfold qf; rw [hc]; simp only [RH]
     exact ⟨v, hv, tF, hx⟩
    | read =>
     rw [hc] at h; simp only at h
     obtain ⟨v, hv, _, h⟩ := h
     have hH := (h eA).2 j hj'
     unfold fD at hH; rw [ij] at hH; simp only at hH
     rw [VP] at hH
     have h2 := nw hap hsj hH
     have fin : ∀ u M1, M.le M1 → S M1 → cW C ops S K Kp f (L ||| 2 ^ j ||| 2 ^ i) (aX (aX env oj.dst u) oi.dst v) M1 → cW C ops S K Kp (f + 1) (L ||| 2 ^ j) (aX env oj.dst u) M1 :=
      fun u M1 hle tF hx => back u M1 tF (gL (OZ u) (by
       unfold qf; rw [hc]; simp only [RH]
       exact ⟨v, kL C.P _ hle hv, tF, hx⟩))
     unfold dL at h2 ⊢
     split
     ·rename_i zP; rw [if_pos zP] at h2
      unfold qf at h2 ⊢
      cases AT : cls C.P oj <;> rw [AT, hc] at mB <;> rw [AT] at h2 <;> simp only at h2 ⊢
      ·obtain ⟨u, hu, h2⟩ := h2; exact ⟨u, hu, h2.1, fin u M (fun _ _ h => h) h2.1 h2.2⟩
      ·obtain ⟨u, hu, h2⟩ := h2; exact ⟨u, hu, h2.1, fin u M (fun _ _ h => h) h2.1 h2.2⟩
      ·obtain ⟨ob, k, hn, h2⟩ := h2
       refine ⟨ob, k, hn, fun b hb => ?_⟩
       obtain ⟨u, hu, h2⟩ := h2 b hb
       exact ⟨u, hu, h2.1, fin u _ (nv hb) h2.1 h2.2⟩
      ·simp [qm] at mB
     ·rename_i zP; rw [if_neg zP] at h2; exact ⟨h2.1, fin _ _ (fun _ _ h => h) h2.1 h2.2⟩
    | new =>
     rw [hc] at h; simp only at h
     obtain ⟨ob, k, hn, h⟩ := h
     have each : ∀ b, M b = none → ∃ v, bE C.P (k b) Mem.empty = some (.value v) ∧
       dL C ops oj env (M.set b ob) (fun env' M' => S M' ∧ cW C ops S K Kp f (L ||| 2 ^ j ||| 2 ^ i) (aX env' oi.dst v) M') Kp := fun b hb => by
      obtain ⟨v, hv, _, hx⟩ := h b hb
      have hH := (hx (eA.set b ob)).2 j hj'
      unfold fD at hH; rw [ij] at hH; simp only at hH
      rw [VP] at hH
      exact ⟨v, hv, nw hap hsj hH⟩
     obtain ⟨N, hN⟩ := eA
     obtain ⟨v0, hv0, h0⟩ := each N (hN N (Nat.le_refl _))
     have fin : ∀ u M1, S M1 → (∀ b, M1 b = none → ∃ v, bE C.P (k b) Mem.empty = some (.value v) ∧ cW C ops S K Kp f (L ||| 2 ^ j ||| 2 ^ i) (aX (aX env oj.dst u) oi.dst v) (M1.set b ob)) →
       cW C ops S K Kp (f + 1) (L ||| 2 ^ j) (aX env oj.dst u) M1 :=
      fun u M1 tF hx => back u M1 tF (gL (OZ u) (by
       unfold qf; rw [hc]; simp only [RH]
       exact ⟨ob, k, hn, fun b hb => let ⟨v, hv, hy⟩ := hx b hb; ⟨v, hv, hS _ _ (nv hb) tF, hy⟩⟩))
     unfold dL at h0 ⊢
     split
     ·rename_i zP; rw [if_pos zP] at h0
      unfold qf at h0 ⊢
      cases AT : cls C.P oj <;> rw [AT, hc] at mB <;> rw [AT] at h0 <;> simp only at h0 ⊢
      ·obtain ⟨u, hu, h0⟩ := h0
       refine ⟨u, hu, jK, fin u M jK fun b hb => ?_⟩
       obtain ⟨v, hv, h1⟩ := each b hb
       unfold dL at h1; rw [if_pos zP] at h1
       unfold qf at h1; rw [AT] at h1; simp only at h1
       obtain ⟨u', NW, _, h1⟩ := h1
       have : u' = u := by have e1 := NW M; rw [hu M] at e1; cases e1; rfl
       subst this
       exact ⟨v, hv, h1⟩
      ·simp [qm] at mB
      ·obtain ⟨ob', k', hn', h0⟩ := h0
       refine ⟨ob', k', hn', fun b' hb' => ?_⟩
       have dec : ∀ b, M b = none → b ≠ b' → ∃ v u, bE C.P (k b) Mem.empty = some (.value v) ∧ bE C.P (k' b') Mem.empty = some (.value u) ∧
         cW C ops S K Kp f (L ||| 2 ^ j ||| 2 ^ i) (aX (aX env oj.dst u) oi.dst v) ((M.set b ob).set b' ob') := fun b hb hne => by
        obtain ⟨v, hv, h1⟩ := each b hb
        unfold dL at h1; rw [if_pos zP] at h1
        unfold qf at h1; rw [AT] at h1; simp only at h1
        obtain ⟨ob2, k2, xU, h1⟩ := h1
        rw [hn'] at xU; cases xU
        obtain ⟨u, hu, _, h1⟩ := h1 b' (by simp only [Mem.set]; rw [if_neg (Ne.symm hne)]; exact hb')
        exact ⟨v, u, hv, hu, h1⟩
       obtain ⟨_, u, _, hu, _⟩ := dec (max N (b' + 1)) (hN _ (by omega)) (by omega)
       refine ⟨u, hu, hS _ _ (nv hb') jK, fin u _ (hS _ _ (nv hb') jK) fun b hb => ?_⟩
       have hne : b ≠ b' := by rintro rfl; simp [Mem.set] at hb
       have K4 : M b = none := by simpa [Mem.set, hne] using hb
       obtain ⟨v, u', hv, NW, h1⟩ := dec b K4 hne
       rw [hu] at NW; cases NW
       exact ⟨v, hv, by rw [← set_comm hne]; exact h1⟩
      ·simp [qm] at mB
     ·rename_i zP
      refine ⟨jK, fin _ _ jK fun b hb => ?_⟩
      obtain ⟨v, hv, h1⟩ := each b hb
      unfold dL at h1; rw [if_neg zP] at h1
      exact ⟨v, hv, h1.2⟩
    | FX => rw [hc] at mB; cases hh : cls C.P oj <;> rw [hh] at mB <;> simp [qm] at mB
   ·have hwf : bJ ops oi env = false := by simpa using hw
    unfold dL at h
    rw [if_neg hw] at h
    have hH := (h.2 eA).2 j hj'
    unfold fD at hH; rw [ij] at hH; simp only at hH
    exact known undef (fun u M1 tF hx => back u M1 tF (jV ((Sy u).trans hwf) ⟨tF, hx⟩)) hH
def ny (ops : Array Oper) (ej : List Nat) (L i : Nat) : Bool := match ops[i]? with
 | some oi => (List.range ops.size).all fun j => Nat.beq j i || L.testBit j || (ej.getD j 0).testBit i || (match ops[j]? with
  | some oj => oi.apart ops oj
  | none => true)
 | none => false
theorem we {j L i : Nat} {oi : Oper} (hi : ops[i]? = some oi) {ej : List Nat} (hfree : ny ops ej L i = true) : ny ops ej (L ||| 2 ^ j) i = true := by
 unfold ny at hfree ⊢; rw [hi] at hfree ⊢
 refine List.all_eq_true.2 fun k hk => ?_
 have := List.all_eq_true.1 hfree k hk
 simp only [Bool.or_eq_true] at this ⊢
 rcases this with ((h' | h') | h') | h'
 ·exact .inl (.inl (.inl h'))
 ·exact .inl (.inl (.inr (by rw [dG, h']; rfl)))
 ·exact .inl (.inr h')
 ·exact .inr h'
theorem Bv {i j L : Nat} {oi oj : Oper} (hi : ops[i]? = some oi) {ej : List Nat} (ha : mA ops ej = true) (hdn : Dn ops L) (hfree : ny ops ej L i = true) (hr : eP ops L i = true)
  (hj : eP ops L j = true) (ij : ops[j]? = some oj) (iH : j ≠ i) : oi.apart ops oj = true := by
 obtain ⟨F4, oj', Bu, fJ⟩ := bD.1 hj
 rw [ij] at Bu; cases Bu
 unfold ny at hfree; rw [hi] at hfree
 have := List.all_eq_true.1 hfree j (List.mem_range.2 (Array.getElem?_eq_some_iff.1 ij).1)
 simp only [F4, ij, Bool.or_false, Bool.or_eq_true] at this
 rcases this with (h' | h') | h'
 ·exact absurd (Nat.eq_of_beq_eq_true h') iH
 ·have := lP ha hdn j oj ij fJ i h'
  rw [(bD.1 hr).1] at this; cases this
 ·exact h'
theorem F5 {i : Nat} {oi : Oper} (hi : ops[i]? = some oi) (hsel : ∀ (j : Nat) (o : Oper) cs b, ops[j]? = some o → o.op ≠ .select cs b) {ej : List Nat} (ha : mA ops ej = true)
  (hc : cls C.P oi = .read) {S : Mem → Prop} {s : Sem Next} {v : Value} :
  ∀ (f L : Nat) (env : Nat → Value) (M : Mem), Dn ops L → ny ops ej L i = true → eP ops L i = true → bJ ops oi env = true → execOp (nf env) oi = s → bE C.P s M = some (.value v) → S M →
   cW C ops (fun M' => S M' ∧ bE C.P s M' = some (.value v)) K Kp f (L ||| 2 ^ i) (aX env oi.dst v) M → cW C ops S K Kp (f + 1) L env M := by
 intro f
 induction f with
 | zero =>
  intro L env M hdn hfree hr hw he hv jK h eA
  refine ⟨fun hno => (by rw [hno i] at hr; cases hr), fun j hj => ?_⟩
  by_cases iH : j = i
  ·subst iH
   unfold fD; rw [hi]; simp only
   refine gL hw ?_
   unfold qf; rw [hc]; simp only [he]
   exact ⟨v, hv, jK, h⟩
  ·have hj' := e8 (i := i) hj iH
   have := (h eA).1 j; rw [this] at hj'; cases hj'
 | succ f ih =>
  intro L env M hdn hfree hr hw he hv jK h eA
  have weak : ∀ (f L : Nat) (env : Nat → Value) (M : Mem), cW C ops (fun M' => S M' ∧ bE C.P s M' = some (.value v)) K Kp f L env M → cW C ops S K Kp f L env M := by
   intro f
   induction f with
   | zero => intro L env M h; exact h
   | succ f ihw => intro L env M h eA; exact ⟨(h eA).1, fun j hj => yF ((h eA).2 j hj) fun env' M' hx => ⟨hx.1.1, ihw _ _ _ hx.2⟩⟩
  refine ⟨fun hno => (by rw [hno i] at hr; cases hr), fun j hj => ?_⟩
  by_cases iH : j = i
  ·subst iH
   unfold fD; rw [hi]; simp only
   refine gL hw ?_
   unfold qf; rw [hc]; simp only [he]
   exact ⟨v, hv, jK, weak _ _ _ _ h⟩
  ·obtain ⟨F4, oj, ij, fJ⟩ := bD.1 hj
   have hap := Bv hi ha hdn hfree hr hj ij iH
   obtain ⟨a1, a2, a3⟩ := Oper.apart_spec hap
   have hsi := fun cs b => hsel i oi cs b hi
   have hsj := fun cs b => hsel j oj cs b ij
   have hj' := e8 (i := i) hj iH
   have hH := (h eA).2 j hj'
   unfold fD at hH ⊢; rw [ij] at hH ⊢; simp only at hH ⊢
   rw [rL L i j] at hH
   have h2 := nw hap hsj hH
   have fin : ∀ u M1, (S M1 ∧ bE C.P s M1 = some (.value v)) ∧ cW C ops (fun M' => S M' ∧ bE C.P s M' = some (.value v)) K Kp f (L ||| 2 ^ j ||| 2 ^ i) (aX (aX env oj.dst u) oi.dst v) M1 →
     S M1 ∧ cW C ops S K Kp (f + 1) (L ||| 2 ^ j) (aX env oj.dst u) M1 := fun u M1 hx =>
    ⟨hx.1.1, ih (L ||| 2 ^ j) _ M1 (hdn.add hj) (we hi hfree) (e8 hr (Ne.symm iH)) ((dP oi env oj.dst u a3).trans hw) ((gD oi hsi env oj.dst u a3).trans he) hx.1.2 hx.1.1 hx.2⟩
   unfold dL at h2 ⊢
   split
   ·rename_i Ie; rw [if_pos Ie] at h2; exact kP h2 fun u M1 hx => fin u M1 hx
   ·rename_i Ie; rw [if_neg Ie] at h2; exact fin _ _ h2
end
end Go.AF
