/- A part of proofs about one program. -/
import Derived.Test.YtnnlgknlialpmaaGreatZShunterChatReg
set_option linter.unusedVariables false
namespace Go.AF
def eV (ops : Array Oper) (L i : Nat) : Bool := match ops[i]? with
 | some o => !L.testBit i && o.after.all fun e => !Region.binds .any e || L.testBit e.on
 | none => false
def rj : YW → YW → Bool
 | .pure, _ => true
 | .read, .pure => true
 | .read, .read => true
 | .read, .new => true
 | .new, .pure => true
 | .new, .new => true
 | _, _ => false
def xy (P : Program) (ops : Array Oper) (eF : List Nat) (L i : Nat) : Bool := match ops[i]? with
 | some oi => (List.range ops.size).all fun j => Nat.beq j i || L.testBit j || (eF.getD j 0).testBit i || (match ops[j]? with
  | some oj => oi.apart ops oj && rj (cls P oi) (cls P oj)
  | none => true)
 | none => false
def BK (eF : List Nat) (s : Nat) (e : Edge) : Nat := if Region.binds .any e then s ||| 2 ^ e.on ||| eF.getD e.on 0 else s
def nu (ops : Array Oper) (eF : List Nat) : Bool := (List.range ops.size).all fun j => match ops[j]? with
 | some o => (o.after.toList.all fun e => !Region.binds .any e || decide (e.on < j)) && Nat.beq (eF.getD j 0) (o.after.toList.foldl (BK eF) 0)
 | none => true
def fK (C : Ctx) (ops : Array Oper) (Kp : List PanicEntry → Mem → Prop) (i : Nat) (env : Nat → Value) (M : Mem) (K : (Nat → Value) → Mem → Prop) : Prop := match ops[i]? with
 | some o => dO C ops o env M K Kp
 | none => K env M
def sK (M : Mem) : Prop := ∃ N, ∀ b, N ≤ b → M b = none
theorem sK.set {M : Mem} (h : sK M) (b : Nat) (o : Obj) : sK (M.set b o) := by
 obtain ⟨N, h⟩ := h
 exact ⟨max N (b + 1), fun i hi => by simp only [Mem.set]; rw [if_neg (by omega)]; exact h i (by omega)⟩
def dg (C : Ctx) (ops : Array Oper) (S : Mem → Prop) (K : (Nat → Value) → Mem → Prop) (Kp : List PanicEntry → Mem → Prop) : Nat → Nat → (Nat → Value) → Mem → Prop
 | 0, L, env, M => sK M → (∀ i, eV ops L i = false) ∧ K env M
 | f + 1, L, env, M => sK M → ((∀ i, eV ops L i = false) → K env M) ∧ ∀ i, eV ops L i = true → fK C ops Kp i env M fun env' M' => S M' ∧ dg C ops S K Kp f (L ||| 2 ^ i) env' M'
def vH (S : Mem → Prop) : Prop := ∀ M M', Mem.le M M' → S M → S M'
theorem dI (L i j : Nat) : (L ||| 2 ^ i).testBit j = (L.testBit j || decide (i = j)) := by
 rw [Nat.testBit_or, Nat.testBit_two_pow]
theorem bG {ops : Array Oper} {L i : Nat} : eV ops L i = true ↔ L.testBit i = false ∧ ∃ o, ops[i]? = some o ∧ ∀ e ∈ o.after, Region.binds .any e = true → L.testBit e.on = true := by
 unfold eV
 cases ho : ops[i]? with
 | none => simp
 | some o =>
  simp only [Bool.and_eq_true, Bool.not_eq_true', Array.all_eq_true_iff_forall_mem, Bool.or_eq_true, Option.some.injEq, exists_eq_left']
  constructor
  ·rintro ⟨h0, h⟩
   exact ⟨h0, fun e he hb => (h e he).resolve_left (by simp [hb])⟩
  ·rintro ⟨h0, h⟩
   exact ⟨h0, fun e he => by cases hb : Region.binds .any e <;> simp [h e he, hb]⟩
theorem fj {ops : Array Oper} {L i j : Nat} (hj : eV ops L j = true) (hne : j ≠ i) : eV ops (L ||| 2 ^ i) j = true := by
 rw [bG] at *
 obtain ⟨h0, o, ho, gz⟩ := hj
 exact ⟨by rw [dI, h0]; simp [Ne.symm hne], o, ho, fun e he hb => by rw [dI, gz e he hb]; rfl⟩
def Dn (ops : Array Oper) (L : Nat) : Prop := ∀ k o, L.testBit k = true → ops[k]? = some o → ∀ e ∈ o.after, Region.binds .any e = true → L.testBit e.on = true
theorem Dn.add {ops : Array Oper} {L i : Nat} (h : Dn ops L) (hi : eV ops L i = true) : Dn ops (L ||| 2 ^ i) := by
 obtain ⟨_, o, ho, gz⟩ := bG.1 hi
 intro k o' hk hk' e he hb
 rw [dI] at hk ⊢
 simp only [Bool.or_eq_true, decide_eq_true_eq] at hk ⊢
 rcases hk with hk | rfl
 ·exact .inl (h k o' hk hk' e he hb)
 ·rw [ho] at hk'; cases hk'; exact .inl (gz e he hb)
theorem Dh {eF : List Nat} : ∀ (l : List Edge) (s i : Nat), (l.foldl (BK eF) s).testBit i = true → s.testBit i = true ∨ ∃ e ∈ l, Region.binds .any e = true ∧ (e.on = i ∨ (eF.getD e.on 0).testBit i = true)
 | [], s, i, h => .inl h
 | e :: l, s, i, h => by
  simp only [List.foldl_cons] at h
  rcases Dh l _ i h with h1 | ⟨e', he', hb, h1⟩
  ·unfold BK at h1
   split at h1
   ·rename_i hb
    simp only [Nat.testBit_or, Bool.or_eq_true, Nat.testBit_two_pow, decide_eq_true_eq] at h1
    rcases h1 with (h1 | h1) | h1
    ·exact .inl h1
    ·exact .inr ⟨e, List.mem_cons_self .., hb, .inl h1⟩
    ·exact .inr ⟨e, List.mem_cons_self .., hb, .inr h1⟩
   ·exact .inl h1
  ·exact .inr ⟨e', List.mem_cons_of_mem _ he', hb, h1⟩
theorem mE {ops : Array Oper} {eF : List Nat} (ha : nu ops eF = true) {L : Nat} (hd : Dn ops L) :
  ∀ (j : Nat) (o : Oper), ops[j]? = some o → (∀ e ∈ o.after, Region.binds .any e = true → L.testBit e.on = true) → ∀ i, (eF.getD j 0).testBit i = true → L.testBit i = true := by
 intro j
 induction j using Nat.strongRecOn with
 | _ j ih =>
  intro o ho gz i hi
  have hlt : j < ops.size := (Array.getElem?_eq_some_iff.1 ho).1
  have := List.all_eq_true.1 ha j (List.mem_range.2 hlt)
  rw [ho] at this
  simp only [Bool.and_eq_true, List.all_eq_true, Bool.or_eq_true, Bool.not_eq_true', decide_eq_true_eq] at this
  obtain ⟨h1, h2⟩ := this
  rw [Nat.eq_of_beq_eq_true h2] at hi
  rcases Dh _ 0 i hi with h | ⟨e, he, hb, h⟩
  ·simp at h
  ·have K0 := gz e (by simpa using he) hb
   rcases h with rfl | h
   ·exact K0
   ·have K2 := (h1 e he).resolve_left (by simp [hb])
    cases YX : ops[e.on]? with
    | none =>
     have : ops.size ≤ e.on := by simpa using YX
     omega
    | some o' => exact ih e.on K2 o' YX (fun e' he' hb' => hd e.on o' K0 YX e' he' hb') i h
theorem set_comm {M : Mem} {b b' : Nat} {o o' : Obj} (h : b ≠ b') : (M.set b o).set b' o' = (M.set b' o').set b o := by
 funext i; simp only [Mem.set]; by_cases h1 : i = b <;> by_cases h2 : i = b' <;> simp_all
theorem oh {M : Mem} {b : Nat} {o : Obj} (h : M b = none) : M.le (M.set b o) := fun i x hi => by
 simp only [Mem.set]; rw [if_neg (by rintro rfl; simp [h] at hi)]; exact hi
section
variable {C : Ctx} {ops : Array Oper} {K : (Nat → Value) → Mem → Prop} {Kp : List PanicEntry → Mem → Prop}
theorem Am {i : Nat} {env : Nat → Value} {M : Mem} {K K' : (Nat → Value) → Mem → Prop} (h : fK C ops Kp i env M K) (hk : ∀ v M', K v M' → K' v M') : fK C ops Kp i env M K' := by
 unfold fK at *
 split
 ·rename_i o ho; rw [ho] at h; exact iJ h hk
 ·rename_i ho; rw [ho] at h; exact hk _ _ h
theorem om {oi oj : Oper} {v : Value} {env : Nat → Value} {M : Mem} {K' : (Nat → Value) → Mem → Prop} (hap : oi.apart ops oj = true) (hsj : ∀ cs b, oj.op ≠ .select cs b)
  (h : dO C ops oj (aY env oi.dst v) M K' Kp) : dO C ops oj env M (fun env' M' => K' (aY env' oi.dst v) M') Kp := by
 obtain ⟨h1, h2, h3⟩ := Oper.apart_spec hap
 unfold dO at h ⊢
 rw [dS oj env oi.dst v h1] at h
 split
 ·rename_i hw
  rw [if_pos hw] at h
  unfold qN at h ⊢
  rw [gP oj hsj env oi.dst v h1] at h
  have hc : ∀ u, aY (aY env oi.dst v) oj.dst u = aY (aY env oj.dst u) oi.dst v := fun u => pK h2
  simpa only [hc] using h
 ·rename_i hw
  rw [if_neg hw] at h
  rw [← pK h2]; exact h
theorem sL (L i j : Nat) : L ||| 2 ^ i ||| 2 ^ j = L ||| 2 ^ j ||| 2 ^ i := by
 apply Nat.eq_of_testBit_eq; intro k; simp only [dI]; cases L.testBit k <;> simp [Bool.or_comm]
theorem IN {j L i : Nat} {oi : Oper} {P : Program} (hi : ops[i]? = some oi) {eF : List Nat} (hfree : xy P ops eF L i = true) : xy P ops eF (L ||| 2 ^ j) i = true := by
 unfold xy at hfree ⊢; rw [hi] at hfree ⊢
 refine List.all_eq_true.2 fun k hk => ?_
 have := List.all_eq_true.1 hfree k hk
 simp only [Bool.or_eq_true] at this ⊢
 rcases this with ((h' | h') | h') | h'
 ·exact .inl (.inl (.inl h'))
 ·exact .inl (.inl (.inr (by rw [dI, h']; rfl)))
 ·exact .inl (.inr h')
 ·exact .inr h'
theorem An {i j L : Nat} {oi oj : Oper} (hi : ops[i]? = some oi) {eF : List Nat} (ha : nu ops eF = true) (hdn : Dn ops L) (hfree : xy C.P ops eF L i = true) (hr : eV ops L i = true)
  (hj : eV ops L j = true) (iK : ops[j]? = some oj) (jg : j ≠ i) : oi.apart ops oj = true ∧ rj (cls C.P oi) (cls C.P oj) = true := by
 obtain ⟨IP, oj', Di, gz⟩ := bG.1 hj
 rw [iK] at Di; cases Di
 unfold xy at hfree; rw [hi] at hfree
 have := List.all_eq_true.1 hfree j (List.mem_range.2 (Array.getElem?_eq_some_iff.1 iK).1)
 simp only [IP, iK, Bool.or_false, Bool.or_eq_true, Bool.and_eq_true] at this
 rcases this with (h' | h') | h'
 ·exact absurd (Nat.eq_of_beq_eq_true h') jg
 ·have := mE ha hdn j oj iK gz i h'
  rw [(bG.1 hr).1] at this; cases this
 ·exact h'
theorem Fh {S : Mem → Prop} (hS : vH S) {i : Nat} {oi : Oper} (hi : ops[i]? = some oi) (hsel : ∀ (j : Nat) (o : Oper) cs b, ops[j]? = some o → o.op ≠ .select cs b) {eF : List Nat} (ha : nu ops eF = true) :
  ∀ (f L : Nat) (env : Nat → Value) (M : Mem), S M → Dn ops L → xy C.P ops eF L i = true → eV ops L i = true →
   fK C ops Kp i env M (fun env' M' => S M' ∧ dg C ops S K Kp f (L ||| 2 ^ i) env' M') → dg C ops S K Kp (f + 1) L env M := by
 intro f
 induction f with
 | zero =>
  intro L env M ke hdn hfree hr h eL
  refine ⟨fun hno => (by rw [hno i] at hr; cases hr), fun j hj => ?_⟩
  by_cases jg : j = i
  ·subst jg; exact h
  ·exfalso
   obtain ⟨IP, oj, iK, gz⟩ := bG.1 hj
   obtain ⟨_, nv⟩ := An hi ha hdn hfree hr hj iK jg
   have hj' := fj (i := i) hj jg
   unfold fK at h; rw [hi] at h; simp only at h
   unfold dO at h
   split at h
   ·unfold qN at h
    cases hc : cls C.P oi <;> rw [hc] at h nv <;> simp only at h
    ·obtain ⟨v, _, _, h⟩ := h; have := (h eL).1 j; rw [this] at hj'; cases hj'
    ·obtain ⟨v, _, _, h⟩ := h; have := (h eL).1 j; rw [this] at hj'; cases hj'
    ·obtain ⟨ob, k, _, h⟩ := h
     obtain ⟨N, hN⟩ := eL
     obtain ⟨v, _, _, h⟩ := h N (hN N (Nat.le_refl _)); have := (h (sK.set ⟨N, hN⟩ _ _)).1 j; rw [this] at hj'; cases hj'
    ·cases hh : cls C.P oj <;> rw [hh] at nv <;> simp [rj] at nv
   ·have := (h.2 eL).1 j; rw [this] at hj'; cases hj'
 | succ f ih =>
  intro L env M ke hdn hfree hr h eL
  refine ⟨fun hno => (by rw [hno i] at hr; cases hr), fun j hj => ?_⟩
  by_cases jg : j = i
  ·subst jg; exact h
  ·obtain ⟨IP, oj, iK, gz⟩ := bG.1 hj
   obtain ⟨hap, nv⟩ := An hi ha hdn hfree hr hj iK jg
   obtain ⟨a1, a2, a3⟩ := Oper.apart_spec hap
   have hsi := fun cs b => hsel i oi cs b hi
   have hsj := fun cs b => hsel j oj cs b iK
   have OP := hdn.add hj
   have OI := fj (i := j) hr (Ne.symm jg)
   have Sx := IN (j := j) hi hfree
   have hj' := fj (i := i) hj jg
   have YY : L ||| 2 ^ i ||| 2 ^ j = L ||| 2 ^ j ||| 2 ^ i := sL L i j
   unfold fK at h; rw [hi] at h; simp only at h
   show fK C ops Kp j env M _
   unfold fK; rw [iK]; simp only
   have back : ∀ (u : Value) (M1 : Mem), S M1 → dO C ops oi (aY env oj.dst u) M1 (fun env' M' => S M' ∧ dg C ops S K Kp f (L ||| 2 ^ j ||| 2 ^ i) env' M') Kp →
     dg C ops S K Kp (f + 1) (L ||| 2 ^ j) (aY env oj.dst u) M1 := fun u M1 sM hb => by
    refine ih (L ||| 2 ^ j) _ M1 sM OP Sx OI ?_
    unfold fK; rw [hi]; exact hb
   have VS : ∀ u, bK ops oi (aY env oj.dst u) = bK ops oi env := fun u => dS oi env oj.dst u a3
   have Vi : ∀ u, execOp (nW (aY env oj.dst u)) oi = execOp (nW env) oi := fun u => gP oi hsi env oj.dst u a3
   have K3 : ∀ u, bK ops oj (aY env oi.dst u) = bK ops oj env := fun u => dS oj env oi.dst u a1
   have known : ∀ v, (∀ u M1, S M1 → dg C ops S K Kp f (L ||| 2 ^ j ||| 2 ^ i) (aY (aY env oj.dst u) oi.dst v) M1 → dg C ops S K Kp (f + 1) (L ||| 2 ^ j) (aY env oj.dst u) M1) →
     dO C ops oj (aY env oi.dst v) M (fun env' M' => S M' ∧ dg C ops S K Kp f (L ||| 2 ^ i ||| 2 ^ j) env' M') Kp →
     dO C ops oj env M (fun env' M' => S M' ∧ dg C ops S K Kp (f + 1) (L ||| 2 ^ j) env' M') Kp := fun v hb iy => by
    rw [YY] at iy
    have h2 := om hap hsj iy
    unfold dO at h2 ⊢
    split
    ·rename_i hw; rw [if_pos hw] at h2; exact lG h2 fun u M1 hx => ⟨hx.1, hb u M1 hx.1 hx.2⟩
    ·rename_i hw; rw [if_neg hw] at h2; exact ⟨h2.1, hb _ _ h2.1 h2.2⟩
   by_cases hw : bK ops oi env = true
   ·unfold dO at h
    rw [if_pos hw] at h
    have Sy : ∀ u, bK ops oi (aY env oj.dst u) = true := fun u => (VS u).trans hw
    unfold qN at h
    cases hc : cls C.P oi with
    | pure =>
     rw [hc] at h; simp only at h
     obtain ⟨v, hv, _, h⟩ := h
     have iy := (h eL).2 j hj'
     unfold fK at iy; rw [iK] at iy; simp only at iy
     refine known v (fun u M1 sM hx => back u M1 sM (g7 (Sy u) ?_)) iy
     unfold qN; rw [hc]; simp only [Vi]
     exact ⟨v, hv, sM, hx⟩
    | read =>
     rw [hc] at h; simp only at h
     obtain ⟨v, hv, _, h⟩ := h
     have iy := (h eL).2 j hj'
     unfold fK at iy; rw [iK] at iy; simp only at iy
     rw [YY] at iy
     have h2 := om hap hsj iy
     have fin : ∀ u M1, M.le M1 → S M1 → dg C ops S K Kp f (L ||| 2 ^ j ||| 2 ^ i) (aY (aY env oj.dst u) oi.dst v) M1 → dg C ops S K Kp (f + 1) (L ||| 2 ^ j) (aY env oj.dst u) M1 :=
      fun u M1 hle sM hx => back u M1 sM (g7 (Sy u) (by
       unfold qN; rw [hc]; simp only [Vi]
       exact ⟨v, lB C.P _ hle hv, sM, hx⟩))
     unfold dO at h2 ⊢
     split
     ·rename_i BL; rw [if_pos BL] at h2
      unfold qN at h2 ⊢
      cases CW : cls C.P oj <;> rw [CW, hc] at nv <;> rw [CW] at h2 <;> simp only at h2 ⊢
      ·obtain ⟨u, hu, h2⟩ := h2; exact ⟨u, hu, h2.1, fin u M (fun _ _ h => h) h2.1 h2.2⟩
      ·obtain ⟨u, hu, h2⟩ := h2; exact ⟨u, hu, h2.1, fin u M (fun _ _ h => h) h2.1 h2.2⟩
      ·obtain ⟨ob, k, hn, h2⟩ := h2
       refine ⟨ob, k, hn, fun b hb => ?_⟩
       obtain ⟨u, hu, h2⟩ := h2 b hb
       exact ⟨u, hu, h2.1, fin u _ (oh hb) h2.1 h2.2⟩
      ·simp [rj] at nv
     ·rename_i BL; rw [if_neg BL] at h2; exact ⟨h2.1, fin _ _ (fun _ _ h => h) h2.1 h2.2⟩
    | new =>
     rw [hc] at h; simp only at h
     obtain ⟨ob, k, hn, h⟩ := h
     have each : ∀ b, M b = none → ∃ v, bF C.P (k b) Mem.empty = some (.value v) ∧
       dO C ops oj env (M.set b ob) (fun env' M' => S M' ∧ dg C ops S K Kp f (L ||| 2 ^ j ||| 2 ^ i) (aY env' oi.dst v) M') Kp := fun b hb => by
      obtain ⟨v, hv, _, hx⟩ := h b hb
      have iy := (hx (eL.set b ob)).2 j hj'
      unfold fK at iy; rw [iK] at iy; simp only at iy
      rw [YY] at iy
      exact ⟨v, hv, om hap hsj iy⟩
     obtain ⟨N, hN⟩ := eL
     obtain ⟨v0, Yj, h0⟩ := each N (hN N (Nat.le_refl _))
     have fin : ∀ u M1, S M1 → (∀ b, M1 b = none → ∃ v, bF C.P (k b) Mem.empty = some (.value v) ∧ dg C ops S K Kp f (L ||| 2 ^ j ||| 2 ^ i) (aY (aY env oj.dst u) oi.dst v) (M1.set b ob)) →
       dg C ops S K Kp (f + 1) (L ||| 2 ^ j) (aY env oj.dst u) M1 :=
      fun u M1 sM hx => back u M1 sM (g7 (Sy u) (by
       unfold qN; rw [hc]; simp only [Vi]
       exact ⟨ob, k, hn, fun b hb => let ⟨v, hv, hy⟩ := hx b hb; ⟨v, hv, hS _ _ (oh hb) sM, hy⟩⟩))
     unfold dO at h0 ⊢
     split
     ·rename_i BL; rw [if_pos BL] at h0
      unfold qN at h0 ⊢
      cases CW : cls C.P oj <;> rw [CW, hc] at nv <;> rw [CW] at h0 <;> simp only at h0 ⊢
      ·obtain ⟨u, hu, h0⟩ := h0
       refine ⟨u, hu, ke, fin u M ke fun b hb => ?_⟩
       obtain ⟨v, hv, h1⟩ := each b hb
       unfold dO at h1; rw [if_pos BL] at h1
       unfold qN at h1; rw [CW] at h1; simp only at h1
       obtain ⟨u', QZ, _, h1⟩ := h1
       have : u' = u := by have e1 := QZ M; rw [hu M] at e1; cases e1; rfl
       subst this
       exact ⟨v, hv, h1⟩
      ·simp [rj] at nv
      ·obtain ⟨ob', k', hn', h0⟩ := h0
       refine ⟨ob', k', hn', fun b' hb' => ?_⟩
       have dec : ∀ b, M b = none → b ≠ b' → ∃ v u, bF C.P (k b) Mem.empty = some (.value v) ∧ bF C.P (k' b') Mem.empty = some (.value u) ∧
         dg C ops S K Kp f (L ||| 2 ^ j ||| 2 ^ i) (aY (aY env oj.dst u) oi.dst v) ((M.set b ob).set b' ob') := fun b hb hne => by
        obtain ⟨v, hv, h1⟩ := each b hb
        unfold dO at h1; rw [if_pos BL] at h1
        unfold qN at h1; rw [CW] at h1; simp only at h1
        obtain ⟨ob2, k2, wq, h1⟩ := h1
        rw [hn'] at wq; cases wq
        obtain ⟨u, hu, _, h1⟩ := h1 b' (by simp only [Mem.set]; rw [if_neg (Ne.symm hne)]; exact hb')
        exact ⟨v, u, hv, hu, h1⟩
       obtain ⟨_, u, _, hu, _⟩ := dec (max N (b' + 1)) (hN _ (by omega)) (by omega)
       refine ⟨u, hu, hS _ _ (oh hb') ke, fin u _ (hS _ _ (oh hb') ke) fun b hb => ?_⟩
       have hne : b ≠ b' := by rintro rfl; simp [Mem.set] at hb
       have EW : M b = none := by simpa [Mem.set, hne] using hb
       obtain ⟨v, u', hv, QZ, h1⟩ := dec b EW hne
       rw [hu] at QZ; cases QZ
       exact ⟨v, hv, by rw [← set_comm hne]; exact h1⟩
      ·simp [rj] at nv
     ·rename_i BL
      refine ⟨ke, fin _ _ ke fun b hb => ?_⟩
      obtain ⟨v, hv, h1⟩ := each b hb
      unfold dO at h1; rw [if_neg BL] at h1
      exact ⟨v, hv, h1.2⟩
    | IG => rw [hc] at nv; cases hh : cls C.P oj <;> rw [hh] at nv <;> simp [rj] at nv
   ·have hwf : bK ops oi env = false := by simpa using hw
    unfold dO at h
    rw [if_neg hw] at h
    have iy := (h.2 eL).2 j hj'
    unfold fK at iy; rw [iK] at iy; simp only at iy
    exact known undef (fun u M1 sM hx => back u M1 sM (kB ((VS u).trans hwf) ⟨sM, hx⟩)) iy
def oq (ops : Array Oper) (eF : List Nat) (L i : Nat) : Bool := match ops[i]? with
 | some oi => (List.range ops.size).all fun j => Nat.beq j i || L.testBit j || (eF.getD j 0).testBit i || (match ops[j]? with
  | some oj => oi.apart ops oj
  | none => true)
 | none => false
theorem xz {j L i : Nat} {oi : Oper} (hi : ops[i]? = some oi) {eF : List Nat} (hfree : oq ops eF L i = true) : oq ops eF (L ||| 2 ^ j) i = true := by
 unfold oq at hfree ⊢; rw [hi] at hfree ⊢
 refine List.all_eq_true.2 fun k hk => ?_
 have := List.all_eq_true.1 hfree k hk
 simp only [Bool.or_eq_true] at this ⊢
 rcases this with ((h' | h') | h') | h'
 ·exact .inl (.inl (.inl h'))
 ·exact .inl (.inl (.inr (by rw [dI, h']; rfl)))
 ·exact .inl (.inr h')
 ·exact .inr h'
theorem Dj {i j L : Nat} {oi oj : Oper} (hi : ops[i]? = some oi) {eF : List Nat} (ha : nu ops eF = true) (hdn : Dn ops L) (hfree : oq ops eF L i = true) (hr : eV ops L i = true)
  (hj : eV ops L j = true) (iK : ops[j]? = some oj) (jg : j ≠ i) : oi.apart ops oj = true := by
 obtain ⟨IP, oj', Di, gz⟩ := bG.1 hj
 rw [iK] at Di; cases Di
 unfold oq at hfree; rw [hi] at hfree
 have := List.all_eq_true.1 hfree j (List.mem_range.2 (Array.getElem?_eq_some_iff.1 iK).1)
 simp only [IP, iK, Bool.or_false, Bool.or_eq_true] at this
 rcases this with (h' | h') | h'
 ·exact absurd (Nat.eq_of_beq_eq_true h') jg
 ·have := mE ha hdn j oj iK gz i h'
  rw [(bG.1 hr).1] at this; cases this
 ·exact h'
theorem IQ {i : Nat} {oi : Oper} (hi : ops[i]? = some oi) (hsel : ∀ (j : Nat) (o : Oper) cs b, ops[j]? = some o → o.op ≠ .select cs b) {eF : List Nat} (ha : nu ops eF = true)
  (hc : cls C.P oi = .read) {S : Mem → Prop} {s : Sem Next} {v : Value} :
  ∀ (f L : Nat) (env : Nat → Value) (M : Mem), Dn ops L → oq ops eF L i = true → eV ops L i = true → bK ops oi env = true → execOp (nW env) oi = s → bF C.P s M = some (.value v) → S M →
   dg C ops (fun M' => S M' ∧ bF C.P s M' = some (.value v)) K Kp f (L ||| 2 ^ i) (aY env oi.dst v) M → dg C ops S K Kp (f + 1) L env M := by
 intro f
 induction f with
 | zero =>
  intro L env M hdn hfree hr hw he hv ke h eL
  refine ⟨fun hno => (by rw [hno i] at hr; cases hr), fun j hj => ?_⟩
  by_cases jg : j = i
  ·subst jg
   unfold fK; rw [hi]; simp only
   refine g7 hw ?_
   unfold qN; rw [hc]; simp only [he]
   exact ⟨v, hv, ke, h⟩
  ·have hj' := fj (i := i) hj jg
   have := (h eL).1 j; rw [this] at hj'; cases hj'
 | succ f ih =>
  intro L env M hdn hfree hr hw he hv ke h eL
  have weak : ∀ (f L : Nat) (env : Nat → Value) (M : Mem), dg C ops (fun M' => S M' ∧ bF C.P s M' = some (.value v)) K Kp f L env M → dg C ops S K Kp f L env M := by
   intro f
   induction f with
   | zero => intro L env M h; exact h
   | succ f ihw => intro L env M h eL; exact ⟨(h eL).1, fun j hj => Am ((h eL).2 j hj) fun env' M' hx => ⟨hx.1.1, ihw _ _ _ hx.2⟩⟩
  refine ⟨fun hno => (by rw [hno i] at hr; cases hr), fun j hj => ?_⟩
  by_cases jg : j = i
  ·subst jg
   unfold fK; rw [hi]; simp only
   refine g7 hw ?_
   unfold qN; rw [hc]; simp only [he]
   exact ⟨v, hv, ke, weak _ _ _ _ h⟩
  ·obtain ⟨IP, oj, iK, gz⟩ := bG.1 hj
   have hap := Dj hi ha hdn hfree hr hj iK jg
   obtain ⟨a1, a2, a3⟩ := Oper.apart_spec hap
   have hsi := fun cs b => hsel i oi cs b hi
   have hsj := fun cs b => hsel j oj cs b iK
   have hj' := fj (i := i) hj jg
   have iy := (h eL).2 j hj'
   unfold fK at iy ⊢; rw [iK] at iy ⊢; simp only at iy ⊢
   rw [sL L i j] at iy
   have h2 := om hap hsj iy
   have fin : ∀ u M1, (S M1 ∧ bF C.P s M1 = some (.value v)) ∧ dg C ops (fun M' => S M' ∧ bF C.P s M' = some (.value v)) K Kp f (L ||| 2 ^ j ||| 2 ^ i) (aY (aY env oj.dst u) oi.dst v) M1 →
     S M1 ∧ dg C ops S K Kp (f + 1) (L ||| 2 ^ j) (aY env oj.dst u) M1 := fun u M1 hx =>
    ⟨hx.1.1, ih (L ||| 2 ^ j) _ M1 (hdn.add hj) (xz hi hfree) (fj hr (Ne.symm jg)) ((dS oi env oj.dst u a3).trans hw) ((gP oi hsi env oj.dst u a3).trans he) hx.1.2 hx.1.1 hx.2⟩
   unfold dO at h2 ⊢
   split
   ·rename_i K3; rw [if_pos K3] at h2; exact lG h2 fun u M1 hx => fin u M1 hx
   ·rename_i K3; rw [if_neg K3] at h2; exact fin _ _ h2
end
end Go.AF
