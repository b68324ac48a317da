/- A part of proofs about one program. -/
import Derived.Test.YtfjgcljdnhkmaaaGreatZSchedLostReg
set_option linter.unusedVariables false
namespace Go.AF
def fA (ops : Array Oper) (L i : Nat) : Bool := match ops[i]? with
 | some o => !L.testBit i && o.after.all fun e => !Region.binds .any e || L.testBit e.on
 | none => false
def sq : Z7 → Z7 → Bool
 | .pure, _ => true
 | .read, .pure => true
 | .read, .read => true
 | .read, .new => true
 | .new, .pure => true
 | .new, .new => true
 | _, _ => false
def xW (P : Program) (ops : Array Oper) (eX : List Nat) (L i : Nat) : Bool := match ops[i]? with
 | some oi => (List.range ops.size).all fun j => Nat.beq j i || L.testBit j || (eX.getD j 0).testBit i || (match ops[j]? with
  | some oj => oi.apart ops oj && sq (cls P oi) (cls P oj)
  | none => true)
 | none => false
def B7 (eX : List Nat) (s : Nat) (e : Edge) : Nat := if Region.binds .any e then s ||| 2 ^ e.on ||| eX.getD e.on 0 else s
def nU (ops : Array Oper) (eX : List Nat) : Bool := (List.range ops.size).all fun j => match ops[j]? with
 | some o => (o.after.toList.all fun e => !Region.binds .any e || decide (e.on < j)) && Nat.beq (eX.getD j 0) (o.after.toList.foldl (B7 eX) 0)
 | none => true
def fU (C : Ctx) (ops : Array Oper) (Kp : List PanicEntry → Mem → Prop) (i : Nat) (env : Nat → Value) (M : Mem) (K : (Nat → Value) → Mem → Prop) : Prop := match ops[i]? with
 | some o => eD C ops o env M K Kp
 | none => K env M
def tF (M : Mem) : Prop := ∃ N, ∀ b, N ≤ b → M b = none
theorem tF.set {M : Mem} (h : tF M) (b : Nat) (o : Obj) : tF (M.set b o) := by
 obtain ⟨N, h⟩ := h
 exact ⟨max N (b + 1), fun i hi => by simp only [Mem.set]; rw [if_neg (by omega)]; exact h i (by omega)⟩
def dK (C : Ctx) (ops : Array Oper) (S : Mem → Prop) (K : (Nat → Value) → Mem → Prop) (Kp : List PanicEntry → Mem → Prop) : Nat → Nat → (Nat → Value) → Mem → Prop
 | 0, L, env, M => tF M → (∀ i, fA ops L i = false) ∧ K env M
 | f + 1, L, env, M => tF M → ((∀ i, fA ops L i = false) → K env M) ∧ ∀ i, fA ops L i = true → fU C ops Kp i env M fun env' M' => S M' ∧ dK C ops S K Kp f (L ||| 2 ^ i) env' M'
def vW (S : Mem → Prop) : Prop := ∀ M M', Mem.le M M' → S M → S M'
theorem ej (L i j : Nat) : (L ||| 2 ^ i).testBit j = (L.testBit j || decide (i = j)) := by
 rw [Nat.testBit_or, Nat.testBit_two_pow]
theorem bM {ops : Array Oper} {L i : Nat} : fA ops L i = true ↔ L.testBit i = false ∧ ∃ o, ops[i]? = some o ∧ ∀ e ∈ o.after, Region.binds .any e = true → L.testBit e.on = true := by
 unfold fA
 cases ho : ops[i]? with
 | none => simp
 | some o =>
  simp only [Bool.and_eq_true, Bool.not_eq_true', Array.all_eq_true_iff_forall_mem, Bool.or_eq_true, Option.some.injEq, exists_eq_left']
  constructor
  ·rintro ⟨h0, h⟩
   exact ⟨h0, fun e he hb => (h e he).resolve_left (by simp [hb])⟩
  ·rintro ⟨h0, h⟩
   exact ⟨h0, fun e he => by cases hb : Region.binds .any e <;> simp [h e he, hb]⟩
theorem fI {ops : Array Oper} {L i j : Nat} (hj : fA ops L j = true) (hne : j ≠ i) : fA ops (L ||| 2 ^ i) j = true := by
 rw [bM] at *
 obtain ⟨h0, o, ho, gJ⟩ := hj
 exact ⟨by rw [ej, h0]; simp [Ne.symm hne], o, ho, fun e he hb => by rw [ej, gJ e he hb]; rfl⟩
def Dn (ops : Array Oper) (L : Nat) : Prop := ∀ k o, L.testBit k = true → ops[k]? = some o → ∀ e ∈ o.after, Region.binds .any e = true → L.testBit e.on = true
theorem Dn.add {ops : Array Oper} {L i : Nat} (h : Dn ops L) (hi : fA ops L i = true) : Dn ops (L ||| 2 ^ i) := by
 obtain ⟨_, o, ho, gJ⟩ := bM.1 hi
 intro k o' hk hk' e he hb
 rw [ej] at hk ⊢
 simp only [Bool.or_eq_true, decide_eq_true_eq] at hk ⊢
 rcases hk with hk | rfl
 ·exact .inl (h k o' hk hk' e he hb)
 ·rw [ho] at hk'; cases hk'; exact .inl (gJ e he hb)
theorem DC {eX : List Nat} : ∀ (l : List Edge) (s i : Nat), (l.foldl (B7 eX) s).testBit i = true → s.testBit i = true ∨ ∃ e ∈ l, Region.binds .any e = true ∧ (e.on = i ∨ (eX.getD e.on 0).testBit i = true)
 | [], s, i, h => .inl h
 | e :: l, s, i, h => by
  simp only [List.foldl_cons] at h
  rcases DC l _ i h with h1 | ⟨e', he', hb, h1⟩
  ·unfold B7 at h1
   split at h1
   ·rename_i hb
    simp only [Nat.testBit_or, Bool.or_eq_true, Nat.testBit_two_pow, decide_eq_true_eq] at h1
    rcases h1 with (h1 | h1) | h1
    ·exact .inl h1
    ·exact .inr ⟨e, List.mem_cons_self .., hb, .inl h1⟩
    ·exact .inr ⟨e, List.mem_cons_self .., hb, .inr h1⟩
   ·exact .inl h1
  ·exact .inr ⟨e', List.mem_cons_of_mem _ he', hb, h1⟩
theorem ng {ops : Array Oper} {eX : List Nat} (ha : nU ops eX = true) {L : Nat} (hd : Dn ops L) :
  ∀ (j : Nat) (o : Oper), ops[j]? = some o → (∀ e ∈ o.after, Region.binds .any e = true → L.testBit e.on = true) → ∀ i, (eX.getD j 0).testBit i = true → L.testBit i = true := by
 intro j
 induction j using Nat.strongRecOn with
 | _ j ih =>
  intro o ho gJ i hi
  have hlt : j < ops.size := (Array.getElem?_eq_some_iff.1 ho).1
  have := List.all_eq_true.1 ha j (List.mem_range.2 hlt)
  rw [ho] at this
  simp only [Bool.and_eq_true, List.all_eq_true, Bool.or_eq_true, Bool.not_eq_true', decide_eq_true_eq] at this
  obtain ⟨h1, h2⟩ := this
  rw [Nat.eq_of_beq_eq_true h2] at hi
  rcases DC _ 0 i hi with h | ⟨e, he, hb, h⟩
  ·simp at h
  ·have Lq := gJ e (by simpa using he) hb
   rcases h with rfl | h
   ·exact Lq
   ·have WG := (h1 e he).resolve_left (by simp [hb])
    cases Z8 : ops[e.on]? with
    | none =>
     have : ops.size ≤ e.on := by simpa using Z8
     omega
    | some o' => exact ih e.on WG o' Z8 (fun e' he' hb' => hd e.on o' Lq Z8 e' he' hb') i h
theorem set_comm {M : Mem} {b b' : Nat} {o o' : Obj} (h : b ≠ b') : (M.set b o).set b' o' = (M.set b' o').set b o := by
 funext i; simp only [Mem.set]; by_cases h1 : i = b <;> by_cases h2 : i = b' <;> simp_all
theorem oW {M : Mem} {b : Nat} {o : Obj} (h : M b = none) : M.le (M.set b o) := fun i x hi => by
 simp only [Mem.set]; rw [if_neg (by rintro rfl; simp [h] at hi)]; exact hi
section
variable {C : Ctx} {ops : Array Oper} {K : (Nat → Value) → Mem → Prop} {Kp : List PanicEntry → Mem → Prop}
theorem AH {i : Nat} {env : Nat → Value} {M : Mem} {K K' : (Nat → Value) → Mem → Prop} (h : fU C ops Kp i env M K) (hk : ∀ v M', K v M' → K' v M') : fU C ops Kp i env M K' := by
 unfold fU at *
 split
 ·rename_i o ho; rw [ho] at h; exact iT h hk
 ·rename_i ho; rw [ho] at h; exact hk _ _ h
theorem oX {oi oj : Oper} {v : Value} {env : Nat → Value} {M : Mem} {K' : (Nat → Value) → Mem → Prop} (hap : oi.apart ops oj = true) (hsj : ∀ cs b, oj.op ≠ .select cs b)
  (h : eD C ops oj (bt env oi.dst v) M K' Kp) : eD C ops oj env M (fun env' M' => K' (bt env' oi.dst v) M') Kp := by
 obtain ⟨h1, h2, h3⟩ := Oper.apart_spec hap
 unfold eD at h ⊢
 rw [eH oj env oi.dst v h1] at h
 split
 ·rename_i hw
  rw [if_pos hw] at h
  unfold rR at h ⊢
  rw [g8 oj hsj env oi.dst v h1] at h
  have hc : ∀ u, bt (bt env oi.dst v) oj.dst u = bt (bt env oj.dst u) oi.dst v := fun u => qn h2
  simpa only [hc] using h
 ·rename_i hw
  rw [if_neg hw] at h
  rw [← qn h2]; exact h
theorem tG (L i j : Nat) : L ||| 2 ^ i ||| 2 ^ j = L ||| 2 ^ j ||| 2 ^ i := by
 apply Nat.eq_of_testBit_eq; intro k; simp only [ej]; cases L.testBit k <;> simp [Bool.or_comm]
theorem Jf {j L i : Nat} {oi : Oper} {P : Program} (hi : ops[i]? = some oi) {eX : List Nat} (hfree : xW P ops eX L i = true) : xW P ops eX (L ||| 2 ^ j) i = true := by
 unfold xW at hfree ⊢; rw [hi] at hfree ⊢
 refine List.all_eq_true.2 fun k hk => ?_
 have := List.all_eq_true.1 hfree k hk
 simp only [Bool.or_eq_true] at this ⊢
 rcases this with ((h' | h') | h') | h'
 ·exact .inl (.inl (.inl h'))
 ·exact .inl (.inl (.inr (by rw [ej, h']; rfl)))
 ·exact .inl (.inr h')
 ·exact .inr h'
theorem AI {i j L : Nat} {oi oj : Oper} (hi : ops[i]? = some oi) {eX : List Nat} (ha : nU ops eX = true) (hdn : Dn ops L) (hfree : xW C.P ops eX L i = true) (hr : fA ops L i = true)
  (hj : fA ops L j = true) (iU : ops[j]? = some oj) (jD : j ≠ i) : oi.apart ops oj = true ∧ sq (cls C.P oi) (cls C.P oj) = true := by
 obtain ⟨Jg, oj', DD, gJ⟩ := bM.1 hj
 rw [iU] at DD; cases DD
 unfold xW at hfree; rw [hi] at hfree
 have := List.all_eq_true.1 hfree j (List.mem_range.2 (Array.getElem?_eq_some_iff.1 iU).1)
 simp only [Jg, iU, Bool.or_false, Bool.or_eq_true, Bool.and_eq_true] at this
 rcases this with (h' | h') | h'
 ·exact absurd (Nat.eq_of_beq_eq_true h') jD
 ·have := ng ha hdn j oj iU gJ i h'
  rw [(bM.1 hr).1] at this; cases this
 ·exact h'
theorem FF {S : Mem → Prop} (hS : vW S) {i : Nat} {oi : Oper} (hi : ops[i]? = some oi) (hsel : ∀ (j : Nat) (o : Oper) cs b, ops[j]? = some o → o.op ≠ .select cs b) {eX : List Nat} (ha : nU ops eX = true) :
  ∀ (f L : Nat) (env : Nat → Value) (M : Mem), S M → Dn ops L → xW C.P ops eX L i = true → fA ops L i = true →
   fU C ops Kp i env M (fun env' M' => S M' ∧ dK C ops S K Kp f (L ||| 2 ^ i) env' M') → dK C ops S K Kp (f + 1) L env M := by
 intro f
 induction f with
 | zero =>
  intro L env M kX hdn hfree hr h eS
  refine ⟨fun hno => (by rw [hno i] at hr; cases hr), fun j hj => ?_⟩
  by_cases jD : j = i
  ·subst jD; exact h
  ·exfalso
   obtain ⟨Jg, oj, iU, gJ⟩ := bM.1 hj
   obtain ⟨_, nV⟩ := AI hi ha hdn hfree hr hj iU jD
   have hj' := fI (i := i) hj jD
   unfold fU at h; rw [hi] at h; simp only at h
   unfold eD at h
   split at h
   ·unfold rR at h
    cases hc : cls C.P oi <;> rw [hc] at h nV <;> simp only at h
    ·obtain ⟨v, _, _, h⟩ := h; have := (h eS).1 j; rw [this] at hj'; cases hj'
    ·obtain ⟨v, _, _, h⟩ := h; have := (h eS).1 j; rw [this] at hj'; cases hj'
    ·obtain ⟨ob, k, _, h⟩ := h
     obtain ⟨N, hN⟩ := eS
     obtain ⟨v, _, _, h⟩ := h N (hN N (Nat.le_refl _)); have := (h (tF.set ⟨N, hN⟩ _ _)).1 j; rw [this] at hj'; cases hj'
    ·cases hh : cls C.P oj <;> rw [hh] at nV <;> simp [sq] at nV
   ·have := (h.2 eS).1 j; rw [this] at hj'; cases hj'
 | succ f ih =>
  intro L env M kX hdn hfree hr h eS
  refine ⟨fun hno => (by rw [hno i] at hr; cases hr), fun j hj => ?_⟩
  by_cases jD : j = i
  ·subst jD; exact h
  ·obtain ⟨Jg, oj, iU, gJ⟩ := bM.1 hj
   obtain ⟨hap, nV⟩ := AI hi ha hdn hfree hr hj iU jD
   obtain ⟨a1, a2, a3⟩ := Oper.apart_spec hap
   have hsi := fun cs b => hsel i oi cs b hi
   have hsj := fun cs b => hsel j oj cs b iU
   have O4 := hdn.add hj
   have OY := fI (i := j) hr (Ne.symm jD)
   have Sw := Jf (j := j) hi hfree
   have hj' := fI (i := i) hj jD
   have Z9 : L ||| 2 ^ i ||| 2 ^ j = L ||| 2 ^ j ||| 2 ^ i := tG L i j
   unfold fU at h; rw [hi] at h; simp only at h
   show fU C ops Kp j env M _
   unfold fU; rw [iU]; simp only
   have back : ∀ (u : Value) (M1 : Mem), S M1 → eD C ops oi (bt env oj.dst u) M1 (fun env' M' => S M' ∧ dK C ops S K Kp f (L ||| 2 ^ j ||| 2 ^ i) env' M') Kp →
     dK C ops S K Kp (f + 1) (L ||| 2 ^ j) (bt env oj.dst u) M1 := fun u M1 uU hb => by
    refine ih (L ||| 2 ^ j) _ M1 uU O4 Sw OY ?_
    unfold fU; rw [hi]; exact hb
   have WH : ∀ u, bR ops oi (bt env oj.dst u) = bR ops oi env := fun u => eH oi env oj.dst u a3
   have VT : ∀ u, execOp (oO (bt env oj.dst u)) oi = execOp (oO env) oi := fun u => g8 oi hsi env oj.dst u a3
   have Lr : ∀ u, bR ops oj (bt env oi.dst u) = bR ops oj env := fun u => eH oj env oi.dst u a1
   have known : ∀ v, (∀ u M1, S M1 → dK C ops S K Kp f (L ||| 2 ^ j ||| 2 ^ i) (bt (bt env oj.dst u) oi.dst v) M1 → dK C ops S K Kp (f + 1) (L ||| 2 ^ j) (bt env oj.dst u) M1) →
     eD C ops oj (bt env oi.dst v) M (fun env' M' => S M' ∧ dK C ops S K Kp f (L ||| 2 ^ i ||| 2 ^ j) env' M') Kp →
     eD C ops oj env M (fun env' M' => S M' ∧ dK C ops S K Kp (f + 1) (L ||| 2 ^ j) env' M') Kp := fun v hb iM => by
    rw [Z9] at iM
    have h2 := oX hap hsj iM
    unfold eD at h2 ⊢
    split
    ·rename_i hw; rw [if_pos hw] at h2; exact mh h2 fun u M1 hx => ⟨hx.1, hb u M1 hx.1 hx.2⟩
    ·rename_i hw; rw [if_neg hw] at h2; exact ⟨h2.1, hb _ _ h2.1 h2.2⟩
   by_cases hw : bR ops oi env = true
   ·unfold eD at h
    rw [if_pos hw] at h
    have Sx : ∀ u, bR ops oi (bt env oj.dst u) = true := fun u => (WH u).trans hw
    unfold rR at h
    cases hc : cls C.P oi with
    | pure =>
     rw [hc] at h; simp only at h
     obtain ⟨v, hv, _, h⟩ := h
     have iM := (h eS).2 j hj'
     unfold fU at iM; rw [iU] at iM; simp only at iM
     refine known v (fun u M1 uU hx => back u M1 uU (iw (Sx u) ?_)) iM
     unfold rR; rw [hc]; simp only [VT]
     exact ⟨v, hv, uU, hx⟩
    | read =>
     rw [hc] at h; simp only at h
     obtain ⟨v, hv, _, h⟩ := h
     have iM := (h eS).2 j hj'
     unfold fU at iM; rw [iU] at iM; simp only at iM
     rw [Z9] at iM
     have h2 := oX hap hsj iM
     have fin : ∀ u M1, M.le M1 → S M1 → dK C ops S K Kp f (L ||| 2 ^ j ||| 2 ^ i) (bt (bt env oj.dst u) oi.dst v) M1 → dK C ops S K Kp (f + 1) (L ||| 2 ^ j) (bt env oj.dst u) M1 :=
      fun u M1 hle uU hx => back u M1 uU (iw (Sx u) (by
       unfold rR; rw [hc]; simp only [VT]
       exact ⟨v, l8 C.P _ hle hv, uU, hx⟩))
     unfold eD at h2 ⊢
     split
     ·rename_i B8; rw [if_pos B8] at h2
      unfold rR at h2 ⊢
      cases Da : cls C.P oj <;> rw [Da, hc] at nV <;> rw [Da] at h2 <;> simp only at h2 ⊢
      ·obtain ⟨u, hu, h2⟩ := h2; exact ⟨u, hu, h2.1, fin u M (fun _ _ h => h) h2.1 h2.2⟩
      ·obtain ⟨u, hu, h2⟩ := h2; exact ⟨u, hu, h2.1, fin u M (fun _ _ h => h) h2.1 h2.2⟩
      ·obtain ⟨ob, k, hn, h2⟩ := h2
       refine ⟨ob, k, hn, fun b hb => ?_⟩
       obtain ⟨u, hu, h2⟩ := h2 b hb
       exact ⟨u, hu, h2.1, fin u _ (oW hb) h2.1 h2.2⟩
      ·simp [sq] at nV
     ·rename_i B8; rw [if_neg B8] at h2; exact ⟨h2.1, fin _ _ (fun _ _ h => h) h2.1 h2.2⟩
    | new =>
     rw [hc] at h; simp only at h
     obtain ⟨ob, k, hn, h⟩ := h
     have each : ∀ b, M b = none → ∃ v, bN C.P (k b) Mem.empty = some (.value v) ∧
       eD C ops oj env (M.set b ob) (fun env' M' => S M' ∧ dK C ops S K Kp f (L ||| 2 ^ j ||| 2 ^ i) (bt env' oi.dst v) M') Kp := fun b hb => by
      obtain ⟨v, hv, _, hx⟩ := h b hb
      have iM := (hx (eS.set b ob)).2 j hj'
      unfold fU at iM; rw [iU] at iM; simp only at iM
      rw [Z9] at iM
      exact ⟨v, hv, oX hap hsj iM⟩
     obtain ⟨N, hN⟩ := eS
     obtain ⟨v0, hv0, h0⟩ := each N (hN N (Nat.le_refl _))
     have fin : ∀ u M1, S M1 → (∀ b, M1 b = none → ∃ v, bN C.P (k b) Mem.empty = some (.value v) ∧ dK C ops S K Kp f (L ||| 2 ^ j ||| 2 ^ i) (bt (bt env oj.dst u) oi.dst v) (M1.set b ob)) →
       dK C ops S K Kp (f + 1) (L ||| 2 ^ j) (bt env oj.dst u) M1 :=
      fun u M1 uU hx => back u M1 uU (iw (Sx u) (by
       unfold rR; rw [hc]; simp only [VT]
       exact ⟨ob, k, hn, fun b hb => let ⟨v, hv, hy⟩ := hx b hb; ⟨v, hv, hS _ _ (oW hb) uU, hy⟩⟩))
     unfold eD at h0 ⊢
     split
     ·rename_i B8; rw [if_pos B8] at h0
      unfold rR at h0 ⊢
      cases Da : cls C.P oj <;> rw [Da, hc] at nV <;> rw [Da] at h0 <;> simp only at h0 ⊢
      ·obtain ⟨u, hu, h0⟩ := h0
       refine ⟨u, hu, kX, fin u M kX fun b hb => ?_⟩
       obtain ⟨v, hv, h1⟩ := each b hb
       unfold eD at h1; rw [if_pos B8] at h1
       unfold rR at h1; rw [Da] at h1; simp only at h1
       obtain ⟨u', Rd, _, h1⟩ := h1
       have : u' = u := by have e1 := Rd M; rw [hu M] at e1; cases e1; rfl
       subst this
       exact ⟨v, hv, h1⟩
      ·simp [sq] at nV
      ·obtain ⟨ob', k', hn', h0⟩ := h0
       refine ⟨ob', k', hn', fun b' hb' => ?_⟩
       have dec : ∀ b, M b = none → b ≠ b' → ∃ v u, bN C.P (k b) Mem.empty = some (.value v) ∧ bN C.P (k' b') Mem.empty = some (.value u) ∧
         dK C ops S K Kp f (L ||| 2 ^ j ||| 2 ^ i) (bt (bt env oj.dst u) oi.dst v) ((M.set b ob).set b' ob') := fun b hb hne => by
        obtain ⟨v, hv, h1⟩ := each b hb
        unfold eD at h1; rw [if_pos B8] at h1
        unfold rR at h1; rw [Da] at h1; simp only at h1
        obtain ⟨ob2, k2, xX, h1⟩ := h1
        rw [hn'] at xX; cases xX
        obtain ⟨u, hu, _, h1⟩ := h1 b' (by simp only [Mem.set]; rw [if_neg (Ne.symm hne)]; exact hb')
        exact ⟨v, u, hv, hu, h1⟩
       obtain ⟨_, u, _, hu, _⟩ := dec (max N (b' + 1)) (hN _ (by omega)) (by omega)
       refine ⟨u, hu, hS _ _ (oW hb') kX, fin u _ (hS _ _ (oW hb') kX) fun b hb => ?_⟩
       have hne : b ≠ b' := by rintro rfl; simp [Mem.set] at hb
       have OI : M b = none := by simpa [Mem.set, hne] using hb
       obtain ⟨v, u', hv, Rd, h1⟩ := dec b OI hne
       rw [hu] at Rd; cases Rd
       exact ⟨v, hv, by rw [← set_comm hne]; exact h1⟩
      ·simp [sq] at nV
     ·rename_i B8
      refine ⟨kX, fin _ _ kX fun b hb => ?_⟩
      obtain ⟨v, hv, h1⟩ := each b hb
      unfold eD at h1; rw [if_neg B8] at h1
      exact ⟨v, hv, h1.2⟩
    | I9 => rw [hc] at nV; cases hh : cls C.P oj <;> rw [hh] at nV <;> simp [sq] at nV
   ·have hwf : bR ops oi env = false := by simpa using hw
    unfold eD at h
    rw [if_neg hw] at h
    have iM := (h.2 eS).2 j hj'
    unfold fU at iM; rw [iU] at iM; simp only at iM
    exact known undef (fun u M1 uU hx => back u M1 uU (lz ((WH u).trans hwf) ⟨uU, hx⟩)) iM
def oY (ops : Array Oper) (eX : List Nat) (L i : Nat) : Bool := match ops[i]? with
 | some oi => (List.range ops.size).all fun j => Nat.beq j i || L.testBit j || (eX.getD j 0).testBit i || (match ops[j]? with
  | some oj => oi.apart ops oj
  | none => true)
 | none => false
theorem xY {j L i : Nat} {oi : Oper} (hi : ops[i]? = some oi) {eX : List Nat} (hfree : oY ops eX L i = true) : oY ops eX (L ||| 2 ^ j) i = true := by
 unfold oY at hfree ⊢; rw [hi] at hfree ⊢
 refine List.all_eq_true.2 fun k hk => ?_
 have := List.all_eq_true.1 hfree k hk
 simp only [Bool.or_eq_true] at this ⊢
 rcases this with ((h' | h') | h') | h'
 ·exact .inl (.inl (.inl h'))
 ·exact .inl (.inl (.inr (by rw [ej, h']; rfl)))
 ·exact .inl (.inr h')
 ·exact .inr h'
theorem DE {i j L : Nat} {oi oj : Oper} (hi : ops[i]? = some oi) {eX : List Nat} (ha : nU ops eX = true) (hdn : Dn ops L) (hfree : oY ops eX L i = true) (hr : fA ops L i = true)
  (hj : fA ops L j = true) (iU : ops[j]? = some oj) (jD : j ≠ i) : oi.apart ops oj = true := by
 obtain ⟨Jg, oj', DD, gJ⟩ := bM.1 hj
 rw [iU] at DD; cases DD
 unfold oY at hfree; rw [hi] at hfree
 have := List.all_eq_true.1 hfree j (List.mem_range.2 (Array.getElem?_eq_some_iff.1 iU).1)
 simp only [Jg, iU, Bool.or_false, Bool.or_eq_true] at this
 rcases this with (h' | h') | h'
 ·exact absurd (Nat.eq_of_beq_eq_true h') jD
 ·have := ng ha hdn j oj iU gJ i h'
  rw [(bM.1 hr).1] at this; cases this
 ·exact h'
theorem Jh {i : Nat} {oi : Oper} (hi : ops[i]? = some oi) (hsel : ∀ (j : Nat) (o : Oper) cs b, ops[j]? = some o → o.op ≠ .select cs b) {eX : List Nat} (ha : nU ops eX = true)
  (hc : cls C.P oi = .read) {S : Mem → Prop} {s : Sem Next} {v : Value} :
  ∀ (f L : Nat) (env : Nat → Value) (M : Mem), Dn ops L → oY ops eX L i = true → fA ops L i = true → bR ops oi env = true → execOp (oO env) oi = s → bN C.P s M = some (.value v) → S M →
   dK C ops (fun M' => S M' ∧ bN C.P s M' = some (.value v)) K Kp f (L ||| 2 ^ i) (bt env oi.dst v) M → dK C ops S K Kp (f + 1) L env M := by
 intro f
 induction f with
 | zero =>
  intro L env M hdn hfree hr hw he hv kX h eS
  refine ⟨fun hno => (by rw [hno i] at hr; cases hr), fun j hj => ?_⟩
  by_cases jD : j = i
  ·subst jD
   unfold fU; rw [hi]; simp only
   refine iw hw ?_
   unfold rR; rw [hc]; simp only [he]
   exact ⟨v, hv, kX, h⟩
  ·have hj' := fI (i := i) hj jD
   have := (h eS).1 j; rw [this] at hj'; cases hj'
 | succ f ih =>
  intro L env M hdn hfree hr hw he hv kX h eS
  have weak : ∀ (f L : Nat) (env : Nat → Value) (M : Mem), dK C ops (fun M' => S M' ∧ bN C.P s M' = some (.value v)) K Kp f L env M → dK C ops S K Kp f L env M := by
   intro f
   induction f with
   | zero => intro L env M h; exact h
   | succ f ihw => intro L env M h eS; exact ⟨(h eS).1, fun j hj => AH ((h eS).2 j hj) fun env' M' hx => ⟨hx.1.1, ihw _ _ _ hx.2⟩⟩
  refine ⟨fun hno => (by rw [hno i] at hr; cases hr), fun j hj => ?_⟩
  by_cases jD : j = i
  ·subst jD
   unfold fU; rw [hi]; simp only
   refine iw hw ?_
   unfold rR; rw [hc]; simp only [he]
   exact ⟨v, hv, kX, weak _ _ _ _ h⟩
  ·obtain ⟨Jg, oj, iU, gJ⟩ := bM.1 hj
   have hap := DE hi ha hdn hfree hr hj iU jD
   obtain ⟨a1, a2, a3⟩ := Oper.apart_spec hap
   have hsi := fun cs b => hsel i oi cs b hi
   have hsj := fun cs b => hsel j oj cs b iU
   have hj' := fI (i := i) hj jD
   have iM := (h eS).2 j hj'
   unfold fU at iM ⊢; rw [iU] at iM ⊢; simp only at iM ⊢
   rw [tG L i j] at iM
   have h2 := oX hap hsj iM
   have fin : ∀ u M1, (S M1 ∧ bN C.P s M1 = some (.value v)) ∧ dK C ops (fun M' => S M' ∧ bN C.P s M' = some (.value v)) K Kp f (L ||| 2 ^ j ||| 2 ^ i) (bt (bt env oj.dst u) oi.dst v) M1 →
     S M1 ∧ dK C ops S K Kp (f + 1) (L ||| 2 ^ j) (bt env oj.dst u) M1 := fun u M1 hx =>
    ⟨hx.1.1, ih (L ||| 2 ^ j) _ M1 (hdn.add hj) (xY hi hfree) (fI hr (Ne.symm jD)) ((eH oi env oj.dst u a3).trans hw) ((g8 oi hsi env oj.dst u a3).trans he) hx.1.2 hx.1.1 hx.2⟩
   unfold eD at h2 ⊢
   split
   ·rename_i Lr; rw [if_pos Lr] at h2; exact mh h2 fun u M1 hx => fin u M1 hx
   ·rename_i Lr; rw [if_neg Lr] at h2; exact fin _ _ h2
end
end Go.AF
