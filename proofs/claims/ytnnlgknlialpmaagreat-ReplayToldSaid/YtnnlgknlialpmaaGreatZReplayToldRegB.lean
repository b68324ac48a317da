/- A part of proofs about one program. -/
import Derived.Test.YtnnlgknlialpmaaGreatZReplayToldReg
set_option linter.unusedVariables false
namespace Go.AF
def dS (ops : Array Oper) (L i : Nat) : Bool := match ops[i]? with
 | some o => !L.testBit i && o.after.all fun e => !Region.binds .any e || L.testBit e.on
 | none => false
def oE : Tk → Tk → Bool
 | .pure, _ => true
 | .read, .pure => true
 | .read, .read => true
 | .read, .new => true
 | .new, .pure => true
 | .new, .new => true
 | _, _ => false
def uA (P : Program) (ops : Array Oper) (dF : List Nat) (L i : Nat) : Bool := match ops[i]? with
 | some oi => (List.range ops.size).all fun j => Nat.beq j i || L.testBit j || (dF.getD j 0).testBit i || (match ops[j]? with
  | some oj => oi.apart ops oj && oE (cls P oi) (cls P oj)
  | none => true)
 | none => false
def yC (dF : List Nat) (s : Nat) (e : Edge) : Nat := if Region.binds .any e then s ||| 2 ^ e.on ||| dF.getD e.on 0 else s
def kL (ops : Array Oper) (dF : List Nat) : Bool := (List.range ops.size).all fun j => match ops[j]? with
 | some o => (o.after.toList.all fun e => !Region.binds .any e || decide (e.on < j)) && Nat.beq (dF.getD j 0) (o.after.toList.foldl (yC dF) 0)
 | none => true
def eE (C : Ctx) (ops : Array Oper) (Kp : List PanicEntry → Mem → Prop) (i : Nat) (env : Nat → Value) (M : Mem) (K : (Nat → Value) → Mem → Prop) : Prop := match ops[i]? with
 | some o => cZ C ops o env M K Kp
 | none => K env M
def pP (M : Mem) : Prop := ∃ N, ∀ b, N ≤ b → M b = none
theorem pP.set {M : Mem} (h : pP M) (b : Nat) (o : Obj) : pP (M.set b o) := by
 obtain ⟨N, h⟩ := h
 exact ⟨max N (b + 1), fun i hi => by simp only [Mem.set]; rw [if_neg (by omega)]; exact h i (by omega)⟩
def cK (C : Ctx) (ops : Array Oper) (S : Mem → Prop) (K : (Nat → Value) → Mem → Prop) (Kp : List PanicEntry → Mem → Prop) : Nat → Nat → (Nat → Value) → Mem → Prop
 | 0, L, env, M => pP M → (∀ i, dS ops L i = false) ∧ K env M
 | f + 1, L, env, M => pP M → ((∀ i, dS ops L i = false) → K env M) ∧ ∀ i, dS ops L i = true → eE C ops Kp i env M fun env' M' => S M' ∧ cK C ops S K Kp f (L ||| 2 ^ i) env' M'
def sH (S : Mem → Prop) : Prop := ∀ M M', Mem.le M M' → S M → S M'
theorem cT (L i j : Nat) : (L ||| 2 ^ i).testBit j = (L.testBit j || decide (i = j)) := by
 rw [Nat.testBit_or, Nat.testBit_two_pow]
theorem bp {ops : Array Oper} {L i : Nat} : dS ops L i = true ↔ L.testBit i = false ∧ ∃ o, ops[i]? = some o ∧ ∀ e ∈ o.after, Region.binds .any e = true → L.testBit e.on = true := by
 unfold dS
 cases ho : ops[i]? with
 | none => simp
 | some o =>
  simp only [Bool.and_eq_true, Bool.not_eq_true', Array.all_eq_true_iff_forall_mem, Bool.or_eq_true, Option.some.injEq, exists_eq_left']
  constructor
  ·rintro ⟨h0, h⟩
   exact ⟨h0, fun e he hb => (h e he).resolve_left (by simp [hb])⟩
  ·rintro ⟨h0, h⟩
   exact ⟨h0, fun e he => by cases hb : Region.binds .any e <;> simp [h e he, hb]⟩
theorem dY {ops : Array Oper} {L i j : Nat} (hj : dS ops L j = true) (hne : j ≠ i) : dS ops (L ||| 2 ^ i) j = true := by
 rw [bp] at *
 obtain ⟨h0, o, ho, gx⟩ := hj
 exact ⟨by rw [cT, h0]; simp [Ne.symm hne], o, ho, fun e he hb => by rw [cT, gx e he hb]; rfl⟩
def Dn (ops : Array Oper) (L : Nat) : Prop := ∀ k o, L.testBit k = true → ops[k]? = some o → ∀ e ∈ o.after, Region.binds .any e = true → L.testBit e.on = true
theorem Dn.add {ops : Array Oper} {L i : Nat} (h : Dn ops L) (hi : dS ops L i = true) : Dn ops (L ||| 2 ^ i) := by
 obtain ⟨_, o, ho, gx⟩ := bp.1 hi
 intro k o' hk hk' e he hb
 rw [cT] at hk ⊢
 simp only [Bool.or_eq_true, decide_eq_true_eq] at hk ⊢
 rcases hk with hk | rfl
 ·exact .inl (h k o' hk hk' e he hb)
 ·rw [ho] at hk'; cases hk'; exact .inl (gx e he hb)
theorem zZ {dF : List Nat} : ∀ (l : List Edge) (s i : Nat), (l.foldl (yC dF) s).testBit i = true → s.testBit i = true ∨ ∃ e ∈ l, Region.binds .any e = true ∧ (e.on = i ∨ (dF.getD e.on 0).testBit i = true)
 | [], s, i, h => .inl h
 | e :: l, s, i, h => by
  simp only [List.foldl_cons] at h
  rcases zZ l _ i h with h1 | ⟨e', he', hb, h1⟩
  ·unfold yC at h1
   split at h1
   ·rename_i hb
    simp only [Nat.testBit_or, Bool.or_eq_true, Nat.testBit_two_pow, decide_eq_true_eq] at h1
    rcases h1 with (h1 | h1) | h1
    ·exact .inl h1
    ·exact .inr ⟨e, List.mem_cons_self .., hb, .inl h1⟩
    ·exact .inr ⟨e, List.mem_cons_self .., hb, .inr h1⟩
   ·exact .inl h1
  ·exact .inr ⟨e', List.mem_cons_of_mem _ he', hb, h1⟩
theorem j6 {ops : Array Oper} {dF : List Nat} (ha : kL ops dF = true) {L : Nat} (hd : Dn ops L) :
  ∀ (j : Nat) (o : Oper), ops[j]? = some o → (∀ e ∈ o.after, Region.binds .any e = true → L.testBit e.on = true) → ∀ i, (dF.getD j 0).testBit i = true → L.testBit i = true := by
 intro j
 induction j using Nat.strongRecOn with
 | _ j ih =>
  intro o ho gx i hi
  have hlt : j < ops.size := (Array.getElem?_eq_some_iff.1 ho).1
  have := List.all_eq_true.1 ha j (List.mem_range.2 hlt)
  rw [ho] at this
  simp only [Bool.and_eq_true, List.all_eq_true, Bool.or_eq_true, Bool.not_eq_true', decide_eq_true_eq] at this
  obtain ⟨h1, h2⟩ := this
  rw [Nat.eq_of_beq_eq_true h2] at hi
  rcases zZ _ 0 i hi with h | ⟨e, he, hb, h⟩
  ·simp at h
  ·have GG := gx e (by simpa using he) hb
   rcases h with rfl | h
   ·exact GG
   ·have Tl := (h1 e he).resolve_left (by simp [hb])
    cases Tm : ops[e.on]? with
    | none =>
     have : ops.size ≤ e.on := by simpa using Tm
     omega
    | some o' => exact ih e.on Tl o' Tm (fun e' he' hb' => hd e.on o' GG Tm e' he' hb') i h
theorem set_comm {M : Mem} {b b' : Nat} {o o' : Obj} (h : b ≠ b') : (M.set b o).set b' o' = (M.set b' o').set b o := by
 funext i; simp only [Mem.set]; by_cases h1 : i = b <;> by_cases h2 : i = b' <;> simp_all
theorem lN {M : Mem} {b : Nat} {o : Obj} (h : M b = none) : M.le (M.set b o) := fun i x hi => by
 simp only [Mem.set]; rw [if_neg (by rintro rfl; simp [h] at hi)]; exact hi
section
variable {C : Ctx} {ops : Array Oper} {K : (Nat → Value) → Mem → Prop} {Kp : List PanicEntry → Mem → Prop}
theorem xC {i : Nat} {env : Nat → Value} {M : Mem} {K K' : (Nat → Value) → Mem → Prop} (h : eE C ops Kp i env M K) (hk : ∀ v M', K v M' → K' v M') : eE C ops Kp i env M K' := by
 unfold eE at *
 split
 ·rename_i o ho; rw [ho] at h; exact gv h hk
 ·rename_i ho; rw [ho] at h; exact hk _ _ h
theorem lO {oi oj : Oper} {v : Value} {env : Nat → Value} {M : Mem} {K' : (Nat → Value) → Mem → Prop} (hap : oi.apart ops oj = true) (hsj : ∀ cs b, oj.op ≠ .select cs b)
  (h : cZ C ops oj (aT env oi.dst v) M K' Kp) : cZ C ops oj env M (fun env' M' => K' (aT env' oi.dst v) M') Kp := by
 obtain ⟨h1, h2, h3⟩ := Oper.apart_spec hap
 unfold cZ at h ⊢
 rw [c8 oj env oi.dst v h1] at h
 split
 ·rename_i hw
  rw [if_pos hw] at h
  unfold oe at h ⊢
  rw [fH oj hsj env oi.dst v h1] at h
  have hc : ∀ u, aT (aT env oi.dst v) oj.dst u = aT (aT env oj.dst u) oi.dst v := fun u => mU h2
  simpa only [hc] using h
 ·rename_i hw
  rw [if_neg hw] at h
  rw [← mU h2]; exact h
theorem pQ (L i j : Nat) : L ||| 2 ^ i ||| 2 ^ j = L ||| 2 ^ j ||| 2 ^ i := by
 apply Nat.eq_of_testBit_eq; intro k; simp only [cT]; cases L.testBit k <;> simp [Bool.or_comm]
theorem EF {j L i : Nat} {oi : Oper} {P : Program} (hi : ops[i]? = some oi) {dF : List Nat} (hfree : uA P ops dF L i = true) : uA P ops dF (L ||| 2 ^ j) i = true := by
 unfold uA at hfree ⊢; rw [hi] at hfree ⊢
 refine List.all_eq_true.2 fun k hk => ?_
 have := List.all_eq_true.1 hfree k hk
 simp only [Bool.or_eq_true] at this ⊢
 rcases this with ((h' | h') | h') | h'
 ·exact .inl (.inl (.inl h'))
 ·exact .inl (.inl (.inr (by rw [cT, h']; rfl)))
 ·exact .inl (.inr h')
 ·exact .inr h'
theorem xD {i j L : Nat} {oi oj : Oper} (hi : ops[i]? = some oi) {dF : List Nat} (ha : kL ops dF = true) (hdn : Dn ops L) (hfree : uA C.P ops dF L i = true) (hr : dS ops L i = true)
  (hj : dS ops L j = true) (gy : ops[j]? = some oj) (gR : j ≠ i) : oi.apart ops oj = true ∧ oE (cls C.P oi) (cls C.P oj) = true := by
 obtain ⟨EG, oj', z0, gx⟩ := bp.1 hj
 rw [gy] at z0; cases z0
 unfold uA at hfree; rw [hi] at hfree
 have := List.all_eq_true.1 hfree j (List.mem_range.2 (Array.getElem?_eq_some_iff.1 gy).1)
 simp only [EG, gy, Bool.or_false, Bool.or_eq_true, Bool.and_eq_true] at this
 rcases this with (h' | h') | h'
 ·exact absurd (Nat.eq_of_beq_eq_true h') gR
 ·have := j6 ha hdn j oj gy gx i h'
  rw [(bp.1 hr).1] at this; cases this
 ·exact h'
theorem Cj {S : Mem → Prop} (hS : sH S) {i : Nat} {oi : Oper} (hi : ops[i]? = some oi) (hsel : ∀ (j : Nat) (o : Oper) cs b, ops[j]? = some o → o.op ≠ .select cs b) {dF : List Nat} (ha : kL ops dF = true) :
  ∀ (f L : Nat) (env : Nat → Value) (M : Mem), S M → Dn ops L → uA C.P ops dF L i = true → dS ops L i = true →
   eE C ops Kp i env M (fun env' M' => S M' ∧ cK C ops S K Kp f (L ||| 2 ^ i) env' M') → cK C ops S K Kp (f + 1) L env M := by
 intro f
 induction f with
 | zero =>
  intro L env M iP hdn hfree hr h dJ
  refine ⟨fun hno => (by rw [hno i] at hr; cases hr), fun j hj => ?_⟩
  by_cases gR : j = i
  ·subst gR; exact h
  ·exfalso
   obtain ⟨EG, oj, gy, gx⟩ := bp.1 hj
   obtain ⟨_, kM⟩ := xD hi ha hdn hfree hr hj gy gR
   have hj' := dY (i := i) hj gR
   unfold eE at h; rw [hi] at h; simp only at h
   unfold cZ at h
   split at h
   ·unfold oe at h
    cases hc : cls C.P oi <;> rw [hc] at h kM <;> simp only at h
    ·obtain ⟨v, _, _, h⟩ := h; have := (h dJ).1 j; rw [this] at hj'; cases hj'
    ·obtain ⟨v, _, _, h⟩ := h; have := (h dJ).1 j; rw [this] at hj'; cases hj'
    ·obtain ⟨ob, k, _, h⟩ := h
     obtain ⟨N, hN⟩ := dJ
     obtain ⟨v, _, _, h⟩ := h N (hN N (Nat.le_refl _)); have := (h (pP.set ⟨N, hN⟩ _ _)).1 j; rw [this] at hj'; cases hj'
    ·cases hh : cls C.P oj <;> rw [hh] at kM <;> simp [oE] at kM
   ·have := (h.2 dJ).1 j; rw [this] at hj'; cases hj'
 | succ f ih =>
  intro L env M iP hdn hfree hr h dJ
  refine ⟨fun hno => (by rw [hno i] at hr; cases hr), fun j hj => ?_⟩
  by_cases gR : j = i
  ·subst gR; exact h
  ·obtain ⟨EG, oj, gy, gx⟩ := bp.1 hj
   obtain ⟨hap, kM⟩ := xD hi ha hdn hfree hr hj gy gR
   obtain ⟨a1, a2, a3⟩ := Oper.apart_spec hap
   have hsi := fun cs b => hsel i oi cs b hi
   have hsj := fun cs b => hsel j oj cs b gy
   have JM := hdn.add hj
   have JG := dY (i := j) hr (Ne.symm gR)
   have ME := EF (j := j) hi hfree
   have hj' := dY (i := i) hj gR
   have Tn : L ||| 2 ^ i ||| 2 ^ j = L ||| 2 ^ j ||| 2 ^ i := pQ L i j
   unfold eE at h; rw [hi] at h; simp only at h
   show eE C ops Kp j env M _
   unfold eE; rw [gy]; simp only
   have back : ∀ (u : Value) (M1 : Mem), S M1 → cZ C ops oi (aT env oj.dst u) M1 (fun env' M' => S M' ∧ cK C ops S K Kp f (L ||| 2 ^ j ||| 2 ^ i) env' M') Kp →
     cK C ops S K Kp (f + 1) (L ||| 2 ^ j) (aT env oj.dst u) M1 := fun u M1 rF hb => by
    refine ih (L ||| 2 ^ j) _ M1 rF JM ME JG ?_
    unfold eE; rw [hi]; exact hb
   have PZ : ∀ u, bx ops oi (aT env oj.dst u) = bx ops oi env := fun u => c8 oi env oj.dst u a3
   have Po : ∀ u, execOp (lE (aT env oj.dst u)) oi = execOp (lE env) oi := fun u => fH oi hsi env oj.dst u a3
   have GH : ∀ u, bx ops oj (aT env oi.dst u) = bx ops oj env := fun u => c8 oj env oi.dst u a1
   have known : ∀ v, (∀ u M1, S M1 → cK C ops S K Kp f (L ||| 2 ^ j ||| 2 ^ i) (aT (aT env oj.dst u) oi.dst v) M1 → cK C ops S K Kp (f + 1) (L ||| 2 ^ j) (aT env oj.dst u) M1) →
     cZ C ops oj (aT env oi.dst v) M (fun env' M' => S M' ∧ cK C ops S K Kp f (L ||| 2 ^ i ||| 2 ^ j) env' M') Kp →
     cZ C ops oj env M (fun env' M' => S M' ∧ cK C ops S K Kp (f + 1) (L ||| 2 ^ j) env' M') Kp := fun v hb gj => by
    rw [Tn] at gj
    have h2 := lO hap hsj gj
    unfold cZ at h2 ⊢
    split
    ·rename_i hw; rw [if_pos hw] at h2; exact jG h2 fun u M1 hx => ⟨hx.1, hb u M1 hx.1 hx.2⟩
    ·rename_i hw; rw [if_neg hw] at h2; exact ⟨h2.1, hb _ _ h2.1 h2.2⟩
   by_cases hw : bx ops oi env = true
   ·unfold cZ at h
    rw [if_pos hw] at h
    have MF : ∀ u, bx ops oi (aT env oj.dst u) = true := fun u => (PZ u).trans hw
    unfold oe at h
    cases hc : cls C.P oi with
    | pure =>
     rw [hc] at h; simp only at h
     obtain ⟨v, hv, _, h⟩ := h
     have gj := (h dJ).2 j hj'
     unfold eE at gj; rw [gy] at gj; simp only at gj
     refine known v (fun u M1 rF hx => back u M1 rF (fO (MF u) ?_)) gj
     unfold oe; rw [hc]; simp only [Po]
     exact ⟨v, hv, rF, hx⟩
    | read =>
     rw [hc] at h; simp only at h
     obtain ⟨v, hv, _, h⟩ := h
     have gj := (h dJ).2 j hj'
     unfold eE at gj; rw [gy] at gj; simp only at gj
     rw [Tn] at gj
     have h2 := lO hap hsj gj
     have fin : ∀ u M1, M.le M1 → S M1 → cK C ops S K Kp f (L ||| 2 ^ j ||| 2 ^ i) (aT (aT env oj.dst u) oi.dst v) M1 → cK C ops S K Kp (f + 1) (L ||| 2 ^ j) (aT env oj.dst u) M1 :=
      fun u M1 hle rF hx => back u M1 rF (fO (MF u) (by
       unfold oe; rw [hc]; simp only [Po]
       exact ⟨v, jC C.P _ hle hv, rF, hx⟩))
     unfold cZ at h2 ⊢
     split
     ·rename_i yD; rw [if_pos yD] at h2
      unfold oe at h2 ⊢
      cases F1 : cls C.P oj <;> rw [F1, hc] at kM <;> rw [F1] at h2 <;> simp only at h2 ⊢
      ·obtain ⟨u, hu, h2⟩ := h2; exact ⟨u, hu, h2.1, fin u M (fun _ _ h => h) h2.1 h2.2⟩
      ·obtain ⟨u, hu, h2⟩ := h2; exact ⟨u, hu, h2.1, fin u M (fun _ _ h => h) h2.1 h2.2⟩
      ·obtain ⟨ob, k, hn, h2⟩ := h2
       refine ⟨ob, k, hn, fun b hb => ?_⟩
       obtain ⟨u, hu, h2⟩ := h2 b hb
       exact ⟨u, hu, h2.1, fin u _ (lN hb) h2.1 h2.2⟩
      ·simp [oE] at kM
     ·rename_i yD; rw [if_neg yD] at h2; exact ⟨h2.1, fin _ _ (fun _ _ h => h) h2.1 h2.2⟩
    | new =>
     rw [hc] at h; simp only at h
     obtain ⟨ob, k, hn, h⟩ := h
     have each : ∀ b, M b = none → ∃ v, br C.P (k b) Mem.empty = some (.value v) ∧
       cZ C ops oj env (M.set b ob) (fun env' M' => S M' ∧ cK C ops S K Kp f (L ||| 2 ^ j ||| 2 ^ i) (aT env' oi.dst v) M') Kp := fun b hb => by
      obtain ⟨v, hv, _, hx⟩ := h b hb
      have gj := (hx (dJ.set b ob)).2 j hj'
      unfold eE at gj; rw [gy] at gj; simp only at gj
      rw [Tn] at gj
      exact ⟨v, hv, lO hap hsj gj⟩
     obtain ⟨N, hN⟩ := dJ
     obtain ⟨v0, hv0, h0⟩ := each N (hN N (Nat.le_refl _))
     have fin : ∀ u M1, S M1 → (∀ b, M1 b = none → ∃ v, br C.P (k b) Mem.empty = some (.value v) ∧ cK C ops S K Kp f (L ||| 2 ^ j ||| 2 ^ i) (aT (aT env oj.dst u) oi.dst v) (M1.set b ob)) →
       cK C ops S K Kp (f + 1) (L ||| 2 ^ j) (aT env oj.dst u) M1 :=
      fun u M1 rF hx => back u M1 rF (fO (MF u) (by
       unfold oe; rw [hc]; simp only [Po]
       exact ⟨ob, k, hn, fun b hb => let ⟨v, hv, hy⟩ := hx b hb; ⟨v, hv, hS _ _ (lN hb) rF, hy⟩⟩))
     unfold cZ at h0 ⊢
     split
     ·rename_i yD; rw [if_pos yD] at h0
      unfold oe at h0 ⊢
      cases F1 : cls C.P oj <;> rw [F1, hc] at kM <;> rw [F1] at h0 <;> simp only at h0 ⊢
      ·obtain ⟨u, hu, h0⟩ := h0
       refine ⟨u, hu, iP, fin u M iP fun b hb => ?_⟩
       obtain ⟨v, hv, h1⟩ := each b hb
       unfold cZ at h1; rw [if_pos yD] at h1
       unfold oe at h1; rw [F1] at h1; simp only at h1
       obtain ⟨u', Lp, _, h1⟩ := h1
       have : u' = u := by have e1 := Lp M; rw [hu M] at e1; cases e1; rfl
       subst this
       exact ⟨v, hv, h1⟩
      ·simp [oE] at kM
      ·obtain ⟨ob', k', hn', h0⟩ := h0
       refine ⟨ob', k', hn', fun b' hb' => ?_⟩
       have dec : ∀ b, M b = none → b ≠ b' → ∃ v u, br C.P (k b) Mem.empty = some (.value v) ∧ br C.P (k' b') Mem.empty = some (.value u) ∧
         cK C ops S K Kp f (L ||| 2 ^ j ||| 2 ^ i) (aT (aT env oj.dst u) oi.dst v) ((M.set b ob).set b' ob') := fun b hb hne => by
        obtain ⟨v, hv, h1⟩ := each b hb
        unfold cZ at h1; rw [if_pos yD] at h1
        unfold oe at h1; rw [F1] at h1; simp only at h1
        obtain ⟨ob2, k2, yE, h1⟩ := h1
        rw [hn'] at yE; cases yE
        obtain ⟨u, hu, _, h1⟩ := h1 b' (by simp only [Mem.set]; rw [if_neg (Ne.symm hne)]; exact hb')
        exact ⟨v, u, hv, hu, h1⟩
       obtain ⟨_, u, _, hu, _⟩ := dec (max N (b' + 1)) (hN _ (by omega)) (by omega)
       refine ⟨u, hu, hS _ _ (lN hb') iP, fin u _ (hS _ _ (lN hb') iP) fun b hb => ?_⟩
       have hne : b ≠ b' := by rintro rfl; simp [Mem.set] at hb
       have Lq : M b = none := by simpa [Mem.set, hne] using hb
       obtain ⟨v, u', hv, Lp, h1⟩ := dec b Lq hne
       rw [hu] at Lp; cases Lp
       exact ⟨v, hv, by rw [← set_comm hne]; exact h1⟩
      ·simp [oE] at kM
     ·rename_i yD
      refine ⟨iP, fin _ _ iP fun b hb => ?_⟩
      obtain ⟨v, hv, h1⟩ := each b hb
      unfold cZ at h1; rw [if_neg yD] at h1
      exact ⟨v, hv, h1.2⟩
    | Ez => rw [hc] at kM; cases hh : cls C.P oj <;> rw [hh] at kM <;> simp [oE] at kM
   ·have hwf : bx ops oi env = false := by simpa using hw
    unfold cZ at h
    rw [if_neg hw] at h
    have gj := (h.2 dJ).2 j hj'
    unfold eE at gj; rw [gy] at gj; simp only at gj
    exact known undef (fun u M1 rF hx => back u M1 rF (iZ ((PZ u).trans hwf) ⟨rF, hx⟩)) gj
def lP (ops : Array Oper) (dF : List Nat) (L i : Nat) : Bool := match ops[i]? with
 | some oi => (List.range ops.size).all fun j => Nat.beq j i || L.testBit j || (dF.getD j 0).testBit i || (match ops[j]? with
  | some oj => oi.apart ops oj
  | none => true)
 | none => false
theorem uB {j L i : Nat} {oi : Oper} (hi : ops[i]? = some oi) {dF : List Nat} (hfree : lP ops dF L i = true) : lP ops dF (L ||| 2 ^ j) i = true := by
 unfold lP at hfree ⊢; rw [hi] at hfree ⊢
 refine List.all_eq_true.2 fun k hk => ?_
 have := List.all_eq_true.1 hfree k hk
 simp only [Bool.or_eq_true] at this ⊢
 rcases this with ((h' | h') | h') | h'
 ·exact .inl (.inl (.inl h'))
 ·exact .inl (.inl (.inr (by rw [cT, h']; rfl)))
 ·exact .inl (.inr h')
 ·exact .inr h'
theorem z8 {i j L : Nat} {oi oj : Oper} (hi : ops[i]? = some oi) {dF : List Nat} (ha : kL ops dF = true) (hdn : Dn ops L) (hfree : lP ops dF L i = true) (hr : dS ops L i = true)
  (hj : dS ops L j = true) (gy : ops[j]? = some oj) (gR : j ≠ i) : oi.apart ops oj = true := by
 obtain ⟨EG, oj', z0, gx⟩ := bp.1 hj
 rw [gy] at z0; cases z0
 unfold lP at hfree; rw [hi] at hfree
 have := List.all_eq_true.1 hfree j (List.mem_range.2 (Array.getElem?_eq_some_iff.1 gy).1)
 simp only [EG, gy, Bool.or_false, Bool.or_eq_true] at this
 rcases this with (h' | h') | h'
 ·exact absurd (Nat.eq_of_beq_eq_true h') gR
 ·have := j6 ha hdn j oj gy gx i h'
  rw [(bp.1 hr).1] at this; cases this
 ·exact h'
theorem EH {i : Nat} {oi : Oper} (hi : ops[i]? = some oi) (hsel : ∀ (j : Nat) (o : Oper) cs b, ops[j]? = some o → o.op ≠ .select cs b) {dF : List Nat} (ha : kL ops dF = true)
  (hc : cls C.P oi = .read) {S : Mem → Prop} {s : Sem Next} {v : Value} :
  ∀ (f L : Nat) (env : Nat → Value) (M : Mem), Dn ops L → lP ops dF L i = true → dS ops L i = true → bx ops oi env = true → execOp (lE env) oi = s → br C.P s M = some (.value v) → S M →
   cK C ops (fun M' => S M' ∧ br C.P s M' = some (.value v)) K Kp f (L ||| 2 ^ i) (aT env oi.dst v) M → cK C ops S K Kp (f + 1) L env M := by
 intro f
 induction f with
 | zero =>
  intro L env M hdn hfree hr hw he hv iP h dJ
  refine ⟨fun hno => (by rw [hno i] at hr; cases hr), fun j hj => ?_⟩
  by_cases gR : j = i
  ·subst gR
   unfold eE; rw [hi]; simp only
   refine fO hw ?_
   unfold oe; rw [hc]; simp only [he]
   exact ⟨v, hv, iP, h⟩
  ·have hj' := dY (i := i) hj gR
   have := (h dJ).1 j; rw [this] at hj'; cases hj'
 | succ f ih =>
  intro L env M hdn hfree hr hw he hv iP h dJ
  have weak : ∀ (f L : Nat) (env : Nat → Value) (M : Mem), cK C ops (fun M' => S M' ∧ br C.P s M' = some (.value v)) K Kp f L env M → cK C ops S K Kp f L env M := by
   intro f
   induction f with
   | zero => intro L env M h; exact h
   | succ f ihw => intro L env M h dJ; exact ⟨(h dJ).1, fun j hj => xC ((h dJ).2 j hj) fun env' M' hx => ⟨hx.1.1, ihw _ _ _ hx.2⟩⟩
  refine ⟨fun hno => (by rw [hno i] at hr; cases hr), fun j hj => ?_⟩
  by_cases gR : j = i
  ·subst gR
   unfold eE; rw [hi]; simp only
   refine fO hw ?_
   unfold oe; rw [hc]; simp only [he]
   exact ⟨v, hv, iP, weak _ _ _ _ h⟩
  ·obtain ⟨EG, oj, gy, gx⟩ := bp.1 hj
   have hap := z8 hi ha hdn hfree hr hj gy gR
   obtain ⟨a1, a2, a3⟩ := Oper.apart_spec hap
   have hsi := fun cs b => hsel i oi cs b hi
   have hsj := fun cs b => hsel j oj cs b gy
   have hj' := dY (i := i) hj gR
   have gj := (h dJ).2 j hj'
   unfold eE at gj ⊢; rw [gy] at gj ⊢; simp only at gj ⊢
   rw [pQ L i j] at gj
   have h2 := lO hap hsj gj
   have fin : ∀ u M1, (S M1 ∧ br C.P s M1 = some (.value v)) ∧ cK C ops (fun M' => S M' ∧ br C.P s M' = some (.value v)) K Kp f (L ||| 2 ^ j ||| 2 ^ i) (aT (aT env oj.dst u) oi.dst v) M1 →
     S M1 ∧ cK C ops S K Kp (f + 1) (L ||| 2 ^ j) (aT env oj.dst u) M1 := fun u M1 hx =>
    ⟨hx.1.1, ih (L ||| 2 ^ j) _ M1 (hdn.add hj) (uB hi hfree) (dY hr (Ne.symm gR)) ((c8 oi env oj.dst u a3).trans hw) ((fH oi hsi env oj.dst u a3).trans he) hx.1.2 hx.1.1 hx.2⟩
   unfold cZ at h2 ⊢
   split
   ·rename_i GH; rw [if_pos GH] at h2; exact jG h2 fun u M1 hx => fin u M1 hx
   ·rename_i GH; rw [if_neg GH] at h2; exact fin _ _ h2
end
end Go.AF
