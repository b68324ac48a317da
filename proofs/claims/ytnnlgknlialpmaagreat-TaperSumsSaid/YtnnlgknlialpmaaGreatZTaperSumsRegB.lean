/- A part of proofs about one program. -/
import Derived.Test.YtnnlgknlialpmaaGreatZTaperSumsReg
set_option linter.unusedVariables false
namespace Go.AF
def fT (ops : Array Oper) (L i : Nat) : Bool := match ops[i]? with
 | some o => !L.testBit i && o.after.all fun e => !Region.binds .any e || L.testBit e.on
 | none => false
def uc : Cls → Cls → Bool
 | .pure, _ => true
 | .read, .pure => true
 | .read, .read => true
 | .read, .new => true
 | .new, .pure => true
 | .new, .new => true
 | _, _ => false
def Ak (P : Program) (ops : Array Oper) (fE : List Nat) (L i : Nat) : Bool := match ops[i]? with
 | some oi => (List.range ops.size).all fun j => Nat.beq j i || L.testBit j || (fE.getD j 0).testBit i || (match ops[j]? with
  | some oj => oi.apart ops oj && uc (cls P oi) (cls P oj)
  | none => true)
 | none => false
def D2 (fE : List Nat) (s : Nat) (e : Edge) : Nat := if Region.binds .any e then s ||| 2 ^ e.on ||| fE.getD e.on 0 else s
def oQ (ops : Array Oper) (fE : List Nat) : Bool := (List.range ops.size).all fun j => match ops[j]? with
 | some o => (o.after.toList.all fun e => !Region.binds .any e || decide (e.on < j)) && Nat.beq (fE.getD j 0) (o.after.toList.foldl (D2 fE) 0)
 | none => true
def gx (C : Ctx) (ops : Array Oper) (Kp : List PanicEntry → Mem → Prop) (i : Nat) (env : Nat → Value) (M : Mem) (K : (Nat → Value) → Mem → Prop) : Prop := match ops[i]? with
 | some o => eT C ops o env M K Kp
 | none => K env M
def vr (M : Mem) : Prop := ∃ N, ∀ b, N ≤ b → M b = none
theorem vr.set {M : Mem} (h : vr M) (b : Nat) (o : Obj) : vr (M.set b o) := by
 obtain ⟨N, h⟩ := h
 exact ⟨max N (b + 1), fun i hi => by simp only [Mem.set]; rw [if_neg (by omega)]; exact h i (by omega)⟩
def dX (C : Ctx) (ops : Array Oper) (S : Mem → Prop) (K : (Nat → Value) → Mem → Prop) (Kp : List PanicEntry → Mem → Prop) : Nat → Nat → (Nat → Value) → Mem → Prop
 | 0, L, env, M => vr M → (∀ i, fT ops L i = false) ∧ K env M
 | f + 1, L, env, M => vr M → ((∀ i, fT ops L i = false) → K env M) ∧ ∀ i, fT ops L i = true → gx C ops Kp i env M fun env' M' => S M' ∧ dX C ops S K Kp f (L ||| 2 ^ i) env' M'
def yx (S : Mem → Prop) : Prop := ∀ M M', Mem.le M M' → S M → S M'
theorem eL (L i j : Nat) : (L ||| 2 ^ i).testBit j = (L.testBit j || decide (i = j)) := by
 rw [Nat.testBit_or, Nat.testBit_two_pow]
theorem bP {ops : Array Oper} {L i : Nat} : fT ops L i = true ↔ L.testBit i = false ∧ ∃ o, ops[i]? = some o ∧ ∀ e ∈ o.after, Region.binds .any e = true → L.testBit e.on = true := by
 unfold fT
 cases ho : ops[i]? with
 | none => simp
 | some o =>
  simp only [Bool.and_eq_true, Bool.not_eq_true', Array.all_eq_true_iff_forall_mem, Bool.or_eq_true, Option.some.injEq, exists_eq_left']
  constructor
  ·rintro ⟨h0, h⟩
   exact ⟨h0, fun e he hb => (h e he).resolve_left (by simp [hb])⟩
  ·rintro ⟨h0, h⟩
   exact ⟨h0, fun e he => by cases hb : Region.binds .any e <;> simp [h e he, hb]⟩
theorem gh {ops : Array Oper} {L i j : Nat} (hj : fT ops L j = true) (hne : j ≠ i) : fT ops (L ||| 2 ^ i) j = true := by
 rw [bP] at *
 obtain ⟨h0, o, ho, iL⟩ := hj
 exact ⟨by rw [eL, h0]; simp [Ne.symm hne], o, ho, fun e he hb => by rw [eL, iL e he hb]; rfl⟩
def Dn (ops : Array Oper) (L : Nat) : Prop := ∀ k o, L.testBit k = true → ops[k]? = some o → ∀ e ∈ o.after, Region.binds .any e = true → L.testBit e.on = true
theorem Dn.add {ops : Array Oper} {L i : Nat} (h : Dn ops L) (hi : fT ops L i = true) : Dn ops (L ||| 2 ^ i) := by
 obtain ⟨_, o, ho, iL⟩ := bP.1 hi
 intro k o' hk hk' e he hb
 rw [eL] at hk ⊢
 simp only [Bool.or_eq_true, decide_eq_true_eq] at hk ⊢
 rcases hk with hk | rfl
 ·exact .inl (h k o' hk hk' e he hb)
 ·rw [ho] at hk'; cases hk'; exact .inl (iL e he hb)
theorem FG {fE : List Nat} : ∀ (l : List Edge) (s i : Nat), (l.foldl (D2 fE) s).testBit i = true → s.testBit i = true ∨ ∃ e ∈ l, Region.binds .any e = true ∧ (e.on = i ∨ (fE.getD e.on 0).testBit i = true)
 | [], s, i, h => .inl h
 | e :: l, s, i, h => by
  simp only [List.foldl_cons] at h
  rcases FG l _ i h with h1 | ⟨e', he', hb, h1⟩
  ·unfold D2 at h1
   split at h1
   ·rename_i hb
    simp only [Nat.testBit_or, Bool.or_eq_true, Nat.testBit_two_pow, decide_eq_true_eq] at h1
    rcases h1 with (h1 | h1) | h1
    ·exact .inl h1
    ·exact .inr ⟨e, List.mem_cons_self .., hb, .inl h1⟩
    ·exact .inr ⟨e, List.mem_cons_self .., hb, .inr h1⟩
   ·exact .inl h1
  ·exact .inr ⟨e', List.mem_cons_of_mem _ he', hb, h1⟩
theorem oe {ops : Array Oper} {fE : List Nat} (ha : oQ ops fE = true) {L : Nat} (hd : Dn ops L) :
  ∀ (j : Nat) (o : Oper), ops[j]? = some o → (∀ e ∈ o.after, Region.binds .any e = true → L.testBit e.on = true) → ∀ i, (fE.getD j 0).testBit i = true → L.testBit i = true := by
 intro j
 induction j using Nat.strongRecOn with
 | _ j ih =>
  intro o ho iL i hi
  have hlt : j < ops.size := (Array.getElem?_eq_some_iff.1 ho).1
  have := List.all_eq_true.1 ha j (List.mem_range.2 hlt)
  rw [ho] at this
  simp only [Bool.and_eq_true, List.all_eq_true, Bool.or_eq_true, Bool.not_eq_true', decide_eq_true_eq] at this
  obtain ⟨h1, h2⟩ := this
  rw [Nat.eq_of_beq_eq_true h2] at hi
  rcases FG _ 0 i hi with h | ⟨e, he, hb, h⟩
  ·simp at h
  ·have OE := iL e (by simpa using he) hb
   rcases h with rfl | h
   ·exact OE
   ·have hlt' := (h1 e he).resolve_left (by simp [hb])
    cases hoe : ops[e.on]? with
    | none =>
     have : ops.size ≤ e.on := by simpa using hoe
     omega
    | some o' => exact ih e.on hlt' o' hoe (fun e' he' hb' => hd e.on o' OE hoe e' he' hb') i h
theorem set_comm {M : Mem} {b b' : Nat} {o o' : Obj} (h : b ≠ b') : (M.set b o).set b' o' = (M.set b' o').set b o := by
 funext i; simp only [Mem.set]; by_cases h1 : i = b <;> by_cases h2 : i = b' <;> simp_all
theorem pT {M : Mem} {b : Nat} {o : Obj} (h : M b = none) : M.le (M.set b o) := fun i x hi => by
 simp only [Mem.set]; rw [if_neg (by rintro rfl; simp [h] at hi)]; exact hi
section
variable {C : Ctx} {ops : Array Oper} {K : (Nat → Value) → Mem → Prop} {Kp : List PanicEntry → Mem → Prop}
theorem CW {i : Nat} {env : Nat → Value} {M : Mem} {K K' : (Nat → Value) → Mem → Prop} (h : gx C ops Kp i env M K) (hk : ∀ v M', K v M' → K' v M') : gx C ops Kp i env M K' := by
 unfold gx at *
 split
 ·rename_i o ho; rw [ho] at h; exact jv h hk
 ·rename_i ho; rw [ho] at h; exact hk _ _ h
theorem pU {oi oj : Oper} {v : Value} {env : Nat → Value} {M : Mem} {K' : (Nat → Value) → Mem → Prop} (hap : oi.apart ops oj = true) (hsj : ∀ cs b, oj.op ≠ .select cs b)
  (h : eT C ops oj (bx env oi.dst v) M K' Kp) : eT C ops oj env M (fun env' M' => K' (bx env' oi.dst v) M') Kp := by
 obtain ⟨h1, h2, h3⟩ := Oper.apart_spec hap
 unfold eT at h ⊢
 rw [eZ oj env oi.dst v h1] at h
 split
 ·rename_i hw
  rw [if_pos hw] at h
  unfold tN at h ⊢
  rw [iC oj hsj env oi.dst v h1] at h
  have hc : ∀ u, bx (bx env oi.dst v) oj.dst u = bx (bx env oj.dst u) oi.dst v := fun u => rE h2
  simpa only [hc] using h
 ·rename_i hw
  rw [if_neg hw] at h
  rw [← rE h2]; exact h
theorem vt (L i j : Nat) : L ||| 2 ^ i ||| 2 ^ j = L ||| 2 ^ j ||| 2 ^ i := by
 apply Nat.eq_of_testBit_eq; intro k; simp only [eL]; cases L.testBit k <;> simp [Bool.or_comm]
theorem Ma {j L i : Nat} {oi : Oper} {P : Program} (hi : ops[i]? = some oi) {fE : List Nat} (hfree : Ak P ops fE L i = true) : Ak P ops fE (L ||| 2 ^ j) i = true := by
 unfold Ak at hfree ⊢; rw [hi] at hfree ⊢
 refine List.all_eq_true.2 fun k hk => ?_
 have := List.all_eq_true.1 hfree k hk
 simp only [Bool.or_eq_true] at this ⊢
 rcases this with ((h' | h') | h') | h'
 ·exact .inl (.inl (.inl h'))
 ·exact .inl (.inl (.inr (by rw [eL, h']; rfl)))
 ·exact .inl (.inr h')
 ·exact .inr h'
theorem CX {i j L : Nat} {oi oj : Oper} (hi : ops[i]? = some oi) {fE : List Nat} (ha : oQ ops fE = true) (hdn : Dn ops L) (hfree : Ak C.P ops fE L i = true) (hr : fT ops L i = true)
  (hj : fT ops L j = true) (jx : ops[j]? = some oj) (jZ : j ≠ i) : oi.apart ops oj = true ∧ uc (cls C.P oi) (cls C.P oj) = true := by
 obtain ⟨Mb, oj', FH, iL⟩ := bP.1 hj
 rw [jx] at FH; cases FH
 unfold Ak at hfree; rw [hi] at hfree
 have := List.all_eq_true.1 hfree j (List.mem_range.2 (Array.getElem?_eq_some_iff.1 jx).1)
 simp only [Mb, jx, Bool.or_false, Bool.or_eq_true, Bool.and_eq_true] at this
 rcases this with (h' | h') | h'
 ·exact absurd (Nat.eq_of_beq_eq_true h') jZ
 ·have := oe ha hdn j oj jx iL i h'
  rw [(bP.1 hr).1] at this; cases this
 ·exact h'
theorem Io {S : Mem → Prop} (hS : yx S) {i : Nat} {oi : Oper} (hi : ops[i]? = some oi) (hsel : ∀ (j : Nat) (o : Oper) cs b, ops[j]? = some o → o.op ≠ .select cs b) {fE : List Nat} (ha : oQ ops fE = true) :
  ∀ (f L : Nat) (env : Nat → Value) (M : Mem), S M → Dn ops L → Ak C.P ops fE L i = true → fT ops L i = true →
   gx C ops Kp i env M (fun env' M' => S M' ∧ dX C ops S K Kp f (L ||| 2 ^ i) env' M') → dX C ops S K Kp (f + 1) L env M := by
 intro f
 induction f with
 | zero =>
  intro L env M lU hdn hfree hr h fI
  refine ⟨fun hno => (by rw [hno i] at hr; cases hr), fun j hj => ?_⟩
  by_cases jZ : j = i
  ·subst jZ; exact h
  ·exfalso
   obtain ⟨Mb, oj, jx, iL⟩ := bP.1 hj
   obtain ⟨_, oR⟩ := CX hi ha hdn hfree hr hj jx jZ
   have hj' := gh (i := i) hj jZ
   unfold gx at h; rw [hi] at h; simp only at h
   unfold eT at h
   split at h
   ·unfold tN at h
    cases hc : cls C.P oi <;> rw [hc] at h oR <;> simp only at h
    ·obtain ⟨v, _, _, h⟩ := h; have := (h fI).1 j; rw [this] at hj'; cases hj'
    ·obtain ⟨v, _, _, h⟩ := h; have := (h fI).1 j; rw [this] at hj'; cases hj'
    ·obtain ⟨ob, k, _, h⟩ := h
     obtain ⟨N, hN⟩ := fI
     obtain ⟨v, _, _, h⟩ := h N (hN N (Nat.le_refl _)); have := (h (vr.set ⟨N, hN⟩ _ _)).1 j; rw [this] at hj'; cases hj'
    ·cases hh : cls C.P oj <;> rw [hh] at oR <;> simp [uc] at oR
   ·have := (h.2 fI).1 j; rw [this] at hj'; cases hj'
 | succ f ih =>
  intro L env M lU hdn hfree hr h fI
  refine ⟨fun hno => (by rw [hno i] at hr; cases hr), fun j hj => ?_⟩
  by_cases jZ : j = i
  ·subst jZ; exact h
  ·obtain ⟨Mb, oj, jx, iL⟩ := bP.1 hj
   obtain ⟨hap, oR⟩ := CX hi ha hdn hfree hr hj jx jZ
   obtain ⟨a1, a2, a3⟩ := Oper.apart_spec hap
   have hsi := fun cs b => hsel i oi cs b hi
   have hsj := fun cs b => hsel j oj cs b jx
   have Su := hdn.add hj
   have Sk := gh (i := j) hr (Ne.symm jZ)
   have V1 := Ma (j := j) hi hfree
   have hj' := gh (i := i) hj jZ
   have hor : L ||| 2 ^ i ||| 2 ^ j = L ||| 2 ^ j ||| 2 ^ i := vt L i j
   unfold gx at h; rw [hi] at h; simp only at h
   show gx C ops Kp j env M _
   unfold gx; rw [jx]; simp only
   have back : ∀ (u : Value) (M1 : Mem), S M1 → eT C ops oi (bx env oj.dst u) M1 (fun env' M' => S M' ∧ dX C ops S K Kp f (L ||| 2 ^ j ||| 2 ^ i) env' M') Kp →
     dX C ops S K Kp (f + 1) (L ||| 2 ^ j) (bx env oj.dst u) M1 := fun u M1 w5 hb => by
    refine ih (L ||| 2 ^ j) _ M1 w5 Su V1 Sk ?_
    unfold gx; rw [hi]; exact hb
   have ZQ : ∀ u, bU ops oi (bx env oj.dst u) = bU ops oi env := fun u => eZ oi env oj.dst u a3
   have Y9 : ∀ u, execOp (pL (bx env oj.dst u)) oi = execOp (pL env) oi := fun u => iC oi hsi env oj.dst u a3
   have OF : ∀ u, bU ops oj (bx env oi.dst u) = bU ops oj env := fun u => eZ oj env oi.dst u a1
   have known : ∀ v, (∀ u M1, S M1 → dX C ops S K Kp f (L ||| 2 ^ j ||| 2 ^ i) (bx (bx env oj.dst u) oi.dst v) M1 → dX C ops S K Kp (f + 1) (L ||| 2 ^ j) (bx env oj.dst u) M1) →
     eT C ops oj (bx env oi.dst v) M (fun env' M' => S M' ∧ dX C ops S K Kp f (L ||| 2 ^ i ||| 2 ^ j) env' M') Kp →
     eT C ops oj env M (fun env' M' => S M' ∧ dX C ops S K Kp (f + 1) (L ||| 2 ^ j) env' M') Kp := fun v hb jm => by
    rw [hor] at jm
    have h2 := pU hap hsj jm
    unfold eT at h2 ⊢
    split
    ·rename_i hw; rw [if_pos hw] at h2; exact m6 h2 fun u M1 hx => ⟨hx.1, hb u M1 hx.1 hx.2⟩
    ·rename_i hw; rw [if_neg hw] at h2; exact ⟨h2.1, hb _ _ h2.1 h2.2⟩
   by_cases hw : bU ops oi env = true
   ·unfold eT at h
    rw [if_pos hw] at h
    have V2 : ∀ u, bU ops oi (bx env oj.dst u) = true := fun u => (ZQ u).trans hw
    unfold tN at h
    cases hc : cls C.P oi with
    | pure =>
     rw [hc] at h; simp only at h
     obtain ⟨v, hv, _, h⟩ := h
     have jm := (h fI).2 j hj'
     unfold gx at jm; rw [jx] at jm; simp only at jm
     refine known v (fun u M1 w5 hx => back u M1 w5 (iR (V2 u) ?_)) jm
     unfold tN; rw [hc]; simp only [Y9]
     exact ⟨v, hv, w5, hx⟩
    | read =>
     rw [hc] at h; simp only at h
     obtain ⟨v, hv, _, h⟩ := h
     have jm := (h fI).2 j hj'
     unfold gx at jm; rw [jx] at jm; simp only at jm
     rw [hor] at jm
     have h2 := pU hap hsj jm
     have fin : ∀ u M1, M.le M1 → S M1 → dX C ops S K Kp f (L ||| 2 ^ j ||| 2 ^ i) (bx (bx env oj.dst u) oi.dst v) M1 → dX C ops S K Kp (f + 1) (L ||| 2 ^ j) (bx env oj.dst u) M1 :=
      fun u M1 hle w5 hx => back u M1 w5 (iR (V2 u) (by
       unfold tN; rw [hc]; simp only [Y9]
       exact ⟨v, mX C.P _ hle hv, w5, hx⟩))
     unfold eT at h2 ⊢
     split
     ·rename_i D3; rw [if_pos D3] at h2
      unfold tN at h2 ⊢
      cases Fb : cls C.P oj <;> rw [Fb, hc] at oR <;> rw [Fb] at h2 <;> simp only at h2 ⊢
      ·obtain ⟨u, hu, h2⟩ := h2; exact ⟨u, hu, h2.1, fin u M (fun _ _ h => h) h2.1 h2.2⟩
      ·obtain ⟨u, hu, h2⟩ := h2; exact ⟨u, hu, h2.1, fin u M (fun _ _ h => h) h2.1 h2.2⟩
      ·obtain ⟨ob, k, hn, h2⟩ := h2
       refine ⟨ob, k, hn, fun b hb => ?_⟩
       obtain ⟨u, hu, h2⟩ := h2 b hb
       exact ⟨u, hu, h2.1, fin u _ (pT hb) h2.1 h2.2⟩
      ·simp [uc] at oR
     ·rename_i D3; rw [if_neg D3] at h2; exact ⟨h2.1, fin _ _ (fun _ _ h => h) h2.1 h2.2⟩
    | new =>
     rw [hc] at h; simp only at h
     obtain ⟨ob, k, hn, h⟩ := h
     have each : ∀ b, M b = none → ∃ v, bO C.P (k b) Mem.empty = some (.value v) ∧
       eT C ops oj env (M.set b ob) (fun env' M' => S M' ∧ dX C ops S K Kp f (L ||| 2 ^ j ||| 2 ^ i) (bx env' oi.dst v) M') Kp := fun b hb => by
      obtain ⟨v, hv, _, hx⟩ := h b hb
      have jm := (hx (fI.set b ob)).2 j hj'
      unfold gx at jm; rw [jx] at jm; simp only at jm
      rw [hor] at jm
      exact ⟨v, hv, pU hap hsj jm⟩
     obtain ⟨N, hN⟩ := fI
     obtain ⟨v0, hv0, h0⟩ := each N (hN N (Nat.le_refl _))
     have fin : ∀ u M1, S M1 → (∀ b, M1 b = none → ∃ v, bO C.P (k b) Mem.empty = some (.value v) ∧ dX C ops S K Kp f (L ||| 2 ^ j ||| 2 ^ i) (bx (bx env oj.dst u) oi.dst v) (M1.set b ob)) →
       dX C ops S K Kp (f + 1) (L ||| 2 ^ j) (bx env oj.dst u) M1 :=
      fun u M1 w5 hx => back u M1 w5 (iR (V2 u) (by
       unfold tN; rw [hc]; simp only [Y9]
       exact ⟨ob, k, hn, fun b hb => let ⟨v, hv, hy⟩ := hx b hb; ⟨v, hv, hS _ _ (pT hb) w5, hy⟩⟩))
     unfold eT at h0 ⊢
     split
     ·rename_i D3; rw [if_pos D3] at h0
      unfold tN at h0 ⊢
      cases Fb : cls C.P oj <;> rw [Fb, hc] at oR <;> rw [Fb] at h0 <;> simp only at h0 ⊢
      ·obtain ⟨u, hu, h0⟩ := h0
       refine ⟨u, hu, lU, fin u M lU fun b hb => ?_⟩
       obtain ⟨v, hv, h1⟩ := each b hb
       unfold eT at h1; rw [if_pos D3] at h1
       unfold tN at h1; rw [Fb] at h1; simp only at h1
       obtain ⟨u', RL, _, h1⟩ := h1
       have : u' = u := by have e1 := RL M; rw [hu M] at e1; cases e1; rfl
       subst this
       exact ⟨v, hv, h1⟩
      ·simp [uc] at oR
      ·obtain ⟨ob', k', hn', h0⟩ := h0
       refine ⟨ob', k', hn', fun b' hb' => ?_⟩
       have dec : ∀ b, M b = none → b ≠ b' → ∃ v u, bO C.P (k b) Mem.empty = some (.value v) ∧ bO C.P (k' b') Mem.empty = some (.value u) ∧
         dX C ops S K Kp f (L ||| 2 ^ j ||| 2 ^ i) (bx (bx env oj.dst u) oi.dst v) ((M.set b ob).set b' ob') := fun b hb hne => by
        obtain ⟨v, hv, h1⟩ := each b hb
        unfold eT at h1; rw [if_pos D3] at h1
        unfold tN at h1; rw [Fb] at h1; simp only at h1
        obtain ⟨ob2, k2, BU, h1⟩ := h1
        rw [hn'] at BU; cases BU
        obtain ⟨u, hu, _, h1⟩ := h1 b' (by simp only [Mem.set]; rw [if_neg (Ne.symm hne)]; exact hb')
        exact ⟨v, u, hv, hu, h1⟩
       obtain ⟨_, u, _, hu, _⟩ := dec (max N (b' + 1)) (hN _ (by omega)) (by omega)
       refine ⟨u, hu, hS _ _ (pT hb') lU, fin u _ (hS _ _ (pT hb') lU) fun b hb => ?_⟩
       have hne : b ≠ b' := by rintro rfl; simp [Mem.set] at hb
       have N5 : M b = none := by simpa [Mem.set, hne] using hb
       obtain ⟨v, u', hv, RL, h1⟩ := dec b N5 hne
       rw [hu] at RL; cases RL
       exact ⟨v, hv, by rw [← set_comm hne]; exact h1⟩
      ·simp [uc] at oR
     ·rename_i D3
      refine ⟨lU, fin _ _ lU fun b hb => ?_⟩
      obtain ⟨v, hv, h1⟩ := each b hb
      unfold eT at h1; rw [if_neg D3] at h1
      exact ⟨v, hv, h1.2⟩
    | LU => rw [hc] at oR; cases hh : cls C.P oj <;> rw [hh] at oR <;> simp [uc] at oR
   ·have hwf : bU ops oi env = false := by simpa using hw
    unfold eT at h
    rw [if_neg hw] at h
    have jm := (h.2 fI).2 j hj'
    unfold gx at jm; rw [jx] at jm; simp only at jm
    exact known undef (fun u M1 w5 hx => back u M1 w5 (mq ((ZQ u).trans hwf) ⟨w5, hx⟩)) jm
def pV (ops : Array Oper) (fE : List Nat) (L i : Nat) : Bool := match ops[i]? with
 | some oi => (List.range ops.size).all fun j => Nat.beq j i || L.testBit j || (fE.getD j 0).testBit i || (match ops[j]? with
  | some oj => oi.apart ops oj
  | none => true)
 | none => false
theorem Al {j L i : Nat} {oi : Oper} (hi : ops[i]? = some oi) {fE : List Nat} (hfree : pV ops fE L i = true) : pV ops fE (L ||| 2 ^ j) i = true := by
 unfold pV at hfree ⊢; rw [hi] at hfree ⊢
 refine List.all_eq_true.2 fun k hk => ?_
 have := List.all_eq_true.1 hfree k hk
 simp only [Bool.or_eq_true] at this ⊢
 rcases this with ((h' | h') | h') | h'
 ·exact .inl (.inl (.inl h'))
 ·exact .inl (.inl (.inr (by rw [eL, h']; rfl)))
 ·exact .inl (.inr h')
 ·exact .inr h'
theorem FI {i j L : Nat} {oi oj : Oper} (hi : ops[i]? = some oi) {fE : List Nat} (ha : oQ ops fE = true) (hdn : Dn ops L) (hfree : pV ops fE L i = true) (hr : fT ops L i = true)
  (hj : fT ops L j = true) (jx : ops[j]? = some oj) (jZ : j ≠ i) : oi.apart ops oj = true := by
 obtain ⟨Mb, oj', FH, iL⟩ := bP.1 hj
 rw [jx] at FH; cases FH
 unfold pV at hfree; rw [hi] at hfree
 have := List.all_eq_true.1 hfree j (List.mem_range.2 (Array.getElem?_eq_some_iff.1 jx).1)
 simp only [Mb, jx, Bool.or_false, Bool.or_eq_true] at this
 rcases this with (h' | h') | h'
 ·exact absurd (Nat.eq_of_beq_eq_true h') jZ
 ·have := oe ha hdn j oj jx iL i h'
  rw [(bP.1 hr).1] at this; cases this
 ·exact h'
theorem Mc {i : Nat} {oi : Oper} (hi : ops[i]? = some oi) (hsel : ∀ (j : Nat) (o : Oper) cs b, ops[j]? = some o → o.op ≠ .select cs b) {fE : List Nat} (ha : oQ ops fE = true)
  (hc : cls C.P oi = .read) {S : Mem → Prop} {s : Sem Next} {v : Value} :
  ∀ (f L : Nat) (env : Nat → Value) (M : Mem), Dn ops L → pV ops fE L i = true → fT ops L i = true → bU ops oi env = true → execOp (pL env) oi = s → bO C.P s M = some (.value v) → S M →
   dX C ops (fun M' => S M' ∧ bO C.P s M' = some (.value v)) K Kp f (L ||| 2 ^ i) (bx env oi.dst v) M → dX C ops S K Kp (f + 1) L env M := by
 intro f
 induction f with
 | zero =>
  intro L env M hdn hfree hr hw he hv lU h fI
  refine ⟨fun hno => (by rw [hno i] at hr; cases hr), fun j hj => ?_⟩
  by_cases jZ : j = i
  ·subst jZ
   unfold gx; rw [hi]; simp only
   refine iR hw ?_
   unfold tN; rw [hc]; simp only [he]
   exact ⟨v, hv, lU, h⟩
  ·have hj' := gh (i := i) hj jZ
   have := (h fI).1 j; rw [this] at hj'; cases hj'
 | succ f ih =>
  intro L env M hdn hfree hr hw he hv lU h fI
  have weak : ∀ (f L : Nat) (env : Nat → Value) (M : Mem), dX C ops (fun M' => S M' ∧ bO C.P s M' = some (.value v)) K Kp f L env M → dX C ops S K Kp f L env M := by
   intro f
   induction f with
   | zero => intro L env M h; exact h
   | succ f ihw => intro L env M h fI; exact ⟨(h fI).1, fun j hj => CW ((h fI).2 j hj) fun env' M' hx => ⟨hx.1.1, ihw _ _ _ hx.2⟩⟩
  refine ⟨fun hno => (by rw [hno i] at hr; cases hr), fun j hj => ?_⟩
  by_cases jZ : j = i
  ·subst jZ
   unfold gx; rw [hi]; simp only
   refine iR hw ?_
   unfold tN; rw [hc]; simp only [he]
   exact ⟨v, hv, lU, weak _ _ _ _ h⟩
  ·obtain ⟨Mb, oj, jx, iL⟩ := bP.1 hj
   have hap := FI hi ha hdn hfree hr hj jx jZ
   obtain ⟨a1, a2, a3⟩ := Oper.apart_spec hap
   have hsi := fun cs b => hsel i oi cs b hi
   have hsj := fun cs b => hsel j oj cs b jx
   have hj' := gh (i := i) hj jZ
   have jm := (h fI).2 j hj'
   unfold gx at jm ⊢; rw [jx] at jm ⊢; simp only at jm ⊢
   rw [vt L i j] at jm
   have h2 := pU hap hsj jm
   have fin : ∀ u M1, (S M1 ∧ bO C.P s M1 = some (.value v)) ∧ dX C ops (fun M' => S M' ∧ bO C.P s M' = some (.value v)) K Kp f (L ||| 2 ^ j ||| 2 ^ i) (bx (bx env oj.dst u) oi.dst v) M1 →
     S M1 ∧ dX C ops S K Kp (f + 1) (L ||| 2 ^ j) (bx env oj.dst u) M1 := fun u M1 hx =>
    ⟨hx.1.1, ih (L ||| 2 ^ j) _ M1 (hdn.add hj) (Al hi hfree) (gh hr (Ne.symm jZ)) ((eZ oi env oj.dst u a3).trans hw) ((iC oi hsi env oj.dst u a3).trans he) hx.1.2 hx.1.1 hx.2⟩
   unfold eT at h2 ⊢
   split
   ·rename_i OF; rw [if_pos OF] at h2; exact m6 h2 fun u M1 hx => fin u M1 hx
   ·rename_i OF; rw [if_neg OF] at h2; exact fin _ _ h2
end
end Go.AF
