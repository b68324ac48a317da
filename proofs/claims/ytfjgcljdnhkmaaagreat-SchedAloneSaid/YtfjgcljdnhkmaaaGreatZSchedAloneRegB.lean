/- A part of proofs about one program. -/
import Derived.Test.YtfjgcljdnhkmaaaGreatZSchedAloneReg
set_option linter.unusedVariables false
namespace Go.AF
def en (ops : Array Oper) (L i : Nat) : Bool := match ops[i]? with
 | some o => !L.testBit i && o.after.all fun e => !Region.binds .any e || L.testBit e.on
 | none => false
def pS : Uo → Uo → Bool
 | .pure, _ => true
 | .read, .pure => true
 | .read, .read => true
 | .read, .new => true
 | .new, .pure => true
 | .new, .new => true
 | _, _ => false
def vf (P : Program) (ops : Array Oper) (dS : List Nat) (L i : Nat) : Bool := match ops[i]? with
 | some oi => (List.range ops.size).all fun j => Nat.beq j i || L.testBit j || (dS.getD j 0).testBit i || (match ops[j]? with
  | some oj => oi.apart ops oj && pS (cls P oi) (cls P oj)
  | none => true)
 | none => false
def zb (dS : List Nat) (s : Nat) (e : Edge) : Nat := if Region.binds .any e then s ||| 2 ^ e.on ||| dS.getD e.on 0 else s
def lV (ops : Array Oper) (dS : List Nat) : Bool := (List.range ops.size).all fun j => match ops[j]? with
 | some o => (o.after.toList.all fun e => !Region.binds .any e || decide (e.on < j)) && Nat.beq (dS.getD j 0) (o.after.toList.foldl (zb dS) 0)
 | none => true
def eX (C : Ctx) (ops : Array Oper) (Kp : List PanicEntry → Mem → Prop) (i : Nat) (env : Nat → Value) (M : Mem) (K : (Nat → Value) → Mem → Prop) : Prop := match ops[i]? with
 | some o => dw C ops o env M K Kp
 | none => K env M
def qP (M : Mem) : Prop := ∃ N, ∀ b, N ≤ b → M b = none
theorem qP.set {M : Mem} (h : qP M) (b : Nat) (o : Obj) : qP (M.set b o) := by
 obtain ⟨N, h⟩ := h
 exact ⟨max N (b + 1), fun i hi => by simp only [Mem.set]; rw [if_neg (by omega)]; exact h i (by omega)⟩
def cI (C : Ctx) (ops : Array Oper) (S : Mem → Prop) (K : (Nat → Value) → Mem → Prop) (Kp : List PanicEntry → Mem → Prop) : Nat → Nat → (Nat → Value) → Mem → Prop
 | 0, L, env, M => qP M → (∀ i, en ops L i = false) ∧ K env M
 | f + 1, L, env, M => qP M → ((∀ i, en ops L i = false) → K env M) ∧ ∀ i, en ops L i = true → eX C ops Kp i env M fun env' M' => S M' ∧ cI C ops S K Kp f (L ||| 2 ^ i) env' M'
def tM (S : Mem → Prop) : Prop := ∀ M M', Mem.le M M' → S M → S M'
theorem dh (L i j : Nat) : (L ||| 2 ^ i).testBit j = (L.testBit j || decide (i = j)) := by
 rw [Nat.testBit_or, Nat.testBit_two_pow]
theorem bB {ops : Array Oper} {L i : Nat} : en ops L i = true ↔ L.testBit i = false ∧ ∃ o, ops[i]? = some o ∧ ∀ e ∈ o.after, Region.binds .any e = true → L.testBit e.on = true := by
 unfold en
 cases ho : ops[i]? with
 | none => simp
 | some o =>
  simp only [Bool.and_eq_true, Bool.not_eq_true', Array.all_eq_true_iff_forall_mem, Bool.or_eq_true, Option.some.injEq, exists_eq_left']
  constructor
  ·rintro ⟨h0, h⟩
   exact ⟨h0, fun e he hb => (h e he).resolve_left (by simp [hb])⟩
  ·rintro ⟨h0, h⟩
   exact ⟨h0, fun e he => by cases hb : Region.binds .any e <;> simp [h e he, hb]⟩
theorem eH {ops : Array Oper} {L i j : Nat} (hj : en ops L j = true) (hne : j ≠ i) : en ops (L ||| 2 ^ i) j = true := by
 rw [bB] at *
 obtain ⟨h0, o, ho, gu⟩ := hj
 exact ⟨by rw [dh, h0]; simp [Ne.symm hne], o, ho, fun e he hb => by rw [dh, gu e he hb]; rfl⟩
def Dn (ops : Array Oper) (L : Nat) : Prop := ∀ k o, L.testBit k = true → ops[k]? = some o → ∀ e ∈ o.after, Region.binds .any e = true → L.testBit e.on = true
theorem Dn.add {ops : Array Oper} {L i : Nat} (h : Dn ops L) (hi : en ops L i = true) : Dn ops (L ||| 2 ^ i) := by
 obtain ⟨_, o, ho, gu⟩ := bB.1 hi
 intro k o' hk hk' e he hb
 rw [dh] at hk ⊢
 simp only [Bool.or_eq_true, decide_eq_true_eq] at hk ⊢
 rcases hk with hk | rfl
 ·exact .inl (h k o' hk hk' e he hb)
 ·rw [ho] at hk'; cases hk'; exact .inl (gu e he hb)
theorem Ay {dS : List Nat} : ∀ (l : List Edge) (s i : Nat), (l.foldl (zb dS) s).testBit i = true → s.testBit i = true ∨ ∃ e ∈ l, Region.binds .any e = true ∧ (e.on = i ∨ (dS.getD e.on 0).testBit i = true)
 | [], s, i, h => .inl h
 | e :: l, s, i, h => by
  simp only [List.foldl_cons] at h
  rcases Ay l _ i h with h1 | ⟨e', he', hb, h1⟩
  ·unfold zb at h1
   split at h1
   ·rename_i hb
    simp only [Nat.testBit_or, Bool.or_eq_true, Nat.testBit_two_pow, decide_eq_true_eq] at h1
    rcases h1 with (h1 | h1) | h1
    ·exact .inl h1
    ·exact .inr ⟨e, List.mem_cons_self .., hb, .inl h1⟩
    ·exact .inr ⟨e, List.mem_cons_self .., hb, .inr h1⟩
   ·exact .inl h1
  ·exact .inr ⟨e', List.mem_cons_of_mem _ he', hb, h1⟩
theorem lj {ops : Array Oper} {dS : List Nat} (ha : lV ops dS = true) {L : Nat} (hd : Dn ops L) :
  ∀ (j : Nat) (o : Oper), ops[j]? = some o → (∀ e ∈ o.after, Region.binds .any e = true → L.testBit e.on = true) → ∀ i, (dS.getD j 0).testBit i = true → L.testBit i = true := by
 intro j
 induction j using Nat.strongRecOn with
 | _ j ih =>
  intro o ho gu i hi
  have hlt : j < ops.size := (Array.getElem?_eq_some_iff.1 ho).1
  have := List.all_eq_true.1 ha j (List.mem_range.2 hlt)
  rw [ho] at this
  simp only [Bool.and_eq_true, List.all_eq_true, Bool.or_eq_true, Bool.not_eq_true', decide_eq_true_eq] at this
  obtain ⟨h1, h2⟩ := this
  rw [Nat.eq_of_beq_eq_true h2] at hi
  rcases Ay _ 0 i hi with h | ⟨e, he, hb, h⟩
  ·simp at h
  ·have Hq := gu e (by simpa using he) hb
   rcases h with rfl | h
   ·exact Hq
   ·have Up := (h1 e he).resolve_left (by simp [hb])
    cases Uq : ops[e.on]? with
    | none =>
     have : ops.size ≤ e.on := by simpa using Uq
     omega
    | some o' => exact ih e.on Up o' Uq (fun e' he' hb' => hd e.on o' Hq Uq e' he' hb') i h
theorem set_comm {M : Mem} {b b' : Nat} {o o' : Obj} (h : b ≠ b') : (M.set b o).set b' o' = (M.set b' o').set b o := by
 funext i; simp only [Mem.set]; by_cases h1 : i = b <;> by_cases h2 : i = b' <;> simp_all
theorem mV {M : Mem} {b : Nat} {o : Obj} (h : M b = none) : M.le (M.set b o) := fun i x hi => by
 simp only [Mem.set]; rw [if_neg (by rintro rfl; simp [h] at hi)]; exact hi
section
variable {C : Ctx} {ops : Array Oper} {K : (Nat → Value) → Mem → Prop} {Kp : List PanicEntry → Mem → Prop}
theorem ya {i : Nat} {env : Nat → Value} {M : Mem} {K K' : (Nat → Value) → Mem → Prop} (h : eX C ops Kp i env M K) (hk : ∀ v M', K v M' → K' v M') : eX C ops Kp i env M K' := by
 unfold eX at *
 split
 ·rename_i o ho; rw [ho] at h; exact gX h hk
 ·rename_i ho; rw [ho] at h; exact hk _ _ h
theorem mW {oi oj : Oper} {v : Value} {env : Nat → Value} {M : Mem} {K' : (Nat → Value) → Mem → Prop} (hap : oi.apart ops oj = true) (hsj : ∀ cs b, oj.op ≠ .select cs b)
  (h : dw C ops oj (aU env oi.dst v) M K' Kp) : dw C ops oj env M (fun env' M' => K' (aU env' oi.dst v) M') Kp := by
 obtain ⟨h1, h2, h3⟩ := Oper.apart_spec hap
 unfold dw at h ⊢
 rw [dH oj env oi.dst v h1] at h
 split
 ·rename_i hw
  rw [if_pos hw] at h
  unfold pI at h ⊢
  rw [gj oj hsj env oi.dst v h1] at h
  have hc : ∀ u, aU (aU env oi.dst v) oj.dst u = aU (aU env oj.dst u) oi.dst v := fun u => oh h2
  simpa only [hc] using h
 ·rename_i hw
  rw [if_neg hw] at h
  rw [← oh h2]; exact h
theorem qQ (L i j : Nat) : L ||| 2 ^ i ||| 2 ^ j = L ||| 2 ^ j ||| 2 ^ i := by
 apply Nat.eq_of_testBit_eq; intro k; simp only [dh]; cases L.testBit k <;> simp [Bool.or_comm]
theorem Fb {j L i : Nat} {oi : Oper} {P : Program} (hi : ops[i]? = some oi) {dS : List Nat} (hfree : vf P ops dS L i = true) : vf P ops dS (L ||| 2 ^ j) i = true := by
 unfold vf at hfree ⊢; rw [hi] at hfree ⊢
 refine List.all_eq_true.2 fun k hk => ?_
 have := List.all_eq_true.1 hfree k hk
 simp only [Bool.or_eq_true] at this ⊢
 rcases this with ((h' | h') | h') | h'
 ·exact .inl (.inl (.inl h'))
 ·exact .inl (.inl (.inr (by rw [dh, h']; rfl)))
 ·exact .inl (.inr h')
 ·exact .inr h'
theorem yb {i j L : Nat} {oi oj : Oper} (hi : ops[i]? = some oi) {dS : List Nat} (ha : lV ops dS = true) (hdn : Dn ops L) (hfree : vf C.P ops dS L i = true) (hr : en ops L i = true)
  (hj : en ops L j = true) (gY : ops[j]? = some oj) (iu : j ≠ i) : oi.apart ops oj = true ∧ pS (cls C.P oi) (cls C.P oj) = true := by
 obtain ⟨Fc, YZ, Az, gu⟩ := bB.1 hj
 rw [gY] at Az; cases Az
 unfold vf at hfree; rw [hi] at hfree
 have := List.all_eq_true.1 hfree j (List.mem_range.2 (Array.getElem?_eq_some_iff.1 gY).1)
 simp only [Fc, gY, Bool.or_false, Bool.or_eq_true, Bool.and_eq_true] at this
 rcases this with (h' | h') | h'
 ·exact absurd (Nat.eq_of_beq_eq_true h') iu
 ·have := lj ha hdn j oj gY gu i h'
  rw [(bB.1 hr).1] at this; cases this
 ·exact h'
theorem Cv {S : Mem → Prop} (hS : tM S) {i : Nat} {oi : Oper} (hi : ops[i]? = some oi) (hsel : ∀ (j : Nat) (o : Oper) cs b, ops[j]? = some o → o.op ≠ .select cs b) {dS : List Nat} (ha : lV ops dS = true) :
  ∀ (f L : Nat) (env : Nat → Value) (M : Mem), S M → Dn ops L → vf C.P ops dS L i = true → en ops L i = true →
   eX C ops Kp i env M (fun env' M' => S M' ∧ cI C ops S K Kp f (L ||| 2 ^ i) env' M') → cI C ops S K Kp (f + 1) L env M := by
 intro f
 induction f with
 | zero =>
  intro L env M jr hdn hfree hr h dV
  refine ⟨fun hno => (by rw [hno i] at hr; cases hr), fun j hj => ?_⟩
  by_cases iu : j = i
  ·subst iu; exact h
  ·exfalso
   obtain ⟨Fc, oj, gY, gu⟩ := bB.1 hj
   obtain ⟨_, lW⟩ := yb hi ha hdn hfree hr hj gY iu
   have hj' := eH (i := i) hj iu
   unfold eX at h; rw [hi] at h; simp only at h
   unfold dw at h
   split at h
   ·unfold pI at h
    cases hc : cls C.P oi <;> rw [hc] at h lW <;> simp only at h
    ·obtain ⟨v, _, _, h⟩ := h; have := (h dV).1 j; rw [this] at hj'; cases hj'
    ·obtain ⟨v, _, _, h⟩ := h; have := (h dV).1 j; rw [this] at hj'; cases hj'
    ·obtain ⟨ob, k, _, h⟩ := h
     obtain ⟨N, hN⟩ := dV
     obtain ⟨v, _, _, h⟩ := h N (hN N (Nat.le_refl _)); have := (h (qP.set ⟨N, hN⟩ _ _)).1 j; rw [this] at hj'; cases hj'
    ·cases hh : cls C.P oj <;> rw [hh] at lW <;> simp [pS] at lW
   ·have := (h.2 dV).1 j; rw [this] at hj'; cases hj'
 | succ f ih =>
  intro L env M jr hdn hfree hr h dV
  refine ⟨fun hno => (by rw [hno i] at hr; cases hr), fun j hj => ?_⟩
  by_cases iu : j = i
  ·subst iu; exact h
  ·obtain ⟨Fc, oj, gY, gu⟩ := bB.1 hj
   obtain ⟨hap, lW⟩ := yb hi ha hdn hfree hr hj gY iu
   obtain ⟨a1, a2, a3⟩ := Oper.apart_spec hap
   have hsi := fun cs b => hsel i oi cs b hi
   have hsj := fun cs b => hsel j oj cs b gY
   have KC := hdn.add hj
   have G8 := eH (i := j) hr (Ne.symm iu)
   have N0 := Fb (j := j) hi hfree
   have hj' := eH (i := i) hj iu
   have Ur : L ||| 2 ^ i ||| 2 ^ j = L ||| 2 ^ j ||| 2 ^ i := qQ L i j
   unfold eX at h; rw [hi] at h; simp only at h
   show eX C ops Kp j env M _
   unfold eX; rw [gY]; simp only
   have back : ∀ (u : Value) (M1 : Mem), S M1 → dw C ops oi (aU env oj.dst u) M1 (fun env' M' => S M' ∧ cI C ops S K Kp f (L ||| 2 ^ j ||| 2 ^ i) env' M') Kp →
     cI C ops S K Kp (f + 1) (L ||| 2 ^ j) (aU env oj.dst u) M1 := fun u M1 sI hb => by
    refine ih (L ||| 2 ^ j) _ M1 sI KC N0 G8 ?_
    unfold eX; rw [hi]; exact hb
   have Re : ∀ u, bH ops oi (aU env oj.dst u) = bH ops oi env := fun u => dH oi env oj.dst u a3
   have Qu : ∀ u, execOp (mL (aU env oj.dst u)) oi = execOp (mL env) oi := fun u => gj oi hsi env oj.dst u a3
   have Hr : ∀ u, bH ops oj (aU env oi.dst u) = bH ops oj env := fun u => dH oj env oi.dst u a1
   have known : ∀ v, (∀ u M1, S M1 → cI C ops S K Kp f (L ||| 2 ^ j ||| 2 ^ i) (aU (aU env oj.dst u) oi.dst v) M1 → cI C ops S K Kp (f + 1) (L ||| 2 ^ j) (aU env oj.dst u) M1) →
     dw C ops oj (aU env oi.dst v) M (fun env' M' => S M' ∧ cI C ops S K Kp f (L ||| 2 ^ i ||| 2 ^ j) env' M') Kp →
     dw C ops oj env M (fun env' M' => S M' ∧ cI C ops S K Kp (f + 1) (L ||| 2 ^ j) env' M') Kp := fun v hb gP => by
    rw [Ur] at gP
    have h2 := mW hap hsj gP
    unfold dw at h2 ⊢
    split
    ·rename_i hw; rw [if_pos hw] at h2; exact ke h2 fun u M1 hx => ⟨hx.1, hb u M1 hx.1 hx.2⟩
    ·rename_i hw; rw [if_neg hw] at h2; exact ⟨h2.1, hb _ _ h2.1 h2.2⟩
   by_cases hw : bH ops oi env = true
   ·unfold dw at h
    rw [if_pos hw] at h
    have N1 : ∀ u, bH ops oi (aU env oj.dst u) = true := fun u => (Re u).trans hw
    unfold pI at h
    cases hc : cls C.P oi with
    | pure =>
     rw [hc] at h; simp only at h
     obtain ⟨v, hv, _, h⟩ := h
     have gP := (h dV).2 j hj'
     unfold eX at gP; rw [gY] at gP; simp only at gP
     refine known v (fun u M1 sI hx => back u M1 sI (gz (N1 u) ?_)) gP
     unfold pI; rw [hc]; simp only [Qu]
     exact ⟨v, hv, sI, hx⟩
    | read =>
     rw [hc] at h; simp only at h
     obtain ⟨v, hv, _, h⟩ := h
     have gP := (h dV).2 j hj'
     unfold eX at gP; rw [gY] at gP; simp only at gP
     rw [Ur] at gP
     have h2 := mW hap hsj gP
     have fin : ∀ u M1, M.le M1 → S M1 → cI C ops S K Kp f (L ||| 2 ^ j ||| 2 ^ i) (aU (aU env oj.dst u) oi.dst v) M1 → cI C ops S K Kp (f + 1) (L ||| 2 ^ j) (aU env oj.dst u) M1 :=
      fun u M1 hle sI hx => back u M1 sI (gz (N1 u) (by
       unfold pI; rw [hc]; simp only [Qu]
       exact ⟨v, j6 C.P _ hle hv, sI, hx⟩))
     unfold dw at h2 ⊢
     split
     ·rename_i zc; rw [if_pos zc] at h2
      unfold pI at h2 ⊢
      cases zY : cls C.P oj <;> rw [zY, hc] at lW <;> rw [zY] at h2 <;> simp only at h2 ⊢
      ·obtain ⟨u, hu, h2⟩ := h2; exact ⟨u, hu, h2.1, fin u M (fun _ _ h => h) h2.1 h2.2⟩
      ·obtain ⟨u, hu, h2⟩ := h2; exact ⟨u, hu, h2.1, fin u M (fun _ _ h => h) h2.1 h2.2⟩
      ·obtain ⟨ob, k, hn, h2⟩ := h2
       refine ⟨ob, k, hn, fun b hb => ?_⟩
       obtain ⟨u, hu, h2⟩ := h2 b hb
       exact ⟨u, hu, h2.1, fin u _ (mV hb) h2.1 h2.2⟩
      ·simp [pS] at lW
     ·rename_i zc; rw [if_neg zc] at h2; exact ⟨h2.1, fin _ _ (fun _ _ h => h) h2.1 h2.2⟩
    | new =>
     rw [hc] at h; simp only at h
     obtain ⟨ob, k, hn, h⟩ := h
     have each : ∀ b, M b = none → ∃ v, bC C.P (k b) Mem.empty = some (.value v) ∧
       dw C ops oj env (M.set b ob) (fun env' M' => S M' ∧ cI C ops S K Kp f (L ||| 2 ^ j ||| 2 ^ i) (aU env' oi.dst v) M') Kp := fun b hb => by
      obtain ⟨v, hv, _, hx⟩ := h b hb
      have gP := (hx (dV.set b ob)).2 j hj'
      unfold eX at gP; rw [gY] at gP; simp only at gP
      rw [Ur] at gP
      exact ⟨v, hv, mW hap hsj gP⟩
     obtain ⟨N, hN⟩ := dV
     obtain ⟨v0, hv0, h0⟩ := each N (hN N (Nat.le_refl _))
     have fin : ∀ u M1, S M1 → (∀ b, M1 b = none → ∃ v, bC C.P (k b) Mem.empty = some (.value v) ∧ cI C ops S K Kp f (L ||| 2 ^ j ||| 2 ^ i) (aU (aU env oj.dst u) oi.dst v) (M1.set b ob)) →
       cI C ops S K Kp (f + 1) (L ||| 2 ^ j) (aU env oj.dst u) M1 :=
      fun u M1 sI hx => back u M1 sI (gz (N1 u) (by
       unfold pI; rw [hc]; simp only [Qu]
       exact ⟨ob, k, hn, fun b hb => let ⟨v, hv, hy⟩ := hx b hb; ⟨v, hv, hS _ _ (mV hb) sI, hy⟩⟩))
     unfold dw at h0 ⊢
     split
     ·rename_i zc; rw [if_pos zc] at h0
      unfold pI at h0 ⊢
      cases zY : cls C.P oj <;> rw [zY, hc] at lW <;> rw [zY] at h0 <;> simp only at h0 ⊢
      ·obtain ⟨u, hu, h0⟩ := h0
       refine ⟨u, hu, jr, fin u M jr fun b hb => ?_⟩
       obtain ⟨v, hv, h1⟩ := each b hb
       unfold dw at h1; rw [if_pos zc] at h1
       unfold pI at h1; rw [zY] at h1; simp only at h1
       obtain ⟨u', MF, _, h1⟩ := h1
       have : u' = u := by have e1 := MF M; rw [hu M] at e1; cases e1; rfl
       subst this
       exact ⟨v, hv, h1⟩
      ·simp [pS] at lW
      ·obtain ⟨Y0, k', hn', h0⟩ := h0
       refine ⟨Y0, k', hn', fun b' hb' => ?_⟩
       have dec : ∀ b, M b = none → b ≠ b' → ∃ v u, bC C.P (k b) Mem.empty = some (.value v) ∧ bC C.P (k' b') Mem.empty = some (.value u) ∧
         cI C ops S K Kp f (L ||| 2 ^ j ||| 2 ^ i) (aU (aU env oj.dst u) oi.dst v) ((M.set b ob).set b' Y0) := fun b hb hne => by
        obtain ⟨v, hv, h1⟩ := each b hb
        unfold dw at h1; rw [if_pos zc] at h1
        unfold pI at h1; rw [zY] at h1; simp only at h1
        obtain ⟨ZS, k2, vg, h1⟩ := h1
        rw [hn'] at vg; cases vg
        obtain ⟨u, hu, _, h1⟩ := h1 b' (by simp only [Mem.set]; rw [if_neg (Ne.symm hne)]; exact hb')
        exact ⟨v, u, hv, hu, h1⟩
       obtain ⟨_, u, _, hu, _⟩ := dec (max N (b' + 1)) (hN _ (by omega)) (by omega)
       refine ⟨u, hu, hS _ _ (mV hb') jr, fin u _ (hS _ _ (mV hb') jr) fun b hb => ?_⟩
       have hne : b ≠ b' := by rintro rfl; simp [Mem.set] at hb
       have Kf : M b = none := by simpa [Mem.set, hne] using hb
       obtain ⟨v, u', hv, MF, h1⟩ := dec b Kf hne
       rw [hu] at MF; cases MF
       exact ⟨v, hv, by rw [← set_comm hne]; exact h1⟩
      ·simp [pS] at lW
     ·rename_i zc
      refine ⟨jr, fin _ _ jr fun b hb => ?_⟩
      obtain ⟨v, hv, h1⟩ := each b hb
      unfold dw at h1; rw [if_neg zc] at h1
      exact ⟨v, hv, h1.2⟩
    | E5 => rw [hc] at lW; cases hh : cls C.P oj <;> rw [hh] at lW <;> simp [pS] at lW
   ·have hwf : bH ops oi env = false := by simpa using hw
    unfold dw at h
    rw [if_neg hw] at h
    have gP := (h.2 dV).2 j hj'
    unfold eX at gP; rw [gY] at gP; simp only at gP
    exact known undef (fun u M1 sI hx => back u M1 sI (jD ((Re u).trans hwf) ⟨sI, hx⟩)) gP
def mX (ops : Array Oper) (dS : List Nat) (L i : Nat) : Bool := match ops[i]? with
 | some oi => (List.range ops.size).all fun j => Nat.beq j i || L.testBit j || (dS.getD j 0).testBit i || (match ops[j]? with
  | some oj => oi.apart ops oj
  | none => true)
 | none => false
theorem vj {j L i : Nat} {oi : Oper} (hi : ops[i]? = some oi) {dS : List Nat} (hfree : mX ops dS L i = true) : mX ops dS (L ||| 2 ^ j) i = true := by
 unfold mX at hfree ⊢; rw [hi] at hfree ⊢
 refine List.all_eq_true.2 fun k hk => ?_
 have := List.all_eq_true.1 hfree k hk
 simp only [Bool.or_eq_true] at this ⊢
 rcases this with ((h' | h') | h') | h'
 ·exact .inl (.inl (.inl h'))
 ·exact .inl (.inl (.inr (by rw [dh, h']; rfl)))
 ·exact .inl (.inr h')
 ·exact .inr h'
theorem AA {i j L : Nat} {oi oj : Oper} (hi : ops[i]? = some oi) {dS : List Nat} (ha : lV ops dS = true) (hdn : Dn ops L) (hfree : mX ops dS L i = true) (hr : en ops L i = true)
  (hj : en ops L j = true) (gY : ops[j]? = some oj) (iu : j ≠ i) : oi.apart ops oj = true := by
 obtain ⟨Fc, YZ, Az, gu⟩ := bB.1 hj
 rw [gY] at Az; cases Az
 unfold mX at hfree; rw [hi] at hfree
 have := List.all_eq_true.1 hfree j (List.mem_range.2 (Array.getElem?_eq_some_iff.1 gY).1)
 simp only [Fc, gY, Bool.or_false, Bool.or_eq_true] at this
 rcases this with (h' | h') | h'
 ·exact absurd (Nat.eq_of_beq_eq_true h') iu
 ·have := lj ha hdn j oj gY gu i h'
  rw [(bB.1 hr).1] at this; cases this
 ·exact h'
theorem Fe {i : Nat} {oi : Oper} (hi : ops[i]? = some oi) (hsel : ∀ (j : Nat) (o : Oper) cs b, ops[j]? = some o → o.op ≠ .select cs b) {dS : List Nat} (ha : lV ops dS = true)
  (hc : cls C.P oi = .read) {S : Mem → Prop} {s : Sem Next} {v : Value} :
  ∀ (f L : Nat) (env : Nat → Value) (M : Mem), Dn ops L → mX ops dS L i = true → en ops L i = true → bH ops oi env = true → execOp (mL env) oi = s → bC C.P s M = some (.value v) → S M →
   cI C ops (fun M' => S M' ∧ bC C.P s M' = some (.value v)) K Kp f (L ||| 2 ^ i) (aU env oi.dst v) M → cI C ops S K Kp (f + 1) L env M := by
 intro f
 induction f with
 | zero =>
  intro L env M hdn hfree hr hw he hv jr h dV
  refine ⟨fun hno => (by rw [hno i] at hr; cases hr), fun j hj => ?_⟩
  by_cases iu : j = i
  ·subst iu
   unfold eX; rw [hi]; simp only
   refine gz hw ?_
   unfold pI; rw [hc]; simp only [he]
   exact ⟨v, hv, jr, h⟩
  ·have hj' := eH (i := i) hj iu
   have := (h dV).1 j; rw [this] at hj'; cases hj'
 | succ f ih =>
  intro L env M hdn hfree hr hw he hv jr h dV
  have weak : ∀ (f L : Nat) (env : Nat → Value) (M : Mem), cI C ops (fun M' => S M' ∧ bC C.P s M' = some (.value v)) K Kp f L env M → cI C ops S K Kp f L env M := by
   intro f
   induction f with
   | zero => intro L env M h; exact h
   | succ f ZT => intro L env M h dV; exact ⟨(h dV).1, fun j hj => ya ((h dV).2 j hj) fun env' M' hx => ⟨hx.1.1, ZT _ _ _ hx.2⟩⟩
  refine ⟨fun hno => (by rw [hno i] at hr; cases hr), fun j hj => ?_⟩
  by_cases iu : j = i
  ·subst iu
   unfold eX; rw [hi]; simp only
   refine gz hw ?_
   unfold pI; rw [hc]; simp only [he]
   exact ⟨v, hv, jr, weak _ _ _ _ h⟩
  ·obtain ⟨Fc, oj, gY, gu⟩ := bB.1 hj
   have hap := AA hi ha hdn hfree hr hj gY iu
   obtain ⟨a1, a2, a3⟩ := Oper.apart_spec hap
   have hsi := fun cs b => hsel i oi cs b hi
   have hsj := fun cs b => hsel j oj cs b gY
   have hj' := eH (i := i) hj iu
   have gP := (h dV).2 j hj'
   unfold eX at gP ⊢; rw [gY] at gP ⊢; simp only at gP ⊢
   rw [qQ L i j] at gP
   have h2 := mW hap hsj gP
   have fin : ∀ u M1, (S M1 ∧ bC C.P s M1 = some (.value v)) ∧ cI C ops (fun M' => S M' ∧ bC C.P s M' = some (.value v)) K Kp f (L ||| 2 ^ j ||| 2 ^ i) (aU (aU env oj.dst u) oi.dst v) M1 →
     S M1 ∧ cI C ops S K Kp (f + 1) (L ||| 2 ^ j) (aU env oj.dst u) M1 := fun u M1 hx =>
    ⟨hx.1.1, ih (L ||| 2 ^ j) _ M1 (hdn.add hj) (vj hi hfree) (eH hr (Ne.symm iu)) ((dH oi env oj.dst u a3).trans hw) ((gj oi hsi env oj.dst u a3).trans he) hx.1.2 hx.1.1 hx.2⟩
   unfold dw at h2 ⊢
   split
   ·rename_i Hr; rw [if_pos Hr] at h2; exact ke h2 fun u M1 hx => fin u M1 hx
   ·rename_i Hr; rw [if_neg Hr] at h2; exact fin _ _ h2
end
end Go.AF
