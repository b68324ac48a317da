/- A part of proofs about one program. -/
import Derived.Test.YtnnlgknlialpmaaGreatZSnapAlikeReg
set_option linter.unusedVariables false
namespace Go.AF
def gh (ops : Array Oper) (L i : Nat) : Bool := match ops[i]? with
 | some o => !L.testBit i && o.after.all fun e => !Region.binds .any e || L.testBit e.on
 | none => false
def uh : Cls → Cls → Bool
 | .pure, _ => true
 | .read, .pure => true
 | .read, .read => true
 | .read, .new => true
 | .new, .pure => true
 | .new, .new => true
 | _, _ => false
def Ak (P : Program) (ops : Array Oper) (fJ : List Nat) (L i : Nat) : Bool := match ops[i]? with
 | some oi => (List.range ops.size).all fun j => Nat.beq j i || L.testBit j || (fJ.getD j 0).testBit i || (match ops[j]? with
  | some oj => oi.apart ops oj && uh (cls P oi) (cls P oj)
  | none => true)
 | none => false
def Ea (fJ : List Nat) (s : Nat) (e : Edge) : Nat := if Region.binds .any e then s ||| 2 ^ e.on ||| fJ.getD e.on 0 else s
def oZ (ops : Array Oper) (fJ : List Nat) : Bool := (List.range ops.size).all fun j => match ops[j]? with
 | some o => (o.after.toList.all fun e => !Region.binds .any e || decide (e.on < j)) && Nat.beq (fJ.getD j 0) (o.after.toList.foldl (Ea fJ) 0)
 | none => true
def gG (C : Ctx) (ops : Array Oper) (Kp : List PanicEntry → Mem → Prop) (i : Nat) (env : Nat → Value) (M : Mem) (K : (Nat → Value) → Mem → Prop) : Prop := match ops[i]? with
 | some o => fh C ops o env M K Kp
 | none => K env M
def vC (M : Mem) : Prop := ∃ N, ∀ b, N ≤ b → M b = none
theorem vC.set {M : Mem} (h : vC M) (b : Nat) (o : Obj) : vC (M.set b o) := by
 obtain ⟨N, h⟩ := h
 exact ⟨max N (b + 1), fun i hi => by simp only [Mem.set]; rw [if_neg (by omega)]; exact h i (by omega)⟩
def en (C : Ctx) (ops : Array Oper) (S : Mem → Prop) (K : (Nat → Value) → Mem → Prop) (Kp : List PanicEntry → Mem → Prop) : Nat → Nat → (Nat → Value) → Mem → Prop
 | 0, L, env, M => vC M → (∀ i, gh ops L i = false) ∧ K env M
 | f + 1, L, env, M => vC M → ((∀ i, gh ops L i = false) → K env M) ∧ ∀ i, gh ops L i = true → gG C ops Kp i env M fun env' M' => S M' ∧ en C ops S K Kp f (L ||| 2 ^ i) env' M'
def yu (S : Mem → Prop) : Prop := ∀ M M', Mem.le M M' → S M → S M'
theorem eV (L i j : Nat) : (L ||| 2 ^ i).testBit j = (L.testBit j || decide (i = j)) := by
 rw [Nat.testBit_or, Nat.testBit_two_pow]
theorem bR {ops : Array Oper} {L i : Nat} : gh ops L i = true ↔ L.testBit i = false ∧ ∃ o, ops[i]? = some o ∧ ∀ e ∈ o.after, Region.binds .any e = true → L.testBit e.on = true := by
 unfold gh
 cases ho : ops[i]? with
 | none => simp
 | some o =>
  simp only [Bool.and_eq_true, Bool.not_eq_true', Array.all_eq_true_iff_forall_mem, Bool.or_eq_true, Option.some.injEq, exists_eq_left']
  constructor
  ·rintro ⟨h0, h⟩
   exact ⟨h0, fun e he hb => (h e he).resolve_left (by simp [hb])⟩
  ·rintro ⟨h0, h⟩
   exact ⟨h0, fun e he => by cases hb : Region.binds .any e <;> simp [h e he, hb]⟩
theorem gu {ops : Array Oper} {L i j : Nat} (hj : gh ops L j = true) (hne : j ≠ i) : gh ops (L ||| 2 ^ i) j = true := by
 rw [bR] at *
 obtain ⟨h0, o, ho, iR⟩ := hj
 exact ⟨by rw [eV, h0]; simp [Ne.symm hne], o, ho, fun e he hb => by rw [eV, iR e he hb]; rfl⟩
def Dn (ops : Array Oper) (L : Nat) : Prop := ∀ k o, L.testBit k = true → ops[k]? = some o → ∀ e ∈ o.after, Region.binds .any e = true → L.testBit e.on = true
theorem Dn.add {ops : Array Oper} {L i : Nat} (h : Dn ops L) (hi : gh ops L i = true) : Dn ops (L ||| 2 ^ i) := by
 obtain ⟨_, o, ho, iR⟩ := bR.1 hi
 intro k o' hk hk' e he hb
 rw [eV] at hk ⊢
 simp only [Bool.or_eq_true, decide_eq_true_eq] at hk ⊢
 rcases hk with hk | rfl
 ·exact .inl (h k o' hk hk' e he hb)
 ·rw [ho] at hk'; cases hk'; exact .inl (iR e he hb)
theorem FO {fJ : List Nat} : ∀ (l : List Edge) (s i : Nat), (l.foldl (Ea fJ) s).testBit i = true → s.testBit i = true ∨ ∃ e ∈ l, Region.binds .any e = true ∧ (e.on = i ∨ (fJ.getD e.on 0).testBit i = true)
 | [], s, i, h => .inl h
 | e :: l, s, i, h => by
  simp only [List.foldl_cons] at h
  rcases FO l _ i h with h1 | ⟨e', he', hb, h1⟩
  ·unfold Ea at h1
   split at h1
   ·rename_i hb
    simp only [Nat.testBit_or, Bool.or_eq_true, Nat.testBit_two_pow, decide_eq_true_eq] at h1
    rcases h1 with (h1 | h1) | h1
    ·exact .inl h1
    ·exact .inr ⟨e, List.mem_cons_self .., hb, .inl h1⟩
    ·exact .inr ⟨e, List.mem_cons_self .., hb, .inr h1⟩
   ·exact .inl h1
  ·exact .inr ⟨e', List.mem_cons_of_mem _ he', hb, h1⟩
theorem ot {ops : Array Oper} {fJ : List Nat} (ha : oZ ops fJ = true) {L : Nat} (hd : Dn ops L) :
  ∀ (j : Nat) (o : Oper), ops[j]? = some o → (∀ e ∈ o.after, Region.binds .any e = true → L.testBit e.on = true) → ∀ i, (fJ.getD j 0).testBit i = true → L.testBit i = true := by
 intro j
 induction j using Nat.strongRecOn with
 | _ j ih =>
  intro o ho iR i hi
  have hlt : j < ops.size := (Array.getElem?_eq_some_iff.1 ho).1
  have := List.all_eq_true.1 ha j (List.mem_range.2 hlt)
  rw [ho] at this
  simp only [Bool.and_eq_true, List.all_eq_true, Bool.or_eq_true, Bool.not_eq_true', decide_eq_true_eq] at this
  obtain ⟨h1, h2⟩ := this
  rw [Nat.eq_of_beq_eq_true h2] at hi
  rcases FO _ 0 i hi with h | ⟨e, he, hb, h⟩
  ·simp at h
  ·have OC := iR e (by simpa using he) hb
   rcases h with rfl | h
   ·exact OC
   ·have hlt' := (h1 e he).resolve_left (by simp [hb])
    cases hoe : ops[e.on]? with
    | none =>
     have : ops.size ≤ e.on := by simpa using hoe
     omega
    | some o' => exact ih e.on hlt' o' hoe (fun e' he' hb' => hd e.on o' OC hoe e' he' hb') i h
theorem set_comm {M : Mem} {b b' : Nat} {o o' : Obj} (h : b ≠ b') : (M.set b o).set b' o' = (M.set b' o').set b o := by
 funext i; simp only [Mem.set]; by_cases h1 : i = b <;> by_cases h2 : i = b' <;> simp_all
theorem qe {M : Mem} {b : Nat} {o : Obj} (h : M b = none) : M.le (M.set b o) := fun i x hi => by
 simp only [Mem.set]; rw [if_neg (by rintro rfl; simp [h] at hi)]; exact hi
section
variable {C : Ctx} {ops : Array Oper} {K : (Nat → Value) → Mem → Prop} {Kp : List PanicEntry → Mem → Prop}
theorem C1 {i : Nat} {env : Nat → Value} {M : Mem} {K K' : (Nat → Value) → Mem → Prop} (h : gG C ops Kp i env M K) (hk : ∀ v M', K v M' → K' v M') : gG C ops Kp i env M K' := by
 unfold gG at *
 split
 ·rename_i o ho; rw [ho] at h; exact jF h hk
 ·rename_i ho; rw [ho] at h; exact hk _ _ h
theorem qf {oi oj : Oper} {v : Value} {env : Nat → Value} {M : Mem} {K' : (Nat → Value) → Mem → Prop} (hap : oi.apart ops oj = true) (hsj : ∀ cs b, oj.op ≠ .select cs b)
  (h : fh C ops oj (bz env oi.dst v) M K' Kp) : fh C ops oj env M (fun env' M' => K' (bz env' oi.dst v) M') Kp := by
 obtain ⟨h1, h2, h3⟩ := Oper.apart_spec hap
 unfold fh at h ⊢
 rw [fq oj env oi.dst v h1] at h
 split
 ·rename_i hw
  rw [if_pos hw] at h
  unfold tV at h ⊢
  rw [iJ oj hsj env oi.dst v h1] at h
  have hc : ∀ u, bz (bz env oi.dst v) oj.dst u = bz (bz env oj.dst u) oi.dst v := fun u => rO h2
  simpa only [hc] using h
 ·rename_i hw
  rw [if_neg hw] at h
  rw [← rO h2]; exact h
theorem vD (L i j : Nat) : L ||| 2 ^ i ||| 2 ^ j = L ||| 2 ^ j ||| 2 ^ i := by
 apply Nat.eq_of_testBit_eq; intro k; simp only [eV]; cases L.testBit k <;> simp [Bool.or_comm]
theorem LX {j L i : Nat} {oi : Oper} {P : Program} (hi : ops[i]? = some oi) {fJ : List Nat} (hfree : Ak P ops fJ L i = true) : Ak P ops fJ (L ||| 2 ^ j) i = true := by
 unfold Ak at hfree ⊢; rw [hi] at hfree ⊢
 refine List.all_eq_true.2 fun k hk => ?_
 have := List.all_eq_true.1 hfree k hk
 simp only [Bool.or_eq_true] at this ⊢
 rcases this with ((h' | h') | h') | h'
 ·exact .inl (.inl (.inl h'))
 ·exact .inl (.inl (.inr (by rw [eV, h']; rfl)))
 ·exact .inl (.inr h')
 ·exact .inr h'
theorem C2 {i j L : Nat} {oi oj : Oper} (hi : ops[i]? = some oi) {fJ : List Nat} (ha : oZ ops fJ = true) (hdn : Dn ops L) (hfree : Ak C.P ops fJ L i = true) (hr : gh ops L i = true)
  (hj : gh ops L j = true) (jG : ops[j]? = some oj) (kC : j ≠ i) : oi.apart ops oj = true ∧ uh (cls C.P oi) (cls C.P oj) = true := by
 obtain ⟨LY, oj', FP, iR⟩ := bR.1 hj
 rw [jG] at FP; cases FP
 unfold Ak at hfree; rw [hi] at hfree
 have := List.all_eq_true.1 hfree j (List.mem_range.2 (Array.getElem?_eq_some_iff.1 jG).1)
 simp only [LY, jG, Bool.or_false, Bool.or_eq_true, Bool.and_eq_true] at this
 rcases this with (h' | h') | h'
 ·exact absurd (Nat.eq_of_beq_eq_true h') kC
 ·have := ot ha hdn j oj jG iR i h'
  rw [(bR.1 hr).1] at this; cases this
 ·exact h'
theorem Iw {S : Mem → Prop} (hS : yu S) {i : Nat} {oi : Oper} (hi : ops[i]? = some oi) (hsel : ∀ (j : Nat) (o : Oper) cs b, ops[j]? = some o → o.op ≠ .select cs b) {fJ : List Nat} (ha : oZ ops fJ = true) :
  ∀ (f L : Nat) (env : Nat → Value) (M : Mem), S M → Dn ops L → Ak C.P ops fJ L i = true → gh ops L i = true →
   gG C ops Kp i env M (fun env' M' => S M' ∧ en C ops S K Kp f (L ||| 2 ^ i) env' M') → en C ops S K Kp (f + 1) L env M := by
 intro f
 induction f with
 | zero =>
  intro L env M l9 hdn hfree hr h fP
  refine ⟨fun hno => (by rw [hno i] at hr; cases hr), fun j hj => ?_⟩
  by_cases kC : j = i
  ·subst kC; exact h
  ·exfalso
   obtain ⟨LY, oj, jG, iR⟩ := bR.1 hj
   obtain ⟨_, o5⟩ := C2 hi ha hdn hfree hr hj jG kC
   have hj' := gu (i := i) hj kC
   unfold gG at h; rw [hi] at h; simp only at h
   unfold fh at h
   split at h
   ·unfold tV at h
    cases hc : cls C.P oi <;> rw [hc] at h o5 <;> simp only at h
    ·obtain ⟨v, _, _, h⟩ := h; have := (h fP).1 j; rw [this] at hj'; cases hj'
    ·obtain ⟨v, _, _, h⟩ := h; have := (h fP).1 j; rw [this] at hj'; cases hj'
    ·obtain ⟨ob, k, _, h⟩ := h
     obtain ⟨N, hN⟩ := fP
     obtain ⟨v, _, _, h⟩ := h N (hN N (Nat.le_refl _)); have := (h (vC.set ⟨N, hN⟩ _ _)).1 j; rw [this] at hj'; cases hj'
    ·cases hh : cls C.P oj <;> rw [hh] at o5 <;> simp [uh] at o5
   ·have := (h.2 fP).1 j; rw [this] at hj'; cases hj'
 | succ f ih =>
  intro L env M l9 hdn hfree hr h fP
  refine ⟨fun hno => (by rw [hno i] at hr; cases hr), fun j hj => ?_⟩
  by_cases kC : j = i
  ·subst kC; exact h
  ·obtain ⟨LY, oj, jG, iR⟩ := bR.1 hj
   obtain ⟨hap, o5⟩ := C2 hi ha hdn hfree hr hj jG kC
   obtain ⟨a1, a2, a3⟩ := Oper.apart_spec hap
   have hsi := fun cs b => hsel i oi cs b hi
   have hsj := fun cs b => hsel j oj cs b jG
   have Si := hdn.add hj
   have Sb := gu (i := j) hr (Ne.symm kC)
   have VN := LX (j := j) hi hfree
   have hj' := gu (i := i) hj kC
   have hor : L ||| 2 ^ i ||| 2 ^ j = L ||| 2 ^ j ||| 2 ^ i := vD L i j
   unfold gG at h; rw [hi] at h; simp only at h
   show gG C ops Kp j env M _
   unfold gG; rw [jG]; simp only
   have back : ∀ (u : Value) (M1 : Mem), S M1 → fh C ops oi (bz env oj.dst u) M1 (fun env' M' => S M' ∧ en C ops S K Kp f (L ||| 2 ^ j ||| 2 ^ i) env' M') Kp →
     en C ops S K Kp (f + 1) (L ||| 2 ^ j) (bz env oj.dst u) M1 := fun u M1 wZ hb => by
    refine ih (L ||| 2 ^ j) _ M1 wZ Si VN Sb ?_
    unfold gG; rw [hi]; exact hb
   have Z6 : ∀ u, bX ops oi (bz env oj.dst u) = bX ops oi env := fun u => fq oi env oj.dst u a3
   have Zr : ∀ u, execOp (pW (bz env oj.dst u)) oi = execOp (pW env) oi := fun u => iJ oi hsi env oj.dst u a3
   have OD : ∀ u, bX ops oj (bz env oi.dst u) = bX ops oj env := fun u => fq oj env oi.dst u a1
   have known : ∀ v, (∀ u M1, S M1 → en C ops S K Kp f (L ||| 2 ^ j ||| 2 ^ i) (bz (bz env oj.dst u) oi.dst v) M1 → en C ops S K Kp (f + 1) (L ||| 2 ^ j) (bz env oj.dst u) M1) →
     fh C ops oj (bz env oi.dst v) M (fun env' M' => S M' ∧ en C ops S K Kp f (L ||| 2 ^ i ||| 2 ^ j) env' M') Kp →
     fh C ops oj env M (fun env' M' => S M' ∧ en C ops S K Kp (f + 1) (L ||| 2 ^ j) env' M') Kp := fun v hb ju => by
    rw [hor] at ju
    have h2 := qf hap hsj ju
    unfold fh at h2 ⊢
    split
    ·rename_i hw; rw [if_pos hw] at h2; exact ni h2 fun u M1 hx => ⟨hx.1, hb u M1 hx.1 hx.2⟩
    ·rename_i hw; rw [if_neg hw] at h2; exact ⟨h2.1, hb _ _ h2.1 h2.2⟩
   by_cases hw : bX ops oi env = true
   ·unfold fh at h
    rw [if_pos hw] at h
    have VO : ∀ u, bX ops oi (bz env oj.dst u) = true := fun u => (Z6 u).trans hw
    unfold tV at h
    cases hc : cls C.P oi with
    | pure =>
     rw [hc] at h; simp only at h
     obtain ⟨v, hv, _, h⟩ := h
     have ju := (h fP).2 j hj'
     unfold gG at ju; rw [jG] at ju; simp only at ju
     refine known v (fun u M1 wZ hx => back u M1 wZ (iU (VO u) ?_)) ju
     unfold tV; rw [hc]; simp only [Zr]
     exact ⟨v, hv, wZ, hx⟩
    | read =>
     rw [hc] at h; simp only at h
     obtain ⟨v, hv, _, h⟩ := h
     have ju := (h fP).2 j hj'
     unfold gG at ju; rw [jG] at ju; simp only at ju
     rw [hor] at ju
     have h2 := qf hap hsj ju
     have fin : ∀ u M1, M.le M1 → S M1 → en C ops S K Kp f (L ||| 2 ^ j ||| 2 ^ i) (bz (bz env oj.dst u) oi.dst v) M1 → en C ops S K Kp (f + 1) (L ||| 2 ^ j) (bz env oj.dst u) M1 :=
      fun u M1 hle wZ hx => back u M1 wZ (iU (VO u) (by
       unfold tV; rw [hc]; simp only [Zr]
       exact ⟨v, m8 C.P _ hle hv, wZ, hx⟩))
     unfold fh at h2 ⊢
     split
     ·rename_i Eb; rw [if_pos Eb] at h2
      unfold tV at h2 ⊢
      cases Fk : cls C.P oj <;> rw [Fk, hc] at o5 <;> rw [Fk] at h2 <;> simp only at h2 ⊢
      ·obtain ⟨u, hu, h2⟩ := h2; exact ⟨u, hu, h2.1, fin u M (fun _ _ h => h) h2.1 h2.2⟩
      ·obtain ⟨u, hu, h2⟩ := h2; exact ⟨u, hu, h2.1, fin u M (fun _ _ h => h) h2.1 h2.2⟩
      ·obtain ⟨ob, k, hn, h2⟩ := h2
       refine ⟨ob, k, hn, fun b hb => ?_⟩
       obtain ⟨u, hu, h2⟩ := h2 b hb
       exact ⟨u, hu, h2.1, fin u _ (qe hb) h2.1 h2.2⟩
      ·simp [uh] at o5
     ·rename_i Eb; rw [if_neg Eb] at h2; exact ⟨h2.1, fin _ _ (fun _ _ h => h) h2.1 h2.2⟩
    | new =>
     rw [hc] at h; simp only at h
     obtain ⟨ob, k, hn, h⟩ := h
     have each : ∀ b, M b = none → ∃ v, bQ C.P (k b) Mem.empty = some (.value v) ∧
       fh C ops oj env (M.set b ob) (fun env' M' => S M' ∧ en C ops S K Kp f (L ||| 2 ^ j ||| 2 ^ i) (bz env' oi.dst v) M') Kp := fun b hb => by
      obtain ⟨v, hv, _, hx⟩ := h b hb
      have ju := (hx (fP.set b ob)).2 j hj'
      unfold gG at ju; rw [jG] at ju; simp only at ju
      rw [hor] at ju
      exact ⟨v, hv, qf hap hsj ju⟩
     obtain ⟨N, hN⟩ := fP
     obtain ⟨v0, hv0, h0⟩ := each N (hN N (Nat.le_refl _))
     have fin : ∀ u M1, S M1 → (∀ b, M1 b = none → ∃ v, bQ C.P (k b) Mem.empty = some (.value v) ∧ en C ops S K Kp f (L ||| 2 ^ j ||| 2 ^ i) (bz (bz env oj.dst u) oi.dst v) (M1.set b ob)) →
       en C ops S K Kp (f + 1) (L ||| 2 ^ j) (bz env oj.dst u) M1 :=
      fun u M1 wZ hx => back u M1 wZ (iU (VO u) (by
       unfold tV; rw [hc]; simp only [Zr]
       exact ⟨ob, k, hn, fun b hb => let ⟨v, hv, hy⟩ := hx b hb; ⟨v, hv, hS _ _ (qe hb) wZ, hy⟩⟩))
     unfold fh at h0 ⊢
     split
     ·rename_i Eb; rw [if_pos Eb] at h0
      unfold tV at h0 ⊢
      cases Fk : cls C.P oj <;> rw [Fk, hc] at o5 <;> rw [Fk] at h0 <;> simp only at h0 ⊢
      ·obtain ⟨u, hu, h0⟩ := h0
       refine ⟨u, hu, l9, fin u M l9 fun b hb => ?_⟩
       obtain ⟨v, hv, h1⟩ := each b hb
       unfold fh at h1; rw [if_pos Eb] at h1
       unfold tV at h1; rw [Fk] at h1; simp only at h1
       obtain ⟨u', RD, _, h1⟩ := h1
       have : u' = u := by have e1 := RD M; rw [hu M] at e1; cases e1; rfl
       subst this
       exact ⟨v, hv, h1⟩
      ·simp [uh] at o5
      ·obtain ⟨ob', k', hn', h0⟩ := h0
       refine ⟨ob', k', hn', fun b' hb' => ?_⟩
       have dec : ∀ b, M b = none → b ≠ b' → ∃ v u, bQ C.P (k b) Mem.empty = some (.value v) ∧ bQ C.P (k' b') Mem.empty = some (.value u) ∧
         en C ops S K Kp f (L ||| 2 ^ j ||| 2 ^ i) (bz (bz env oj.dst u) oi.dst v) ((M.set b ob).set b' ob') := fun b hb hne => by
        obtain ⟨v, hv, h1⟩ := each b hb
        unfold fh at h1; rw [if_pos Eb] at h1
        unfold tV at h1; rw [Fk] at h1; simp only at h1
        obtain ⟨ob2, k2, BZ, h1⟩ := h1
        rw [hn'] at BZ; cases BZ
        obtain ⟨u, hu, _, h1⟩ := h1 b' (by simp only [Mem.set]; rw [if_neg (Ne.symm hne)]; exact hb')
        exact ⟨v, u, hv, hu, h1⟩
       obtain ⟨_, u, _, hu, _⟩ := dec (max N (b' + 1)) (hN _ (by omega)) (by omega)
       refine ⟨u, hu, hS _ _ (qe hb') l9, fin u _ (hS _ _ (qe hb') l9) fun b hb => ?_⟩
       have hne : b ≠ b' := by rintro rfl; simp [Mem.set] at hb
       have N5 : M b = none := by simpa [Mem.set, hne] using hb
       obtain ⟨v, u', hv, RD, h1⟩ := dec b N5 hne
       rw [hu] at RD; cases RD
       exact ⟨v, hv, by rw [← set_comm hne]; exact h1⟩
      ·simp [uh] at o5
     ·rename_i Eb
      refine ⟨l9, fin _ _ l9 fun b hb => ?_⟩
      obtain ⟨v, hv, h1⟩ := each b hb
      unfold fh at h1; rw [if_neg Eb] at h1
      exact ⟨v, hv, h1.2⟩
    | LQ => rw [hc] at o5; cases hh : cls C.P oj <;> rw [hh] at o5 <;> simp [uh] at o5
   ·have hwf : bX ops oi env = false := by simpa using hw
    unfold fh at h
    rw [if_neg hw] at h
    have ju := (h.2 fP).2 j hj'
    unfold gG at ju; rw [jG] at ju; simp only at ju
    exact known undef (fun u M1 wZ hx => back u M1 wZ (mC ((Z6 u).trans hwf) ⟨wZ, hx⟩)) ju
def qg (ops : Array Oper) (fJ : List Nat) (L i : Nat) : Bool := match ops[i]? with
 | some oi => (List.range ops.size).all fun j => Nat.beq j i || L.testBit j || (fJ.getD j 0).testBit i || (match ops[j]? with
  | some oj => oi.apart ops oj
  | none => true)
 | none => false
theorem Al {j L i : Nat} {oi : Oper} (hi : ops[i]? = some oi) {fJ : List Nat} (hfree : qg ops fJ L i = true) : qg ops fJ (L ||| 2 ^ j) i = true := by
 unfold qg at hfree ⊢; rw [hi] at hfree ⊢
 refine List.all_eq_true.2 fun k hk => ?_
 have := List.all_eq_true.1 hfree k hk
 simp only [Bool.or_eq_true] at this ⊢
 rcases this with ((h' | h') | h') | h'
 ·exact .inl (.inl (.inl h'))
 ·exact .inl (.inl (.inr (by rw [eV, h']; rfl)))
 ·exact .inl (.inr h')
 ·exact .inr h'
theorem FQ {i j L : Nat} {oi oj : Oper} (hi : ops[i]? = some oi) {fJ : List Nat} (ha : oZ ops fJ = true) (hdn : Dn ops L) (hfree : qg ops fJ L i = true) (hr : gh ops L i = true)
  (hj : gh ops L j = true) (jG : ops[j]? = some oj) (kC : j ≠ i) : oi.apart ops oj = true := by
 obtain ⟨LY, oj', FP, iR⟩ := bR.1 hj
 rw [jG] at FP; cases FP
 unfold qg at hfree; rw [hi] at hfree
 have := List.all_eq_true.1 hfree j (List.mem_range.2 (Array.getElem?_eq_some_iff.1 jG).1)
 simp only [LY, jG, Bool.or_false, Bool.or_eq_true] at this
 rcases this with (h' | h') | h'
 ·exact absurd (Nat.eq_of_beq_eq_true h') kC
 ·have := ot ha hdn j oj jG iR i h'
  rw [(bR.1 hr).1] at this; cases this
 ·exact h'
theorem LZ {i : Nat} {oi : Oper} (hi : ops[i]? = some oi) (hsel : ∀ (j : Nat) (o : Oper) cs b, ops[j]? = some o → o.op ≠ .select cs b) {fJ : List Nat} (ha : oZ ops fJ = true)
  (hc : cls C.P oi = .read) {S : Mem → Prop} {s : Sem Next} {v : Value} :
  ∀ (f L : Nat) (env : Nat → Value) (M : Mem), Dn ops L → qg ops fJ L i = true → gh ops L i = true → bX ops oi env = true → execOp (pW env) oi = s → bQ C.P s M = some (.value v) → S M →
   en C ops (fun M' => S M' ∧ bQ C.P s M' = some (.value v)) K Kp f (L ||| 2 ^ i) (bz env oi.dst v) M → en C ops S K Kp (f + 1) L env M := by
 intro f
 induction f with
 | zero =>
  intro L env M hdn hfree hr hw he hv l9 h fP
  refine ⟨fun hno => (by rw [hno i] at hr; cases hr), fun j hj => ?_⟩
  by_cases kC : j = i
  ·subst kC
   unfold gG; rw [hi]; simp only
   refine iU hw ?_
   unfold tV; rw [hc]; simp only [he]
   exact ⟨v, hv, l9, h⟩
  ·have hj' := gu (i := i) hj kC
   have := (h fP).1 j; rw [this] at hj'; cases hj'
 | succ f ih =>
  intro L env M hdn hfree hr hw he hv l9 h fP
  have weak : ∀ (f L : Nat) (env : Nat → Value) (M : Mem), en C ops (fun M' => S M' ∧ bQ C.P s M' = some (.value v)) K Kp f L env M → en C ops S K Kp f L env M := by
   intro f
   induction f with
   | zero => intro L env M h; exact h
   | succ f ihw => intro L env M h fP; exact ⟨(h fP).1, fun j hj => C1 ((h fP).2 j hj) fun env' M' hx => ⟨hx.1.1, ihw _ _ _ hx.2⟩⟩
  refine ⟨fun hno => (by rw [hno i] at hr; cases hr), fun j hj => ?_⟩
  by_cases kC : j = i
  ·subst kC
   unfold gG; rw [hi]; simp only
   refine iU hw ?_
   unfold tV; rw [hc]; simp only [he]
   exact ⟨v, hv, l9, weak _ _ _ _ h⟩
  ·obtain ⟨LY, oj, jG, iR⟩ := bR.1 hj
   have hap := FQ hi ha hdn hfree hr hj jG kC
   obtain ⟨a1, a2, a3⟩ := Oper.apart_spec hap
   have hsi := fun cs b => hsel i oi cs b hi
   have hsj := fun cs b => hsel j oj cs b jG
   have hj' := gu (i := i) hj kC
   have ju := (h fP).2 j hj'
   unfold gG at ju ⊢; rw [jG] at ju ⊢; simp only at ju ⊢
   rw [vD L i j] at ju
   have h2 := qf hap hsj ju
   have fin : ∀ u M1, (S M1 ∧ bQ C.P s M1 = some (.value v)) ∧ en C ops (fun M' => S M' ∧ bQ C.P s M' = some (.value v)) K Kp f (L ||| 2 ^ j ||| 2 ^ i) (bz (bz env oj.dst u) oi.dst v) M1 →
     S M1 ∧ en C ops S K Kp (f + 1) (L ||| 2 ^ j) (bz env oj.dst u) M1 := fun u M1 hx =>
    ⟨hx.1.1, ih (L ||| 2 ^ j) _ M1 (hdn.add hj) (Al hi hfree) (gu hr (Ne.symm kC)) ((fq oi env oj.dst u a3).trans hw) ((iJ oi hsi env oj.dst u a3).trans he) hx.1.2 hx.1.1 hx.2⟩
   unfold fh at h2 ⊢
   split
   ·rename_i OD; rw [if_pos OD] at h2; exact ni h2 fun u M1 hx => fin u M1 hx
   ·rename_i OD; rw [if_neg OD] at h2; exact fin _ _ h2
end
end Go.AF
