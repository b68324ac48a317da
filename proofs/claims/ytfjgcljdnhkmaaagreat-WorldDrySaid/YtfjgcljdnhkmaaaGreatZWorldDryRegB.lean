/- A part of proofs about one program. -/
import Derived.Test.YtfjgcljdnhkmaaaGreatZWorldDryReg
set_option linter.unusedVariables false
namespace Go.AF
def gv (ops : Array Oper) (L i : Nat) : Bool := match ops[i]? with
 | some o => !L.testBit i && o.after.all fun e => !Region.binds .any e || L.testBit e.on
 | none => false
def vr : Cls → Cls → Bool
 | .pure, _ => true
 | .read, .pure => true
 | .read, .read => true
 | .read, .new => true
 | .new, .pure => true
 | .new, .new => true
 | _, _ => false
def Bf (P : Program) (ops : Array Oper) (fY : List Nat) (L i : Nat) : Bool := match ops[i]? with
 | some oi => (List.range ops.size).all fun j => Nat.beq j i || L.testBit j || (fY.getD j 0).testBit i || (match ops[j]? with
  | some oj => oi.apart ops oj && vr (cls P oi) (cls P oj)
  | none => true)
 | none => false
def Fq (fY : List Nat) (s : Nat) (e : Edge) : Nat := if Region.binds .any e then s ||| 2 ^ e.on ||| fY.getD e.on 0 else s
def qd (ops : Array Oper) (fY : List Nat) : Bool := (List.range ops.size).all fun j => match ops[j]? with
 | some o => (o.after.toList.all fun e => !Region.binds .any e || decide (e.on < j)) && Nat.beq (fY.getD j 0) (o.after.toList.foldl (Fq fY) 0)
 | none => true
def gR (C : Ctx) (ops : Array Oper) (Kp : List PanicEntry → Mem → Prop) (i : Nat) (env : Nat → Value) (M : Mem) (K : (Nat → Value) → Mem → Prop) : Prop := match ops[i]? with
 | some o => fz C ops o env M K Kp
 | none => K env M
def wO (M : Mem) : Prop := ∃ N, ∀ b, N ≤ b → M b = none
theorem wO.set {M : Mem} (h : wO M) (b : Nat) (o : Obj) : wO (M.set b o) := by
 obtain ⟨N, h⟩ := h
 exact ⟨max N (b + 1), fun i hi => by simp only [Mem.set]; rw [if_neg (by omega)]; exact h i (by omega)⟩
def eP (C : Ctx) (ops : Array Oper) (S : Mem → Prop) (K : (Nat → Value) → Mem → Prop) (Kp : List PanicEntry → Mem → Prop) : Nat → Nat → (Nat → Value) → Mem → Prop
 | 0, L, env, M => wO M → (∀ i, gv ops L i = false) ∧ K env M
 | f + 1, L, env, M => wO M → ((∀ i, gv ops L i = false) → K env M) ∧ ∀ i, gv ops L i = true → gR C ops Kp i env M fun env' M' => S M' ∧ eP C ops S K Kp f (L ||| 2 ^ i) env' M'
def zp (S : Mem → Prop) : Prop := ∀ M M', Mem.le M M' → S M → S M'
theorem fm (L i j : Nat) : (L ||| 2 ^ i).testBit j = (L.testBit j || decide (i = j)) := by
 rw [Nat.testBit_or, Nat.testBit_two_pow]
theorem bX {ops : Array Oper} {L i : Nat} : gv ops L i = true ↔ L.testBit i = false ∧ ∃ o, ops[i]? = some o ∧ ∀ e ∈ o.after, Region.binds .any e = true → L.testBit e.on = true := by
 unfold gv
 cases ho : ops[i]? with
 | none => simp
 | some o =>
  simp only [Bool.and_eq_true, Bool.not_eq_true', Array.all_eq_true_iff_forall_mem, Bool.or_eq_true, Option.some.injEq, exists_eq_left']
  constructor
  ·rintro ⟨h0, h⟩
   exact ⟨h0, fun e he hb => (h e he).resolve_left (by simp [hb])⟩
  ·rintro ⟨h0, h⟩
   exact ⟨h0, fun e he => by cases hb : Region.binds .any e <;> simp [h e he, hb]⟩
theorem gH {ops : Array Oper} {L i j : Nat} (hj : gv ops L j = true) (hne : j ≠ i) : gv ops (L ||| 2 ^ i) j = true := by
 rw [bX] at *
 obtain ⟨h0, o, ho, iA⟩ := hj
 exact ⟨by rw [fm, h0]; simp [Ne.symm hne], o, ho, fun e he hb => by rw [fm, iA e he hb]; rfl⟩
def Dn (ops : Array Oper) (L : Nat) : Prop := ∀ k o, L.testBit k = true → ops[k]? = some o → ∀ e ∈ o.after, Region.binds .any e = true → L.testBit e.on = true
theorem Dn.add {ops : Array Oper} {L i : Nat} (h : Dn ops L) (hi : gv ops L i = true) : Dn ops (L ||| 2 ^ i) := by
 obtain ⟨_, o, ho, iA⟩ := bX.1 hi
 intro k o' hk hk' e he hb
 rw [fm] at hk ⊢
 simp only [Bool.or_eq_true, decide_eq_true_eq] at hk ⊢
 rcases hk with hk | rfl
 ·exact .inl (h k o' hk hk' e he hb)
 ·rw [ho] at hk'; cases hk'; exact .inl (iA e he hb)
theorem HW {fY : List Nat} : ∀ (l : List Edge) (s i : Nat), (l.foldl (Fq fY) s).testBit i = true → s.testBit i = true ∨ ∃ e ∈ l, Region.binds .any e = true ∧ (e.on = i ∨ (fY.getD e.on 0).testBit i = true)
 | [], s, i, h => .inl h
 | e :: l, s, i, h => by
  simp only [List.foldl_cons] at h
  rcases HW l _ i h with h1 | ⟨e', he', hb, h1⟩
  ·unfold Fq at h1
   split at h1
   ·rename_i hb
    simp only [Nat.testBit_or, Bool.or_eq_true, Nat.testBit_two_pow, decide_eq_true_eq] at h1
    rcases h1 with (h1 | h1) | h1
    ·exact .inl h1
    ·exact .inr ⟨e, List.mem_cons_self .., hb, .inl h1⟩
    ·exact .inr ⟨e, List.mem_cons_self .., hb, .inr h1⟩
   ·exact .inl h1
  ·exact .inr ⟨e', List.mem_cons_of_mem _ he', hb, h1⟩
theorem pe {ops : Array Oper} {fY : List Nat} (ha : qd ops fY = true) {L : Nat} (hd : Dn ops L) :
  ∀ (j : Nat) (o : Oper), ops[j]? = some o → (∀ e ∈ o.after, Region.binds .any e = true → L.testBit e.on = true) → ∀ i, (fY.getD j 0).testBit i = true → L.testBit i = true := by
 intro j
 induction j using Nat.strongRecOn with
 | _ j ih =>
  intro o ho iA i hi
  have hlt : j < ops.size := (Array.getElem?_eq_some_iff.1 ho).1
  have := List.all_eq_true.1 ha j (List.mem_range.2 hlt)
  rw [ho] at this
  simp only [Bool.and_eq_true, List.all_eq_true, Bool.or_eq_true, Bool.not_eq_true', decide_eq_true_eq] at this
  obtain ⟨h1, h2⟩ := this
  rw [Nat.eq_of_beq_eq_true h2] at hi
  rcases HW _ 0 i hi with h | ⟨e, he, hb, h⟩
  ·simp at h
  ·have hon := iA e (by simpa using he) hb
   rcases h with rfl | h
   ·exact hon
   ·have Pm := (h1 e he).resolve_left (by simp [hb])
    cases hoe : ops[e.on]? with
    | none =>
     have : ops.size ≤ e.on := by simpa using hoe
     omega
    | some o' => exact ih e.on Pm o' hoe (fun e' he' hb' => hd e.on o' hon hoe e' he' hb') i h
theorem set_comm {M : Mem} {b b' : Nat} {o o' : Obj} (h : b ≠ b') : (M.set b o).set b' o' = (M.set b' o').set b o := by
 funext i; simp only [Mem.set]; by_cases h1 : i = b <;> by_cases h2 : i = b' <;> simp_all
theorem qX {M : Mem} {b : Nat} {o : Obj} (h : M b = none) : M.le (M.set b o) := fun i x hi => by
 simp only [Mem.set]; rw [if_neg (by rintro rfl; simp [h] at hi)]; exact hi
section
variable {C : Ctx} {ops : Array Oper} {K : (Nat → Value) → Mem → Prop} {Kp : List PanicEntry → Mem → Prop}
theorem Eb {i : Nat} {env : Nat → Value} {M : Mem} {K K' : (Nat → Value) → Mem → Prop} (h : gR C ops Kp i env M K) (hk : ∀ v M', K v M' → K' v M') : gR C ops Kp i env M K' := by
 unfold gR at *
 split
 ·rename_i o ho; rw [ho] at h; exact kA h hk
 ·rename_i ho; rw [ho] at h; exact hk _ _ h
theorem qY {oi oj : Oper} {v : Value} {env : Nat → Value} {M : Mem} {K' : (Nat → Value) → Mem → Prop} (hap : oi.apart ops oj = true) (hsj : ∀ cs b, oj.op ≠ .select cs b)
  (h : fz C ops oj (bD env oi.dst v) M K' Kp) : fz C ops oj env M (fun env' M' => K' (bD env' oi.dst v) M') Kp := by
 obtain ⟨h1, h2, h3⟩ := Oper.apart_spec hap
 unfold fz at h ⊢
 rw [fK oj env oi.dst v h1] at h
 split
 ·rename_i hw
  rw [if_pos hw] at h
  unfold u6 at h ⊢
  rw [jv oj hsj env oi.dst v h1] at h
  have hc : ∀ u, bD (bD env oi.dst v) oj.dst u = bD (bD env oj.dst u) oi.dst v := fun u => th h2
  simpa only [hc] using h
 ·rename_i hw
  rw [if_neg hw] at h
  rw [← th h2]; exact h
theorem wP (L i j : Nat) : L ||| 2 ^ i ||| 2 ^ j = L ||| 2 ^ j ||| 2 ^ i := by
 apply Nat.eq_of_testBit_eq; intro k; simp only [fm]; cases L.testBit k <;> simp [Bool.or_comm]
theorem Pn {j L i : Nat} {oi : Oper} {P : Program} (hi : ops[i]? = some oi) {fY : List Nat} (hfree : Bf P ops fY L i = true) : Bf P ops fY (L ||| 2 ^ j) i = true := by
 unfold Bf at hfree ⊢; rw [hi] at hfree ⊢
 refine List.all_eq_true.2 fun k hk => ?_
 have := List.all_eq_true.1 hfree k hk
 simp only [Bool.or_eq_true] at this ⊢
 rcases this with ((h' | h') | h') | h'
 ·exact .inl (.inl (.inl h'))
 ·exact .inl (.inl (.inr (by rw [fm, h']; rfl)))
 ·exact .inl (.inr h')
 ·exact .inr h'
theorem Ec {i j L : Nat} {oi oj : Oper} (hi : ops[i]? = some oi) {fY : List Nat} (ha : qd ops fY = true) (hdn : Dn ops L) (hfree : Bf C.P ops fY L i = true) (hr : gv ops L i = true)
  (hj : gv ops L j = true) (kB : ops[j]? = some oj) (kC : j ≠ i) : oi.apart ops oj = true ∧ vr (cls C.P oi) (cls C.P oj) = true := by
 obtain ⟨Po, oj', HX, iA⟩ := bX.1 hj
 rw [kB] at HX; cases HX
 unfold Bf at hfree; rw [hi] at hfree
 have := List.all_eq_true.1 hfree j (List.mem_range.2 (Array.getElem?_eq_some_iff.1 kB).1)
 simp only [Po, kB, Bool.or_false, Bool.or_eq_true, Bool.and_eq_true] at this
 rcases this with (h' | h') | h'
 ·exact absurd (Nat.eq_of_beq_eq_true h') kC
 ·have := pe ha hdn j oj kB iA i h'
  rw [(bX.1 hr).1] at this; cases this
 ·exact h'
theorem KS {S : Mem → Prop} (hS : zp S) {i : Nat} {oi : Oper} (hi : ops[i]? = some oi) (hsel : ∀ (j : Nat) (o : Oper) cs b, ops[j]? = some o → o.op ≠ .select cs b) {fY : List Nat} (ha : qd ops fY = true) :
  ∀ (f L : Nat) (env : Nat → Value) (M : Mem), S M → Dn ops L → Bf C.P ops fY L i = true → gv ops L i = true →
   gR C ops Kp i env M (fun env' M' => S M' ∧ eP C ops S K Kp f (L ||| 2 ^ i) env' M') → eP C ops S K Kp (f + 1) L env M := by
 intro f
 induction f with
 | zero =>
  intro L env M mQ hdn hfree hr h gd
  refine ⟨fun hno => (by rw [hno i] at hr; cases hr), fun j hj => ?_⟩
  by_cases kC : j = i
  ·subst kC; exact h
  ·exfalso
   obtain ⟨Po, oj, kB, iA⟩ := bX.1 hj
   obtain ⟨_, qf⟩ := Ec hi ha hdn hfree hr hj kB kC
   have hj' := gH (i := i) hj kC
   unfold gR at h; rw [hi] at h; simp only at h
   unfold fz at h
   split at h
   ·unfold u6 at h
    cases hc : cls C.P oi <;> rw [hc] at h qf <;> simp only at h
    ·obtain ⟨v, _, _, h⟩ := h; have := (h gd).1 j; rw [this] at hj'; cases hj'
    ·obtain ⟨v, _, _, h⟩ := h; have := (h gd).1 j; rw [this] at hj'; cases hj'
    ·obtain ⟨ob, k, _, h⟩ := h
     obtain ⟨N, hN⟩ := gd
     obtain ⟨v, _, _, h⟩ := h N (hN N (Nat.le_refl _)); have := (h (wO.set ⟨N, hN⟩ _ _)).1 j; rw [this] at hj'; cases hj'
    ·cases hh : cls C.P oj <;> rw [hh] at qf <;> simp [vr] at qf
   ·have := (h.2 gd).1 j; rw [this] at hj'; cases hj'
 | succ f ih =>
  intro L env M mQ hdn hfree hr h gd
  refine ⟨fun hno => (by rw [hno i] at hr; cases hr), fun j hj => ?_⟩
  by_cases kC : j = i
  ·subst kC; exact h
  ·obtain ⟨Po, oj, kB, iA⟩ := bX.1 hj
   obtain ⟨hap, qf⟩ := Ec hi ha hdn hfree hr hj kB kC
   obtain ⟨a1, a2, a3⟩ := Oper.apart_spec hap
   have hsi := fun cs b => hsel i oi cs b hi
   have hsj := fun cs b => hsel j oj cs b kB
   have WW := hdn.add hj
   have HL := gH (i := j) hr (Ne.symm kC)
   have hfree' := Pn (j := j) hi hfree
   have hj' := gH (i := i) hj kC
   have Sa : L ||| 2 ^ i ||| 2 ^ j = L ||| 2 ^ j ||| 2 ^ i := wP L i j
   unfold gR at h; rw [hi] at h; simp only at h
   show gR C ops Kp j env M _
   unfold gR; rw [kB]; simp only
   have back : ∀ (u : Value) (M1 : Mem), S M1 → fz C ops oi (bD env oj.dst u) M1 (fun env' M' => S M' ∧ eP C ops S K Kp f (L ||| 2 ^ j ||| 2 ^ i) env' M') Kp →
     eP C ops S K Kp (f + 1) (L ||| 2 ^ j) (bD env oj.dst u) M1 := fun u M1 qM hb => by
    refine ih (L ||| 2 ^ j) _ M1 qM WW hfree' HL ?_
    unfold gR; rw [hi]; exact hb
   have hwi : ∀ u, ck ops oi (bD env oj.dst u) = ck ops oi env := fun u => fK oi env oj.dst u a3
   have hei : ∀ u, execOp (qL (bD env oj.dst u)) oi = execOp (qL env) oi := fun u => jv oi hsi env oj.dst u a3
   have Sb : ∀ u, ck ops oj (bD env oi.dst u) = ck ops oj env := fun u => fK oj env oi.dst u a1
   have known : ∀ v, (∀ u M1, S M1 → eP C ops S K Kp f (L ||| 2 ^ j ||| 2 ^ i) (bD (bD env oj.dst u) oi.dst v) M1 → eP C ops S K Kp (f + 1) (L ||| 2 ^ j) (bD env oj.dst u) M1) →
     fz C ops oj (bD env oi.dst v) M (fun env' M' => S M' ∧ eP C ops S K Kp f (L ||| 2 ^ i ||| 2 ^ j) env' M') Kp →
     fz C ops oj env M (fun env' M' => S M' ∧ eP C ops S K Kp (f + 1) (L ||| 2 ^ j) env' M') Kp := fun v hb j7 => by
    rw [Sa] at j7
    have h2 := qY hap hsj j7
    unfold fz at h2 ⊢
    split
    ·rename_i hw; rw [if_pos hw] at h2; exact oe h2 fun u M1 hx => ⟨hx.1, hb u M1 hx.1 hx.2⟩
    ·rename_i hw; rw [if_neg hw] at h2; exact ⟨h2.1, hb _ _ h2.1 h2.2⟩
   by_cases hw : ck ops oi env = true
   ·unfold fz at h
    rw [if_pos hw] at h
    have hwi' : ∀ u, ck ops oi (bD env oj.dst u) = true := fun u => (hwi u).trans hw
    unfold u6 at h
    cases hc : cls C.P oi with
    | pure =>
     rw [hc] at h; simp only at h
     obtain ⟨v, hv, _, h⟩ := h
     have j7 := (h gd).2 j hj'
     unfold gR at j7; rw [kB] at j7; simp only at j7
     refine known v (fun u M1 qM hx => back u M1 qM (jN (hwi' u) ?_)) j7
     unfold u6; rw [hc]; simp only [hei]
     exact ⟨v, hv, qM, hx⟩
    | read =>
     rw [hc] at h; simp only at h
     obtain ⟨v, hv, _, h⟩ := h
     have j7 := (h gd).2 j hj'
     unfold gR at j7; rw [kB] at j7; simp only at j7
     rw [Sa] at j7
     have h2 := qY hap hsj j7
     have fin : ∀ u M1, M.le M1 → S M1 → eP C ops S K Kp f (L ||| 2 ^ j ||| 2 ^ i) (bD (bD env oj.dst u) oi.dst v) M1 → eP C ops S K Kp (f + 1) (L ||| 2 ^ j) (bD env oj.dst u) M1 :=
      fun u M1 hle qM hx => back u M1 qM (jN (hwi' u) (by
       unfold u6; rw [hc]; simp only [hei]
       exact ⟨v, mm C.P _ hle hv, qM, hx⟩))
     unfold fz at h2 ⊢
     split
     ·rename_i Fs; rw [if_pos Fs] at h2
      unfold u6 at h2 ⊢
      cases wQ : cls C.P oj <;> rw [wQ, hc] at qf <;> rw [wQ] at h2 <;> simp only at h2 ⊢
      ·obtain ⟨u, hu, h2⟩ := h2; exact ⟨u, hu, h2.1, fin u M (fun _ _ h => h) h2.1 h2.2⟩
      ·obtain ⟨u, hu, h2⟩ := h2; exact ⟨u, hu, h2.1, fin u M (fun _ _ h => h) h2.1 h2.2⟩
      ·obtain ⟨ob, k, hn, h2⟩ := h2
       refine ⟨ob, k, hn, fun b hb => ?_⟩
       obtain ⟨u, hu, h2⟩ := h2 b hb
       exact ⟨u, hu, h2.1, fin u _ (qX hb) h2.1 h2.2⟩
      ·simp [vr] at qf
     ·rename_i Fs; rw [if_neg Fs] at h2; exact ⟨h2.1, fin _ _ (fun _ _ h => h) h2.1 h2.2⟩
    | new =>
     rw [hc] at h; simp only at h
     obtain ⟨ob, k, hn, h⟩ := h
     have each : ∀ b, M b = none → ∃ v, bV C.P (k b) Mem.empty = some (.value v) ∧
       fz C ops oj env (M.set b ob) (fun env' M' => S M' ∧ eP C ops S K Kp f (L ||| 2 ^ j ||| 2 ^ i) (bD env' oi.dst v) M') Kp := fun b hb => by
      obtain ⟨v, hv, _, hx⟩ := h b hb
      have j7 := (hx (gd.set b ob)).2 j hj'
      unfold gR at j7; rw [kB] at j7; simp only at j7
      rw [Sa] at j7
      exact ⟨v, hv, qY hap hsj j7⟩
     obtain ⟨N, hN⟩ := gd
     obtain ⟨v0, hv0, h0⟩ := each N (hN N (Nat.le_refl _))
     have fin : ∀ u M1, S M1 → (∀ b, M1 b = none → ∃ v, bV C.P (k b) Mem.empty = some (.value v) ∧ eP C ops S K Kp f (L ||| 2 ^ j ||| 2 ^ i) (bD (bD env oj.dst u) oi.dst v) (M1.set b ob)) →
       eP C ops S K Kp (f + 1) (L ||| 2 ^ j) (bD env oj.dst u) M1 :=
      fun u M1 qM hx => back u M1 qM (jN (hwi' u) (by
       unfold u6; rw [hc]; simp only [hei]
       exact ⟨ob, k, hn, fun b hb => let ⟨v, hv, hy⟩ := hx b hb; ⟨v, hv, hS _ _ (qX hb) qM, hy⟩⟩))
     unfold fz at h0 ⊢
     split
     ·rename_i Fs; rw [if_pos Fs] at h0
      unfold u6 at h0 ⊢
      cases wQ : cls C.P oj <;> rw [wQ, hc] at qf <;> rw [wQ] at h0 <;> simp only at h0 ⊢
      ·obtain ⟨u, hu, h0⟩ := h0
       refine ⟨u, hu, mQ, fin u M mQ fun b hb => ?_⟩
       obtain ⟨v, hv, h1⟩ := each b hb
       unfold fz at h1; rw [if_pos Fs] at h1
       unfold u6 at h1; rw [wQ] at h1; simp only at h1
       obtain ⟨u', Wp, _, h1⟩ := h1
       have : u' = u := by have e1 := Wp M; rw [hu M] at e1; cases e1; rfl
       subst this
       exact ⟨v, hv, h1⟩
      ·simp [vr] at qf
      ·obtain ⟨ob', k', hn', h0⟩ := h0
       refine ⟨ob', k', hn', fun b' hb' => ?_⟩
       have dec : ∀ b, M b = none → b ≠ b' → ∃ v u, bV C.P (k b) Mem.empty = some (.value v) ∧ bV C.P (k' b') Mem.empty = some (.value u) ∧
         eP C ops S K Kp f (L ||| 2 ^ j ||| 2 ^ i) (bD (bD env oj.dst u) oi.dst v) ((M.set b ob).set b' ob') := fun b hb hne => by
        obtain ⟨v, hv, h1⟩ := each b hb
        unfold fz at h1; rw [if_pos Fs] at h1
        unfold u6 at h1; rw [wQ] at h1; simp only at h1
        obtain ⟨ob2, k2, qZ, h1⟩ := h1
        rw [hn'] at qZ; cases qZ
        obtain ⟨u, hu, _, h1⟩ := h1 b' (by simp only [Mem.set]; rw [if_neg (Ne.symm hne)]; exact hb')
        exact ⟨v, u, hv, hu, h1⟩
       obtain ⟨_, u, _, hu, _⟩ := dec (max N (b' + 1)) (hN _ (by omega)) (by omega)
       refine ⟨u, hu, hS _ _ (qX hb') mQ, fin u _ (hS _ _ (qX hb') mQ) fun b hb => ?_⟩
       have hne : b ≠ b' := by rintro rfl; simp [Mem.set] at hb
       have Sd : M b = none := by simpa [Mem.set, hne] using hb
       obtain ⟨v, u', hv, Wp, h1⟩ := dec b Sd hne
       rw [hu] at Wp; cases Wp
       exact ⟨v, hv, by rw [← set_comm hne]; exact h1⟩
      ·simp [vr] at qf
     ·rename_i Fs
      refine ⟨mQ, fin _ _ mQ fun b hb => ?_⟩
      obtain ⟨v, hv, h1⟩ := each b hb
      unfold fz at h1; rw [if_neg Fs] at h1
      exact ⟨v, hv, h1.2⟩
    | Pe => rw [hc] at qf; cases hh : cls C.P oj <;> rw [hh] at qf <;> simp [vr] at qf
   ·have hwf : ck ops oi env = false := by simpa using hw
    unfold fz at h
    rw [if_neg hw] at h
    have j7 := (h.2 gd).2 j hj'
    unfold gR at j7; rw [kB] at j7; simp only at j7
    exact known undef (fun u M1 qM hx => back u M1 qM (mZ ((hwi u).trans hwf) ⟨qM, hx⟩)) j7
def q6 (ops : Array Oper) (fY : List Nat) (L i : Nat) : Bool := match ops[i]? with
 | some oi => (List.range ops.size).all fun j => Nat.beq j i || L.testBit j || (fY.getD j 0).testBit i || (match ops[j]? with
  | some oj => oi.apart ops oj
  | none => true)
 | none => false
theorem Bg {j L i : Nat} {oi : Oper} (hi : ops[i]? = some oi) {fY : List Nat} (hfree : q6 ops fY L i = true) : q6 ops fY (L ||| 2 ^ j) i = true := by
 unfold q6 at hfree ⊢; rw [hi] at hfree ⊢
 refine List.all_eq_true.2 fun k hk => ?_
 have := List.all_eq_true.1 hfree k hk
 simp only [Bool.or_eq_true] at this ⊢
 rcases this with ((h' | h') | h') | h'
 ·exact .inl (.inl (.inl h'))
 ·exact .inl (.inl (.inr (by rw [fm, h']; rfl)))
 ·exact .inl (.inr h')
 ·exact .inr h'
theorem HY {i j L : Nat} {oi oj : Oper} (hi : ops[i]? = some oi) {fY : List Nat} (ha : qd ops fY = true) (hdn : Dn ops L) (hfree : q6 ops fY L i = true) (hr : gv ops L i = true)
  (hj : gv ops L j = true) (kB : ops[j]? = some oj) (kC : j ≠ i) : oi.apart ops oj = true := by
 obtain ⟨Po, oj', HX, iA⟩ := bX.1 hj
 rw [kB] at HX; cases HX
 unfold q6 at hfree; rw [hi] at hfree
 have := List.all_eq_true.1 hfree j (List.mem_range.2 (Array.getElem?_eq_some_iff.1 kB).1)
 simp only [Po, kB, Bool.or_false, Bool.or_eq_true] at this
 rcases this with (h' | h') | h'
 ·exact absurd (Nat.eq_of_beq_eq_true h') kC
 ·have := pe ha hdn j oj kB iA i h'
  rw [(bX.1 hr).1] at this; cases this
 ·exact h'
theorem Pp {i : Nat} {oi : Oper} (hi : ops[i]? = some oi) (hsel : ∀ (j : Nat) (o : Oper) cs b, ops[j]? = some o → o.op ≠ .select cs b) {fY : List Nat} (ha : qd ops fY = true)
  (hc : cls C.P oi = .read) {S : Mem → Prop} {s : Sem Next} {v : Value} :
  ∀ (f L : Nat) (env : Nat → Value) (M : Mem), Dn ops L → q6 ops fY L i = true → gv ops L i = true → ck ops oi env = true → execOp (qL env) oi = s → bV C.P s M = some (.value v) → S M →
   eP C ops (fun M' => S M' ∧ bV C.P s M' = some (.value v)) K Kp f (L ||| 2 ^ i) (bD env oi.dst v) M → eP C ops S K Kp (f + 1) L env M := by
 intro f
 induction f with
 | zero =>
  intro L env M hdn hfree hr hw he hv mQ h gd
  refine ⟨fun hno => (by rw [hno i] at hr; cases hr), fun j hj => ?_⟩
  by_cases kC : j = i
  ·subst kC
   unfold gR; rw [hi]; simp only
   refine jN hw ?_
   unfold u6; rw [hc]; simp only [he]
   exact ⟨v, hv, mQ, h⟩
  ·have hj' := gH (i := i) hj kC
   have := (h gd).1 j; rw [this] at hj'; cases hj'
 | succ f ih =>
  intro L env M hdn hfree hr hw he hv mQ h gd
  have weak : ∀ (f L : Nat) (env : Nat → Value) (M : Mem), eP C ops (fun M' => S M' ∧ bV C.P s M' = some (.value v)) K Kp f L env M → eP C ops S K Kp f L env M := by
   intro f
   induction f with
   | zero => intro L env M h; exact h
   | succ f ihw => intro L env M h gd; exact ⟨(h gd).1, fun j hj => Eb ((h gd).2 j hj) fun env' M' hx => ⟨hx.1.1, ihw _ _ _ hx.2⟩⟩
  refine ⟨fun hno => (by rw [hno i] at hr; cases hr), fun j hj => ?_⟩
  by_cases kC : j = i
  ·subst kC
   unfold gR; rw [hi]; simp only
   refine jN hw ?_
   unfold u6; rw [hc]; simp only [he]
   exact ⟨v, hv, mQ, weak _ _ _ _ h⟩
  ·obtain ⟨Po, oj, kB, iA⟩ := bX.1 hj
   have hap := HY hi ha hdn hfree hr hj kB kC
   obtain ⟨a1, a2, a3⟩ := Oper.apart_spec hap
   have hsi := fun cs b => hsel i oi cs b hi
   have hsj := fun cs b => hsel j oj cs b kB
   have hj' := gH (i := i) hj kC
   have j7 := (h gd).2 j hj'
   unfold gR at j7 ⊢; rw [kB] at j7 ⊢; simp only at j7 ⊢
   rw [wP L i j] at j7
   have h2 := qY hap hsj j7
   have fin : ∀ u M1, (S M1 ∧ bV C.P s M1 = some (.value v)) ∧ eP C ops (fun M' => S M' ∧ bV C.P s M' = some (.value v)) K Kp f (L ||| 2 ^ j ||| 2 ^ i) (bD (bD env oj.dst u) oi.dst v) M1 →
     S M1 ∧ eP C ops S K Kp (f + 1) (L ||| 2 ^ j) (bD env oj.dst u) M1 := fun u M1 hx =>
    ⟨hx.1.1, ih (L ||| 2 ^ j) _ M1 (hdn.add hj) (Bg hi hfree) (gH hr (Ne.symm kC)) ((fK oi env oj.dst u a3).trans hw) ((jv oi hsi env oj.dst u a3).trans he) hx.1.2 hx.1.1 hx.2⟩
   unfold fz at h2 ⊢
   split
   ·rename_i Sb; rw [if_pos Sb] at h2; exact oe h2 fun u M1 hx => fin u M1 hx
   ·rename_i Sb; rw [if_neg Sb] at h2; exact fin _ _ h2
end
end Go.AF
