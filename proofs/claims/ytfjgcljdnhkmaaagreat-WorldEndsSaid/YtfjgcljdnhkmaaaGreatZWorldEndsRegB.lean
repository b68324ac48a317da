/- A part of proofs about one program. -/
import Derived.Test.YtfjgcljdnhkmaaaGreatZWorldEndsReg
set_option linter.unusedVariables false
namespace Go.AF
def gp (ops : Array Oper) (L i : Nat) : Bool := match ops[i]? with
 | some o => !L.testBit i && o.after.all fun e => !Region.binds .any e || L.testBit e.on
 | none => false
def vk : Cls → Cls → Bool
 | .pure, _ => true
 | .read, .pure => true
 | .read, .read => true
 | .read, .new => true
 | .new, .pure => true
 | .new, .new => true
 | _, _ => false
def Bb (P : Program) (ops : Array Oper) (fU : List Nat) (L i : Nat) : Bool := match ops[i]? with
 | some oi => (List.range ops.size).all fun j => Nat.beq j i || L.testBit j || (fU.getD j 0).testBit i || (match ops[j]? with
  | some oj => oi.apart ops oj && vk (cls P oi) (cls P oj)
  | none => true)
 | none => false
def E2 (fU : List Nat) (s : Nat) (e : Edge) : Nat := if Region.binds .any e then s ||| 2 ^ e.on ||| fU.getD e.on 0 else s
def pV (ops : Array Oper) (fU : List Nat) : Bool := (List.range ops.size).all fun j => match ops[j]? with
 | some o => (o.after.toList.all fun e => !Region.binds .any e || decide (e.on < j)) && Nat.beq (fU.getD j 0) (o.after.toList.foldl (E2 fU) 0)
 | none => true
def gO (C : Ctx) (ops : Array Oper) (Kp : List PanicEntry → Mem → Prop) (i : Nat) (env : Nat → Value) (M : Mem) (K : (Nat → Value) → Mem → Prop) : Prop := match ops[i]? with
 | some o => fA C ops o env M K Kp
 | none => K env M
def wF (M : Mem) : Prop := ∃ N, ∀ b, N ≤ b → M b = none
theorem wF.set {M : Mem} (h : wF M) (b : Nat) (o : Obj) : wF (M.set b o) := by
 obtain ⟨N, h⟩ := h
 exact ⟨max N (b + 1), fun i hi => by simp only [Mem.set]; rw [if_neg (by omega)]; exact h i (by omega)⟩
def eP (C : Ctx) (ops : Array Oper) (S : Mem → Prop) (K : (Nat → Value) → Mem → Prop) (Kp : List PanicEntry → Mem → Prop) : Nat → Nat → (Nat → Value) → Mem → Prop
 | 0, L, env, M => wF M → (∀ i, gp ops L i = false) ∧ K env M
 | f + 1, L, env, M => wF M → ((∀ i, gp ops L i = false) → K env M) ∧ ∀ i, gp ops L i = true → gO C ops Kp i env M fun env' M' => S M' ∧ eP C ops S K Kp f (L ||| 2 ^ i) env' M'
def zi (S : Mem → Prop) : Prop := ∀ M M', Mem.le M M' → S M → S M'
theorem fk (L i j : Nat) : (L ||| 2 ^ i).testBit j = (L.testBit j || decide (i = j)) := by
 rw [Nat.testBit_or, Nat.testBit_two_pow]
theorem bX {ops : Array Oper} {L i : Nat} : gp ops L i = true ↔ L.testBit i = false ∧ ∃ o, ops[i]? = some o ∧ ∀ e ∈ o.after, Region.binds .any e = true → L.testBit e.on = true := by
 unfold gp
 cases ho : ops[i]? with
 | none => simp
 | some o =>
  simp only [Bool.and_eq_true, Bool.not_eq_true', Array.all_eq_true_iff_forall_mem, Bool.or_eq_true, Option.some.injEq, exists_eq_left']
  constructor
  ·rintro ⟨h0, h⟩
   exact ⟨h0, fun e he hb => (h e he).resolve_left (by simp [hb])⟩
  ·rintro ⟨h0, h⟩
   exact ⟨h0, fun e he => by cases hb : Region.binds .any e <;> simp [h e he, hb]⟩
theorem gE {ops : Array Oper} {L i j : Nat} (hj : gp ops L j = true) (hne : j ≠ i) : gp ops (L ||| 2 ^ i) j = true := by
 rw [bX] at *
 obtain ⟨h0, o, ho, ig⟩ := hj
 exact ⟨by rw [fk, h0]; simp [Ne.symm hne], o, ho, fun e he hb => by rw [fk, ig e he hb]; rfl⟩
def Dn (ops : Array Oper) (L : Nat) : Prop := ∀ k o, L.testBit k = true → ops[k]? = some o → ∀ e ∈ o.after, Region.binds .any e = true → L.testBit e.on = true
theorem Dn.add {ops : Array Oper} {L i : Nat} (h : Dn ops L) (hi : gp ops L i = true) : Dn ops (L ||| 2 ^ i) := by
 obtain ⟨_, o, ho, ig⟩ := bX.1 hi
 intro k o' hk hk' e he hb
 rw [fk] at hk ⊢
 simp only [Bool.or_eq_true, decide_eq_true_eq] at hk ⊢
 rcases hk with hk | rfl
 ·exact .inl (h k o' hk hk' e he hb)
 ·rw [ho] at hk'; cases hk'; exact .inl (ig e he hb)
theorem Hy {fU : List Nat} : ∀ (l : List Edge) (s i : Nat), (l.foldl (E2 fU) s).testBit i = true → s.testBit i = true ∨ ∃ e ∈ l, Region.binds .any e = true ∧ (e.on = i ∨ (fU.getD e.on 0).testBit i = true)
 | [], s, i, h => .inl h
 | e :: l, s, i, h => by
  simp only [List.foldl_cons] at h
  rcases Hy l _ i h with h1 | ⟨e', he', hb, h1⟩
  ·unfold E2 at h1
   split at h1
   ·rename_i hb
    simp only [Nat.testBit_or, Bool.or_eq_true, Nat.testBit_two_pow, decide_eq_true_eq] at h1
    rcases h1 with (h1 | h1) | h1
    ·exact .inl h1
    ·exact .inr ⟨e, List.mem_cons_self .., hb, .inl h1⟩
    ·exact .inr ⟨e, List.mem_cons_self .., hb, .inr h1⟩
   ·exact .inl h1
  ·exact .inr ⟨e', List.mem_cons_of_mem _ he', hb, h1⟩
theorem oW {ops : Array Oper} {fU : List Nat} (ha : pV ops fU = true) {L : Nat} (hd : Dn ops L) :
  ∀ (j : Nat) (o : Oper), ops[j]? = some o → (∀ e ∈ o.after, Region.binds .any e = true → L.testBit e.on = true) → ∀ i, (fU.getD j 0).testBit i = true → L.testBit i = true := by
 intro j
 induction j using Nat.strongRecOn with
 | _ j ih =>
  intro o ho ig i hi
  have hlt : j < ops.size := (Array.getElem?_eq_some_iff.1 ho).1
  have := List.all_eq_true.1 ha j (List.mem_range.2 hlt)
  rw [ho] at this
  simp only [Bool.and_eq_true, List.all_eq_true, Bool.or_eq_true, Bool.not_eq_true', decide_eq_true_eq] at this
  obtain ⟨h1, h2⟩ := this
  rw [Nat.eq_of_beq_eq_true h2] at hi
  rcases Hy _ 0 i hi with h | ⟨e, he, hb, h⟩
  ·simp at h
  ·have hon := ig e (by simpa using he) hb
   rcases h with rfl | h
   ·exact hon
   ·have OK := (h1 e he).resolve_left (by simp [hb])
    cases hoe : ops[e.on]? with
    | none =>
     have : ops.size ≤ e.on := by simpa using hoe
     omega
    | some o' => exact ih e.on OK o' hoe (fun e' he' hb' => hd e.on o' hon hoe e' he' hb') i h
theorem set_comm {M : Mem} {b b' : Nat} {o o' : Obj} (h : b ≠ b') : (M.set b o).set b' o' = (M.set b' o').set b o := by
 funext i; simp only [Mem.set]; by_cases h1 : i = b <;> by_cases h2 : i = b' <;> simp_all
theorem qP {M : Mem} {b : Nat} {o : Obj} (h : M b = none) : M.le (M.set b o) := fun i x hi => by
 simp only [Mem.set]; rw [if_neg (by rintro rfl; simp [h] at hi)]; exact hi
section
variable {C : Ctx} {ops : Array Oper} {K : (Nat → Value) → Mem → Prop} {Kp : List PanicEntry → Mem → Prop}
theorem DM {i : Nat} {env : Nat → Value} {M : Mem} {K K' : (Nat → Value) → Mem → Prop} (h : gO C ops Kp i env M K) (hk : ∀ v M', K v M' → K' v M') : gO C ops Kp i env M K' := by
 unfold gO at *
 split
 ·rename_i o ho; rw [ho] at h; exact kj h hk
 ·rename_i ho; rw [ho] at h; exact hk _ _ h
theorem qQ {oi oj : Oper} {v : Value} {env : Nat → Value} {M : Mem} {K' : (Nat → Value) → Mem → Prop} (hap : oi.apart ops oj = true) (hsj : ∀ cs b, oj.op ≠ .select cs b)
  (h : fA C ops oj (bG env oi.dst v) M K' Kp) : fA C ops oj env M (fun env' M' => K' (bG env' oi.dst v) M') Kp := by
 obtain ⟨h1, h2, h3⟩ := Oper.apart_spec hap
 unfold fA at h ⊢
 rw [fG oj env oi.dst v h1] at h
 split
 ·rename_i hw
  rw [if_pos hw] at h
  unfold uX at h ⊢
  rw [js oj hsj env oi.dst v h1] at h
  have hc : ∀ u, bG (bG env oi.dst v) oj.dst u = bG (bG env oj.dst u) oi.dst v := fun u => ta h2
  simpa only [hc] using h
 ·rename_i hw
  rw [if_neg hw] at h
  rw [← ta h2]; exact h
theorem wG (L i j : Nat) : L ||| 2 ^ i ||| 2 ^ j = L ||| 2 ^ j ||| 2 ^ i := by
 apply Nat.eq_of_testBit_eq; intro k; simp only [fk]; cases L.testBit k <;> simp [Bool.or_comm]
theorem OL {j L i : Nat} {oi : Oper} {P : Program} (hi : ops[i]? = some oi) {fU : List Nat} (hfree : Bb P ops fU L i = true) : Bb P ops fU (L ||| 2 ^ j) i = true := by
 unfold Bb at hfree ⊢; rw [hi] at hfree ⊢
 refine List.all_eq_true.2 fun k hk => ?_
 have := List.all_eq_true.1 hfree k hk
 simp only [Bool.or_eq_true] at this ⊢
 rcases this with ((h' | h') | h') | h'
 ·exact .inl (.inl (.inl h'))
 ·exact .inl (.inl (.inr (by rw [fk, h']; rfl)))
 ·exact .inl (.inr h')
 ·exact .inr h'
theorem DN {i j L : Nat} {oi oj : Oper} (hi : ops[i]? = some oi) {fU : List Nat} (ha : pV ops fU = true) (hdn : Dn ops L) (hfree : Bb C.P ops fU L i = true) (hr : gp ops L i = true)
  (hj : gp ops L j = true) (kn : ops[j]? = some oj) (kq : j ≠ i) : oi.apart ops oj = true ∧ vk (cls C.P oi) (cls C.P oj) = true := by
 obtain ⟨OM, oj', Hz, ig⟩ := bX.1 hj
 rw [kn] at Hz; cases Hz
 unfold Bb at hfree; rw [hi] at hfree
 have := List.all_eq_true.1 hfree j (List.mem_range.2 (Array.getElem?_eq_some_iff.1 kn).1)
 simp only [OM, kn, Bool.or_false, Bool.or_eq_true, Bool.and_eq_true] at this
 rcases this with (h' | h') | h'
 ·exact absurd (Nat.eq_of_beq_eq_true h') kq
 ·have := oW ha hdn j oj kn ig i h'
  rw [(bX.1 hr).1] at this; cases this
 ·exact h'
theorem Kr {S : Mem → Prop} (hS : zi S) {i : Nat} {oi : Oper} (hi : ops[i]? = some oi) (hsel : ∀ (j : Nat) (o : Oper) cs b, ops[j]? = some o → o.op ≠ .select cs b) {fU : List Nat} (ha : pV ops fU = true) :
  ∀ (f L : Nat) (env : Nat → Value) (M : Mem), S M → Dn ops L → Bb C.P ops fU L i = true → gp ops L i = true →
   gO C ops Kp i env M (fun env' M' => S M' ∧ eP C ops S K Kp f (L ||| 2 ^ i) env' M') → eP C ops S K Kp (f + 1) L env M := by
 intro f
 induction f with
 | zero =>
  intro L env M mI hdn hfree hr h fX
  refine ⟨fun hno => (by rw [hno i] at hr; cases hr), fun j hj => ?_⟩
  by_cases kq : j = i
  ·subst kq; exact h
  ·exfalso
   obtain ⟨OM, oj, kn, ig⟩ := bX.1 hj
   obtain ⟨_, pW⟩ := DN hi ha hdn hfree hr hj kn kq
   have hj' := gE (i := i) hj kq
   unfold gO at h; rw [hi] at h; simp only at h
   unfold fA at h
   split at h
   ·unfold uX at h
    cases hc : cls C.P oi <;> rw [hc] at h pW <;> simp only at h
    ·obtain ⟨v, _, _, h⟩ := h; have := (h fX).1 j; rw [this] at hj'; cases hj'
    ·obtain ⟨v, _, _, h⟩ := h; have := (h fX).1 j; rw [this] at hj'; cases hj'
    ·obtain ⟨ob, k, _, h⟩ := h
     obtain ⟨N, hN⟩ := fX
     obtain ⟨v, _, _, h⟩ := h N (hN N (Nat.le_refl _)); have := (h (wF.set ⟨N, hN⟩ _ _)).1 j; rw [this] at hj'; cases hj'
    ·cases hh : cls C.P oj <;> rw [hh] at pW <;> simp [vk] at pW
   ·have := (h.2 fX).1 j; rw [this] at hj'; cases hj'
 | succ f ih =>
  intro L env M mI hdn hfree hr h fX
  refine ⟨fun hno => (by rw [hno i] at hr; cases hr), fun j hj => ?_⟩
  by_cases kq : j = i
  ·subst kq; exact h
  ·obtain ⟨OM, oj, kn, ig⟩ := bX.1 hj
   obtain ⟨hap, pW⟩ := DN hi ha hdn hfree hr hj kn kq
   obtain ⟨a1, a2, a3⟩ := Oper.apart_spec hap
   have hsi := fun cs b => hsel i oi cs b hi
   have hsj := fun cs b => hsel j oj cs b kn
   have V9 := hdn.add hj
   have Hl := gE (i := j) hr (Ne.symm kq)
   have ZT := OL (j := j) hi hfree
   have hj' := gE (i := i) hj kq
   have Wa : L ||| 2 ^ i ||| 2 ^ j = L ||| 2 ^ j ||| 2 ^ i := wG L i j
   unfold gO at h; rw [hi] at h; simp only at h
   show gO C ops Kp j env M _
   unfold gO; rw [kn]; simp only
   have back : ∀ (u : Value) (M1 : Mem), S M1 → fA C ops oi (bG env oj.dst u) M1 (fun env' M' => S M' ∧ eP C ops S K Kp f (L ||| 2 ^ j ||| 2 ^ i) env' M') Kp →
     eP C ops S K Kp (f + 1) (L ||| 2 ^ j) (bG env oj.dst u) M1 := fun u M1 vl hb => by
    refine ih (L ||| 2 ^ j) _ M1 vl V9 ZT Hl ?_
    unfold gO; rw [hi]; exact hb
   have hwi : ∀ u, ck ops oi (bG env oj.dst u) = ck ops oi env := fun u => fG oi env oj.dst u a3
   have hei : ∀ u, execOp (qG (bG env oj.dst u)) oi = execOp (qG env) oi := fun u => js oi hsi env oj.dst u a3
   have Rm : ∀ u, ck ops oj (bG env oi.dst u) = ck ops oj env := fun u => fG oj env oi.dst u a1
   have known : ∀ v, (∀ u M1, S M1 → eP C ops S K Kp f (L ||| 2 ^ j ||| 2 ^ i) (bG (bG env oj.dst u) oi.dst v) M1 → eP C ops S K Kp (f + 1) (L ||| 2 ^ j) (bG env oj.dst u) M1) →
     fA C ops oj (bG env oi.dst v) M (fun env' M' => S M' ∧ eP C ops S K Kp f (L ||| 2 ^ i ||| 2 ^ j) env' M') Kp →
     fA C ops oj env M (fun env' M' => S M' ∧ eP C ops S K Kp (f + 1) (L ||| 2 ^ j) env' M') Kp := fun v hb j6 => by
    rw [Wa] at j6
    have h2 := qQ hap hsj j6
    unfold fA at h2 ⊢
    split
    ·rename_i hw; rw [if_pos hw] at h2; exact nU h2 fun u M1 hx => ⟨hx.1, hb u M1 hx.1 hx.2⟩
    ·rename_i hw; rw [if_neg hw] at h2; exact ⟨h2.1, hb _ _ h2.1 h2.2⟩
   by_cases hw : ck ops oi env = true
   ·unfold fA at h
    rw [if_pos hw] at h
    have ZU : ∀ u, ck ops oi (bG env oj.dst u) = true := fun u => (hwi u).trans hw
    unfold uX at h
    cases hc : cls C.P oi with
    | pure =>
     rw [hc] at h; simp only at h
     obtain ⟨v, hv, _, h⟩ := h
     have j6 := (h fX).2 j hj'
     unfold gO at j6; rw [kn] at j6; simp only at j6
     refine known v (fun u M1 vl hx => back u M1 vl (jI (ZU u) ?_)) j6
     unfold uX; rw [hc]; simp only [hei]
     exact ⟨v, hv, vl, hx⟩
    | read =>
     rw [hc] at h; simp only at h
     obtain ⟨v, hv, _, h⟩ := h
     have j6 := (h fX).2 j hj'
     unfold gO at j6; rw [kn] at j6; simp only at j6
     rw [Wa] at j6
     have h2 := qQ hap hsj j6
     have fin : ∀ u M1, M.le M1 → S M1 → eP C ops S K Kp f (L ||| 2 ^ j ||| 2 ^ i) (bG (bG env oj.dst u) oi.dst v) M1 → eP C ops S K Kp (f + 1) (L ||| 2 ^ j) (bG env oj.dst u) M1 :=
      fun u M1 hle vl hx => back u M1 vl (jI (ZU u) (by
       unfold uX; rw [hc]; simp only [hei]
       exact ⟨v, qK C.P _ hle hv, vl, hx⟩))
     unfold fA at h2 ⊢
     split
     ·rename_i E3; rw [if_pos E3] at h2
      unfold uX at h2 ⊢
      cases wH : cls C.P oj <;> rw [wH, hc] at pW <;> rw [wH] at h2 <;> simp only at h2 ⊢
      ·obtain ⟨u, hu, h2⟩ := h2; exact ⟨u, hu, h2.1, fin u M (fun _ _ h => h) h2.1 h2.2⟩
      ·obtain ⟨u, hu, h2⟩ := h2; exact ⟨u, hu, h2.1, fin u M (fun _ _ h => h) h2.1 h2.2⟩
      ·obtain ⟨ob, k, hn, h2⟩ := h2
       refine ⟨ob, k, hn, fun b hb => ?_⟩
       obtain ⟨u, hu, h2⟩ := h2 b hb
       exact ⟨u, hu, h2.1, fin u _ (qP hb) h2.1 h2.2⟩
      ·simp [vk] at pW
     ·rename_i E3; rw [if_neg E3] at h2; exact ⟨h2.1, fin _ _ (fun _ _ h => h) h2.1 h2.2⟩
    | new =>
     rw [hc] at h; simp only at h
     obtain ⟨ob, k, hn, h⟩ := h
     have each : ∀ b, M b = none → ∃ v, bZ C.P (k b) Mem.empty = some (.value v) ∧
       fA C ops oj env (M.set b ob) (fun env' M' => S M' ∧ eP C ops S K Kp f (L ||| 2 ^ j ||| 2 ^ i) (bG env' oi.dst v) M') Kp := fun b hb => by
      obtain ⟨v, hv, _, hx⟩ := h b hb
      have j6 := (hx (fX.set b ob)).2 j hj'
      unfold gO at j6; rw [kn] at j6; simp only at j6
      rw [Wa] at j6
      exact ⟨v, hv, qQ hap hsj j6⟩
     obtain ⟨N, hN⟩ := fX
     obtain ⟨v0, hv0, h0⟩ := each N (hN N (Nat.le_refl _))
     have fin : ∀ u M1, S M1 → (∀ b, M1 b = none → ∃ v, bZ C.P (k b) Mem.empty = some (.value v) ∧ eP C ops S K Kp f (L ||| 2 ^ j ||| 2 ^ i) (bG (bG env oj.dst u) oi.dst v) (M1.set b ob)) →
       eP C ops S K Kp (f + 1) (L ||| 2 ^ j) (bG env oj.dst u) M1 :=
      fun u M1 vl hx => back u M1 vl (jI (ZU u) (by
       unfold uX; rw [hc]; simp only [hei]
       exact ⟨ob, k, hn, fun b hb => let ⟨v, hv, hy⟩ := hx b hb; ⟨v, hv, hS _ _ (qP hb) vl, hy⟩⟩))
     unfold fA at h0 ⊢
     split
     ·rename_i E3; rw [if_pos E3] at h0
      unfold uX at h0 ⊢
      cases wH : cls C.P oj <;> rw [wH, hc] at pW <;> rw [wH] at h0 <;> simp only at h0 ⊢
      ·obtain ⟨u, hu, h0⟩ := h0
       refine ⟨u, hu, mI, fin u M mI fun b hb => ?_⟩
       obtain ⟨v, hv, h1⟩ := each b hb
       unfold fA at h1; rw [if_pos E3] at h1
       unfold uX at h1; rw [wH] at h1; simp only at h1
       obtain ⟨u', YY, _, h1⟩ := h1
       have : u' = u := by have e1 := YY M; rw [hu M] at e1; cases e1; rfl
       subst this
       exact ⟨v, hv, h1⟩
      ·simp [vk] at pW
      ·obtain ⟨ob', k', hn', h0⟩ := h0
       refine ⟨ob', k', hn', fun b' hb' => ?_⟩
       have dec : ∀ b, M b = none → b ≠ b' → ∃ v u, bZ C.P (k b) Mem.empty = some (.value v) ∧ bZ C.P (k' b') Mem.empty = some (.value u) ∧
         eP C ops S K Kp f (L ||| 2 ^ j ||| 2 ^ i) (bG (bG env oj.dst u) oi.dst v) ((M.set b ob).set b' ob') := fun b hb hne => by
        obtain ⟨v, hv, h1⟩ := each b hb
        unfold fA at h1; rw [if_pos E3] at h1
        unfold uX at h1; rw [wH] at h1; simp only at h1
        obtain ⟨ob2, k2, td, h1⟩ := h1
        rw [hn'] at td; cases td
        obtain ⟨u, hu, _, h1⟩ := h1 b' (by simp only [Mem.set]; rw [if_neg (Ne.symm hne)]; exact hb')
        exact ⟨v, u, hv, hu, h1⟩
       obtain ⟨_, u, _, hu, _⟩ := dec (max N (b' + 1)) (hN _ (by omega)) (by omega)
       refine ⟨u, hu, hS _ _ (qP hb') mI, fin u _ (hS _ _ (qP hb') mI) fun b hb => ?_⟩
       have hne : b ≠ b' := by rintro rfl; simp [Mem.set] at hb
       have Rn : M b = none := by simpa [Mem.set, hne] using hb
       obtain ⟨v, u', hv, YY, h1⟩ := dec b Rn hne
       rw [hu] at YY; cases YY
       exact ⟨v, hv, by rw [← set_comm hne]; exact h1⟩
      ·simp [vk] at pW
     ·rename_i E3
      refine ⟨mI, fin _ _ mI fun b hb => ?_⟩
      obtain ⟨v, hv, h1⟩ := each b hb
      unfold fA at h1; rw [if_neg E3] at h1
      exact ⟨v, hv, h1.2⟩
    | OE => rw [hc] at pW; cases hh : cls C.P oj <;> rw [hh] at pW <;> simp [vk] at pW
   ·have hwf : ck ops oi env = false := by simpa using hw
    unfold fA at h
    rw [if_neg hw] at h
    have j6 := (h.2 fX).2 j hj'
    unfold gO at j6; rw [kn] at j6; simp only at j6
    exact known undef (fun u M1 vl hx => back u M1 vl (mS ((hwi u).trans hwf) ⟨vl, hx⟩)) j6
def qR (ops : Array Oper) (fU : List Nat) (L i : Nat) : Bool := match ops[i]? with
 | some oi => (List.range ops.size).all fun j => Nat.beq j i || L.testBit j || (fU.getD j 0).testBit i || (match ops[j]? with
  | some oj => oi.apart ops oj
  | none => true)
 | none => false
theorem Bc {j L i : Nat} {oi : Oper} (hi : ops[i]? = some oi) {fU : List Nat} (hfree : qR ops fU L i = true) : qR ops fU (L ||| 2 ^ j) i = true := by
 unfold qR at hfree ⊢; rw [hi] at hfree ⊢
 refine List.all_eq_true.2 fun k hk => ?_
 have := List.all_eq_true.1 hfree k hk
 simp only [Bool.or_eq_true] at this ⊢
 rcases this with ((h' | h') | h') | h'
 ·exact .inl (.inl (.inl h'))
 ·exact .inl (.inl (.inr (by rw [fk, h']; rfl)))
 ·exact .inl (.inr h')
 ·exact .inr h'
theorem HA {i j L : Nat} {oi oj : Oper} (hi : ops[i]? = some oi) {fU : List Nat} (ha : pV ops fU = true) (hdn : Dn ops L) (hfree : qR ops fU L i = true) (hr : gp ops L i = true)
  (hj : gp ops L j = true) (kn : ops[j]? = some oj) (kq : j ≠ i) : oi.apart ops oj = true := by
 obtain ⟨OM, oj', Hz, ig⟩ := bX.1 hj
 rw [kn] at Hz; cases Hz
 unfold qR at hfree; rw [hi] at hfree
 have := List.all_eq_true.1 hfree j (List.mem_range.2 (Array.getElem?_eq_some_iff.1 kn).1)
 simp only [OM, kn, Bool.or_false, Bool.or_eq_true] at this
 rcases this with (h' | h') | h'
 ·exact absurd (Nat.eq_of_beq_eq_true h') kq
 ·have := oW ha hdn j oj kn ig i h'
  rw [(bX.1 hr).1] at this; cases this
 ·exact h'
theorem ON {i : Nat} {oi : Oper} (hi : ops[i]? = some oi) (hsel : ∀ (j : Nat) (o : Oper) cs b, ops[j]? = some o → o.op ≠ .select cs b) {fU : List Nat} (ha : pV ops fU = true)
  (hc : cls C.P oi = .read) {S : Mem → Prop} {s : Sem Next} {v : Value} :
  ∀ (f L : Nat) (env : Nat → Value) (M : Mem), Dn ops L → qR ops fU L i = true → gp ops L i = true → ck ops oi env = true → execOp (qG env) oi = s → bZ C.P s M = some (.value v) → S M →
   eP C ops (fun M' => S M' ∧ bZ C.P s M' = some (.value v)) K Kp f (L ||| 2 ^ i) (bG env oi.dst v) M → eP C ops S K Kp (f + 1) L env M := by
 intro f
 induction f with
 | zero =>
  intro L env M hdn hfree hr hw he hv mI h fX
  refine ⟨fun hno => (by rw [hno i] at hr; cases hr), fun j hj => ?_⟩
  by_cases kq : j = i
  ·subst kq
   unfold gO; rw [hi]; simp only
   refine jI hw ?_
   unfold uX; rw [hc]; simp only [he]
   exact ⟨v, hv, mI, h⟩
  ·have hj' := gE (i := i) hj kq
   have := (h fX).1 j; rw [this] at hj'; cases hj'
 | succ f ih =>
  intro L env M hdn hfree hr hw he hv mI h fX
  have weak : ∀ (f L : Nat) (env : Nat → Value) (M : Mem), eP C ops (fun M' => S M' ∧ bZ C.P s M' = some (.value v)) K Kp f L env M → eP C ops S K Kp f L env M := by
   intro f
   induction f with
   | zero => intro L env M h; exact h
   | succ f ihw => intro L env M h fX; exact ⟨(h fX).1, fun j hj => DM ((h fX).2 j hj) fun env' M' hx => ⟨hx.1.1, ihw _ _ _ hx.2⟩⟩
  refine ⟨fun hno => (by rw [hno i] at hr; cases hr), fun j hj => ?_⟩
  by_cases kq : j = i
  ·subst kq
   unfold gO; rw [hi]; simp only
   refine jI hw ?_
   unfold uX; rw [hc]; simp only [he]
   exact ⟨v, hv, mI, weak _ _ _ _ h⟩
  ·obtain ⟨OM, oj, kn, ig⟩ := bX.1 hj
   have hap := HA hi ha hdn hfree hr hj kn kq
   obtain ⟨a1, a2, a3⟩ := Oper.apart_spec hap
   have hsi := fun cs b => hsel i oi cs b hi
   have hsj := fun cs b => hsel j oj cs b kn
   have hj' := gE (i := i) hj kq
   have j6 := (h fX).2 j hj'
   unfold gO at j6 ⊢; rw [kn] at j6 ⊢; simp only at j6 ⊢
   rw [wG L i j] at j6
   have h2 := qQ hap hsj j6
   have fin : ∀ u M1, (S M1 ∧ bZ C.P s M1 = some (.value v)) ∧ eP C ops (fun M' => S M' ∧ bZ C.P s M' = some (.value v)) K Kp f (L ||| 2 ^ j ||| 2 ^ i) (bG (bG env oj.dst u) oi.dst v) M1 →
     S M1 ∧ eP C ops S K Kp (f + 1) (L ||| 2 ^ j) (bG env oj.dst u) M1 := fun u M1 hx =>
    ⟨hx.1.1, ih (L ||| 2 ^ j) _ M1 (hdn.add hj) (Bc hi hfree) (gE hr (Ne.symm kq)) ((fG oi env oj.dst u a3).trans hw) ((js oi hsi env oj.dst u a3).trans he) hx.1.2 hx.1.1 hx.2⟩
   unfold fA at h2 ⊢
   split
   ·rename_i Rm; rw [if_pos Rm] at h2; exact nU h2 fun u M1 hx => fin u M1 hx
   ·rename_i Rm; rw [if_neg Rm] at h2; exact fin _ _ h2
end
end Go.AF
