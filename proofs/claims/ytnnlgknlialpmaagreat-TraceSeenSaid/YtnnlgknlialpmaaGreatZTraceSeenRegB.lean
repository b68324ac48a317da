/- A part of proofs about one program. -/
import Derived.Test.YtnnlgknlialpmaaGreatZTraceSeenReg
set_option linter.unusedVariables false
namespace Go.AF
def fO (ops : Array Oper) (L i : Nat) : Bool := match ops[i]? with
 | some o => !L.testBit i && o.after.all fun e => !Region.binds .any e || L.testBit e.on
 | none => false
def tg : Cls → Cls → Bool
 | .pure, _ => true
 | .read, .pure => true
 | .read, .read => true
 | .read, .new => true
 | .new, .pure => true
 | .new, .new => true
 | _, _ => false
def y7 (P : Program) (ops : Array Oper) (fz : List Nat) (L i : Nat) : Bool := match ops[i]? with
 | some oi => (List.range ops.size).all fun j => Nat.beq j i || L.testBit j || (fz.getD j 0).testBit i || (match ops[j]? with
  | some oj => oi.apart ops oj && tg (cls P oi) (cls P oj)
  | none => true)
 | none => false
def CP (fz : List Nat) (s : Nat) (e : Edge) : Nat := if Region.binds .any e then s ||| 2 ^ e.on ||| fz.getD e.on 0 else s
def oq (ops : Array Oper) (fz : List Nat) : Bool := (List.range ops.size).all fun j => match ops[j]? with
 | some o => (o.after.toList.all fun e => !Region.binds .any e || decide (e.on < j)) && Nat.beq (fz.getD j 0) (o.after.toList.foldl (CP fz) 0)
 | none => true
def gn (C : Ctx) (ops : Array Oper) (Kp : List PanicEntry → Mem → Prop) (i : Nat) (env : Nat → Value) (M : Mem) (K : (Nat → Value) → Mem → Prop) : Prop := match ops[i]? with
 | some o => eO C ops o env M K Kp
 | none => K env M
def uk (M : Mem) : Prop := ∃ N, ∀ b, N ≤ b → M b = none
theorem uk.set {M : Mem} (h : uk M) (b : Nat) (o : Obj) : uk (M.set b o) := by
 obtain ⟨N, h⟩ := h
 exact ⟨max N (b + 1), fun i hi => by simp only [Mem.set]; rw [if_neg (by omega)]; exact h i (by omega)⟩
def dM (C : Ctx) (ops : Array Oper) (S : Mem → Prop) (K : (Nat → Value) → Mem → Prop) (Kp : List PanicEntry → Mem → Prop) : Nat → Nat → (Nat → Value) → Mem → Prop
 | 0, L, env, M => uk M → (∀ i, fO ops L i = false) ∧ K env M
 | f + 1, L, env, M => uk M → ((∀ i, fO ops L i = false) → K env M) ∧ ∀ i, fO ops L i = true → gn C ops Kp i env M fun env' M' => S M' ∧ dM C ops S K Kp f (L ||| 2 ^ i) env' M'
def xp (S : Mem → Prop) : Prop := ∀ M M', Mem.le M M' → S M → S M'
theorem eG (L i j : Nat) : (L ||| 2 ^ i).testBit j = (L.testBit j || decide (i = j)) := by
 rw [Nat.testBit_or, Nat.testBit_two_pow]
theorem bQ {ops : Array Oper} {L i : Nat} : fO ops L i = true ↔ L.testBit i = false ∧ ∃ o, ops[i]? = some o ∧ ∀ e ∈ o.after, Region.binds .any e = true → L.testBit e.on = true := by
 unfold fO
 cases ho : ops[i]? with
 | none => simp
 | some o =>
  simp only [Bool.and_eq_true, Bool.not_eq_true', Array.all_eq_true_iff_forall_mem, Bool.or_eq_true, Option.some.injEq, exists_eq_left']
  constructor
  ·rintro ⟨h0, h⟩
   exact ⟨h0, fun e he hb => (h e he).resolve_left (by simp [hb])⟩
  ·rintro ⟨h0, h⟩
   exact ⟨h0, fun e he => by cases hb : Region.binds .any e <;> simp [h e he, hb]⟩
theorem fY {ops : Array Oper} {L i j : Nat} (hj : fO ops L j = true) (hne : j ≠ i) : fO ops (L ||| 2 ^ i) j = true := by
 rw [bQ] at *
 obtain ⟨h0, o, ho, iJ⟩ := hj
 exact ⟨by rw [eG, h0]; simp [Ne.symm hne], o, ho, fun e he hb => by rw [eG, iJ e he hb]; rfl⟩
def Dn (ops : Array Oper) (L : Nat) : Prop := ∀ k o, L.testBit k = true → ops[k]? = some o → ∀ e ∈ o.after, Region.binds .any e = true → L.testBit e.on = true
theorem Dn.add {ops : Array Oper} {L i : Nat} (h : Dn ops L) (hi : fO ops L i = true) : Dn ops (L ||| 2 ^ i) := by
 obtain ⟨_, o, ho, iJ⟩ := bQ.1 hi
 intro k o' hk hk' e he hb
 rw [eG] at hk ⊢
 simp only [Bool.or_eq_true, decide_eq_true_eq] at hk ⊢
 rcases hk with hk | rfl
 ·exact .inl (h k o' hk hk' e he hb)
 ·rw [ho] at hk'; cases hk'; exact .inl (iJ e he hb)
theorem Eh {fz : List Nat} : ∀ (l : List Edge) (s i : Nat), (l.foldl (CP fz) s).testBit i = true → s.testBit i = true ∨ ∃ e ∈ l, Region.binds .any e = true ∧ (e.on = i ∨ (fz.getD e.on 0).testBit i = true)
 | [], s, i, h => .inl h
 | e :: l, s, i, h => by
  simp only [List.foldl_cons] at h
  rcases Eh l _ i h with h1 | ⟨e', he', hb, h1⟩
  ·unfold CP at h1
   split at h1
   ·rename_i hb
    simp only [Nat.testBit_or, Bool.or_eq_true, Nat.testBit_two_pow, decide_eq_true_eq] at h1
    rcases h1 with (h1 | h1) | h1
    ·exact .inl h1
    ·exact .inr ⟨e, List.mem_cons_self .., hb, .inl h1⟩
    ·exact .inr ⟨e, List.mem_cons_self .., hb, .inr h1⟩
   ·exact .inl h1
  ·exact .inr ⟨e', List.mem_cons_of_mem _ he', hb, h1⟩
theorem nF {ops : Array Oper} {fz : List Nat} (ha : oq ops fz = true) {L : Nat} (hd : Dn ops L) :
  ∀ (j : Nat) (o : Oper), ops[j]? = some o → (∀ e ∈ o.after, Region.binds .any e = true → L.testBit e.on = true) → ∀ i, (fz.getD j 0).testBit i = true → L.testBit i = true := by
 intro j
 induction j using Nat.strongRecOn with
 | _ j ih =>
  intro o ho iJ i hi
  have hlt : j < ops.size := (Array.getElem?_eq_some_iff.1 ho).1
  have := List.all_eq_true.1 ha j (List.mem_range.2 hlt)
  rw [ho] at this
  simp only [Bool.and_eq_true, List.all_eq_true, Bool.or_eq_true, Bool.not_eq_true', decide_eq_true_eq] at this
  obtain ⟨h1, h2⟩ := this
  rw [Nat.eq_of_beq_eq_true h2] at hi
  rcases Eh _ 0 i hi with h | ⟨e, he, hb, h⟩
  ·simp at h
  ·have LW := iJ e (by simpa using he) hb
   rcases h with rfl | h
   ·exact LW
   ·have hlt' := (h1 e he).resolve_left (by simp [hb])
    cases hoe : ops[e.on]? with
    | none =>
     have : ops.size ≤ e.on := by simpa using hoe
     omega
    | some o' => exact ih e.on hlt' o' hoe (fun e' he' hb' => hd e.on o' LW hoe e' he' hb') i h
theorem set_comm {M : Mem} {b b' : Nat} {o o' : Obj} (h : b ≠ b') : (M.set b o).set b' o' = (M.set b' o').set b o := by
 funext i; simp only [Mem.set]; by_cases h1 : i = b <;> by_cases h2 : i = b' <;> simp_all
theorem pB {M : Mem} {b : Nat} {o : Obj} (h : M b = none) : M.le (M.set b o) := fun i x hi => by
 simp only [Mem.set]; rw [if_neg (by rintro rfl; simp [h] at hi)]; exact hi
section
variable {C : Ctx} {ops : Array Oper} {K : (Nat → Value) → Mem → Prop} {Kp : List PanicEntry → Mem → Prop}
theorem BC {i : Nat} {env : Nat → Value} {M : Mem} {K K' : (Nat → Value) → Mem → Prop} (h : gn C ops Kp i env M K) (hk : ∀ v M', K v M' → K' v M') : gn C ops Kp i env M K' := by
 unfold gn at *
 split
 ·rename_i o ho; rw [ho] at h; exact jy h hk
 ·rename_i ho; rw [ho] at h; exact hk _ _ h
theorem pC {oi oj : Oper} {v : Value} {env : Nat → Value} {M : Mem} {K' : (Nat → Value) → Mem → Prop} (hap : oi.apart ops oj = true) (hsj : ∀ cs b, oj.op ≠ .select cs b)
  (h : eO C ops oj (bt env oi.dst v) M K' Kp) : eO C ops oj env M (fun env' M' => K' (bt env' oi.dst v) M') Kp := by
 obtain ⟨h1, h2, h3⟩ := Oper.apart_spec hap
 unfold eO at h ⊢
 rw [eU oj env oi.dst v h1] at h
 split
 ·rename_i hw
  rw [if_pos hw] at h
  unfold sQ at h ⊢
  rw [iB oj hsj env oi.dst v h1] at h
  have hc : ∀ u, bt (bt env oi.dst v) oj.dst u = bt (bt env oj.dst u) oi.dst v := fun u => qL h2
  simpa only [hc] using h
 ·rename_i hw
  rw [if_neg hw] at h
  rw [← qL h2]; exact h
theorem um (L i j : Nat) : L ||| 2 ^ i ||| 2 ^ j = L ||| 2 ^ j ||| 2 ^ i := by
 apply Nat.eq_of_testBit_eq; intro k; simp only [eG]; cases L.testBit k <;> simp [Bool.or_comm]
theorem JI {j L i : Nat} {oi : Oper} {P : Program} (hi : ops[i]? = some oi) {fz : List Nat} (hfree : y7 P ops fz L i = true) : y7 P ops fz (L ||| 2 ^ j) i = true := by
 unfold y7 at hfree ⊢; rw [hi] at hfree ⊢
 refine List.all_eq_true.2 fun k hk => ?_
 have := List.all_eq_true.1 hfree k hk
 simp only [Bool.or_eq_true] at this ⊢
 rcases this with ((h' | h') | h') | h'
 ·exact .inl (.inl (.inl h'))
 ·exact .inl (.inl (.inr (by rw [eG, h']; rfl)))
 ·exact .inl (.inr h')
 ·exact .inr h'
theorem BD {i j L : Nat} {oi oj : Oper} (hi : ops[i]? = some oi) {fz : List Nat} (ha : oq ops fz = true) (hdn : Dn ops L) (hfree : y7 C.P ops fz L i = true) (hr : fO ops L i = true)
  (hj : fO ops L j = true) (jz : ops[j]? = some oj) (jV : j ≠ i) : oi.apart ops oj = true ∧ tg (cls C.P oi) (cls C.P oj) = true := by
 obtain ⟨JJ, oj', Ei, iJ⟩ := bQ.1 hj
 rw [jz] at Ei; cases Ei
 unfold y7 at hfree; rw [hi] at hfree
 have := List.all_eq_true.1 hfree j (List.mem_range.2 (Array.getElem?_eq_some_iff.1 jz).1)
 simp only [JJ, jz, Bool.or_false, Bool.or_eq_true, Bool.and_eq_true] at this
 rcases this with (h' | h') | h'
 ·exact absurd (Nat.eq_of_beq_eq_true h') jV
 ·have := nF ha hdn j oj jz iJ i h'
  rw [(bQ.1 hr).1] at this; cases this
 ·exact h'
theorem Gn {S : Mem → Prop} (hS : xp S) {i : Nat} {oi : Oper} (hi : ops[i]? = some oi) (hsel : ∀ (j : Nat) (o : Oper) cs b, ops[j]? = some o → o.op ≠ .select cs b) {fz : List Nat} (ha : oq ops fz = true) :
  ∀ (f L : Nat) (env : Nat → Value) (M : Mem), S M → Dn ops L → y7 C.P ops fz L i = true → fO ops L i = true →
   gn C ops Kp i env M (fun env' M' => S M' ∧ dM C ops S K Kp f (L ||| 2 ^ i) env' M') → dM C ops S K Kp (f + 1) L env M := by
 intro f
 induction f with
 | zero =>
  intro L env M lM hdn hfree hr h fB
  refine ⟨fun hno => (by rw [hno i] at hr; cases hr), fun j hj => ?_⟩
  by_cases jV : j = i
  ·subst jV; exact h
  ·exfalso
   obtain ⟨JJ, oj, jz, iJ⟩ := bQ.1 hj
   obtain ⟨_, ot⟩ := BD hi ha hdn hfree hr hj jz jV
   have hj' := fY (i := i) hj jV
   unfold gn at h; rw [hi] at h; simp only at h
   unfold eO at h
   split at h
   ·unfold sQ at h
    cases hc : cls C.P oi <;> rw [hc] at h ot <;> simp only at h
    ·obtain ⟨v, _, _, h⟩ := h; have := (h fB).1 j; rw [this] at hj'; cases hj'
    ·obtain ⟨v, _, _, h⟩ := h; have := (h fB).1 j; rw [this] at hj'; cases hj'
    ·obtain ⟨ob, k, _, h⟩ := h
     obtain ⟨N, hN⟩ := fB
     obtain ⟨v, _, _, h⟩ := h N (hN N (Nat.le_refl _)); have := (h (uk.set ⟨N, hN⟩ _ _)).1 j; rw [this] at hj'; cases hj'
    ·cases hh : cls C.P oj <;> rw [hh] at ot <;> simp [tg] at ot
   ·have := (h.2 fB).1 j; rw [this] at hj'; cases hj'
 | succ f ih =>
  intro L env M lM hdn hfree hr h fB
  refine ⟨fun hno => (by rw [hno i] at hr; cases hr), fun j hj => ?_⟩
  by_cases jV : j = i
  ·subst jV; exact h
  ·obtain ⟨JJ, oj, jz, iJ⟩ := bQ.1 hj
   obtain ⟨hap, ot⟩ := BD hi ha hdn hfree hr hj jz jV
   obtain ⟨a1, a2, a3⟩ := Oper.apart_spec hap
   have hsi := fun cs b => hsel i oi cs b hi
   have hsj := fun cs b => hsel j oj cs b jz
   have PL := hdn.add hj
   have PE := fY (i := j) hr (Ne.symm jV)
   have Tz := JI (j := j) hi hfree
   have hj' := fY (i := i) hj jV
   have hor : L ||| 2 ^ i ||| 2 ^ j = L ||| 2 ^ j ||| 2 ^ i := um L i j
   unfold gn at h; rw [hi] at h; simp only at h
   show gn C ops Kp j env M _
   unfold gn; rw [jz]; simp only
   have back : ∀ (u : Value) (M1 : Mem), S M1 → eO C ops oi (bt env oj.dst u) M1 (fun env' M' => S M' ∧ dM C ops S K Kp f (L ||| 2 ^ j ||| 2 ^ i) env' M') Kp →
     dM C ops S K Kp (f + 1) (L ||| 2 ^ j) (bt env oj.dst u) M1 := fun u M1 vD hb => by
    refine ih (L ||| 2 ^ j) _ M1 vD PL Tz PE ?_
    unfold gn; rw [hi]; exact hb
   have Xu : ∀ u, bU ops oi (bt env oj.dst u) = bU ops oi env := fun u => eU oi env oj.dst u a3
   have WM : ∀ u, execOp (pe (bt env oj.dst u)) oi = execOp (pe env) oi := fun u => iB oi hsi env oj.dst u a3
   have LX : ∀ u, bU ops oj (bt env oi.dst u) = bU ops oj env := fun u => eU oj env oi.dst u a1
   have known : ∀ v, (∀ u M1, S M1 → dM C ops S K Kp f (L ||| 2 ^ j ||| 2 ^ i) (bt (bt env oj.dst u) oi.dst v) M1 → dM C ops S K Kp (f + 1) (L ||| 2 ^ j) (bt env oj.dst u) M1) →
     eO C ops oj (bt env oi.dst v) M (fun env' M' => S M' ∧ dM C ops S K Kp f (L ||| 2 ^ i ||| 2 ^ j) env' M') Kp →
     eO C ops oj env M (fun env' M' => S M' ∧ dM C ops S K Kp (f + 1) (L ||| 2 ^ j) env' M') Kp := fun v hb jl => by
    rw [hor] at jl
    have h2 := pC hap hsj jl
    unfold eO at h2 ⊢
    split
    ·rename_i hw; rw [if_pos hw] at h2; exact mQ h2 fun u M1 hx => ⟨hx.1, hb u M1 hx.1 hx.2⟩
    ·rename_i hw; rw [if_neg hw] at h2; exact ⟨h2.1, hb _ _ h2.1 h2.2⟩
   by_cases hw : bU ops oi env = true
   ·unfold eO at h
    rw [if_pos hw] at h
    have TA : ∀ u, bU ops oi (bt env oj.dst u) = true := fun u => (Xu u).trans hw
    unfold sQ at h
    cases hc : cls C.P oi with
    | pure =>
     rw [hc] at h; simp only at h
     obtain ⟨v, hv, _, h⟩ := h
     have jl := (h fB).2 j hj'
     unfold gn at jl; rw [jz] at jl; simp only at jl
     refine known v (fun u M1 vD hx => back u M1 vD (iO (TA u) ?_)) jl
     unfold sQ; rw [hc]; simp only [WM]
     exact ⟨v, hv, vD, hx⟩
    | read =>
     rw [hc] at h; simp only at h
     obtain ⟨v, hv, _, h⟩ := h
     have jl := (h fB).2 j hj'
     unfold gn at jl; rw [jz] at jl; simp only at jl
     rw [hor] at jl
     have h2 := pC hap hsj jl
     have fin : ∀ u M1, M.le M1 → S M1 → dM C ops S K Kp f (L ||| 2 ^ j ||| 2 ^ i) (bt (bt env oj.dst u) oi.dst v) M1 → dM C ops S K Kp (f + 1) (L ||| 2 ^ j) (bt env oj.dst u) M1 :=
      fun u M1 hle vD hx => back u M1 vD (iO (TA u) (by
       unfold sQ; rw [hc]; simp only [WM]
       exact ⟨v, mL C.P _ hle hv, vD, hx⟩))
     unfold eO at h2 ⊢
     split
     ·rename_i CQ; rw [if_pos CQ] at h2
      unfold sQ at h2 ⊢
      cases DO : cls C.P oj <;> rw [DO, hc] at ot <;> rw [DO] at h2 <;> simp only at h2 ⊢
      ·obtain ⟨u, hu, h2⟩ := h2; exact ⟨u, hu, h2.1, fin u M (fun _ _ h => h) h2.1 h2.2⟩
      ·obtain ⟨u, hu, h2⟩ := h2; exact ⟨u, hu, h2.1, fin u M (fun _ _ h => h) h2.1 h2.2⟩
      ·obtain ⟨ob, k, hn, h2⟩ := h2
       refine ⟨ob, k, hn, fun b hb => ?_⟩
       obtain ⟨u, hu, h2⟩ := h2 b hb
       exact ⟨u, hu, h2.1, fin u _ (pB hb) h2.1 h2.2⟩
      ·simp [tg] at ot
     ·rename_i CQ; rw [if_neg CQ] at h2; exact ⟨h2.1, fin _ _ (fun _ _ h => h) h2.1 h2.2⟩
    | new =>
     rw [hc] at h; simp only at h
     obtain ⟨ob, k, hn, h⟩ := h
     have each : ∀ b, M b = none → ∃ v, bR C.P (k b) Mem.empty = some (.value v) ∧
       eO C ops oj env (M.set b ob) (fun env' M' => S M' ∧ dM C ops S K Kp f (L ||| 2 ^ j ||| 2 ^ i) (bt env' oi.dst v) M') Kp := fun b hb => by
      obtain ⟨v, hv, _, hx⟩ := h b hb
      have jl := (hx (fB.set b ob)).2 j hj'
      unfold gn at jl; rw [jz] at jl; simp only at jl
      rw [hor] at jl
      exact ⟨v, hv, pC hap hsj jl⟩
     obtain ⟨N, hN⟩ := fB
     obtain ⟨v0, hv0, h0⟩ := each N (hN N (Nat.le_refl _))
     have fin : ∀ u M1, S M1 → (∀ b, M1 b = none → ∃ v, bR C.P (k b) Mem.empty = some (.value v) ∧ dM C ops S K Kp f (L ||| 2 ^ j ||| 2 ^ i) (bt (bt env oj.dst u) oi.dst v) (M1.set b ob)) →
       dM C ops S K Kp (f + 1) (L ||| 2 ^ j) (bt env oj.dst u) M1 :=
      fun u M1 vD hx => back u M1 vD (iO (TA u) (by
       unfold sQ; rw [hc]; simp only [WM]
       exact ⟨ob, k, hn, fun b hb => let ⟨v, hv, hy⟩ := hx b hb; ⟨v, hv, hS _ _ (pB hb) vD, hy⟩⟩))
     unfold eO at h0 ⊢
     split
     ·rename_i CQ; rw [if_pos CQ] at h0
      unfold sQ at h0 ⊢
      cases DO : cls C.P oj <;> rw [DO, hc] at ot <;> rw [DO] at h0 <;> simp only at h0 ⊢
      ·obtain ⟨u, hu, h0⟩ := h0
       refine ⟨u, hu, lM, fin u M lM fun b hb => ?_⟩
       obtain ⟨v, hv, h1⟩ := each b hb
       unfold eO at h1; rw [if_pos CQ] at h1
       unfold sQ at h1; rw [DO] at h1; simp only at h1
       obtain ⟨u', Sk, _, h1⟩ := h1
       have : u' = u := by have e1 := Sk M; rw [hu M] at e1; cases e1; rfl
       subst this
       exact ⟨v, hv, h1⟩
      ·simp [tg] at ot
      ·obtain ⟨ob', k', hn', h0⟩ := h0
       refine ⟨ob', k', hn', fun b' hb' => ?_⟩
       have dec : ∀ b, M b = none → b ≠ b' → ∃ v u, bR C.P (k b) Mem.empty = some (.value v) ∧ bR C.P (k' b') Mem.empty = some (.value u) ∧
         dM C ops S K Kp f (L ||| 2 ^ j ||| 2 ^ i) (bt (bt env oj.dst u) oi.dst v) ((M.set b ob).set b' ob') := fun b hb hne => by
        obtain ⟨v, hv, h1⟩ := each b hb
        unfold eO at h1; rw [if_pos CQ] at h1
        unfold sQ at h1; rw [DO] at h1; simp only at h1
        obtain ⟨ob2, k2, AO, h1⟩ := h1
        rw [hn'] at AO; cases AO
        obtain ⟨u, hu, _, h1⟩ := h1 b' (by simp only [Mem.set]; rw [if_neg (Ne.symm hne)]; exact hb')
        exact ⟨v, u, hv, hu, h1⟩
       obtain ⟨_, u, _, hu, _⟩ := dec (max N (b' + 1)) (hN _ (by omega)) (by omega)
       refine ⟨u, hu, hS _ _ (pB hb') lM, fin u _ (hS _ _ (pB hb') lM) fun b hb => ?_⟩
       have hne : b ≠ b' := by rintro rfl; simp [Mem.set] at hb
       have PM : M b = none := by simpa [Mem.set, hne] using hb
       obtain ⟨v, u', hv, Sk, h1⟩ := dec b PM hne
       rw [hu] at Sk; cases Sk
       exact ⟨v, hv, by rw [← set_comm hne]; exact h1⟩
      ·simp [tg] at ot
     ·rename_i CQ
      refine ⟨lM, fin _ _ lM fun b hb => ?_⟩
      obtain ⟨v, hv, h1⟩ := each b hb
      unfold eO at h1; rw [if_neg CQ] at h1
      exact ⟨v, hv, h1.2⟩
    | JC => rw [hc] at ot; cases hh : cls C.P oj <;> rw [hh] at ot <;> simp [tg] at ot
   ·have hwf : bU ops oi env = false := by simpa using hw
    unfold eO at h
    rw [if_neg hw] at h
    have jl := (h.2 fB).2 j hj'
    unfold gn at jl; rw [jz] at jl; simp only at jl
    exact known undef (fun u M1 vD hx => back u M1 vD (lV ((Xu u).trans hwf) ⟨vD, hx⟩)) jl
def pD (ops : Array Oper) (fz : List Nat) (L i : Nat) : Bool := match ops[i]? with
 | some oi => (List.range ops.size).all fun j => Nat.beq j i || L.testBit j || (fz.getD j 0).testBit i || (match ops[j]? with
  | some oj => oi.apart ops oj
  | none => true)
 | none => false
theorem y8 {j L i : Nat} {oi : Oper} (hi : ops[i]? = some oi) {fz : List Nat} (hfree : pD ops fz L i = true) : pD ops fz (L ||| 2 ^ j) i = true := by
 unfold pD at hfree ⊢; rw [hi] at hfree ⊢
 refine List.all_eq_true.2 fun k hk => ?_
 have := List.all_eq_true.1 hfree k hk
 simp only [Bool.or_eq_true] at this ⊢
 rcases this with ((h' | h') | h') | h'
 ·exact .inl (.inl (.inl h'))
 ·exact .inl (.inl (.inr (by rw [eG, h']; rfl)))
 ·exact .inl (.inr h')
 ·exact .inr h'
theorem Ej {i j L : Nat} {oi oj : Oper} (hi : ops[i]? = some oi) {fz : List Nat} (ha : oq ops fz = true) (hdn : Dn ops L) (hfree : pD ops fz L i = true) (hr : fO ops L i = true)
  (hj : fO ops L j = true) (jz : ops[j]? = some oj) (jV : j ≠ i) : oi.apart ops oj = true := by
 obtain ⟨JJ, oj', Ei, iJ⟩ := bQ.1 hj
 rw [jz] at Ei; cases Ei
 unfold pD at hfree; rw [hi] at hfree
 have := List.all_eq_true.1 hfree j (List.mem_range.2 (Array.getElem?_eq_some_iff.1 jz).1)
 simp only [JJ, jz, Bool.or_false, Bool.or_eq_true] at this
 rcases this with (h' | h') | h'
 ·exact absurd (Nat.eq_of_beq_eq_true h') jV
 ·have := nF ha hdn j oj jz iJ i h'
  rw [(bQ.1 hr).1] at this; cases this
 ·exact h'
theorem JK {i : Nat} {oi : Oper} (hi : ops[i]? = some oi) (hsel : ∀ (j : Nat) (o : Oper) cs b, ops[j]? = some o → o.op ≠ .select cs b) {fz : List Nat} (ha : oq ops fz = true)
  (hc : cls C.P oi = .read) {S : Mem → Prop} {s : Sem Next} {v : Value} :
  ∀ (f L : Nat) (env : Nat → Value) (M : Mem), Dn ops L → pD ops fz L i = true → fO ops L i = true → bU ops oi env = true → execOp (pe env) oi = s → bR C.P s M = some (.value v) → S M →
   dM C ops (fun M' => S M' ∧ bR C.P s M' = some (.value v)) K Kp f (L ||| 2 ^ i) (bt env oi.dst v) M → dM C ops S K Kp (f + 1) L env M := by
 intro f
 induction f with
 | zero =>
  intro L env M hdn hfree hr hw he hv lM h fB
  refine ⟨fun hno => (by rw [hno i] at hr; cases hr), fun j hj => ?_⟩
  by_cases jV : j = i
  ·subst jV
   unfold gn; rw [hi]; simp only
   refine iO hw ?_
   unfold sQ; rw [hc]; simp only [he]
   exact ⟨v, hv, lM, h⟩
  ·have hj' := fY (i := i) hj jV
   have := (h fB).1 j; rw [this] at hj'; cases hj'
 | succ f ih =>
  intro L env M hdn hfree hr hw he hv lM h fB
  have weak : ∀ (f L : Nat) (env : Nat → Value) (M : Mem), dM C ops (fun M' => S M' ∧ bR C.P s M' = some (.value v)) K Kp f L env M → dM C ops S K Kp f L env M := by
   intro f
   induction f with
   | zero => intro L env M h; exact h
   | succ f ihw => intro L env M h fB; exact ⟨(h fB).1, fun j hj => BC ((h fB).2 j hj) fun env' M' hx => ⟨hx.1.1, ihw _ _ _ hx.2⟩⟩
  refine ⟨fun hno => (by rw [hno i] at hr; cases hr), fun j hj => ?_⟩
  by_cases jV : j = i
  ·subst jV
   unfold gn; rw [hi]; simp only
   refine iO hw ?_
   unfold sQ; rw [hc]; simp only [he]
   exact ⟨v, hv, lM, weak _ _ _ _ h⟩
  ·obtain ⟨JJ, oj, jz, iJ⟩ := bQ.1 hj
   have hap := Ej hi ha hdn hfree hr hj jz jV
   obtain ⟨a1, a2, a3⟩ := Oper.apart_spec hap
   have hsi := fun cs b => hsel i oi cs b hi
   have hsj := fun cs b => hsel j oj cs b jz
   have hj' := fY (i := i) hj jV
   have jl := (h fB).2 j hj'
   unfold gn at jl ⊢; rw [jz] at jl ⊢; simp only at jl ⊢
   rw [um L i j] at jl
   have h2 := pC hap hsj jl
   have fin : ∀ u M1, (S M1 ∧ bR C.P s M1 = some (.value v)) ∧ dM C ops (fun M' => S M' ∧ bR C.P s M' = some (.value v)) K Kp f (L ||| 2 ^ j ||| 2 ^ i) (bt (bt env oj.dst u) oi.dst v) M1 →
     S M1 ∧ dM C ops S K Kp (f + 1) (L ||| 2 ^ j) (bt env oj.dst u) M1 := fun u M1 hx =>
    ⟨hx.1.1, ih (L ||| 2 ^ j) _ M1 (hdn.add hj) (y8 hi hfree) (fY hr (Ne.symm jV)) ((eU oi env oj.dst u a3).trans hw) ((iB oi hsi env oj.dst u a3).trans he) hx.1.2 hx.1.1 hx.2⟩
   unfold eO at h2 ⊢
   split
   ·rename_i LX; rw [if_pos LX] at h2; exact mQ h2 fun u M1 hx => fin u M1 hx
   ·rename_i LX; rw [if_neg LX] at h2; exact fin _ _ h2
end
end Go.AF
