/- A part of proofs about one program. -/
import Derived.Test.YtfjgcljdnhkmaaaGreatZSchedAgainReg
set_option linter.unusedVariables false
namespace Go.AF
def fM (ops : Array Oper) (L i : Nat) : Bool := match ops[i]? with
 | some o => !L.testBit i && o.after.all fun e => !Region.binds .any e || L.testBit e.on
 | none => false
def sP : Cls → Cls → Bool
 | .pure, _ => true
 | .read, .pure => true
 | .read, .read => true
 | .read, .new => true
 | .new, .pure => true
 | .new, .new => true
 | _, _ => false
def yP (P : Program) (ops : Array Oper) (fu : List Nat) (L i : Nat) : Bool := match ops[i]? with
 | some oi => (List.range ops.size).all fun j => Nat.beq j i || L.testBit j || (fu.getD j 0).testBit i || (match ops[j]? with
  | some oj => oi.apart ops oj && sP (cls P oi) (cls P oj)
  | none => true)
 | none => false
def C2 (fu : List Nat) (s : Nat) (e : Edge) : Nat := if Region.binds .any e then s ||| 2 ^ e.on ||| fu.getD e.on 0 else s
def oB (ops : Array Oper) (fu : List Nat) : Bool := (List.range ops.size).all fun j => match ops[j]? with
 | some o => (o.after.toList.all fun e => !Region.binds .any e || decide (e.on < j)) && Nat.beq (fu.getD j 0) (o.after.toList.foldl (C2 fu) 0)
 | none => true
def gm (C : Ctx) (ops : Array Oper) (Kp : List PanicEntry → Mem → Prop) (i : Nat) (env : Nat → Value) (M : Mem) (K : (Nat → Value) → Mem → Prop) : Prop := match ops[i]? with
 | some o => eO C ops o env M K Kp
 | none => K env M
def ue (M : Mem) : Prop := ∃ N, ∀ b, N ≤ b → M b = none
theorem ue.set {M : Mem} (h : ue M) (b : Nat) (o : Obj) : ue (M.set b o) := by
 obtain ⟨N, h⟩ := h
 exact ⟨max N (b + 1), fun i hi => by simp only [Mem.set]; rw [if_neg (by omega)]; exact h i (by omega)⟩
def dW (C : Ctx) (ops : Array Oper) (S : Mem → Prop) (K : (Nat → Value) → Mem → Prop) (Kp : List PanicEntry → Mem → Prop) : Nat → Nat → (Nat → Value) → Mem → Prop
 | 0, L, env, M => ue M → (∀ i, fM ops L i = false) ∧ K env M
 | f + 1, L, env, M => ue M → ((∀ i, fM ops L i = false) → K env M) ∧ ∀ i, fM ops L i = true → gm C ops Kp i env M fun env' M' => S M' ∧ dW C ops S K Kp f (L ||| 2 ^ i) env' M'
def w7 (S : Mem → Prop) : Prop := ∀ M M', Mem.le M M' → S M → S M'
theorem eH (L i j : Nat) : (L ||| 2 ^ i).testBit j = (L.testBit j || decide (i = j)) := by
 rw [Nat.testBit_or, Nat.testBit_two_pow]
theorem bP {ops : Array Oper} {L i : Nat} : fM ops L i = true ↔ L.testBit i = false ∧ ∃ o, ops[i]? = some o ∧ ∀ e ∈ o.after, Region.binds .any e = true → L.testBit e.on = true := by
 unfold fM
 cases ho : ops[i]? with
 | none => simp
 | some o =>
  simp only [Bool.and_eq_true, Bool.not_eq_true', Array.all_eq_true_iff_forall_mem, Bool.or_eq_true, Option.some.injEq, exists_eq_left']
  constructor
  ·rintro ⟨h0, h⟩
   exact ⟨h0, fun e he hb => (h e he).resolve_left (by simp [hb])⟩
  ·rintro ⟨h0, h⟩
   exact ⟨h0, fun e he => by cases hb : Region.binds .any e <;> simp [h e he, hb]⟩
theorem fS {ops : Array Oper} {L i j : Nat} (hj : fM ops L j = true) (hne : j ≠ i) : fM ops (L ||| 2 ^ i) j = true := by
 rw [bP] at *
 obtain ⟨h0, o, ho, gS⟩ := hj
 exact ⟨by rw [eH, h0]; simp [Ne.symm hne], o, ho, fun e he hb => by rw [eH, gS e he hb]; rfl⟩
def Dn (ops : Array Oper) (L : Nat) : Prop := ∀ k o, L.testBit k = true → ops[k]? = some o → ∀ e ∈ o.after, Region.binds .any e = true → L.testBit e.on = true
theorem Dn.add {ops : Array Oper} {L i : Nat} (h : Dn ops L) (hi : fM ops L i = true) : Dn ops (L ||| 2 ^ i) := by
 obtain ⟨_, o, ho, gS⟩ := bP.1 hi
 intro k o' hk hk' e he hb
 rw [eH] at hk ⊢
 simp only [Bool.or_eq_true, decide_eq_true_eq] at hk ⊢
 rcases hk with hk | rfl
 ·exact .inl (h k o' hk hk' e he hb)
 ·rw [ho] at hk'; cases hk'; exact .inl (gS e he hb)
theorem EC {fu : List Nat} : ∀ (l : List Edge) (s i : Nat), (l.foldl (C2 fu) s).testBit i = true → s.testBit i = true ∨ ∃ e ∈ l, Region.binds .any e = true ∧ (e.on = i ∨ (fu.getD e.on 0).testBit i = true)
 | [], s, i, h => .inl h
 | e :: l, s, i, h => by
  simp only [List.foldl_cons] at h
  rcases EC l _ i h with h1 | ⟨e', he', hb, h1⟩
  ·unfold C2 at h1
   split at h1
   ·rename_i hb
    simp only [Nat.testBit_or, Bool.or_eq_true, Nat.testBit_two_pow, decide_eq_true_eq] at h1
    rcases h1 with (h1 | h1) | h1
    ·exact .inl h1
    ·exact .inr ⟨e, List.mem_cons_self .., hb, .inl h1⟩
    ·exact .inr ⟨e, List.mem_cons_self .., hb, .inr h1⟩
   ·exact .inl h1
  ·exact .inr ⟨e', List.mem_cons_of_mem _ he', hb, h1⟩
theorem nH {ops : Array Oper} {fu : List Nat} (ha : oB ops fu = true) {L : Nat} (hd : Dn ops L) :
  ∀ (j : Nat) (o : Oper), ops[j]? = some o → (∀ e ∈ o.after, Region.binds .any e = true → L.testBit e.on = true) → ∀ i, (fu.getD j 0).testBit i = true → L.testBit i = true := by
 intro j
 induction j using Nat.strongRecOn with
 | _ j ih =>
  intro o ho gS i hi
  have hlt : j < ops.size := (Array.getElem?_eq_some_iff.1 ho).1
  have := List.all_eq_true.1 ha j (List.mem_range.2 hlt)
  rw [ho] at this
  simp only [Bool.and_eq_true, List.all_eq_true, Bool.or_eq_true, Bool.not_eq_true', decide_eq_true_eq] at this
  obtain ⟨h1, h2⟩ := this
  rw [Nat.eq_of_beq_eq_true h2] at hi
  rcases EC _ 0 i hi with h | ⟨e, he, hb, h⟩
  ·simp at h
  ·have GG := gS e (by simpa using he) hb
   rcases h with rfl | h
   ·exact GG
   ·have Yg := (h1 e he).resolve_left (by simp [hb])
    cases hoe : ops[e.on]? with
    | none =>
     have : ops.size ≤ e.on := by simpa using hoe
     omega
    | some o' => exact ih e.on Yg o' hoe (fun e' he' hb' => hd e.on o' GG hoe e' he' hb') i h
theorem set_comm {M : Mem} {b b' : Nat} {o o' : Obj} (h : b ≠ b') : (M.set b o).set b' o' = (M.set b' o').set b o := by
 funext i; simp only [Mem.set]; by_cases h1 : i = b <;> by_cases h2 : i = b' <;> simp_all
theorem pG {M : Mem} {b : Nat} {o : Obj} (h : M b = none) : M.le (M.set b o) := fun i x hi => by
 simp only [Mem.set]; rw [if_neg (by rintro rfl; simp [h] at hi)]; exact hi
section
variable {C : Ctx} {ops : Array Oper} {K : (Nat → Value) → Mem → Prop} {Kp : List PanicEntry → Mem → Prop}
theorem BL {i : Nat} {env : Nat → Value} {M : Mem} {K K' : (Nat → Value) → Mem → Prop} (h : gm C ops Kp i env M K) (hk : ∀ v M', K v M' → K' v M') : gm C ops Kp i env M K' := by
 unfold gm at *
 split
 ·rename_i o ho; rw [ho] at h; exact jk h hk
 ·rename_i ho; rw [ho] at h; exact hk _ _ h
theorem pH {oi oj : Oper} {v : Value} {env : Nat → Value} {M : Mem} {K' : (Nat → Value) → Mem → Prop} (hap : oi.apart ops oj = true) (hsj : ∀ cs b, oj.op ≠ .select cs b)
  (h : eO C ops oj (bu env oi.dst v) M K' Kp) : eO C ops oj env M (fun env' M' => K' (bu env' oi.dst v) M') Kp := by
 obtain ⟨h1, h2, h3⟩ := Oper.apart_spec hap
 unfold eO at h ⊢
 rw [eV oj env oi.dst v h1] at h
 split
 ·rename_i hw
  rw [if_pos hw] at h
  unfold sA at h ⊢
  rw [ij oj hsj env oi.dst v h1] at h
  have hc : ∀ u, bu (bu env oi.dst v) oj.dst u = bu (bu env oj.dst u) oi.dst v := fun u => qJ h2
  simpa only [hc] using h
 ·rename_i hw
  rw [if_neg hw] at h
  rw [← qJ h2]; exact h
theorem uf (L i j : Nat) : L ||| 2 ^ i ||| 2 ^ j = L ||| 2 ^ j ||| 2 ^ i := by
 apply Nat.eq_of_testBit_eq; intro k; simp only [eH]; cases L.testBit k <;> simp [Bool.or_comm]
theorem Ks {j L i : Nat} {oi : Oper} {P : Program} (hi : ops[i]? = some oi) {fu : List Nat} (hfree : yP P ops fu L i = true) : yP P ops fu (L ||| 2 ^ j) i = true := by
 unfold yP at hfree ⊢; rw [hi] at hfree ⊢
 refine List.all_eq_true.2 fun k hk => ?_
 have := List.all_eq_true.1 hfree k hk
 simp only [Bool.or_eq_true] at this ⊢
 rcases this with ((h' | h') | h') | h'
 ·exact .inl (.inl (.inl h'))
 ·exact .inl (.inl (.inr (by rw [eH, h']; rfl)))
 ·exact .inl (.inr h')
 ·exact .inr h'
theorem BM {i j L : Nat} {oi oj : Oper} (hi : ops[i]? = some oi) {fu : List Nat} (ha : oB ops fu = true) (hdn : Dn ops L) (hfree : yP C.P ops fu L i = true) (hr : fM ops L i = true)
  (hj : fM ops L j = true) (jl : ops[j]? = some oj) (jT : j ≠ i) : oi.apart ops oj = true ∧ sP (cls C.P oi) (cls C.P oj) = true := by
 obtain ⟨Kt, oj', ED, gS⟩ := bP.1 hj
 rw [jl] at ED; cases ED
 unfold yP at hfree; rw [hi] at hfree
 have := List.all_eq_true.1 hfree j (List.mem_range.2 (Array.getElem?_eq_some_iff.1 jl).1)
 simp only [Kt, jl, Bool.or_false, Bool.or_eq_true, Bool.and_eq_true] at this
 rcases this with (h' | h') | h'
 ·exact absurd (Nat.eq_of_beq_eq_true h') jT
 ·have := nH ha hdn j oj jl gS i h'
  rw [(bP.1 hr).1] at this; cases this
 ·exact h'
theorem GH {S : Mem → Prop} (hS : w7 S) {i : Nat} {oi : Oper} (hi : ops[i]? = some oi) (hsel : ∀ (j : Nat) (o : Oper) cs b, ops[j]? = some o → o.op ≠ .select cs b) {fu : List Nat} (ha : oB ops fu = true) :
  ∀ (f L : Nat) (env : Nat → Value) (M : Mem), S M → Dn ops L → yP C.P ops fu L i = true → fM ops L i = true →
   gm C ops Kp i env M (fun env' M' => S M' ∧ dW C ops S K Kp f (L ||| 2 ^ i) env' M') → dW C ops S K Kp (f + 1) L env M := by
 intro f
 induction f with
 | zero =>
  intro L env M lH hdn hfree hr h fe
  refine ⟨fun hno => (by rw [hno i] at hr; cases hr), fun j hj => ?_⟩
  by_cases jT : j = i
  ·subst jT; exact h
  ·exfalso
   obtain ⟨Kt, oj, jl, gS⟩ := bP.1 hj
   obtain ⟨_, oC⟩ := BM hi ha hdn hfree hr hj jl jT
   have hj' := fS (i := i) hj jT
   unfold gm at h; rw [hi] at h; simp only at h
   unfold eO at h
   split at h
   ·unfold sA at h
    cases hc : cls C.P oi <;> rw [hc] at h oC <;> simp only at h
    ·obtain ⟨v, _, _, h⟩ := h; have := (h fe).1 j; rw [this] at hj'; cases hj'
    ·obtain ⟨v, _, _, h⟩ := h; have := (h fe).1 j; rw [this] at hj'; cases hj'
    ·obtain ⟨ob, k, _, h⟩ := h
     obtain ⟨N, hN⟩ := fe
     obtain ⟨v, _, _, h⟩ := h N (hN N (Nat.le_refl _)); have := (h (ue.set ⟨N, hN⟩ _ _)).1 j; rw [this] at hj'; cases hj'
    ·cases hh : cls C.P oj <;> rw [hh] at oC <;> simp [sP] at oC
   ·have := (h.2 fe).1 j; rw [this] at hj'; cases hj'
 | succ f ih =>
  intro L env M lH hdn hfree hr h fe
  refine ⟨fun hno => (by rw [hno i] at hr; cases hr), fun j hj => ?_⟩
  by_cases jT : j = i
  ·subst jT; exact h
  ·obtain ⟨Kt, oj, jl, gS⟩ := bP.1 hj
   obtain ⟨hap, oC⟩ := BM hi ha hdn hfree hr hj jl jT
   obtain ⟨a1, a2, a3⟩ := Oper.apart_spec hap
   have hsi := fun cs b => hsel i oi cs b hi
   have hsj := fun cs b => hsel j oj cs b jl
   have Qq := hdn.add hj
   have Qk := fS (i := j) hr (Ne.symm jT)
   have TR := Ks (j := j) hi hfree
   have hj' := fS (i := i) hj jT
   have hor : L ||| 2 ^ i ||| 2 ^ j = L ||| 2 ^ j ||| 2 ^ i := uf L i j
   unfold gm at h; rw [hi] at h; simp only at h
   show gm C ops Kp j env M _
   unfold gm; rw [jl]; simp only
   have back : ∀ (u : Value) (M1 : Mem), S M1 → eO C ops oi (bu env oj.dst u) M1 (fun env' M' => S M' ∧ dW C ops S K Kp f (L ||| 2 ^ j ||| 2 ^ i) env' M') Kp →
     dW C ops S K Kp (f + 1) (L ||| 2 ^ j) (bu env oj.dst u) M1 := fun u M1 vH hb => by
    refine ih (L ||| 2 ^ j) _ M1 vH Qq TR Qk ?_
    unfold gm; rw [hi]; exact hb
   have Yh : ∀ u, bW ops oi (bu env oj.dst u) = bW ops oi env := fun u => eV oi env oj.dst u a3
   have Xw : ∀ u, execOp (mw (bu env oj.dst u)) oi = execOp (mw env) oi := fun u => ij oi hsi env oj.dst u a3
   have MQ : ∀ u, bW ops oj (bu env oi.dst u) = bW ops oj env := fun u => eV oj env oi.dst u a1
   have known : ∀ v, (∀ u M1, S M1 → dW C ops S K Kp f (L ||| 2 ^ j ||| 2 ^ i) (bu (bu env oj.dst u) oi.dst v) M1 → dW C ops S K Kp (f + 1) (L ||| 2 ^ j) (bu env oj.dst u) M1) →
     eO C ops oj (bu env oi.dst v) M (fun env' M' => S M' ∧ dW C ops S K Kp f (L ||| 2 ^ i ||| 2 ^ j) env' M') Kp →
     eO C ops oj env M (fun env' M' => S M' ∧ dW C ops S K Kp (f + 1) (L ||| 2 ^ j) env' M') Kp := fun v hb iZ => by
    rw [hor] at iZ
    have h2 := pH hap hsj iZ
    unfold eO at h2 ⊢
    split
    ·rename_i hw; rw [if_pos hw] at h2; exact mP h2 fun u M1 hx => ⟨hx.1, hb u M1 hx.1 hx.2⟩
    ·rename_i hw; rw [if_neg hw] at h2; exact ⟨h2.1, hb _ _ h2.1 h2.2⟩
   by_cases hw : bW ops oi env = true
   ·unfold eO at h
    rw [if_pos hw] at h
    have TS : ∀ u, bW ops oi (bu env oj.dst u) = true := fun u => (Yh u).trans hw
    unfold sA at h
    cases hc : cls C.P oi with
    | pure =>
     rw [hc] at h; simp only at h
     obtain ⟨v, hv, _, h⟩ := h
     have iZ := (h fe).2 j hj'
     unfold gm at iZ; rw [jl] at iZ; simp only at iZ
     refine known v (fun u M1 vH hx => back u M1 vH (iG (TS u) ?_)) iZ
     unfold sA; rw [hc]; simp only [Xw]
     exact ⟨v, hv, vH, hx⟩
    | read =>
     rw [hc] at h; simp only at h
     obtain ⟨v, hv, _, h⟩ := h
     have iZ := (h fe).2 j hj'
     unfold gm at iZ; rw [jl] at iZ; simp only at iZ
     rw [hor] at iZ
     have h2 := pH hap hsj iZ
     have fin : ∀ u M1, M.le M1 → S M1 → dW C ops S K Kp f (L ||| 2 ^ j ||| 2 ^ i) (bu (bu env oj.dst u) oi.dst v) M1 → dW C ops S K Kp (f + 1) (L ||| 2 ^ j) (bu env oj.dst u) M1 :=
      fun u M1 hle vH hx => back u M1 vH (iG (TS u) (by
       unfold sA; rw [hc]; simp only [Xw]
       exact ⟨v, mK C.P _ hle hv, vH, hx⟩))
     unfold eO at h2 ⊢
     split
     ·rename_i C3; rw [if_pos C3] at h2
      unfold sA at h2 ⊢
      cases D8 : cls C.P oj <;> rw [D8, hc] at oC <;> rw [D8] at h2 <;> simp only at h2 ⊢
      ·obtain ⟨u, hu, h2⟩ := h2; exact ⟨u, hu, h2.1, fin u M (fun _ _ h => h) h2.1 h2.2⟩
      ·obtain ⟨u, hu, h2⟩ := h2; exact ⟨u, hu, h2.1, fin u M (fun _ _ h => h) h2.1 h2.2⟩
      ·obtain ⟨ob, k, hn, h2⟩ := h2
       refine ⟨ob, k, hn, fun b hb => ?_⟩
       obtain ⟨u, hu, h2⟩ := h2 b hb
       exact ⟨u, hu, h2.1, fin u _ (pG hb) h2.1 h2.2⟩
      ·simp [sP] at oC
     ·rename_i C3; rw [if_neg C3] at h2; exact ⟨h2.1, fin _ _ (fun _ _ h => h) h2.1 h2.2⟩
    | new =>
     rw [hc] at h; simp only at h
     obtain ⟨ob, k, hn, h⟩ := h
     have each : ∀ b, M b = none → ∃ v, bQ C.P (k b) Mem.empty = some (.value v) ∧
       eO C ops oj env (M.set b ob) (fun env' M' => S M' ∧ dW C ops S K Kp f (L ||| 2 ^ j ||| 2 ^ i) (bu env' oi.dst v) M') Kp := fun b hb => by
      obtain ⟨v, hv, _, hx⟩ := h b hb
      have iZ := (hx (fe.set b ob)).2 j hj'
      unfold gm at iZ; rw [jl] at iZ; simp only at iZ
      rw [hor] at iZ
      exact ⟨v, hv, pH hap hsj iZ⟩
     obtain ⟨N, hN⟩ := fe
     obtain ⟨v0, hv0, h0⟩ := each N (hN N (Nat.le_refl _))
     have fin : ∀ u M1, S M1 → (∀ b, M1 b = none → ∃ v, bQ C.P (k b) Mem.empty = some (.value v) ∧ dW C ops S K Kp f (L ||| 2 ^ j ||| 2 ^ i) (bu (bu env oj.dst u) oi.dst v) (M1.set b ob)) →
       dW C ops S K Kp (f + 1) (L ||| 2 ^ j) (bu env oj.dst u) M1 :=
      fun u M1 vH hx => back u M1 vH (iG (TS u) (by
       unfold sA; rw [hc]; simp only [Xw]
       exact ⟨ob, k, hn, fun b hb => let ⟨v, hv, hy⟩ := hx b hb; ⟨v, hv, hS _ _ (pG hb) vH, hy⟩⟩))
     unfold eO at h0 ⊢
     split
     ·rename_i C3; rw [if_pos C3] at h0
      unfold sA at h0 ⊢
      cases D8 : cls C.P oj <;> rw [D8, hc] at oC <;> rw [D8] at h0 <;> simp only at h0 ⊢
      ·obtain ⟨u, hu, h0⟩ := h0
       refine ⟨u, hu, lH, fin u M lH fun b hb => ?_⟩
       obtain ⟨v, hv, h1⟩ := each b hb
       unfold eO at h1; rw [if_pos C3] at h1
       unfold sA at h1; rw [D8] at h1; simp only at h1
       obtain ⟨u', SG, _, h1⟩ := h1
       have : u' = u := by have e1 := SG M; rw [hu M] at e1; cases e1; rfl
       subst this
       exact ⟨v, hv, h1⟩
      ·simp [sP] at oC
      ·obtain ⟨ob', k', hn', h0⟩ := h0
       refine ⟨ob', k', hn', fun b' hb' => ?_⟩
       have dec : ∀ b, M b = none → b ≠ b' → ∃ v u, bQ C.P (k b) Mem.empty = some (.value v) ∧ bQ C.P (k' b') Mem.empty = some (.value u) ∧
         dW C ops S K Kp f (L ||| 2 ^ j ||| 2 ^ i) (bu (bu env oj.dst u) oi.dst v) ((M.set b ob).set b' ob') := fun b hb hne => by
        obtain ⟨v, hv, h1⟩ := each b hb
        unfold eO at h1; rw [if_pos C3] at h1
        unfold sA at h1; rw [D8] at h1; simp only at h1
        obtain ⟨ob2, k2, yf, h1⟩ := h1
        rw [hn'] at yf; cases yf
        obtain ⟨u, hu, _, h1⟩ := h1 b' (by simp only [Mem.set]; rw [if_neg (Ne.symm hne)]; exact hb')
        exact ⟨v, u, hv, hu, h1⟩
       obtain ⟨_, u, _, hu, _⟩ := dec (max N (b' + 1)) (hN _ (by omega)) (by omega)
       refine ⟨u, hu, hS _ _ (pG hb') lH, fin u _ (hS _ _ (pG hb') lH) fun b hb => ?_⟩
       have hne : b ≠ b' := by rintro rfl; simp [Mem.set] at hb
       have P0 : M b = none := by simpa [Mem.set, hne] using hb
       obtain ⟨v, u', hv, SG, h1⟩ := dec b P0 hne
       rw [hu] at SG; cases SG
       exact ⟨v, hv, by rw [← set_comm hne]; exact h1⟩
      ·simp [sP] at oC
     ·rename_i C3
      refine ⟨lH, fin _ _ lH fun b hb => ?_⟩
      obtain ⟨v, hv, h1⟩ := each b hb
      unfold eO at h1; rw [if_neg C3] at h1
      exact ⟨v, hv, h1.2⟩
    | Kk => rw [hc] at oC; cases hh : cls C.P oj <;> rw [hh] at oC <;> simp [sP] at oC
   ·have hwf : bW ops oi env = false := by simpa using hw
    unfold eO at h
    rw [if_neg hw] at h
    have iZ := (h.2 fe).2 j hj'
    unfold gm at iZ; rw [jl] at iZ; simp only at iZ
    exact known undef (fun u M1 vH hx => back u M1 vH (lP ((Yh u).trans hwf) ⟨vH, hx⟩)) iZ
def pI (ops : Array Oper) (fu : List Nat) (L i : Nat) : Bool := match ops[i]? with
 | some oi => (List.range ops.size).all fun j => Nat.beq j i || L.testBit j || (fu.getD j 0).testBit i || (match ops[j]? with
  | some oj => oi.apart ops oj
  | none => true)
 | none => false
theorem yQ {j L i : Nat} {oi : Oper} (hi : ops[i]? = some oi) {fu : List Nat} (hfree : pI ops fu L i = true) : pI ops fu (L ||| 2 ^ j) i = true := by
 unfold pI at hfree ⊢; rw [hi] at hfree ⊢
 refine List.all_eq_true.2 fun k hk => ?_
 have := List.all_eq_true.1 hfree k hk
 simp only [Bool.or_eq_true] at this ⊢
 rcases this with ((h' | h') | h') | h'
 ·exact .inl (.inl (.inl h'))
 ·exact .inl (.inl (.inr (by rw [eH, h']; rfl)))
 ·exact .inl (.inr h')
 ·exact .inr h'
theorem EE {i j L : Nat} {oi oj : Oper} (hi : ops[i]? = some oi) {fu : List Nat} (ha : oB ops fu = true) (hdn : Dn ops L) (hfree : pI ops fu L i = true) (hr : fM ops L i = true)
  (hj : fM ops L j = true) (jl : ops[j]? = some oj) (jT : j ≠ i) : oi.apart ops oj = true := by
 obtain ⟨Kt, oj', ED, gS⟩ := bP.1 hj
 rw [jl] at ED; cases ED
 unfold pI at hfree; rw [hi] at hfree
 have := List.all_eq_true.1 hfree j (List.mem_range.2 (Array.getElem?_eq_some_iff.1 jl).1)
 simp only [Kt, jl, Bool.or_false, Bool.or_eq_true] at this
 rcases this with (h' | h') | h'
 ·exact absurd (Nat.eq_of_beq_eq_true h') jT
 ·have := nH ha hdn j oj jl gS i h'
  rw [(bP.1 hr).1] at this; cases this
 ·exact h'
theorem Ku {i : Nat} {oi : Oper} (hi : ops[i]? = some oi) (hsel : ∀ (j : Nat) (o : Oper) cs b, ops[j]? = some o → o.op ≠ .select cs b) {fu : List Nat} (ha : oB ops fu = true)
  (hc : cls C.P oi = .read) {S : Mem → Prop} {s : Sem Next} {v : Value} :
  ∀ (f L : Nat) (env : Nat → Value) (M : Mem), Dn ops L → pI ops fu L i = true → fM ops L i = true → bW ops oi env = true → execOp (mw env) oi = s → bQ C.P s M = some (.value v) → S M →
   dW C ops (fun M' => S M' ∧ bQ C.P s M' = some (.value v)) K Kp f (L ||| 2 ^ i) (bu env oi.dst v) M → dW C ops S K Kp (f + 1) L env M := by
 intro f
 induction f with
 | zero =>
  intro L env M hdn hfree hr hw he hv lH h fe
  refine ⟨fun hno => (by rw [hno i] at hr; cases hr), fun j hj => ?_⟩
  by_cases jT : j = i
  ·subst jT
   unfold gm; rw [hi]; simp only
   refine iG hw ?_
   unfold sA; rw [hc]; simp only [he]
   exact ⟨v, hv, lH, h⟩
  ·have hj' := fS (i := i) hj jT
   have := (h fe).1 j; rw [this] at hj'; cases hj'
 | succ f ih =>
  intro L env M hdn hfree hr hw he hv lH h fe
  have weak : ∀ (f L : Nat) (env : Nat → Value) (M : Mem), dW C ops (fun M' => S M' ∧ bQ C.P s M' = some (.value v)) K Kp f L env M → dW C ops S K Kp f L env M := by
   intro f
   induction f with
   | zero => intro L env M h; exact h
   | succ f ihw => intro L env M h fe; exact ⟨(h fe).1, fun j hj => BL ((h fe).2 j hj) fun env' M' hx => ⟨hx.1.1, ihw _ _ _ hx.2⟩⟩
  refine ⟨fun hno => (by rw [hno i] at hr; cases hr), fun j hj => ?_⟩
  by_cases jT : j = i
  ·subst jT
   unfold gm; rw [hi]; simp only
   refine iG hw ?_
   unfold sA; rw [hc]; simp only [he]
   exact ⟨v, hv, lH, weak _ _ _ _ h⟩
  ·obtain ⟨Kt, oj, jl, gS⟩ := bP.1 hj
   have hap := EE hi ha hdn hfree hr hj jl jT
   obtain ⟨a1, a2, a3⟩ := Oper.apart_spec hap
   have hsi := fun cs b => hsel i oi cs b hi
   have hsj := fun cs b => hsel j oj cs b jl
   have hj' := fS (i := i) hj jT
   have iZ := (h fe).2 j hj'
   unfold gm at iZ ⊢; rw [jl] at iZ ⊢; simp only at iZ ⊢
   rw [uf L i j] at iZ
   have h2 := pH hap hsj iZ
   have fin : ∀ u M1, (S M1 ∧ bQ C.P s M1 = some (.value v)) ∧ dW C ops (fun M' => S M' ∧ bQ C.P s M' = some (.value v)) K Kp f (L ||| 2 ^ j ||| 2 ^ i) (bu (bu env oj.dst u) oi.dst v) M1 →
     S M1 ∧ dW C ops S K Kp (f + 1) (L ||| 2 ^ j) (bu env oj.dst u) M1 := fun u M1 hx =>
    ⟨hx.1.1, ih (L ||| 2 ^ j) _ M1 (hdn.add hj) (yQ hi hfree) (fS hr (Ne.symm jT)) ((eV oi env oj.dst u a3).trans hw) ((ij oi hsi env oj.dst u a3).trans he) hx.1.2 hx.1.1 hx.2⟩
   unfold eO at h2 ⊢
   split
   ·rename_i MQ; rw [if_pos MQ] at h2; exact mP h2 fun u M1 hx => fin u M1 hx
   ·rename_i MQ; rw [if_neg MQ] at h2; exact fin _ _ h2
end
end Go.AF
