/- A part of proofs about one program. -/
import Derived.Test.YtfjgcljdnhkmaaaGreatZSchedAgainExec
set_option linter.unusedVariables false
namespace Go.AF
variable {E : sL}
def pL (ws : List Nat) (env env' : Nat → Value) : Prop := ∀ i, j6 ws i = false → env' i = env i
theorem gK : ∀ {l : List Nat} {i : Nat}, j6 l i = true ↔ i ∈ l
 | [], i => by simp [j6]
 | k :: l, i => by
  unfold j6
  by_cases h : i = k
  ·subst h; simp
  ·have : Nat.beq i k = false := by cases hb : Nat.beq i k with
    | false => rfl
    | true => exact absurd (Nat.eq_of_beq_eq_true hb) h
   simp [this, h, gK (l := l)]
theorem pL.refl (ws : List Nat) (env : Nat → Value) : pL ws env env := fun _ _ => rfl
theorem pL.mono {ws SI : List Nat} {env env' : Nat → Value} (h : pL ws env env') (hs : ∀ i ∈ ws, i ∈ SI) : pL SI env env' := fun i hi => h i (by
 cases hb : j6 ws i with
 | false => rfl
 | true => have := gK.2 (hs i (gK.1 hb)); rw [hi] at this; cases this)
theorem pL.trans {ws SI : List Nat} {env env' SJ : Nat → Value} (h : pL ws env env') (h' : pL SI env' SJ) : pL (ws ++ SI) env SJ := fun i hi => by
 have h1 : j6 ws i = false := by
  cases hb : j6 ws i with
  | false => rfl
  | true => have := gK.2 (List.mem_append_left SI (gK.1 hb)); rw [hi] at this; cases this
 have h2 : j6 SI i = false := by
  cases hb : j6 SI i with
  | false => rfl
  | true => have := gK.2 (List.mem_append_right ws (gK.1 hb)); rw [hi] at this; cases this
 rw [h' i h2, h i h1]
theorem pL.bu {ws : List Nat} {env env' : Nat → Value} (h : pL ws env env') {dst : Option Tmp} (hd : ∀ d, dst = some d → d ∈ ws) (v : Value) : pL ws env (bu env' dst v) := fun i hi => by
 cases dst with
 | none => exact h i hi
 | some d =>
  rw [g6, if_neg, h i hi]
  rintro rfl
  have := gK.2 (hd i rfl); rw [hi] at this; cases this
section
variable {C : Ctx} {ops : Array Oper} {K : (Nat → Value) → Mem → Prop} {Kp : List PanicEntry → Mem → Prop}
theorem EM {ws : List Nat} {o : Oper} {uj env : Nat → Value} {M : Mem} (ho : pL ws uj env) (hd : ∀ d, o.dst = some d → d ∈ ws) (h : eO C ops o env M K Kp) :
  eO C ops o env M (fun env' M' => K env' M' ∧ pL ws uj env') Kp := by
 unfold eO at h ⊢
 split
 ·rename_i hw; rw [if_pos hw] at h; exact mP h fun v M' hv => ⟨hv, ho.bu hd v⟩
 ·rename_i hw; rw [if_neg hw] at h; exact ⟨h, ho.bu hd undef⟩
theorem EN {i : Nat} {o : Oper} (h : ops[i]? = some o) : ∀ d, o.dst = some d → d ∈ iI ops := fun d hd =>
 List.mem_filterMap.2 ⟨o, by have := Array.mem_of_getElem? h; simpa using this, hd⟩
theorem MW {S : Mem → Prop} {uj : Nat → Value} : ∀ (f L : Nat) (env : Nat → Value) (M : Mem), pL (iI ops) uj env → dW C ops S K Kp f L env M →
  dW C ops S (fun env' M' => K env' M' ∧ pL (iI ops) uj env') Kp f L env M := by
 intro f
 induction f with
 | zero => intro L env M ho h fe; exact ⟨(h fe).1, (h fe).2, ho⟩
 | succ f ih =>
  intro L env M ho h fe
  obtain ⟨h1, h2⟩ := h fe
  refine ⟨fun hno => ⟨h1 hno, ho⟩, fun i hi => ?_⟩
  have := h2 i hi
  unfold gm at this ⊢
  cases hoi : ops[i]? with
  | none => rw [hoi] at this; exact ⟨this.1, ih _ _ _ ho this.2⟩
  | some o =>
   rw [hoi] at this
   exact jk (EM ho (EN hoi) this) fun env' M' hx => ⟨hx.1.1, ih _ _ _ hx.2 hx.1.2⟩
def MX (C : Ctx) (ops : Array Oper) (K : (Nat → Value) → Mem → Prop) (Kp : List PanicEntry → Mem → Prop) : List Oper → (Nat → Value) → Mem → Prop
 | [], env, M => K env M
 | o :: rest, env, M => eO C ops o env M (fun env' M' => MX C ops K Kp rest env' M') Kp
theorem MY (hC : C.Good) {uj : Nat → Value} : ∀ (l : List Oper) (env : Nat → Value) (M : Mem), (∀ o ∈ l, o ∈ ops.toList) → pL (iI ops) uj env → TW C ops K Kp l env M →
  MX C ops (fun env' M' => K env' M' ∧ pL (iI ops) uj env') Kp l env M := by
 intro l
 induction l with
 | nil => intro env M _ ho h; exact ⟨h, ho⟩
 | cons o rest ih =>
  intro env M hm ho h
  have hd : ∀ d, o.dst = some d → d ∈ iI ops := fun d hd => List.mem_filterMap.2 ⟨o, hm o (List.mem_cons_self ..), hd⟩
  exact jk (EM ho hd (iH hC h)) fun env' M' hx => ih env' M' (fun o' Yl => hm o' (List.mem_cons_of_mem _ Yl)) hx.2 hx.1
theorem yS {N : Nat} {Z : Act → Prop} {F : Mem} {Q : Exit → Act → World → Prop} (hz : ∀ o ∈ ops.toList, ∀ (a : Act) (v : Value), Z a → Z (a.put o.dst v)) (hfit : ∀ o ∈ ops.toList, nG N o = true) (hpost : Post E N Z F K Kp Q) :
  ∀ (l : List Oper) (env : Nat → Value) (M : Mem) (a : Act) (w : World), (∀ o ∈ l, o ∈ ops.toList) → eE N env a.tmps → Z a → M.dj F → (M.union F).In E w →
   MX C ops K Kp l env M → wpList C.P ops Q l a w := by
 intro l
 induction l with
 | nil => intro env M a w _ fq hds hd hi h; exact hpost.normal _ _ _ _ fq hds hd hi h
 | cons o rest ih =>
  intro env M a w hm fq hds hd hi h
  have hf := hfit o (hm o (List.mem_cons_self ..))
  have hb : eO C ops o env M (fun env' M' => MX C ops K Kp rest env' M') Kp := h
  unfold wpList
  rw [uh fq hfit]
  unfold eO at hb
  split
  ·rename_i hw
   rw [if_pos hw] at hb
   refine .inl (w9 (K := fun v M' => MX C ops K Kp rest (Go.AF.bu env o.dst v) M') (Kp := Kp) (F := F) (by rw [← fq.execOp hf]; exact yN hb) hd hi (fun v w' hv => ?_) (fun c w' hc => hpost.panic _ _ _ hds hc))
   obtain ⟨M', hk, hd', hi'⟩ := hv
   exact ih _ _ _ _ (fun o' Yl => hm o' (List.mem_cons_of_mem _ Yl)) (fq.put (gy hf).2.1 v) (hz o (hm o (List.mem_cons_self ..)) _ _ hds) hd' hi' hk
  ·rename_i hw
   rw [if_neg hw] at hb
   exact ih _ _ _ _ (fun o' Yl => hm o' (List.mem_cons_of_mem _ Yl)) (fq.put (gy hf).2.1 undef) (hz o (hm o (List.mem_cons_self ..)) _ _ hds) hd hi hb
end
structure I8 (E : sL) (N : Nat) (Z : Act → Prop) (F : Mem) (ws : List Nat) (uj : Nat → Value) (Q : P2 → (Nat → Value) → Mem → Prop) (Kp : List PanicEntry → Mem → Prop) (Q' : Exit → Act → World → Prop) : Prop where
 normal : ∀ env M a w, pL ws uj env → eE N env a.tmps → Z a → M.dj F → (M.union F).In E w → Q .normal env M → Q' .normal a w
 exit : ∀ id env M a w, pL ws uj env → eE N env a.tmps → Z a → M.dj F → (M.union F).In E w → Q (.exit id) env M → Q' (.exit id) a w
 ret : ∀ env M a w, pL ws uj env → eE N env a.tmps → Z a → M.dj F → (M.union F).In E w → Q .ret env M → Q' .ret a w
 panic : ∀ c a w, Z a → fY E F (Kp c) w → Q' (.panic c) a w
theorem BQ {c : BD} {v : Value} {K K' : Value → Prop} (h : Qw c K) (hv : Ei c (some v) K') : K v ∧ K' v := by
 cases c <;> simp only [Qw, Ei] at h hv
 case int k =>
  unfold aK at hv; split at hv
  ·split at hv
   ·rename_i k' n he hk; cases he; subst hk; exact ⟨h _, hv⟩
   ·exact hv.elim
  ·exact hv.elim
 case bool => unfold cJ at hv; split at hv <;> first | (rename_i he; cases he; exact ⟨h _, hv⟩) | exact hv.elim
 case str => unfold fJ at hv; split at hv <;> first | (rename_i he; cases he; exact ⟨h _, hv⟩) | exact hv.elim
 case ptr => unfold bO at hv; split at hv <;> first | (rename_i he; cases he; exact ⟨h _, hv⟩) | exact hv.elim
 case sl => unfold aD at hv; split at hv <;> first | (rename_i he; cases he; exact ⟨h _ _ _, hv⟩) | exact hv.elim
 case val => exact ⟨h _, hv⟩
theorem yT : ∀ {cs : List BD} {vs : List Value} {K K' : List Value → Prop}, I0 cs K → Gq cs vs K' → K vs ∧ K' vs
 | [], [], K, K', h, hv => ⟨h, hv⟩
 | c :: cs, v :: vs, K, K', h, hv => by
  simp only [I0, Gq] at h hv
  obtain ⟨h1, h2⟩ := BQ h hv
  exact yT (K := fun vs => K (v :: vs)) (K' := fun vs => K' (v :: vs)) h1 h2
 | [], _ :: _, _, _, _, hv => hv.elim
 | _ :: _, [], _, _, _, hv => hv.elim
theorem GP {c : AR} {v : Value} {K K' : Value → Prop} (h : I3 c K) (hv : GO c v K') : K v ∧ K' v := by
 cases c with
 | c c => exact BQ h hv
 | a l =>
  simp only [I3, GO] at h hv
  cases v <;> try exact hv.elim
  rename_i cs
  have := yT (vs := cs.toList) (K := fun vs => K (.agg vs.toArray)) (K' := fun vs => K' (.agg vs.toArray)) h hv
  simpa using this
 | b n =>
  simp only [I3, GO] at h hv
  cases v <;> try exact hv.elim
  rename_i cs
  exact ⟨by simpa using h cs.toList hv.1, hv.2⟩
theorem yU {env : Nat → Value} : ∀ {live : List (Nat × AR)} {K : List (Nat × Value) → Prop} {K' : List Value → Prop}, I7 live K → gT env live K' →
  ∃ l : List (Nat × Value), K l ∧ K' (l.map (·.2)) ∧ ∀ i, look l i (env i) = env i
 | [], K, K', h, hv => ⟨[], h, hv, fun _ => rfl⟩
 | (s, c) :: live, K, K', h, hv => by
  simp only [I7, gT] at h hv
  obtain ⟨h1, h2⟩ := GP h hv
  obtain ⟨l, g1, g2, g3⟩ := yU (K := fun vs => K ((s, env s) :: vs)) (K' := fun vs => K' (env s :: vs)) h1 h2
  refine ⟨(s, env s) :: l, g1, g2, fun i => ?_⟩
  unfold look
  by_cases hi : i = s
  ·subst hi; simp
  ·have : Nat.beq i s = false := by cases hb : Nat.beq i s with
    | false => rfl
    | true => exact absurd (Nat.eq_of_beq_eq_true hb) hi
   simp [this, g3]
theorem pM {env gz : Nat → Value} {ws : List Nat} {live : List (Nat × AR)} {J : List Value → Mem → Prop} {Q : (Nat → Value) → Mem → Prop} {M : Mem}
  (h : meet env ws live J Q) (ho : pL ws env gz) (hl : gT gz live fun vs => J vs M) : Q gz M := by
 obtain ⟨l, h1, h2, h3⟩ := yU (h gz) hl
 have := h1 M h2
 have e : newEnv env gz ws l = gz := by
  funext i
  unfold newEnv
  cases hb : j6 ws i with
  | true => exact h3 i
  | false => rw [← ho i hb]; exact h3 i
 rwa [e] at this
end Go.AF
