/- A part of proofs about one program. -/
import Derived.Test.YtnnlgknlialpmaaGreatZSnapAlikeExec
set_option linter.unusedVariables false
namespace Go.AF
variable {E : ud}
def qj (ws : List Nat) (env env' : Nat → Value) : Prop := ∀ i, kQ ws i = false → env' i = env i
theorem gZ : ∀ {l : List Nat} {i : Nat}, kQ l i = true ↔ i ∈ l
 | [], i => by simp [kQ]
 | k :: l, i => by
  unfold kQ
  by_cases h : i = k
  ·subst h; simp
  ·have : Nat.beq i k = false := by cases hb : Nat.beq i k with
    | false => rfl
    | true => exact absurd (Nat.eq_of_beq_eq_true hb) h
   simp [this, h, gZ (l := l)]
theorem qj.refl (ws : List Nat) (env : Nat → Value) : qj ws env env := fun _ _ => rfl
theorem qj.mono {ws UB : List Nat} {env env' : Nat → Value} (h : qj ws env env') (hs : ∀ i ∈ ws, i ∈ UB) : qj UB env env' := fun i hi => h i (by
 cases hb : kQ ws i with
 | false => rfl
 | true => have := gZ.2 (hs i (gZ.1 hb)); rw [hi] at this; cases this)
theorem qj.trans {ws UB : List Nat} {env env' UC : Nat → Value} (h : qj ws env env') (h' : qj UB env' UC) : qj (ws ++ UB) env UC := fun i hi => by
 have h1 : kQ ws i = false := by
  cases hb : kQ ws i with
  | false => rfl
  | true => have := gZ.2 (List.mem_append_left UB (gZ.1 hb)); rw [hi] at this; cases this
 have h2 : kQ UB i = false := by
  cases hb : kQ UB i with
  | false => rfl
  | true => have := gZ.2 (List.mem_append_right ws (gZ.1 hb)); rw [hi] at this; cases this
 rw [h' i h2, h i h1]
theorem qj.bz {ws : List Nat} {env env' : Nat → Value} (h : qj ws env env') {dst : Option Tmp} (hd : ∀ d, dst = some d → d ∈ ws) (v : Value) : qj ws env (bz env' dst v) := fun i hi => by
 cases dst with
 | none => exact h i hi
 | some d =>
  rw [iu, if_neg, h i hi]
  rintro rfl
  have := gZ.2 (hd i rfl); rw [hi] at this; cases this
section
variable {C : Ctx} {ops : Array Oper} {K : (Nat → Value) → Mem → Prop} {Kp : List PanicEntry → Mem → Prop}
theorem FZ {ws : List Nat} {o : Oper} {vG env : Nat → Value} {M : Mem} (ho : qj ws vG env) (hd : ∀ d, o.dst = some d → d ∈ ws) (h : fh C ops o env M K Kp) :
  fh C ops o env M (fun env' M' => K env' M' ∧ qj ws vG env') Kp := by
 unfold fh at h ⊢
 split
 ·rename_i hw; rw [if_pos hw] at h; exact ni h fun v M' hv => ⟨hv, ho.bz hd v⟩
 ·rename_i hw; rw [if_neg hw] at h; exact ⟨h, ho.bz hd undef⟩
theorem F0 {i : Nat} {o : Oper} (h : ops[i]? = some o) : ∀ d, o.dst = some d → d ∈ iX ops := fun d hd =>
 List.mem_filterMap.2 ⟨o, by have := Array.mem_of_getElem? h; simpa using this, hd⟩
theorem OJ {S : Mem → Prop} {vG : Nat → Value} : ∀ (f L : Nat) (env : Nat → Value) (M : Mem), qj (iX ops) vG env → en C ops S K Kp f L env M →
  en C ops S (fun env' M' => K env' M' ∧ qj (iX ops) vG env') Kp f L env M := by
 intro f
 induction f with
 | zero => intro L env M ho h fP; exact ⟨(h fP).1, (h fP).2, ho⟩
 | succ f ih =>
  intro L env M ho h fP
  obtain ⟨h1, h2⟩ := h fP
  refine ⟨fun hno => ⟨h1 hno, ho⟩, fun i hi => ?_⟩
  have := h2 i hi
  unfold gG at this ⊢
  cases hoi : ops[i]? with
  | none => rw [hoi] at this; exact ⟨this.1, ih _ _ _ ho this.2⟩
  | some o =>
   rw [hoi] at this
   exact jF (FZ ho (F0 hoi) this) fun env' M' hx => ⟨hx.1.1, ih _ _ _ hx.2 hx.1.2⟩
def OK (C : Ctx) (ops : Array Oper) (K : (Nat → Value) → Mem → Prop) (Kp : List PanicEntry → Mem → Prop) : List Oper → (Nat → Value) → Mem → Prop
 | [], env, M => K env M
 | o :: rest, env, M => fh C ops o env M (fun env' M' => OK C ops K Kp rest env' M') Kp
theorem OL (hC : C.Good) {vG : Nat → Value} : ∀ (l : List Oper) (env : Nat → Value) (M : Mem), (∀ o ∈ l, o ∈ ops.toList) → qj (iX ops) vG env → VS C ops K Kp l env M →
  OK C ops (fun env' M' => K env' M' ∧ qj (iX ops) vG env') Kp l env M := by
 intro l
 induction l with
 | nil => intro env M _ ho h; exact ⟨h, ho⟩
 | cons o rest ih =>
  intro env M hm ho h
  have hd : ∀ d, o.dst = some d → d ∈ iX ops := fun d hd => List.mem_filterMap.2 ⟨o, hm o (List.mem_cons_self ..), hd⟩
  exact jF (FZ ho hd (iW hC h)) fun env' M' hx => ih env' M' (fun o' ho' => hm o' (List.mem_cons_of_mem _ ho')) hx.2 hx.1
theorem An {N : Nat} {Z : Act → Prop} {F : Mem} {Q : Exit → Act → World → Prop} (hz : ∀ o ∈ ops.toList, ∀ (a : Act) (v : Value), Z a → Z (a.put o.dst v)) (hfit : ∀ o ∈ ops.toList, oq N o = true) (hpost : Post E N Z F K Kp Q) :
  ∀ (l : List Oper) (env : Nat → Value) (M : Mem) (a : Act) (w : World), (∀ o ∈ l, o ∈ ops.toList) → eL N env a.tmps → Z a → M.dj F → (M.union F).In E w →
   OK C ops K Kp l env M → wpList C.P ops Q l a w := by
 intro l
 induction l with
 | nil => intro env M a w _ fI hds hd hi h; exact hpost.normal _ _ _ _ fI hds hd hi h
 | cons o rest ih =>
  intro env M a w hm fI hds hd hi h
  have hf := hfit o (hm o (List.mem_cons_self ..))
  have hb : fh C ops o env M (fun env' M' => OK C ops K Kp rest env' M') Kp := h
  unfold wpList
  rw [vF fI hfit]
  unfold fh at hb
  split
  ·rename_i hw
   rw [if_pos hw] at hb
   refine .inl (yx (K := fun v M' => OK C ops K Kp rest (Go.AF.bz env o.dst v) M') (Kp := Kp) (F := F) (by rw [← fI.execOp hf]; exact Ai hb) hd hi (fun v w' hv => ?_) (fun c w' hc => hpost.panic _ _ _ hds hc))
   obtain ⟨M', hk, hd', hi'⟩ := hv
   exact ih _ _ _ _ (fun o' ho' => hm o' (List.mem_cons_of_mem _ ho')) (fI.put (gN hf).2.1 v) (hz o (hm o (List.mem_cons_self ..)) _ _ hds) hd' hi' hk
  ·rename_i hw
   rw [if_neg hw] at hb
   exact ih _ _ _ _ (fun o' ho' => hm o' (List.mem_cons_of_mem _ ho')) (fI.put (gN hf).2.1 undef) (hz o (hm o (List.mem_cons_self ..)) _ _ hds) hd hi hb
end
structure KF (E : ud) (N : Nat) (Z : Act → Prop) (F : Mem) (ws : List Nat) (vG : Nat → Value) (Q : RE → (Nat → Value) → Mem → Prop) (Kp : List PanicEntry → Mem → Prop) (Q' : Exit → Act → World → Prop) : Prop where
 normal : ∀ env M a w, qj ws vG env → eL N env a.tmps → Z a → M.dj F → (M.union F).In E w → Q .normal env M → Q' .normal a w
 exit : ∀ id env M a w, qj ws vG env → eL N env a.tmps → Z a → M.dj F → (M.union F).In E w → Q (.exit id) env M → Q' (.exit id) a w
 ret : ∀ env M a w, qj ws vG env → eL N env a.tmps → Z a → M.dj F → (M.union F).In E w → Q .ret env M → Q' .ret a w
 panic : ∀ c a w, Z a → gz E F (Kp c) w → Q' (.panic c) a w
theorem C6 {c : CT} {v : Value} {K K' : Value → Prop} (h : Sq c K) (hv : Fx c (some v) K') : K v ∧ K' v := by
 cases c <;> simp only [Sq, Fx] at h hv
 case int k =>
  unfold aK at hv; split at hv
  ·split at hv
   ·rename_i k' n he hk; cases he; subst hk; exact ⟨h _, hv⟩
   ·exact hv.elim
  ·exact hv.elim
 case bool => unfold dH at hv; split at hv <;> first | (rename_i he; cases he; exact ⟨h _, hv⟩) | exact hv.elim
 case str => unfold fa at hv; split at hv <;> first | (rename_i he; cases he; exact ⟨h _, hv⟩) | exact hv.elim
 case ptr => unfold cw at hv; split at hv <;> first | (rename_i he; cases he; exact ⟨h _, hv⟩) | exact hv.elim
 case sl => unfold az at hv; split at hv <;> first | (rename_i he; cases he; exact ⟨h _ _ _, hv⟩) | exact hv.elim
 case val => exact ⟨h _, hv⟩
theorem Ao : ∀ {cs : List CT} {vs : List Value} {K K' : List Value → Prop}, KC cs K → Ih cs vs K' → K vs ∧ K' vs
 | [], [], K, K', h, hv => ⟨h, hv⟩
 | c :: cs, v :: vs, K, K', h, hv => by
  simp only [KC, Ih] at h hv
  obtain ⟨h1, h2⟩ := C6 h hv
  exact Ao (K := fun vs => K (v :: vs)) (K' := fun vs => K' (v :: vs)) h1 h2
 | [], _ :: _, _, _, _, hv => hv.elim
 | _ :: _, [], _, _, _, hv => hv.elim
theorem ID {c : Ca} {v : Value} {K K' : Value → Prop} (h : KD c K) (hv : IC c v K') : K v ∧ K' v := by
 cases c with
 | c c => exact C6 h hv
 | a l =>
  simp only [KD, IC] at h hv
  cases v <;> try exact hv.elim
  rename_i cs
  have := Ao (vs := cs.toList) (K := fun vs => K (.agg vs.toArray)) (K' := fun vs => K' (.agg vs.toArray)) h hv
  simpa using this
 | b n =>
  simp only [KD, IC] at h hv
  cases v <;> try exact hv.elim
  rename_i cs
  exact ⟨by simpa using h cs.toList hv.1, hv.2⟩
theorem Ap {env : Nat → Value} : ∀ {live : List (Nat × Ca)} {K : List (Nat × Value) → Prop} {K' : List Value → Prop}, KE live K → hO env live K' →
  ∃ l : List (Nat × Value), K l ∧ K' (l.map (·.2)) ∧ ∀ i, look l i (env i) = env i
 | [], K, K', h, hv => ⟨[], h, hv, fun _ => rfl⟩
 | (s, c) :: live, K, K', h, hv => by
  simp only [KE, hO] at h hv
  obtain ⟨h1, h2⟩ := ID h hv
  obtain ⟨l, g1, g2, g3⟩ := Ap (K := fun vs => K ((s, env s) :: vs)) (K' := fun vs => K' (env s :: vs)) h1 h2
  refine ⟨(s, env s) :: l, g1, g2, fun i => ?_⟩
  unfold look
  by_cases hi : i = s
  ·subst hi; simp
  ·have : Nat.beq i s = false := by cases hb : Nat.beq i s with
    | false => rfl
    | true => exact absurd (Nat.eq_of_beq_eq_true hb) hi
   simp [this, g3]
theorem qk {env gO : Nat → Value} {ws : List Nat} {live : List (Nat × Ca)} {J : List Value → Mem → Prop} {Q : (Nat → Value) → Mem → Prop} {M : Mem}
  (h : meet env ws live J Q) (ho : qj ws env gO) (hl : hO gO live fun vs => J vs M) : Q gO M := by
 obtain ⟨l, h1, h2, h3⟩ := Ap (h gO) hl
 have := h1 M h2
 have e : newEnv env gO ws l = gO := by
  funext i
  unfold newEnv
  cases hb : kQ ws i with
  | true => exact h3 i
  | false => rw [← ho i hb]; exact h3 i
 rwa [e] at this
end Go.AF
