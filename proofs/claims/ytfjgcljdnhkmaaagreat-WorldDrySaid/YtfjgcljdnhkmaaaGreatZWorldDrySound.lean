/- A part of proofs about one program. -/
import Derived.Test.YtfjgcljdnhkmaaaGreatZWorldDryExec
set_option linter.unusedVariables false
namespace Go.AF
variable {E : qP}
def rh (ws : List Nat) (env env' : Nat → Value) : Prop := ∀ i, lE ws i = false → env' i = env i
theorem iB : ∀ {l : List Nat} {i : Nat}, lE l i = true ↔ i ∈ l
 | [], i => by simp [lE]
 | k :: l, i => by
  unfold lE
  by_cases h : i = k
  ·subst h; simp
  ·have : Nat.beq i k = false := by cases hb : Nat.beq i k with
    | false => rfl
    | true => exact absurd (Nat.eq_of_beq_eq_true hb) h
   simp [this, h, iB (l := l)]
theorem rh.refl (ws : List Nat) (env : Nat → Value) : rh ws env env := fun _ _ => rfl
theorem rh.mono {ws ZE : List Nat} {env env' : Nat → Value} (h : rh ws env env') (hs : ∀ i ∈ ws, i ∈ ZE) : rh ZE env env' := fun i hi => h i (by
 cases hb : lE ws i with
 | false => rfl
 | true => have := iB.2 (hs i (iB.1 hb)); rw [hi] at this; cases this)
theorem rh.trans {ws ZE : List Nat} {env env' ZF : Nat → Value} (h : rh ws env env') (h' : rh ZE env' ZF) : rh (ws ++ ZE) env ZF := fun i hi => by
 have h1 : lE ws i = false := by
  cases hb : lE ws i with
  | false => rfl
  | true => have := iB.2 (List.mem_append_left ZE (iB.1 hb)); rw [hi] at this; cases this
 have h2 : lE ZE i = false := by
  cases hb : lE ZE i with
  | false => rfl
  | true => have := iB.2 (List.mem_append_right ws (iB.1 hb)); rw [hi] at this; cases this
 rw [h' i h2, h i h1]
theorem rh.bD {ws : List Nat} {env env' : Nat → Value} (h : rh ws env env') {dst : Option Tmp} (hd : ∀ d, dst = some d → d ∈ ws) (v : Value) : rh ws env (bD env' dst v) := fun i hi => by
 cases dst with
 | none => exact h i hi
 | some d =>
  rw [iN, if_neg, h i hi]
  rintro rfl
  have := iB.2 (hd i rfl); rw [hi] at this; cases this
section
variable {C : Ctx} {ops : Array Oper} {K : (Nat → Value) → Mem → Prop} {Kp : List PanicEntry → Mem → Prop}
theorem Ib {ws : List Nat} {o : Oper} {wS env : Nat → Value} {M : Mem} (ho : rh ws wS env) (hd : ∀ d, o.dst = some d → d ∈ ws) (h : fz C ops o env M K Kp) :
  fz C ops o env M (fun env' M' => K env' M' ∧ rh ws wS env') Kp := by
 unfold fz at h ⊢
 split
 ·rename_i hw; rw [if_pos hw] at h; exact oe h fun v M' hv => ⟨hv, ho.bD hd v⟩
 ·rename_i hw; rw [if_neg hw] at h; exact ⟨h, ho.bD hd undef⟩
theorem Ic {i : Nat} {o : Oper} (h : ops[i]? = some o) : ∀ d, o.dst = some d → d ∈ jO ops := fun d hd =>
 List.mem_filterMap.2 ⟨o, by have := Array.mem_of_getElem? h; simpa using this, hd⟩
theorem Sj {S : Mem → Prop} {wS : Nat → Value} : ∀ (f L : Nat) (env : Nat → Value) (M : Mem), rh (jO ops) wS env → eP C ops S K Kp f L env M →
  eP C ops S (fun env' M' => K env' M' ∧ rh (jO ops) wS env') Kp f L env M := by
 intro f
 induction f with
 | zero => intro L env M ho h gd; exact ⟨(h gd).1, (h gd).2, ho⟩
 | succ f ih =>
  intro L env M ho h gd
  obtain ⟨h1, h2⟩ := h gd
  refine ⟨fun hno => ⟨h1 hno, ho⟩, fun i hi => ?_⟩
  have := h2 i hi
  unfold gR at this ⊢
  cases hoi : ops[i]? with
  | none => rw [hoi] at this; exact ⟨this.1, ih _ _ _ ho this.2⟩
  | some o =>
   rw [hoi] at this
   exact kA (Ib ho (Ic hoi) this) fun env' M' hx => ⟨hx.1.1, ih _ _ _ hx.2 hx.1.2⟩
def Sk (C : Ctx) (ops : Array Oper) (K : (Nat → Value) → Mem → Prop) (Kp : List PanicEntry → Mem → Prop) : List Oper → (Nat → Value) → Mem → Prop
 | [], env, M => K env M
 | o :: rest, env, M => fz C ops o env M (fun env' M' => Sk C ops K Kp rest env' M') Kp
theorem Sn (hC : C.Good) {wS : Nat → Value} : ∀ (l : List Oper) (env : Nat → Value) (M : Mem), (∀ o ∈ l, o ∈ ops.toList) → rh (jO ops) wS env → KX C ops K Kp l env M →
  Sk C ops (fun env' M' => K env' M' ∧ rh (jO ops) wS env') Kp l env M := by
 intro l
 induction l with
 | nil => intro env M _ ho h; exact ⟨h, ho⟩
 | cons o rest ih =>
  intro env M hm ho h
  have hd : ∀ d, o.dst = some d → d ∈ jO ops := fun d hd => List.mem_filterMap.2 ⟨o, hm o (List.mem_cons_self ..), hd⟩
  exact kA (Ib ho hd (iz hC h)) fun env' M' hx => ih env' M' (fun o' W2 => hm o' (List.mem_cons_of_mem _ W2)) hx.2 hx.1
theorem Bj {N : Nat} {Z : Act → Prop} {F : Mem} {Q : Exit → Act → World → Prop} (hz : ∀ o ∈ ops.toList, ∀ (a : Act) (v : Value), Z a → Z (a.put o.dst v)) (hfit : ∀ o ∈ ops.toList, lq N o = true) (hpost : Post E N Z F K Kp Q) :
  ∀ (l : List Oper) (env : Nat → Value) (M : Mem) (a : Act) (w : World), (∀ o ∈ l, o ∈ ops.toList) → eO N env a.tmps → Z a → M.dj F → (M.union F).In E w →
   Sk C ops K Kp l env M → wpList C.P ops Q l a w := by
 intro l
 induction l with
 | nil => intro env M a w _ fk hds hd hi h; exact hpost.normal _ _ _ _ fk hds hd hi h
 | cons o rest ih =>
  intro env M a w hm fk hds hd hi h
  have hf := hfit o (hm o (List.mem_cons_self ..))
  have hb : fz C ops o env M (fun env' M' => Sk C ops K Kp rest env' M') Kp := h
  unfold wpList
  rw [pg fk hfit]
  unfold fz at hb
  split
  ·rename_i hw
   rw [if_pos hw] at hb
   refine .inl (q9 (K := fun v M' => Sk C ops K Kp rest (Go.AF.bD env o.dst v) M') (Kp := Kp) (F := F) (by rw [← fk.execOp hf]; exact vq hb) hd hi (fun v w' hv => ?_) (fun c w' hc => hpost.panic _ _ _ hds hc))
   obtain ⟨M', hk, hd', hi'⟩ := hv
   exact ih _ _ _ _ (fun o' W2 => hm o' (List.mem_cons_of_mem _ W2)) (fk.put (fJ hf).2.1 v) (hz o (hm o (List.mem_cons_self ..)) _ _ hds) hd' hi' hk
  ·rename_i hw
   rw [if_neg hw] at hb
   exact ih _ _ _ _ (fun o' W2 => hm o' (List.mem_cons_of_mem _ W2)) (fk.put (fJ hf).2.1 undef) (hz o (hm o (List.mem_cons_self ..)) _ _ hds) hd hi hb
end
structure Oc (E : qP) (N : Nat) (Z : Act → Prop) (F : Mem) (ws : List Nat) (wS : Nat → Value) (Q : Wq → (Nat → Value) → Mem → Prop) (Kp : List PanicEntry → Mem → Prop) (Q' : Exit → Act → World → Prop) : Prop where
 normal : ∀ env M a w, rh ws wS env → eO N env a.tmps → Z a → M.dj F → (M.union F).In E w → Q .normal env M → Q' .normal a w
 exit : ∀ id env M a w, rh ws wS env → eO N env a.tmps → Z a → M.dj F → (M.union F).In E w → Q (.exit id) env M → Q' (.exit id) a w
 ret : ∀ env M a w, rh ws wS env → eO N env a.tmps → Z a → M.dj F → (M.union F).In E w → Q .ret env M → Q' .ret a w
 panic : ∀ c a w, Z a → gr E F (Kp c) w → Q' (.panic c) a w
theorem Eg {c : D1} {v : Value} {K K' : Value → Prop} (h : W3 c K) (hv : HE c (some v) K') : K v ∧ K' v := by
 cases c <;> simp only [W3, HE] at h hv
 case int k =>
  unfold bG at hv; split at hv
  ·split at hv
   ·rename_i k' n he hk; cases he; subst hk; exact ⟨h _, hv⟩
   ·exact hv.elim
  ·exact hv.elim
 case bool => unfold dF at hv; split at hv <;> first | (rename_i he; cases he; exact ⟨h _, hv⟩) | exact hv.elim
 case str => unfold ff at hv; split at hv <;> first | (rename_i he; cases he; exact ⟨h _, hv⟩) | exact hv.elim
 case ptr => unfold dP at hv; split at hv <;> first | (rename_i he; cases he; exact ⟨h _, hv⟩) | exact hv.elim
 case sl => unfold aF at hv; split at hv <;> first | (rename_i he; cases he; exact ⟨h _ _ _, hv⟩) | exact hv.elim
 case val => exact ⟨h _, hv⟩
theorem Bk : ∀ {cs : List D1} {vs : List Value} {K K' : List Value → Prop}, N9 cs K → KD cs vs K' → K vs ∧ K' vs
 | [], [], K, K', h, hv => ⟨h, hv⟩
 | c :: cs, v :: vs, K, K', h, hv => by
  simp only [N9, KD] at h hv
  obtain ⟨h1, h2⟩ := Eg h hv
  exact Bk (K := fun vs => K (v :: vs)) (K' := fun vs => K' (v :: vs)) h1 h2
 | [], _ :: _, _, _, _, hv => hv.elim
 | _ :: _, [], _, _, _, hv => hv.elim
theorem KZ {c : Da} {v : Value} {K K' : Value → Prop} (h : Oa c K) (hv : KY c v K') : K v ∧ K' v := by
 cases c with
 | c c => exact Eg h hv
 | a l =>
  simp only [Oa, KY] at h hv
  cases v <;> try exact hv.elim
  rename_i cs
  have := Bk (vs := cs.toList) (K := fun vs => K (.agg vs.toArray)) (K' := fun vs => K' (.agg vs.toArray)) h hv
  simpa using this
 | b n =>
  simp only [Oa, KY] at h hv
  cases v <;> try exact hv.elim
  rename_i cs
  exact ⟨by simpa using h cs.toList hv.1, hv.2⟩
theorem Bl {env : Nat → Value} : ∀ {live : List (Nat × Da)} {K : List (Nat × Value) → Prop} {K' : List Value → Prop}, Ob live K → iK env live K' →
  ∃ l : List (Nat × Value), K l ∧ K' (l.map (·.2)) ∧ ∀ i, look l i (env i) = env i
 | [], K, K', h, hv => ⟨[], h, hv, fun _ => rfl⟩
 | (s, c) :: live, K, K', h, hv => by
  simp only [Ob, iK] at h hv
  obtain ⟨h1, h2⟩ := KZ h hv
  obtain ⟨l, g1, g2, g3⟩ := Bl (K := fun vs => K ((s, env s) :: vs)) (K' := fun vs => K' (env s :: vs)) h1 h2
  refine ⟨(s, env s) :: l, g1, g2, fun i => ?_⟩
  unfold look
  by_cases hi : i = s
  ·subst hi; simp
  ·have : Nat.beq i s = false := by cases hb : Nat.beq i s with
    | false => rfl
    | true => exact absurd (Nat.eq_of_beq_eq_true hb) hi
   simp [this, g3]
theorem ri {env g6 : Nat → Value} {ws : List Nat} {live : List (Nat × Da)} {J : List Value → Mem → Prop} {Q : (Nat → Value) → Mem → Prop} {M : Mem}
  (h : meet env ws live J Q) (ho : rh ws env g6) (hl : iK g6 live fun vs => J vs M) : Q g6 M := by
 obtain ⟨l, h1, h2, h3⟩ := Bl (h g6) hl
 have := h1 M h2
 have e : newEnv env g6 ws l = g6 := by
  funext i
  unfold newEnv
  cases hb : lE ws i with
  | true => exact h3 i
  | false => rw [← ho i hb]; exact h3 i
 rwa [e] at this
end Go.AF
