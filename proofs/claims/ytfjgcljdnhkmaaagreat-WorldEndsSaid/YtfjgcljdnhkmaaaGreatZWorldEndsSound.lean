/- A part of proofs about one program. -/
import Derived.Test.YtfjgcljdnhkmaaaGreatZWorldEndsExec
set_option linter.unusedVariables false
namespace Go.AF
variable {E : ve}
def qU (ws : List Nat) (env env' : Nat → Value) : Prop := ∀ i, lq ws i = false → env' i = env i
theorem ij : ∀ {l : List Nat} {i : Nat}, lq l i = true ↔ i ∈ l
 | [], i => by simp [lq]
 | k :: l, i => by
  unfold lq
  by_cases h : i = k
  ·subst h; simp
  ·have : Nat.beq i k = false := by cases hb : Nat.beq i k with
    | false => rfl
    | true => exact absurd (Nat.eq_of_beq_eq_true hb) h
   simp [this, h, ij (l := l)]
theorem qU.refl (ws : List Nat) (env : Nat → Value) : qU ws env env := fun _ _ => rfl
theorem qU.mono {ws Y0 : List Nat} {env env' : Nat → Value} (h : qU ws env env') (hs : ∀ i ∈ ws, i ∈ Y0) : qU Y0 env env' := fun i hi => h i (by
 cases hb : lq ws i with
 | false => rfl
 | true => have := ij.2 (hs i (ij.1 hb)); rw [hi] at this; cases this)
theorem qU.trans {ws Y0 : List Nat} {env env' Y1 : Nat → Value} (h : qU ws env env') (h' : qU Y0 env' Y1) : qU (ws ++ Y0) env Y1 := fun i hi => by
 have h1 : lq ws i = false := by
  cases hb : lq ws i with
  | false => rfl
  | true => have := ij.2 (List.mem_append_left Y0 (ij.1 hb)); rw [hi] at this; cases this
 have h2 : lq Y0 i = false := by
  cases hb : lq Y0 i with
  | false => rfl
  | true => have := ij.2 (List.mem_append_right ws (ij.1 hb)); rw [hi] at this; cases this
 rw [h' i h2, h i h1]
theorem qU.bG {ws : List Nat} {env env' : Nat → Value} (h : qU ws env env') {dst : Option Tmp} (hd : ∀ d, dst = some d → d ∈ ws) (v : Value) : qU ws env (bG env' dst v) := fun i hi => by
 cases dst with
 | none => exact h i hi
 | some d =>
  rw [kI, if_neg, h i hi]
  rintro rfl
  have := ij.2 (hd i rfl); rw [hi] at this; cases this
section
variable {C : Ctx} {ops : Array Oper} {K : (Nat → Value) → Mem → Prop} {Kp : List PanicEntry → Mem → Prop}
theorem HI {ws : List Nat} {o : Oper} {wK env : Nat → Value} {M : Mem} (ho : qU ws wK env) (hd : ∀ d, o.dst = some d → d ∈ ws) (h : fA C ops o env M K Kp) :
  fA C ops o env M (fun env' M' => K env' M' ∧ qU ws wK env') Kp := by
 unfold fA at h ⊢
 split
 ·rename_i hw; rw [if_pos hw] at h; exact nU h fun v M' hv => ⟨hv, ho.bG hd v⟩
 ·rename_i hw; rw [if_neg hw] at h; exact ⟨h, ho.bG hd undef⟩
theorem HJ {i : Nat} {o : Oper} (h : ops[i]? = some o) : ∀ d, o.dst = some d → d ∈ jK ops := fun d hd =>
 List.mem_filterMap.2 ⟨o, by have := Array.mem_of_getElem? h; simpa using this, hd⟩
theorem Rt {S : Mem → Prop} {wK : Nat → Value} : ∀ (f L : Nat) (env : Nat → Value) (M : Mem), qU (jK ops) wK env → eP C ops S K Kp f L env M →
  eP C ops S (fun env' M' => K env' M' ∧ qU (jK ops) wK env') Kp f L env M := by
 intro f
 induction f with
 | zero => intro L env M ho h fX; exact ⟨(h fX).1, (h fX).2, ho⟩
 | succ f ih =>
  intro L env M ho h fX
  obtain ⟨h1, h2⟩ := h fX
  refine ⟨fun hno => ⟨h1 hno, ho⟩, fun i hi => ?_⟩
  have := h2 i hi
  unfold gO at this ⊢
  cases hoi : ops[i]? with
  | none => rw [hoi] at this; exact ⟨this.1, ih _ _ _ ho this.2⟩
  | some o =>
   rw [hoi] at this
   exact kj (HI ho (HJ hoi) this) fun env' M' hx => ⟨hx.1.1, ih _ _ _ hx.2 hx.1.2⟩
def Ru (C : Ctx) (ops : Array Oper) (K : (Nat → Value) → Mem → Prop) (Kp : List PanicEntry → Mem → Prop) : List Oper → (Nat → Value) → Mem → Prop
 | [], env, M => K env M
 | o :: rest, env, M => fA C ops o env M (fun env' M' => Ru C ops K Kp rest env' M') Kp
theorem Rv (hC : C.Good) {wK : Nat → Value} : ∀ (l : List Oper) (env : Nat → Value) (M : Mem), (∀ o ∈ l, o ∈ ops.toList) → qU (jK ops) wK env → ZY C ops K Kp l env M →
  Ru C ops (fun env' M' => K env' M' ∧ qU (jK ops) wK env') Kp l env M := by
 intro l
 induction l with
 | nil => intro env M _ ho h; exact ⟨h, ho⟩
 | cons o rest ih =>
  intro env M hm ho h
  have hd : ∀ d, o.dst = some d → d ∈ jK ops := fun d hd => List.mem_filterMap.2 ⟨o, hm o (List.mem_cons_self ..), hd⟩
  exact kj (HI ho hd (jJ hC h)) fun env' M' hx => ih env' M' (fun o' ho' => hm o' (List.mem_cons_of_mem _ ho')) hx.2 hx.1
theorem Be {N : Nat} {Z : Act → Prop} {F : Mem} {Q : Exit → Act → World → Prop} (hz : ∀ o ∈ ops.toList, ∀ (a : Act) (v : Value), Z a → Z (a.put o.dst v)) (hfit : ∀ o ∈ ops.toList, oV N o = true) (hpost : Post E N Z F K Kp Q) :
  ∀ (l : List Oper) (env : Nat → Value) (M : Mem) (a : Act) (w : World), (∀ o ∈ l, o ∈ ops.toList) → fF N env a.tmps → Z a → M.dj F → (M.union F).In E w →
   Ru C ops K Kp l env M → wpList C.P ops Q l a w := by
 intro l
 induction l with
 | nil => intro env M a w _ fW hds hd hi h; exact hpost.normal _ _ _ _ fW hds hd hi h
 | cons o rest ih =>
  intro env M a w hm fW hds hd hi h
  have hf := hfit o (hm o (List.mem_cons_self ..))
  have hb : fA C ops o env M (fun env' M' => Ru C ops K Kp rest env' M') Kp := h
  unfold wpList
  rw [wJ fW hfit]
  unfold fA at hb
  split
  ·rename_i hw
   rw [if_pos hw] at hb
   refine .inl (zk (K := fun v M' => Ru C ops K Kp rest (Go.AF.bG env o.dst v) M') (Kp := Kp) (F := F) (by rw [← fW.execOp hf]; exact AZ hb) hd hi (fun v w' hv => ?_) (fun c w' hc => hpost.panic _ _ _ hds hc))
   obtain ⟨M', hk, hd', hi'⟩ := hv
   exact ih _ _ _ _ (fun o' ho' => hm o' (List.mem_cons_of_mem _ ho')) (fW.put (gX hf).2.1 v) (hz o (hm o (List.mem_cons_self ..)) _ _ hds) hd' hi' hk
  ·rename_i hw
   rw [if_neg hw] at hb
   exact ih _ _ _ _ (fun o' ho' => hm o' (List.mem_cons_of_mem _ ho')) (fW.put (gX hf).2.1 undef) (hz o (hm o (List.mem_cons_self ..)) _ _ hds) hd hi hb
end
structure NF (E : ve) (N : Nat) (Z : Act → Prop) (F : Mem) (ws : List Nat) (wK : Nat → Value) (Q : Wi → (Nat → Value) → Mem → Prop) (Kp : List PanicEntry → Mem → Prop) (Q' : Exit → Act → World → Prop) : Prop where
 normal : ∀ env M a w, qU ws wK env → fF N env a.tmps → Z a → M.dj F → (M.union F).In E w → Q .normal env M → Q' .normal a w
 exit : ∀ id env M a w, qU ws wK env → fF N env a.tmps → Z a → M.dj F → (M.union F).In E w → Q (.exit id) env M → Q' (.exit id) a w
 ret : ∀ env M a w, qU ws wK env → fF N env a.tmps → Z a → M.dj F → (M.union F).In E w → Q .ret env M → Q' .ret a w
 panic : ∀ c a w, Z a → iI E F (Kp c) w → Q' (.panic c) a w
theorem DR {c : DE} {v : Value} {K K' : Value → Prop} (h : Wh c K) (hv : G9 c (some v) K') : K v ∧ K' v := by
 cases c <;> simp only [Wh, G9] at h hv
 case int k =>
  unfold bF at hv; split at hv
  ·split at hv
   ·rename_i k' n he hk; cases he; subst hk; exact ⟨h _, hv⟩
   ·exact hv.elim
  ·exact hv.elim
 case bool => unfold dG at hv; split at hv <;> first | (rename_i he; cases he; exact ⟨h _, hv⟩) | exact hv.elim
 case str => unfold fa at hv; split at hv <;> first | (rename_i he; cases he; exact ⟨h _, hv⟩) | exact hv.elim
 case ptr => unfold dP at hv; split at hv <;> first | (rename_i he; cases he; exact ⟨h _, hv⟩) | exact hv.elim
 case sl => unfold aF at hv; split at hv <;> first | (rename_i he; cases he; exact ⟨h _ _ _, hv⟩) | exact hv.elim
 case val => exact ⟨h _, hv⟩
theorem Bf : ∀ {cs : List DE} {vs : List Value} {K K' : List Value → Prop}, NB cs K → Kb cs vs K' → K vs ∧ K' vs
 | [], [], K, K', h, hv => ⟨h, hv⟩
 | c :: cs, v :: vs, K, K', h, hv => by
  simp only [NB, Kb] at h hv
  obtain ⟨h1, h2⟩ := DR h hv
  exact Bf (K := fun vs => K (v :: vs)) (K' := fun vs => K' (v :: vs)) h1 h2
 | [], _ :: _, _, _, _, hv => hv.elim
 | _ :: _, [], _, _, _, hv => hv.elim
theorem Kx {c : CR} {v : Value} {K K' : Value → Prop} (h : NC c K) (hv : Kw c v K') : K v ∧ K' v := by
 cases c with
 | c c => exact DR h hv
 | a l =>
  simp only [NC, Kw] at h hv
  cases v <;> try exact hv.elim
  rename_i cs
  have := Bf (vs := cs.toList) (K := fun vs => K (.agg vs.toArray)) (K' := fun vs => K' (.agg vs.toArray)) h hv
  simpa using this
 | b n =>
  simp only [NC, Kw] at h hv
  cases v <;> try exact hv.elim
  rename_i cs
  exact ⟨by simpa using h cs.toList hv.1, hv.2⟩
theorem Bg {env : Nat → Value} : ∀ {live : List (Nat × CR)} {K : List (Nat × Value) → Prop} {K' : List Value → Prop}, ND live K → iC env live K' →
  ∃ l : List (Nat × Value), K l ∧ K' (l.map (·.2)) ∧ ∀ i, look l i (env i) = env i
 | [], K, K', h, hv => ⟨[], h, hv, fun _ => rfl⟩
 | (s, c) :: live, K, K', h, hv => by
  simp only [ND, iC] at h hv
  obtain ⟨h1, h2⟩ := Kx h hv
  obtain ⟨l, g1, g2, g3⟩ := Bg (K := fun vs => K ((s, env s) :: vs)) (K' := fun vs => K' (env s :: vs)) h1 h2
  refine ⟨(s, env s) :: l, g1, g2, fun i => ?_⟩
  unfold look
  by_cases hi : i = s
  ·subst hi; simp
  ·have : Nat.beq i s = false := by cases hb : Nat.beq i s with
    | false => rfl
    | true => exact absurd (Nat.eq_of_beq_eq_true hb) hi
   simp [this, g3]
theorem qV {env iD : Nat → Value} {ws : List Nat} {live : List (Nat × CR)} {J : List Value → Mem → Prop} {Q : (Nat → Value) → Mem → Prop} {M : Mem}
  (h : meet env ws live J Q) (ho : qU ws env iD) (hl : iC iD live fun vs => J vs M) : Q iD M := by
 obtain ⟨l, h1, h2, h3⟩ := Bg (h iD) hl
 have := h1 M h2
 have e : newEnv env iD ws l = iD := by
  funext i
  unfold newEnv
  cases hb : lq ws i with
  | true => exact h3 i
  | false => rw [← ho i hb]; exact h3 i
 rwa [e] at this
end Go.AF
