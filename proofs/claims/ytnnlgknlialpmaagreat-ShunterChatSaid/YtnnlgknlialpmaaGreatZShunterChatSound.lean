/- A part of proofs about one program. -/
import Derived.Test.YtnnlgknlialpmaaGreatZShunterChatExec
set_option linter.unusedVariables false
namespace Go.AF
variable {E : qY}
def ov (ws : List Nat) (env env' : Nat → Value) : Prop := ∀ i, jv ws i = false → env' i = env i
theorem gd : ∀ {l : List Nat} {i : Nat}, jv l i = true ↔ i ∈ l
 | [], i => by simp [jv]
 | k :: l, i => by
  unfold jv
  by_cases h : i = k
  ·subst h; simp
  ·have : Nat.beq i k = false := by cases hb : Nat.beq i k with
    | false => rfl
    | true => exact absurd (Nat.eq_of_beq_eq_true hb) h
   simp [this, h, gd (l := l)]
theorem ov.refl (ws : List Nat) (env : Nat → Value) : ov ws env env := fun _ _ => rfl
theorem ov.mono {ws Rb : List Nat} {env env' : Nat → Value} (h : ov ws env env') (hs : ∀ i ∈ ws, i ∈ Rb) : ov Rb env env' := fun i hi => h i (by
 cases hb : jv ws i with
 | false => rfl
 | true => have := gd.2 (hs i (gd.1 hb)); rw [hi] at this; cases this)
theorem ov.trans {ws Rb : List Nat} {env env' Rc : Nat → Value} (h : ov ws env env') (h' : ov Rb env' Rc) : ov (ws ++ Rb) env Rc := fun i hi => by
 have h1 : jv ws i = false := by
  cases hb : jv ws i with
  | false => rfl
  | true => have := gd.2 (List.mem_append_left Rb (gd.1 hb)); rw [hi] at this; cases this
 have h2 : jv Rb i = false := by
  cases hb : jv Rb i with
  | false => rfl
  | true => have := gd.2 (List.mem_append_right ws (gd.1 hb)); rw [hi] at this; cases this
 rw [h' i h2, h i h1]
theorem ov.aY {ws : List Nat} {env env' : Nat → Value} (h : ov ws env env') {dst : Option Tmp} (hd : ∀ d, dst = some d → d ∈ ws) (v : Value) : ov ws env (aY env' dst v) := fun i hi => by
 cases dst with
 | none => exact h i hi
 | some d =>
  rw [gy, if_neg, h i hi]
  rintro rfl
  have := gd.2 (hd i rfl); rw [hi] at this; cases this
section
variable {C : Ctx} {ops : Array Oper} {K : (Nat → Value) → Mem → Prop} {Kp : List PanicEntry → Mem → Prop}
theorem Dr {ws : List Nat} {o : Oper} {sP env : Nat → Value} {M : Mem} (ho : ov ws sP env) (hd : ∀ d, o.dst = some d → d ∈ ws) (h : dO C ops o env M K Kp) :
  dO C ops o env M (fun env' M' => K env' M' ∧ ov ws sP env') Kp := by
 unfold dO at h ⊢
 split
 ·rename_i hw; rw [if_pos hw] at h; exact lG h fun v M' hv => ⟨hv, ho.aY hd v⟩
 ·rename_i hw; rw [if_neg hw] at h; exact ⟨h, ho.aY hd undef⟩
theorem Ds {i : Nat} {o : Oper} (h : ops[i]? = some o) : ∀ d, o.dst = some d → d ∈ g9 ops := fun d hd =>
 List.mem_filterMap.2 ⟨o, by have := Array.mem_of_getElem? h; simpa using this, hd⟩
theorem Lb {S : Mem → Prop} {sP : Nat → Value} : ∀ (f L : Nat) (env : Nat → Value) (M : Mem), ov (g9 ops) sP env → dg C ops S K Kp f L env M →
  dg C ops S (fun env' M' => K env' M' ∧ ov (g9 ops) sP env') Kp f L env M := by
 intro f
 induction f with
 | zero => intro L env M ho h eL; exact ⟨(h eL).1, (h eL).2, ho⟩
 | succ f ih =>
  intro L env M ho h eL
  obtain ⟨h1, h2⟩ := h eL
  refine ⟨fun hno => ⟨h1 hno, ho⟩, fun i hi => ?_⟩
  have := h2 i hi
  unfold fK at this ⊢
  cases Y0 : ops[i]? with
  | none => rw [Y0] at this; exact ⟨this.1, ih _ _ _ ho this.2⟩
  | some o =>
   rw [Y0] at this
   exact iJ (Dr ho (Ds Y0) this) fun env' M' hx => ⟨hx.1.1, ih _ _ _ hx.2 hx.1.2⟩
def Lc (C : Ctx) (ops : Array Oper) (K : (Nat → Value) → Mem → Prop) (Kp : List PanicEntry → Mem → Prop) : List Oper → (Nat → Value) → Mem → Prop
 | [], env, M => K env M
 | o :: rest, env, M => dO C ops o env M (fun env' M' => Lc C ops K Kp rest env' M') Kp
theorem Ld (hC : C.Good) {sP : Nat → Value} : ∀ (l : List Oper) (env : Nat → Value) (M : Mem), (∀ o ∈ l, o ∈ ops.toList) → ov (g9 ops) sP env → SD C ops K Kp l env M →
  Lc C ops (fun env' M' => K env' M' ∧ ov (g9 ops) sP env') Kp l env M := by
 intro l
 induction l with
 | nil => intro env M _ ho h; exact ⟨h, ho⟩
 | cons o rest ih =>
  intro env M hm ho h
  have hd : ∀ d, o.dst = some d → d ∈ g9 ops := fun d hd => List.mem_filterMap.2 ⟨o, hm o (List.mem_cons_self ..), hd⟩
  exact iJ (Dr ho hd (g8 hC h)) fun env' M' hx => ih env' M' (fun o' VW => hm o' (List.mem_cons_of_mem _ VW)) hx.2 hx.1
theorem xB {N : Nat} {Z : Act → Prop} {F : Mem} {Q : Exit → Act → World → Prop} (hz : ∀ o ∈ ops.toList, ∀ (a : Act) (v : Value), Z a → Z (a.put o.dst v)) (hfit : ∀ o ∈ ops.toList, mD N o = true) (hpost : Post E N Z F K Kp Q) :
  ∀ (l : List Oper) (env : Nat → Value) (M : Mem) (a : Act) (w : World), (∀ o ∈ l, o ∈ ops.toList) → dG N env a.tmps → Z a → M.dj F → (M.union F).In E w →
   Lc C ops K Kp l env M → wpList C.P ops Q l a w := by
 intro l
 induction l with
 | nil => intro env M a w _ eE hds hd hi h; exact hpost.normal _ _ _ _ eE hds hd hi h
 | cons o rest ih =>
  intro env M a w hm eE hds hd hi h
  have hf := hfit o (hm o (List.mem_cons_self ..))
  have hb : dO C ops o env M (fun env' M' => Lc C ops K Kp rest env' M') Kp := h
  unfold wpList
  rw [sO eE hfit]
  unfold dO at hb
  split
  ·rename_i hw
   rw [if_pos hw] at hb
   refine .inl (vK (K := fun v M' => Lc C ops K Kp rest (Go.AF.aY env o.dst v) M') (Kp := Kp) (F := F) (by rw [← eE.execOp hf]; exact xu hb) hd hi (fun v w' hv => ?_) (fun c w' hc => hpost.panic _ _ _ hds hc))
   obtain ⟨M', hk, hd', hi'⟩ := hv
   exact ih _ _ _ _ (fun o' VW => hm o' (List.mem_cons_of_mem _ VW)) (eE.put (fR hf).2.1 v) (hz o (hm o (List.mem_cons_self ..)) _ _ hds) hd' hi' hk
  ·rename_i hw
   rw [if_neg hw] at hb
   exact ih _ _ _ _ (fun o' VW => hm o' (List.mem_cons_of_mem _ VW)) (eE.put (fR hf).2.1 undef) (hz o (hm o (List.mem_cons_self ..)) _ _ hds) hd hi hb
end
structure Hf (E : qY) (N : Nat) (Z : Act → Prop) (F : Mem) (ws : List Nat) (sP : Nat → Value) (Q : Om → (Nat → Value) → Mem → Prop) (Kp : List PanicEntry → Mem → Prop) (Q' : Exit → Act → World → Prop) : Prop where
 normal : ∀ env M a w, ov ws sP env → dG N env a.tmps → Z a → M.dj F → (M.union F).In E w → Q .normal env M → Q' .normal a w
 exit : ∀ id env M a w, ov ws sP env → dG N env a.tmps → Z a → M.dj F → (M.union F).In E w → Q (.exit id) env M → Q' (.exit id) a w
 ret : ∀ env M a w, ov ws sP env → dG N env a.tmps → Z a → M.dj F → (M.union F).In E w → Q .ret env M → Q' .ret a w
 panic : ∀ c a w, Z a → fC E F (Kp c) w → Q' (.panic c) a w
theorem Au {c : Ae} {v : Value} {K K' : Value → Prop} (h : OW c K) (hv : C1 c (some v) K') : K v ∧ K' v := by
 cases c <;> simp only [OW, C1] at h hv
 case int k =>
  unfold aH at hv; split at hv
  ·split at hv
   ·rename_i k' n he hk; cases he; subst hk; exact ⟨h _, hv⟩
   ·exact hv.elim
  ·exact hv.elim
 case bool => unfold cK at hv; split at hv <;> first | (rename_i he; cases he; exact ⟨h _, hv⟩) | exact hv.elim
 case str => unfold dM at hv; split at hv <;> first | (rename_i he; cases he; exact ⟨h _, hv⟩) | exact hv.elim
 case ptr => unfold b8 at hv; split at hv <;> first | (rename_i he; cases he; exact ⟨h _, hv⟩) | exact hv.elim
 case sl => unfold az at hv; split at hv <;> first | (rename_i he; cases he; exact ⟨h _ _ _, hv⟩) | exact hv.elim
 case val => exact ⟨h _, hv⟩
theorem xC : ∀ {cs : List Ae} {vs : List Value} {K K' : List Value → Prop}, G8 cs K → E3 cs vs K' → K vs ∧ K' vs
 | [], [], K, K', h, hv => ⟨h, hv⟩
 | c :: cs, v :: vs, K, K', h, hv => by
  simp only [G8, E3] at h hv
  obtain ⟨h1, h2⟩ := Au h hv
  exact xC (K := fun vs => K (v :: vs)) (K' := fun vs => K' (v :: vs)) h1 h2
 | [], _ :: _, _, _, _, hv => hv.elim
 | _ :: _, [], _, _, _, hv => hv.elim
theorem Fp {c : zB} {v : Value} {K K' : Value → Prop} (h : G9 c K) (hv : Fo c v K') : K v ∧ K' v := by
 cases c with
 | c c => exact Au h hv
 | a l =>
  simp only [G9, Fo] at h hv
  cases v <;> try exact hv.elim
  rename_i cs
  have := xC (vs := cs.toList) (K := fun vs => K (.agg vs.toArray)) (K' := fun vs => K' (.agg vs.toArray)) h hv
  simpa using this
 | b n =>
  simp only [G9, Fo] at h hv
  cases v <;> try exact hv.elim
  rename_i cs
  exact ⟨by simpa using h cs.toList hv.1, hv.2⟩
theorem xD {env : Nat → Value} : ∀ {live : List (Nat × zB)} {K : List (Nat × Value) → Prop} {K' : List Value → Prop}, He live K → gu env live K' →
  ∃ l : List (Nat × Value), K l ∧ K' (l.map (·.2)) ∧ ∀ i, look l i (env i) = env i
 | [], K, K', h, hv => ⟨[], h, hv, fun _ => rfl⟩
 | (s, c) :: live, K, K', h, hv => by
  simp only [He, gu] at h hv
  obtain ⟨h1, h2⟩ := Fp h hv
  obtain ⟨l, g1, g2, g3⟩ := xD (K := fun vs => K ((s, env s) :: vs)) (K' := fun vs => K' (env s :: vs)) h1 h2
  refine ⟨(s, env s) :: l, g1, g2, fun i => ?_⟩
  unfold look
  by_cases hi : i = s
  ·subst hi; simp
  ·have : Nat.beq i s = false := by cases hb : Nat.beq i s with
    | false => rfl
    | true => exact absurd (Nat.eq_of_beq_eq_true hb) hi
   simp [this, g3]
theorem ox {env fS : Nat → Value} {ws : List Nat} {live : List (Nat × zB)} {J : List Value → Mem → Prop} {Q : (Nat → Value) → Mem → Prop} {M : Mem}
  (h : meet env ws live J Q) (ho : ov ws env fS) (hl : gu fS live fun vs => J vs M) : Q fS M := by
 obtain ⟨l, h1, h2, h3⟩ := xD (h fS) hl
 have := h1 M h2
 have e : newEnv env fS ws l = fS := by
  funext i
  unfold newEnv
  cases hb : jv ws i with
  | true => exact h3 i
  | false => rw [← ho i hb]; exact h3 i
 rwa [e] at this
end Go.AF
