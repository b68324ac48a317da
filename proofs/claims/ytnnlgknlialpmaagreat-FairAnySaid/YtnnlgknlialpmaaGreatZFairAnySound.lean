/- A part of proofs about one program. -/
import Derived.Test.YtnnlgknlialpmaaGreatZFairAnyExec
set_option linter.unusedVariables false
namespace Go.AF
variable {E : sA}
def pn (ws : List Nat) (env env' : Nat → Value) : Prop := ∀ i, jQ ws i = false → env' i = env i
theorem gC : ∀ {l : List Nat} {i : Nat}, jQ l i = true ↔ i ∈ l
 | [], i => by simp [jQ]
 | k :: l, i => by
  unfold jQ
  by_cases h : i = k
  ·subst h; simp
  ·have : Nat.beq i k = false := by cases hb : Nat.beq i k with
    | false => rfl
    | true => exact absurd (Nat.eq_of_beq_eq_true hb) h
   simp [this, h, gC (l := l)]
theorem pn.refl (ws : List Nat) (env : Nat → Value) : pn ws env env := fun _ _ => rfl
theorem pn.mono {ws Sa : List Nat} {env env' : Nat → Value} (h : pn ws env env') (hs : ∀ i ∈ ws, i ∈ Sa) : pn Sa env env' := fun i hi => h i (by
 cases hb : jQ ws i with
 | false => rfl
 | true => have := gC.2 (hs i (gC.1 hb)); rw [hi] at this; cases this)
theorem pn.trans {ws Sa : List Nat} {env env' Sb : Nat → Value} (h : pn ws env env') (h' : pn Sa env' Sb) : pn (ws ++ Sa) env Sb := fun i hi => by
 have h1 : jQ ws i = false := by
  cases hb : jQ ws i with
  | false => rfl
  | true => have := gC.2 (List.mem_append_left Sa (gC.1 hb)); rw [hi] at this; cases this
 have h2 : jQ Sa i = false := by
  cases hb : jQ Sa i with
  | false => rfl
  | true => have := gC.2 (List.mem_append_right ws (gC.1 hb)); rw [hi] at this; cases this
 rw [h' i h2, h i h1]
theorem pn.bl {ws : List Nat} {env env' : Nat → Value} (h : pn ws env env') {dst : Option Tmp} (hd : ∀ d, dst = some d → d ∈ ws) (v : Value) : pn ws env (bl env' dst v) := fun i hi => by
 cases dst with
 | none => exact h i hi
 | some d =>
  rw [gO, if_neg, h i hi]
  rintro rfl
  have := gC.2 (hd i rfl); rw [hi] at this; cases this
section
variable {C : Ctx} {ops : Array Oper} {K : (Nat → Value) → Mem → Prop} {Kp : List PanicEntry → Mem → Prop}
theorem Ea {ws : List Nat} {o : Oper} {tW env : Nat → Value} {M : Mem} (ho : pn ws tW env) (hd : ∀ d, o.dst = some d → d ∈ ws) (h : ei C ops o env M K Kp) :
  ei C ops o env M (fun env' M' => K env' M' ∧ pn ws tW env') Kp := by
 unfold ei at h ⊢
 split
 ·rename_i hw; rw [if_pos hw] at h; exact mz h fun v M' hv => ⟨hv, ho.bl hd v⟩
 ·rename_i hw; rw [if_neg hw] at h; exact ⟨h, ho.bl hd undef⟩
theorem Eb {i : Nat} {o : Oper} (h : ops[i]? = some o) : ∀ d, o.dst = some d → d ∈ iE ops := fun d hd =>
 List.mem_filterMap.2 ⟨o, by have := Array.mem_of_getElem? h; simpa using this, hd⟩
theorem Mi {S : Mem → Prop} {tW : Nat → Value} : ∀ (f L : Nat) (env : Nat → Value) (M : Mem), pn (iE ops) tW env → dH C ops S K Kp f L env M →
  dH C ops S (fun env' M' => K env' M' ∧ pn (iE ops) tW env') Kp f L env M := by
 intro f
 induction f with
 | zero => intro L env M ho h eV; exact ⟨(h eV).1, (h eV).2, ho⟩
 | succ f ih =>
  intro L env M ho h eV
  obtain ⟨h1, h2⟩ := h eV
  refine ⟨fun hno => ⟨h1 hno, ho⟩, fun i hi => ?_⟩
  have := h2 i hi
  unfold gf at this ⊢
  cases hoi : ops[i]? with
  | none => rw [hoi] at this; exact ⟨this.1, ih _ _ _ ho this.2⟩
  | some o =>
   rw [hoi] at this
   exact jc (Ea ho (Eb hoi) this) fun env' M' hx => ⟨hx.1.1, ih _ _ _ hx.2 hx.1.2⟩
def Mj (C : Ctx) (ops : Array Oper) (K : (Nat → Value) → Mem → Prop) (Kp : List PanicEntry → Mem → Prop) : List Oper → (Nat → Value) → Mem → Prop
 | [], env, M => K env M
 | o :: rest, env, M => ei C ops o env M (fun env' M' => Mj C ops K Kp rest env' M') Kp
theorem Mk (hC : C.Good) {tW : Nat → Value} : ∀ (l : List Oper) (env : Nat → Value) (M : Mem), (∀ o ∈ l, o ∈ ops.toList) → pn (iE ops) tW env → Ty C ops K Kp l env M →
  Mj C ops (fun env' M' => K env' M' ∧ pn (iE ops) tW env') Kp l env M := by
 intro l
 induction l with
 | nil => intro env M _ ho h; exact ⟨h, ho⟩
 | cons o rest ih =>
  intro env M hm ho h
  have hd : ∀ d, o.dst = some d → d ∈ iE ops := fun d hd => List.mem_filterMap.2 ⟨o, hm o (List.mem_cons_self ..), hd⟩
  exact jc (Ea ho hd (iD hC h)) fun env' M' hx => ih env' M' (fun o' Xp => hm o' (List.mem_cons_of_mem _ Xp)) hx.2 hx.1
theorem yB {N : Nat} {Z : Act → Prop} {F : Mem} {Q : Exit → Act → World → Prop} (hz : ∀ o ∈ ops.toList, ∀ (a : Act) (v : Value), Z a → Z (a.put o.dst v)) (hfit : ∀ o ∈ ops.toList, nt N o = true) (hpost : Post E N Z F K Kp Q) :
  ∀ (l : List Oper) (env : Nat → Value) (M : Mem) (a : Act) (w : World), (∀ o ∈ l, o ∈ ops.toList) → dS N env a.tmps → Z a → M.dj F → (M.union F).In E w →
   Mj C ops K Kp l env M → wpList C.P ops Q l a w := by
 intro l
 induction l with
 | nil => intro env M a w _ eO hds hd hi h; exact hpost.normal _ _ _ _ eO hds hd hi h
 | cons o rest ih =>
  intro env M a w hm eO hds hd hi h
  have hf := hfit o (hm o (List.mem_cons_self ..))
  have hb : ei C ops o env M (fun env' M' => Mj C ops K Kp rest env' M') Kp := h
  unfold wpList
  rw [tV eO hfit]
  unfold ei at hb
  split
  ·rename_i hw
   rw [if_pos hw] at hb
   refine .inl (wM (K := fun v M' => Mj C ops K Kp rest (Go.AF.bl env o.dst v) M') (Kp := Kp) (F := F) (by rw [← eO.execOp hf]; exact yw hb) hd hi (fun v w' hv => ?_) (fun c w' hc => hpost.panic _ _ _ hds hc))
   obtain ⟨M', hk, hd', hi'⟩ := hv
   exact ih _ _ _ _ (fun o' Xp => hm o' (List.mem_cons_of_mem _ Xp)) (eO.put (gq hf).2.1 v) (hz o (hm o (List.mem_cons_self ..)) _ _ hds) hd' hi' hk
  ·rename_i hw
   rw [if_neg hw] at hb
   exact ih _ _ _ _ (fun o' Xp => hm o' (List.mem_cons_of_mem _ Xp)) (eO.put (gq hf).2.1 undef) (hz o (hm o (List.mem_cons_self ..)) _ _ hds) hd hi hb
end
structure Ig (E : sA) (N : Nat) (Z : Act → Prop) (F : Mem) (ws : List Nat) (tW : Nat → Value) (Q : Pw → (Nat → Value) → Mem → Prop) (Kp : List PanicEntry → Mem → Prop) (Q' : Exit → Act → World → Prop) : Prop where
 normal : ∀ env M a w, pn ws tW env → dS N env a.tmps → Z a → M.dj F → (M.union F).In E w → Q .normal env M → Q' .normal a w
 exit : ∀ id env M a w, pn ws tW env → dS N env a.tmps → Z a → M.dj F → (M.union F).In E w → Q (.exit id) env M → Q' (.exit id) a w
 ret : ∀ env M a w, pn ws tW env → dS N env a.tmps → Z a → M.dj F → (M.union F).In E w → Q .ret env M → Q' .ret a w
 panic : ∀ c a w, Z a → fR E F (Kp c) w → Q' (.panic c) a w
theorem BB {c : Bo} {v : Value} {K K' : Value → Prop} (h : P8 c K) (hv : DL c (some v) K') : K v ∧ K' v := by
 cases c <;> simp only [P8, DL] at h hv
 case int k =>
  unfold aJ at hv; split at hv
  ·split at hv
   ·rename_i k' n he hk; cases he; subst hk; exact ⟨h _, hv⟩
   ·exact hv.elim
  ·exact hv.elim
 case bool => unfold de at hv; split at hv <;> first | (rename_i he; cases he; exact ⟨h _, hv⟩) | exact hv.elim
 case str => unfold fm at hv; split at hv <;> first | (rename_i he; cases he; exact ⟨h _, hv⟩) | exact hv.elim
 case ptr => unfold cy at hv; split at hv <;> first | (rename_i he; cases he; exact ⟨h _, hv⟩) | exact hv.elim
 case sl => unfold aB at hv; split at hv <;> first | (rename_i he; cases he; exact ⟨h _ _ _, hv⟩) | exact hv.elim
 case val => exact ⟨h _, hv⟩
theorem yC : ∀ {cs : List Bo} {vs : List Value} {K K' : List Value → Prop}, Ib cs K → FP cs vs K' → K vs ∧ K' vs
 | [], [], K, K', h, hv => ⟨h, hv⟩
 | c :: cs, v :: vs, K, K', h, hv => by
  simp only [Ib, FP] at h hv
  obtain ⟨h1, h2⟩ := BB h hv
  exact yC (K := fun vs => K (v :: vs)) (K' := fun vs => K' (v :: vs)) h1 h2
 | [], _ :: _, _, _, _, hv => hv.elim
 | _ :: _, [], _, _, _, hv => hv.elim
theorem Gb {c : AA} {v : Value} {K K' : Value → Prop} (h : Ic c K) (hv : Ga c v K') : K v ∧ K' v := by
 cases c with
 | c c => exact BB h hv
 | a l =>
  simp only [Ic, Ga] at h hv
  cases v <;> try exact hv.elim
  rename_i cs
  have := yC (vs := cs.toList) (K := fun vs => K (.agg vs.toArray)) (K' := fun vs => K' (.agg vs.toArray)) h hv
  simpa using this
 | b n =>
  simp only [Ic, Ga] at h hv
  cases v <;> try exact hv.elim
  rename_i cs
  exact ⟨by simpa using h cs.toList hv.1, hv.2⟩
theorem yD {env : Nat → Value} : ∀ {live : List (Nat × AA)} {K : List (Nat × Value) → Prop} {K' : List Value → Prop}, Ie live K → gK env live K' →
  ∃ l : List (Nat × Value), K l ∧ K' (l.map (·.2)) ∧ ∀ i, look l i (env i) = env i
 | [], K, K', h, hv => ⟨[], h, hv, fun _ => rfl⟩
 | (s, c) :: live, K, K', h, hv => by
  simp only [Ie, gK] at h hv
  obtain ⟨h1, h2⟩ := Gb h hv
  obtain ⟨l, g1, g2, g3⟩ := yD (K := fun vs => K ((s, env s) :: vs)) (K' := fun vs => K' (env s :: vs)) h1 h2
  refine ⟨(s, env s) :: l, g1, g2, fun i => ?_⟩
  unfold look
  by_cases hi : i = s
  ·subst hi; simp
  ·have : Nat.beq i s = false := by cases hb : Nat.beq i s with
    | false => rfl
    | true => exact absurd (Nat.eq_of_beq_eq_true hb) hi
   simp [this, g3]
theorem po {env gr : Nat → Value} {ws : List Nat} {live : List (Nat × AA)} {J : List Value → Mem → Prop} {Q : (Nat → Value) → Mem → Prop} {M : Mem}
  (h : meet env ws live J Q) (ho : pn ws env gr) (hl : gK gr live fun vs => J vs M) : Q gr M := by
 obtain ⟨l, h1, h2, h3⟩ := yD (h gr) hl
 have := h1 M h2
 have e : newEnv env gr ws l = gr := by
  funext i
  unfold newEnv
  cases hb : jQ ws i with
  | true => exact h3 i
  | false => rw [← ho i hb]; exact h3 i
 rwa [e] at this
end Go.AF
