/- A part of proofs about one program. -/
import Derived.Test.YtnnlgknlialpmaaGreatZFairBoundExec
set_option linter.unusedVariables false
namespace Go.AF
variable {E : sB}
def pA (ws : List Nat) (env env' : Nat → Value) : Prop := ∀ i, jS ws i = false → env' i = env i
theorem gF : ∀ {l : List Nat} {i : Nat}, jS l i = true ↔ i ∈ l
 | [], i => by simp [jS]
 | k :: l, i => by
  unfold jS
  by_cases h : i = k
  ·subst h; simp
  ·have : Nat.beq i k = false := by cases hb : Nat.beq i k with
    | false => rfl
    | true => exact absurd (Nat.eq_of_beq_eq_true hb) h
   simp [this, h, gF (l := l)]
theorem pA.refl (ws : List Nat) (env : Nat → Value) : pA ws env env := fun _ _ => rfl
theorem pA.mono {ws Sn : List Nat} {env env' : Nat → Value} (h : pA ws env env') (hs : ∀ i ∈ ws, i ∈ Sn) : pA Sn env env' := fun i hi => h i (by
 cases hb : jS ws i with
 | false => rfl
 | true => have := gF.2 (hs i (gF.1 hb)); rw [hi] at this; cases this)
theorem pA.trans {ws Sn : List Nat} {env env' So : Nat → Value} (h : pA ws env env') (h' : pA Sn env' So) : pA (ws ++ Sn) env So := fun i hi => by
 have h1 : jS ws i = false := by
  cases hb : jS ws i with
  | false => rfl
  | true => have := gF.2 (List.mem_append_left Sn (gF.1 hb)); rw [hi] at this; cases this
 have h2 : jS Sn i = false := by
  cases hb : jS Sn i with
  | false => rfl
  | true => have := gF.2 (List.mem_append_right ws (gF.1 hb)); rw [hi] at this; cases this
 rw [h' i h2, h i h1]
theorem pA.bl {ws : List Nat} {env env' : Nat → Value} (h : pA ws env env') {dst : Option Tmp} (hd : ∀ d, dst = some d → d ∈ ws) (v : Value) : pA ws env (bl env' dst v) := fun i hi => by
 cases dst with
 | none => exact h i hi
 | some d =>
  rw [gR, if_neg, h i hi]
  rintro rfl
  have := gF.2 (hd i rfl); rw [hi] at this; cases this
section
variable {C : Ctx} {ops : Array Oper} {K : (Nat → Value) → Mem → Prop} {Kp : List PanicEntry → Mem → Prop}
theorem Ej {ws : List Nat} {o : Oper} {uc env : Nat → Value} {M : Mem} (ho : pA ws uc env) (hd : ∀ d, o.dst = some d → d ∈ ws) (h : ei C ops o env M K Kp) :
  ei C ops o env M (fun env' M' => K env' M' ∧ pA ws uc env') Kp := by
 unfold ei at h ⊢
 split
 ·rename_i hw; rw [if_pos hw] at h; exact mE h fun v M' hv => ⟨hv, ho.bl hd v⟩
 ·rename_i hw; rw [if_neg hw] at h; exact ⟨h, ho.bl hd undef⟩
theorem Ek {i : Nat} {o : Oper} (h : ops[i]? = some o) : ∀ d, o.dst = some d → d ∈ iI ops := fun d hd =>
 List.mem_filterMap.2 ⟨o, by have := Array.mem_of_getElem? h; simpa using this, hd⟩
theorem Mn {S : Mem → Prop} {uc : Nat → Value} : ∀ (f L : Nat) (env : Nat → Value) (M : Mem), pA (iI ops) uc env → dH C ops S K Kp f L env M →
  dH C ops S (fun env' M' => K env' M' ∧ pA (iI ops) uc env') Kp f L env M := by
 intro f
 induction f with
 | zero => intro L env M ho h fh; exact ⟨(h fh).1, (h fh).2, ho⟩
 | succ f ih =>
  intro L env M ho h fh
  obtain ⟨h1, h2⟩ := h fh
  refine ⟨fun hno => ⟨h1 hno, ho⟩, fun i hi => ?_⟩
  have := h2 i hi
  unfold gm at this ⊢
  cases hoi : ops[i]? with
  | none => rw [hoi] at this; exact ⟨this.1, ih _ _ _ ho this.2⟩
  | some o =>
   rw [hoi] at this
   exact jf (Ej ho (Ek hoi) this) fun env' M' hx => ⟨hx.1.1, ih _ _ _ hx.2 hx.1.2⟩
def Mo (C : Ctx) (ops : Array Oper) (K : (Nat → Value) → Mem → Prop) (Kp : List PanicEntry → Mem → Prop) : List Oper → (Nat → Value) → Mem → Prop
 | [], env, M => K env M
 | o :: rest, env, M => ei C ops o env M (fun env' M' => Mo C ops K Kp rest env' M') Kp
theorem Mp (hC : C.Good) {uc : Nat → Value} : ∀ (l : List Oper) (env : Nat → Value) (M : Mem), (∀ o ∈ l, o ∈ ops.toList) → pA (iI ops) uc env → TJ C ops K Kp l env M →
  Mo C ops (fun env' M' => K env' M' ∧ pA (iI ops) uc env') Kp l env M := by
 intro l
 induction l with
 | nil => intro env M _ ho h; exact ⟨h, ho⟩
 | cons o rest ih =>
  intro env M hm ho h
  have hd : ∀ d, o.dst = some d → d ∈ iI ops := fun d hd => List.mem_filterMap.2 ⟨o, hm o (List.mem_cons_self ..), hd⟩
  exact jf (Ej ho hd (iH hC h)) fun env' M' hx => ih env' M' (fun o' XD => hm o' (List.mem_cons_of_mem _ XD)) hx.2 hx.1
theorem yF {N : Nat} {Z : Act → Prop} {F : Mem} {Q : Exit → Act → World → Prop} (hz : ∀ o ∈ ops.toList, ∀ (a : Act) (v : Value), Z a → Z (a.put o.dst v)) (hfit : ∀ o ∈ ops.toList, nx N o = true) (hpost : Post E N Z F K Kp Q) :
  ∀ (l : List Oper) (env : Nat → Value) (M : Mem) (a : Act) (w : World), (∀ o ∈ l, o ∈ ops.toList) → dS N env a.tmps → Z a → M.dj F → (M.union F).In E w →
   Mo C ops K Kp l env M → wpList C.P ops Q l a w := by
 intro l
 induction l with
 | nil => intro env M a w _ eX hds hd hi h; exact hpost.normal _ _ _ _ eX hds hd hi h
 | cons o rest ih =>
  intro env M a w hm eX hds hd hi h
  have hf := hfit o (hm o (List.mem_cons_self ..))
  have hb : ei C ops o env M (fun env' M' => Mo C ops K Kp rest env' M') Kp := h
  unfold wpList
  rw [ua eX hfit]
  unfold ei at hb
  split
  ·rename_i hw
   rw [if_pos hw] at hb
   refine .inl (wQ (K := fun v M' => Mo C ops K Kp rest (Go.AF.bl env o.dst v) M') (Kp := Kp) (F := F) (by rw [← eX.execOp hf]; exact yA hb) hd hi (fun v w' hv => ?_) (fun c w' hc => hpost.panic _ _ _ hds hc))
   obtain ⟨M', hk, hd', hi'⟩ := hv
   exact ih _ _ _ _ (fun o' XD => hm o' (List.mem_cons_of_mem _ XD)) (eX.put (gv hf).2.1 v) (hz o (hm o (List.mem_cons_self ..)) _ _ hds) hd' hi' hk
  ·rename_i hw
   rw [if_neg hw] at hb
   exact ih _ _ _ _ (fun o' XD => hm o' (List.mem_cons_of_mem _ XD)) (eX.put (gv hf).2.1 undef) (hz o (hm o (List.mem_cons_self ..)) _ _ hds) hd hi hb
end
structure Io (E : sB) (N : Nat) (Z : Act → Prop) (F : Mem) (ws : List Nat) (uc : Nat → Value) (Q : PC → (Nat → Value) → Mem → Prop) (Kp : List PanicEntry → Mem → Prop) (Q' : Exit → Act → World → Prop) : Prop where
 normal : ∀ env M a w, pA ws uc env → dS N env a.tmps → Z a → M.dj F → (M.union F).In E w → Q .normal env M → Q' .normal a w
 exit : ∀ id env M a w, pA ws uc env → dS N env a.tmps → Z a → M.dj F → (M.union F).In E w → Q (.exit id) env M → Q' (.exit id) a w
 ret : ∀ env M a w, pA ws uc env → dS N env a.tmps → Z a → M.dj F → (M.union F).In E w → Q .ret env M → Q' .ret a w
 panic : ∀ c a w, Z a → fU E F (Kp c) w → Q' (.panic c) a w
theorem BK {c : Bx} {v : Value} {K K' : Value → Prop} (h : Qf c K) (hv : DU c (some v) K') : K v ∧ K' v := by
 cases c <;> simp only [Qf, DU] at h hv
 case int k =>
  unfold aJ at hv; split at hv
  ·split at hv
   ·rename_i k' n he hk; cases he; subst hk; exact ⟨h _, hv⟩
   ·exact hv.elim
  ·exact hv.elim
 case bool => unfold de at hv; split at hv <;> first | (rename_i he; cases he; exact ⟨h _, hv⟩) | exact hv.elim
 case str => unfold fA at hv; split at hv <;> first | (rename_i he; cases he; exact ⟨h _, hv⟩) | exact hv.elim
 case ptr => unfold cw at hv; split at hv <;> first | (rename_i he; cases he; exact ⟨h _, hv⟩) | exact hv.elim
 case sl => unfold aB at hv; split at hv <;> first | (rename_i he; cases he; exact ⟨h _ _ _, hv⟩) | exact hv.elim
 case val => exact ⟨h _, hv⟩
theorem yG : ∀ {cs : List Bx} {vs : List Value} {K K' : List Value → Prop}, Ik cs K → FX cs vs K' → K vs ∧ K' vs
 | [], [], K, K', h, hv => ⟨h, hv⟩
 | c :: cs, v :: vs, K, K', h, hv => by
  simp only [Ik, FX] at h hv
  obtain ⟨h1, h2⟩ := BK h hv
  exact yG (K := fun vs => K (v :: vs)) (K' := fun vs => K' (v :: vs)) h1 h2
 | [], _ :: _, _, _, _, hv => hv.elim
 | _ :: _, [], _, _, _, hv => hv.elim
theorem Gi {c : AI} {v : Value} {K K' : Value → Prop} (h : Il c K) (hv : Gh c v K') : K v ∧ K' v := by
 cases c with
 | c c => exact BK h hv
 | a l =>
  simp only [Il, Gh] at h hv
  cases v <;> try exact hv.elim
  rename_i cs
  have := yG (vs := cs.toList) (K := fun vs => K (.agg vs.toArray)) (K' := fun vs => K' (.agg vs.toArray)) h hv
  simpa using this
 | b n =>
  simp only [Il, Gh] at h hv
  cases v <;> try exact hv.elim
  rename_i cs
  exact ⟨by simpa using h cs.toList hv.1, hv.2⟩
theorem yH {env : Nat → Value} : ∀ {live : List (Nat × AI)} {K : List (Nat × Value) → Prop} {K' : List Value → Prop}, Im live K → gN env live K' →
  ∃ l : List (Nat × Value), K l ∧ K' (l.map (·.2)) ∧ ∀ i, look l i (env i) = env i
 | [], K, K', h, hv => ⟨[], h, hv, fun _ => rfl⟩
 | (s, c) :: live, K, K', h, hv => by
  simp only [Im, gN] at h hv
  obtain ⟨h1, h2⟩ := Gi h hv
  obtain ⟨l, g1, g2, g3⟩ := yH (K := fun vs => K ((s, env s) :: vs)) (K' := fun vs => K' (env s :: vs)) h1 h2
  refine ⟨(s, env s) :: l, g1, g2, fun i => ?_⟩
  unfold look
  by_cases hi : i = s
  ·subst hi; simp
  ·have : Nat.beq i s = false := by cases hb : Nat.beq i s with
    | false => rfl
    | true => exact absurd (Nat.eq_of_beq_eq_true hb) hi
   simp [this, g3]
theorem pB {env gx : Nat → Value} {ws : List Nat} {live : List (Nat × AI)} {J : List Value → Mem → Prop} {Q : (Nat → Value) → Mem → Prop} {M : Mem}
  (h : meet env ws live J Q) (ho : pA ws env gx) (hl : gN gx live fun vs => J vs M) : Q gx M := by
 obtain ⟨l, h1, h2, h3⟩ := yH (h gx) hl
 have := h1 M h2
 have e : newEnv env gx ws l = gx := by
  funext i
  unfold newEnv
  cases hb : jS ws i with
  | true => exact h3 i
  | false => rw [← ho i hb]; exact h3 i
 rwa [e] at this
end Go.AF
