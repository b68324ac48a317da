/- A part of proofs about one program. -/
import Derived.Test.YtfjgcljdnhkmaaaGreatZSchedAloneExec
set_option linter.unusedVariables false
namespace Go.AF
variable {E : pO}
def m5 (ws : List Nat) (env env' : Nat → Value) : Prop := ∀ i, iE ws i = false → env' i = env i
theorem fE : ∀ {l : List Nat} {i : Nat}, iE l i = true ↔ i ∈ l
 | [], i => by simp [iE]
 | k :: l, i => by
  unfold iE
  by_cases h : i = k
  ·subst h; simp
  ·have : Nat.beq i k = false := by cases hb : Nat.beq i k with
    | false => rfl
    | true => exact absurd (Nat.eq_of_beq_eq_true hb) h
   simp [this, h, fE (l := l)]
theorem m5.refl (ws : List Nat) (env : Nat → Value) : m5 ws env env := fun _ _ => rfl
theorem m5.mono {ws MI : List Nat} {env env' : Nat → Value} (h : m5 ws env env') (hs : ∀ i ∈ ws, i ∈ MI) : m5 MI env env' := fun i hi => h i (by
 cases hb : iE ws i with
 | false => rfl
 | true => have := fE.2 (hs i (fE.1 hb)); rw [hi] at this; cases this)
theorem m5.trans {ws MI : List Nat} {env env' MJ : Nat → Value} (h : m5 ws env env') (h' : m5 MI env' MJ) : m5 (ws ++ MI) env MJ := fun i hi => by
 have h1 : iE ws i = false := by
  cases hb : iE ws i with
  | false => rfl
  | true => have := fE.2 (List.mem_append_left MI (fE.1 hb)); rw [hi] at this; cases this
 have h2 : iE MI i = false := by
  cases hb : iE MI i with
  | false => rfl
  | true => have := fE.2 (List.mem_append_right ws (fE.1 hb)); rw [hi] at this; cases this
 rw [h' i h2, h i h1]
theorem m5.aU {ws : List Nat} {env env' : Nat → Value} (h : m5 ws env env') {dst : Option Tmp} (hd : ∀ d, dst = some d → d ∈ ws) (v : Value) : m5 ws env (aU env' dst v) := fun i hi => by
 cases dst with
 | none => exact h i hi
 | some d =>
  rw [fP, if_neg, h i hi]
  rintro rfl
  have := fE.2 (hd i rfl); rw [hi] at this; cases this
section
variable {C : Ctx} {ops : Array Oper} {K : (Nat → Value) → Mem → Prop} {Kp : List PanicEntry → Mem → Prop}
theorem AI {ws : List Nat} {o : Oper} {qT env : Nat → Value} {M : Mem} (ho : m5 ws qT env) (hd : ∀ d, o.dst = some d → d ∈ ws) (h : dw C ops o env M K Kp) :
  dw C ops o env M (fun env' M' => K env' M' ∧ m5 ws qT env') Kp := by
 unfold dw at h ⊢
 split
 ·rename_i hw; rw [if_pos hw] at h; exact ke h fun v M' hv => ⟨hv, ho.aU hd v⟩
 ·rename_i hw; rw [if_neg hw] at h; exact ⟨h, ho.aU hd undef⟩
theorem AJ {i : Nat} {o : Oper} (h : ops[i]? = some o) : ∀ d, o.dst = some d → d ∈ gB ops := fun d hd =>
 List.mem_filterMap.2 ⟨o, by have := Array.mem_of_getElem? h; simpa using this, hd⟩
theorem Hy {S : Mem → Prop} {qT : Nat → Value} : ∀ (f L : Nat) (env : Nat → Value) (M : Mem), m5 (gB ops) qT env → cI C ops S K Kp f L env M →
  cI C ops S (fun env' M' => K env' M' ∧ m5 (gB ops) qT env') Kp f L env M := by
 intro f
 induction f with
 | zero => intro L env M ho h dV; exact ⟨(h dV).1, (h dV).2, ho⟩
 | succ f ih =>
  intro L env M ho h dV
  obtain ⟨h1, h2⟩ := h dV
  refine ⟨fun hno => ⟨h1 hno, ho⟩, fun i hi => ?_⟩
  have := h2 i hi
  unfold eX at this ⊢
  cases Ut : ops[i]? with
  | none => rw [Ut] at this; exact ⟨this.1, ih _ _ _ ho this.2⟩
  | some o =>
   rw [Ut] at this
   exact gX (AI ho (AJ Ut) this) fun env' M' hx => ⟨hx.1.1, ih _ _ _ hx.2 hx.1.2⟩
def Hz (C : Ctx) (ops : Array Oper) (K : (Nat → Value) → Mem → Prop) (Kp : List PanicEntry → Mem → Prop) : List Oper → (Nat → Value) → Mem → Prop
 | [], env, M => K env M
 | o :: rest, env, M => dw C ops o env M (fun env' M' => Hz C ops K Kp rest env' M') Kp
theorem HA (hC : C.Good) {qT : Nat → Value} : ∀ (l : List Oper) (env : Nat → Value) (M : Mem), (∀ o ∈ l, o ∈ ops.toList) → m5 (gB ops) qT env → N5 C ops K Kp l env M →
  Hz C ops (fun env' M' => K env' M' ∧ m5 (gB ops) qT env') Kp l env M := by
 intro l
 induction l with
 | nil => intro env M _ ho h; exact ⟨h, ho⟩
 | cons o rest ih =>
  intro env M hm ho h
  have hd : ∀ d, o.dst = some d → d ∈ gB ops := fun d hd => List.mem_filterMap.2 ⟨o, hm o (List.mem_cons_self ..), hd⟩
  exact gX (AI ho hd (gA hC h)) fun env' M' hx => ih env' M' (fun o' Rj => hm o' (List.mem_cons_of_mem _ Rj)) hx.2 hx.1
theorem vl {N : Nat} {Z : Act → Prop} {F : Mem} {Q : Exit → Act → World → Prop} (hz : ∀ o ∈ ops.toList, ∀ (a : Act) (v : Value), Z a → Z (a.put o.dst v)) (hfit : ∀ o ∈ ops.toList, lg N o = true) (hpost : Post E N Z F K Kp Q) :
  ∀ (l : List Oper) (env : Nat → Value) (M : Mem) (a : Act) (w : World), (∀ o ∈ l, o ∈ ops.toList) → da N env a.tmps → Z a → M.dj F → (M.union F).In E w →
   Hz C ops K Kp l env M → wpList C.P ops Q l a w := by
 intro l
 induction l with
 | nil => intro env M a w _ dQ hds hd hi h; exact hpost.normal _ _ _ _ dQ hds hd hi h
 | cons o rest ih =>
  intro env M a w hm dQ hds hd hi h
  have hf := hfit o (hm o (List.mem_cons_self ..))
  have hb : dw C ops o env M (fun env' M' => Hz C ops K Kp rest env' M') Kp := h
  unfold wpList
  rw [qS dQ hfit]
  unfold dw at hb
  split
  ·rename_i hw
   rw [if_pos hw] at hb
   refine .inl (tO (K := fun v M' => Hz C ops K Kp rest (Go.AF.aU env o.dst v) M') (Kp := Kp) (F := F) (by rw [← dQ.execOp hf]; exact vb hb) hd hi (fun v w' hv => ?_) (fun c w' hc => hpost.panic _ _ _ hds hc))
   obtain ⟨M', hk, hd', hi'⟩ := hv
   exact ih _ _ _ _ (fun o' Rj => hm o' (List.mem_cons_of_mem _ Rj)) (dQ.put (fj hf).2.1 v) (hz o (hm o (List.mem_cons_self ..)) _ _ hds) hd' hi' hk
  ·rename_i hw
   rw [if_neg hw] at hb
   exact ih _ _ _ _ (fun o' Rj => hm o' (List.mem_cons_of_mem _ Rj)) (dQ.put (fj hf).2.1 undef) (hz o (hm o (List.mem_cons_self ..)) _ _ hds) hd hi hb
end
structure D7 (E : pO) (N : Nat) (Z : Act → Prop) (F : Mem) (ws : List Nat) (qT : Nat → Value) (Q : Kg → (Nat → Value) → Mem → Prop) (Kp : List PanicEntry → Mem → Prop) (Q' : Exit → Act → World → Prop) : Prop where
 normal : ∀ env M a w, m5 ws qT env → da N env a.tmps → Z a → M.dj F → (M.union F).In E w → Q .normal env M → Q' .normal a w
 exit : ∀ id env M a w, m5 ws qT env → da N env a.tmps → Z a → M.dj F → (M.union F).In E w → Q (.exit id) env M → Q' (.exit id) a w
 ret : ∀ env M a w, m5 ws qT env → da N env a.tmps → Z a → M.dj F → (M.union F).In E w → Q .ret env M → Q' .ret a w
 panic : ∀ c a w, Z a → eN E F (Kp c) w → Q' (.panic c) a w
theorem yf {c : xR} {v : Value} {K K' : Value → Prop} (h : KI c K) (hv : Af c (some v) K') : K v ∧ K' v := by
 cases c <;> simp only [KI, Af] at h hv
 case int k =>
  unfold aG at hv; split at hv
  ·split at hv
   ·rename_i k' n he hk; cases he; subst hk; exact ⟨h _, hv⟩
   ·exact hv.elim
  ·exact hv.elim
 case bool => unfold c6 at hv; split at hv <;> first | (rename_i he; cases he; exact ⟨h _, hv⟩) | exact hv.elim
 case str => unfold fD at hv; split at hv <;> first | (rename_i he; cases he; exact ⟨h _, hv⟩) | exact hv.elim
 case ptr => unfold cj at hv; split at hv <;> first | (rename_i he; cases he; exact ⟨h _, hv⟩) | exact hv.elim
 case sl => unfold aC at hv; split at hv <;> first | (rename_i he; cases he; exact ⟨h _ _ _, hv⟩) | exact hv.elim
 case val => exact ⟨h _, hv⟩
theorem vn : ∀ {cs : List xR} {vs : List Value} {K K' : List Value → Prop}, D4 cs K → Ch cs vs K' → K vs ∧ K' vs
 | [], [], K, K', h, hv => ⟨h, hv⟩
 | c :: cs, v :: vs, K, K', h, hv => by
  simp only [D4, Ch] at h hv
  obtain ⟨h1, h2⟩ := yf h hv
  exact vn (K := fun vs => K (v :: vs)) (K' := fun vs => K' (v :: vs)) h1 h2
 | [], _ :: _, _, _, _, hv => hv.elim
 | _ :: _, [], _, _, _, hv => hv.elim
theorem CD {c : xm} {v : Value} {K K' : Value → Prop} (h : D5 c K) (hv : CC c v K') : K v ∧ K' v := by
 cases c with
 | c c => exact yf h hv
 | a l =>
  simp only [D5, CC] at h hv
  cases v <;> try exact hv.elim
  rename_i cs
  have := vn (vs := cs.toList) (K := fun vs => K (.agg vs.toArray)) (K' := fun vs => K' (.agg vs.toArray)) h hv
  simpa using this
 | b n =>
  simp only [D5, CC] at h hv
  cases v <;> try exact hv.elim
  rename_i cs
  exact ⟨by simpa using h cs.toList hv.1, hv.2⟩
theorem vo {env : Nat → Value} : ∀ {live : List (Nat × xm)} {K : List (Nat × Value) → Prop} {K' : List Value → Prop}, D6 live K → fL env live K' →
  ∃ l : List (Nat × Value), K l ∧ K' (l.map (·.2)) ∧ ∀ i, look l i (env i) = env i
 | [], K, K', h, hv => ⟨[], h, hv, fun _ => rfl⟩
 | (s, c) :: live, K, K', h, hv => by
  simp only [D6, fL] at h hv
  obtain ⟨h1, h2⟩ := CD h hv
  obtain ⟨l, g1, g2, g3⟩ := vo (K := fun vs => K ((s, env s) :: vs)) (K' := fun vs => K' (env s :: vs)) h1 h2
  refine ⟨(s, env s) :: l, g1, g2, fun i => ?_⟩
  unfold look
  by_cases hi : i = s
  ·subst hi; simp
  ·have : Nat.beq i s = false := by cases hb : Nat.beq i s with
    | false => rfl
    | true => exact absurd (Nat.eq_of_beq_eq_true hb) hi
   simp [this, g3]
theorem m6 {env fk : Nat → Value} {ws : List Nat} {live : List (Nat × xm)} {J : List Value → Mem → Prop} {Q : (Nat → Value) → Mem → Prop} {M : Mem}
  (h : meet env ws live J Q) (ho : m5 ws env fk) (hl : fL fk live fun vs => J vs M) : Q fk M := by
 obtain ⟨l, h1, h2, h3⟩ := vo (h fk) hl
 have := h1 M h2
 have e : newEnv env fk ws l = fk := by
  funext i
  unfold newEnv
  cases hb : iE ws i with
  | true => exact h3 i
  | false => rw [← ho i hb]; exact h3 i
 rwa [e] at this
end Go.AF
