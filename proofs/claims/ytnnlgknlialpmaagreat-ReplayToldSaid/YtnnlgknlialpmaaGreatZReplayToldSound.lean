/- A part of proofs about one program. -/
import Derived.Test.YtnnlgknlialpmaaGreatZReplayToldExec
set_option linter.unusedVariables false
namespace Go.AF
variable {E : oA}
def lS (ws : List Nat) (env env' : Nat → Value) : Prop := ∀ i, gY ws i = false → env' i = env i
theorem eY : ∀ {l : List Nat} {i : Nat}, gY l i = true ↔ i ∈ l
 | [], i => by simp [gY]
 | k :: l, i => by
  unfold gY
  by_cases h : i = k
  ·subst h; simp
  ·have : Nat.beq i k = false := by cases hb : Nat.beq i k with
    | false => rfl
    | true => exact absurd (Nat.eq_of_beq_eq_true hb) h
   simp [this, h, eY (l := l)]
theorem lS.refl (ws : List Nat) (env : Nat → Value) : lS ws env env := fun _ _ => rfl
theorem lS.mono {ws Lt : List Nat} {env env' : Nat → Value} (h : lS ws env env') (hs : ∀ i ∈ ws, i ∈ Lt) : lS Lt env env' := fun i hi => h i (by
 cases hb : gY ws i with
 | false => rfl
 | true => have := eY.2 (hs i (eY.1 hb)); rw [hi] at this; cases this)
theorem lS.trans {ws Lt : List Nat} {env env' Lu : Nat → Value} (h : lS ws env env') (h' : lS Lt env' Lu) : lS (ws ++ Lt) env Lu := fun i hi => by
 have h1 : gY ws i = false := by
  cases hb : gY ws i with
  | false => rfl
  | true => have := eY.2 (List.mem_append_left Lt (eY.1 hb)); rw [hi] at this; cases this
 have h2 : gY Lt i = false := by
  cases hb : gY Lt i with
  | false => rfl
  | true => have := eY.2 (List.mem_append_right ws (eY.1 hb)); rw [hi] at this; cases this
 rw [h' i h2, h i h1]
theorem lS.aT {ws : List Nat} {env env' : Nat → Value} (h : lS ws env env') {dst : Option Tmp} (hd : ∀ d, dst = some d → d ∈ ws) (v : Value) : lS ws env (aT env' dst v) := fun i hi => by
 cases dst with
 | none => exact h i hi
 | some d =>
  rw [fm, if_neg, h i hi]
  rintro rfl
  have := eY.2 (hd i rfl); rw [hi] at this; cases this
section
variable {C : Ctx} {ops : Array Oper} {K : (Nat → Value) → Mem → Prop} {Kp : List PanicEntry → Mem → Prop}
theorem Ag {ws : List Nat} {o : Oper} {pU env : Nat → Value} {M : Mem} (ho : lS ws pU env) (hd : ∀ d, o.dst = some d → d ∈ ws) (h : cZ C ops o env M K Kp) :
  cZ C ops o env M (fun env' M' => K env' M' ∧ lS ws pU env') Kp := by
 unfold cZ at h ⊢
 split
 ·rename_i hw; rw [if_pos hw] at h; exact jG h fun v M' hv => ⟨hv, ho.aT hd v⟩
 ·rename_i hw; rw [if_neg hw] at h; exact ⟨h, ho.aT hd undef⟩
theorem Ah {i : Nat} {o : Oper} (h : ops[i]? = some o) : ∀ d, o.dst = some d → d ∈ fQ ops := fun d hd =>
 List.mem_filterMap.2 ⟨o, by have := Array.mem_of_getElem? h; simpa using this, hd⟩
theorem GN {S : Mem → Prop} {pU : Nat → Value} : ∀ (f L : Nat) (env : Nat → Value) (M : Mem), lS (fQ ops) pU env → cK C ops S K Kp f L env M →
  cK C ops S (fun env' M' => K env' M' ∧ lS (fQ ops) pU env') Kp f L env M := by
 intro f
 induction f with
 | zero => intro L env M ho h dJ; exact ⟨(h dJ).1, (h dJ).2, ho⟩
 | succ f ih =>
  intro L env M ho h dJ
  obtain ⟨h1, h2⟩ := h dJ
  refine ⟨fun hno => ⟨h1 hno, ho⟩, fun i hi => ?_⟩
  have := h2 i hi
  unfold eE at this ⊢
  cases Tp : ops[i]? with
  | none => rw [Tp] at this; exact ⟨this.1, ih _ _ _ ho this.2⟩
  | some o =>
   rw [Tp] at this
   exact gv (Ag ho (Ah Tp) this) fun env' M' hx => ⟨hx.1.1, ih _ _ _ hx.2 hx.1.2⟩
def GO (C : Ctx) (ops : Array Oper) (K : (Nat → Value) → Mem → Prop) (Kp : List PanicEntry → Mem → Prop) : List Oper → (Nat → Value) → Mem → Prop
 | [], env, M => K env M
 | o :: rest, env, M => cZ C ops o env M (fun env' M' => GO C ops K Kp rest env' M') Kp
theorem GP (hC : C.Good) {pU : Nat → Value} : ∀ (l : List Oper) (env : Nat → Value) (M : Mem), (∀ o ∈ l, o ∈ ops.toList) → lS (fQ ops) pU env → MJ C ops K Kp l env M →
  GO C ops (fun env' M' => K env' M' ∧ lS (fQ ops) pU env') Kp l env M := by
 intro l
 induction l with
 | nil => intro env M _ ho h; exact ⟨h, ho⟩
 | cons o rest ih =>
  intro env M hm ho h
  have hd : ∀ d, o.dst = some d → d ∈ fQ ops := fun d hd => List.mem_filterMap.2 ⟨o, hm o (List.mem_cons_self ..), hd⟩
  exact gv (Ag ho hd (fP hC h)) fun env' M' hx => ih env' M' (fun o' P5 => hm o' (List.mem_cons_of_mem _ P5)) hx.2 hx.1
theorem uD {N : Nat} {Z : Act → Prop} {F : Mem} {Q : Exit → Act → World → Prop} (hz : ∀ o ∈ ops.toList, ∀ (a : Act) (v : Value), Z a → Z (a.put o.dst v)) (hfit : ∀ o ∈ ops.toList, j5 N o = true) (hpost : Post E N Z F K Kp Q) :
  ∀ (l : List Oper) (env : Nat → Value) (M : Mem) (a : Act) (w : World), (∀ o ∈ l, o ∈ ops.toList) → cS N env a.tmps → Z a → M.dj F → (M.union F).In E w →
   GO C ops K Kp l env M → wpList C.P ops Q l a w := by
 intro l
 induction l with
 | nil => intro env M a w _ dD hds hd hi h; exact hpost.normal _ _ _ _ dD hds hd hi h
 | cons o rest ih =>
  intro env M a w hm dD hds hd hi h
  have hf := hfit o (hm o (List.mem_cons_self ..))
  have hb : cZ C ops o env M (fun env' M' => GO C ops K Kp rest env' M') Kp := h
  unfold wpList
  rw [pT dD hfit]
  unfold cZ at hb
  split
  ·rename_i hw
   rw [if_pos hw] at hb
   refine .inl (sJ (K := fun v M' => GO C ops K Kp rest (Go.AF.aT env o.dst v) M') (Kp := Kp) (F := F) (by rw [← dD.execOp hf]; exact uy hb) hd hi (fun v w' hv => ?_) (fun c w' hc => hpost.panic _ _ _ hds hc))
   obtain ⟨M', hk, hd', hi'⟩ := hv
   exact ih _ _ _ _ (fun o' P5 => hm o' (List.mem_cons_of_mem _ P5)) (dD.put (eM hf).2.1 v) (hz o (hm o (List.mem_cons_self ..)) _ _ hds) hd' hi' hk
  ·rename_i hw
   rw [if_neg hw] at hb
   exact ih _ _ _ _ (fun o' P5 => hm o' (List.mem_cons_of_mem _ P5)) (dD.put (eM hf).2.1 undef) (hz o (hm o (List.mem_cons_self ..)) _ _ hds) hd hi hb
end
structure DO (E : oA) (N : Nat) (Z : Act → Prop) (F : Mem) (ws : List Nat) (pU : Nat → Value) (Q : Jj → (Nat → Value) → Mem → Prop) (Kp : List PanicEntry → Mem → Prop) (Q' : Exit → Act → World → Prop) : Prop where
 normal : ∀ env M a w, lS ws pU env → cS N env a.tmps → Z a → M.dj F → (M.union F).In E w → Q .normal env M → Q' .normal a w
 exit : ∀ id env M a w, lS ws pU env → cS N env a.tmps → Z a → M.dj F → (M.union F).In E w → Q (.exit id) env M → Q' (.exit id) a w
 ret : ∀ env M a w, lS ws pU env → cS N env a.tmps → Z a → M.dj F → (M.union F).In E w → Q .ret env M → Q' .ret a w
 panic : ∀ c a w, Z a → en E F (Kp c) w → Q' (.panic c) a w
theorem xH {c : xp} {v : Value} {K K' : Value → Prop} (h : JS c K) (hv : zJ c (some v) K') : K v ∧ K' v := by
 cases c <;> simp only [JS, zJ] at h hv
 case int k =>
  unfold aE at hv; split at hv
  ·split at hv
   ·rename_i k' n he hk; cases he; subst hk; exact ⟨h _, hv⟩
   ·exact hv.elim
  ·exact hv.elim
 case bool => unfold cY at hv; split at hv <;> first | (rename_i he; cases he; exact ⟨h _, hv⟩) | exact hv.elim
 case str => unfold gh at hv; split at hv <;> first | (rename_i he; cases he; exact ⟨h _, hv⟩) | exact hv.elim
 case ptr => unfold cz at hv; split at hv <;> first | (rename_i he; cases he; exact ⟨h _, hv⟩) | exact hv.elim
 case sl => unfold ay at hv; split at hv <;> first | (rename_i he; cases he; exact ⟨h _ _ _, hv⟩) | exact hv.elim
 case val => exact ⟨h _, hv⟩
theorem uE : ∀ {cs : List xp} {vs : List Value} {K K' : List Value → Prop}, DL cs K → B5 cs vs K' → K vs ∧ K' vs
 | [], [], K, K', h, hv => ⟨h, hv⟩
 | c :: cs, v :: vs, K, K', h, hv => by
  simp only [DL, B5] at h hv
  obtain ⟨h1, h2⟩ := xH h hv
  exact uE (K := fun vs => K (v :: vs)) (K' := fun vs => K' (v :: vs)) h1 h2
 | [], _ :: _, _, _, _, hv => hv.elim
 | _ :: _, [], _, _, _, hv => hv.elim
theorem Cp {c : wJ} {v : Value} {K K' : Value → Prop} (h : DM c K) (hv : Co c v K') : K v ∧ K' v := by
 cases c with
 | c c => exact xH h hv
 | a l =>
  simp only [DM, Co] at h hv
  cases v <;> try exact hv.elim
  rename_i cs
  have := uE (vs := cs.toList) (K := fun vs => K (.agg vs.toArray)) (K' := fun vs => K' (.agg vs.toArray)) h hv
  simpa using this
 | b n =>
  simp only [DM, Co] at h hv
  cases v <;> try exact hv.elim
  rename_i cs
  exact ⟨by simpa using h cs.toList hv.1, hv.2⟩
theorem uF {env : Nat → Value} : ∀ {live : List (Nat × wJ)} {K : List (Nat × Value) → Prop} {K' : List Value → Prop}, DN live K → fh env live K' →
  ∃ l : List (Nat × Value), K l ∧ K' (l.map (·.2)) ∧ ∀ i, look l i (env i) = env i
 | [], K, K', h, hv => ⟨[], h, hv, fun _ => rfl⟩
 | (s, c) :: live, K, K', h, hv => by
  simp only [DN, fh] at h hv
  obtain ⟨h1, h2⟩ := Cp h hv
  obtain ⟨l, g1, g2, g3⟩ := uF (K := fun vs => K ((s, env s) :: vs)) (K' := fun vs => K' (env s :: vs)) h1 h2
  refine ⟨(s, env s) :: l, g1, g2, fun i => ?_⟩
  unfold look
  by_cases hi : i = s
  ·subst hi; simp
  ·have : Nat.beq i s = false := by cases hb : Nat.beq i s with
    | false => rfl
    | true => exact absurd (Nat.eq_of_beq_eq_true hb) hi
   simp [this, g3]
theorem lT {env eN : Nat → Value} {ws : List Nat} {live : List (Nat × wJ)} {J : List Value → Mem → Prop} {Q : (Nat → Value) → Mem → Prop} {M : Mem}
  (h : meet env ws live J Q) (ho : lS ws env eN) (hl : fh eN live fun vs => J vs M) : Q eN M := by
 obtain ⟨l, h1, h2, h3⟩ := uF (h eN) hl
 have := h1 M h2
 have e : newEnv env eN ws l = eN := by
  funext i
  unfold newEnv
  cases hb : gY ws i with
  | true => exact h3 i
  | false => rw [← ho i hb]; exact h3 i
 rwa [e] at this
end Go.AF
