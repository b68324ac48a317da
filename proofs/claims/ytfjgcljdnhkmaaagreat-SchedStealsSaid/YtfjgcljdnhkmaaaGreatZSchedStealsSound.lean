/- A part of proofs about functions of one program: a condition over a partial memory that is enough for a call, and what calls answer by it. No condition of its own. -/
import Derived.Test.YtfjgcljdnhkmaaaGreatZSchedStealsExec
set_option linter.unusedVariables false
namespace Go.AF
variable {E : WEnv}

def Off (ws : List Nat) (env env' : Nat → Value) : Prop := ∀ i, elemB ws i = false → env' i = env i

theorem elemB_iff : ∀ {l : List Nat} {i : Nat}, elemB l i = true ↔ i ∈ l
  | [], i => by simp [elemB]
  | k :: l, i => by
    unfold elemB
    by_cases h : i = k
    · subst h; simp
    · have : Nat.beq i k = false := by cases hb : Nat.beq i k with
        | false => rfl
        | true => exact absurd (Nat.eq_of_beq_eq_true hb) h
      simp [this, h, elemB_iff (l := l)]

theorem Off.refl (ws : List Nat) (env : Nat → Value) : Off ws env env := fun _ _ => rfl
theorem Off.mono {ws ws' : List Nat} {env env' : Nat → Value} (h : Off ws env env') (hs : ∀ i ∈ ws, i ∈ ws') : Off ws' env env' := fun i hi => h i (by
  cases hb : elemB ws i with
  | false => rfl
  | true => have := elemB_iff.2 (hs i (elemB_iff.1 hb)); rw [hi] at this; cases this)
theorem Off.trans {ws ws' : List Nat} {env env' env'' : Nat → Value} (h : Off ws env env') (h' : Off ws' env' env'') : Off (ws ++ ws') env env'' := fun i hi => by
  have h1 : elemB ws i = false := by
    cases hb : elemB ws i with
    | false => rfl
    | true => have := elemB_iff.2 (List.mem_append_left ws' (elemB_iff.1 hb)); rw [hi] at this; cases this
  have h2 : elemB ws' i = false := by
    cases hb : elemB ws' i with
    | false => rfl
    | true => have := elemB_iff.2 (List.mem_append_right ws (elemB_iff.1 hb)); rw [hi] at this; cases this
  rw [h' i h2, h i h1]

theorem Off.eput {ws : List Nat} {env env' : Nat → Value} (h : Off ws env env') {dst : Option Tmp} (hd : ∀ d, dst = some d → d ∈ ws) (v : Value) : Off ws env (eput env' dst v) := fun i hi => by
  cases dst with
  | none => exact h i hi
  | some d =>
    rw [eput_get, if_neg, h i hi]
    rintro rfl
    have := elemB_iff.2 (hd i rfl); rw [hi] at this; cases this

section
variable {C : Ctx} {ops : Array Oper} {K : (Nat → Value) → Mem → Prop} {Kp : List PanicEntry → Mem → Prop}

theorem bopG_off {ws : List Nat} {o : Oper} {env0 env : Nat → Value} {M : Mem} (ho : Off ws env0 env) (hd : ∀ d, o.dst = some d → d ∈ ws) (h : bopG C ops o env M K Kp) :
    bopG C ops o env M (fun env' M' => K env' M' ∧ Off ws env0 env') Kp := by
  unfold bopG at h ⊢
  split
  · rename_i hw; rw [if_pos hw] at h; exact bop_mono h fun v M' hv => ⟨hv, ho.eput hd v⟩
  · rename_i hw; rw [if_neg hw] at h; exact ⟨h, ho.eput hd undef⟩

theorem mem_writesR {i : Nat} {o : Oper} (h : ops[i]? = some o) : ∀ d, o.dst = some d → d ∈ writesR ops := fun d hd =>
  List.mem_filterMap.2 ⟨o, by have := Array.mem_of_getElem? h; simpa using this, hd⟩

theorem aAny_off {S : Mem → Prop} {env0 : Nat → Value} : ∀ (f L : Nat) (env : Nat → Value) (M : Mem), Off (writesR ops) env0 env → aAny C ops S K Kp f L env M →
    aAny C ops S (fun env' M' => K env' M' ∧ Off (writesR ops) env0 env') Kp f L env M := by
  intro f
  induction f with
  | zero => intro L env M ho h hfin; exact ⟨(h hfin).1, (h hfin).2, ho⟩
  | succ f ih =>
    intro L env M ho h hfin
    obtain ⟨h1, h2⟩ := h hfin
    refine ⟨fun hno => ⟨h1 hno, ho⟩, fun i hi => ?_⟩
    have := h2 i hi
    unfold bopI at this ⊢
    cases hoi : ops[i]? with
    | none => rw [hoi] at this; exact ⟨this.1, ih _ _ _ ho this.2⟩
    | some o =>
      rw [hoi] at this
      exact bopG_mono (bopG_off ho (mem_writesR hoi) this) fun env' M' hx => ⟨hx.1.1, ih _ _ _ hx.2 hx.1.2⟩

/-- The list's form, told by what each operation comes to. -/
def bops (C : Ctx) (ops : Array Oper) (K : (Nat → Value) → Mem → Prop) (Kp : List PanicEntry → Mem → Prop) : List Oper → (Nat → Value) → Mem → Prop
  | [], env, M => K env M
  | o :: rest, env, M => bopG C ops o env M (fun env' M' => bops C ops K Kp rest env' M') Kp

theorem bops_off (hC : C.Good) {env0 : Nat → Value} : ∀ (l : List Oper) (env : Nat → Value) (M : Mem), (∀ o ∈ l, o ∈ ops.toList) → Off (writesR ops) env0 env → aops C ops K Kp l env M →
    bops C ops (fun env' M' => K env' M' ∧ Off (writesR ops) env0 env') Kp l env M := by
  intro l
  induction l with
  | nil => intro env M _ ho h; exact ⟨h, ho⟩
  | cons o rest ih =>
    intro env M hm ho h
    have hd : ∀ d, o.dst = some d → d ∈ writesR ops := fun d hd => List.mem_filterMap.2 ⟨o, hm o (List.mem_cons_self ..), hd⟩
    exact bopG_mono (bopG_off ho hd (bopG_of_aopG hC h)) fun env' M' hx => ih env' M' (fun o' ho' => hm o' (List.mem_cons_of_mem _ ho')) hx.2 hx.1

theorem wpList_of_bops {N : Nat} {Z : Act → Prop} {F : Mem} {Q : Exit → Act → World → Prop} (hz : ∀ o ∈ ops.toList, ∀ (a : Act) (v : Value), Z a → Z (a.put o.dst v)) (hfit : ∀ o ∈ ops.toList, opFits N o = true) (hpost : Post E N Z F K Kp Q) :
    ∀ (l : List Oper) (env : Nat → Value) (M : Mem) (a : Act) (w : World), (∀ o ∈ l, o ∈ ops.toList) → Agree N env a.tmps → Z a → M.dj F → (M.union F).In E w →
      bops C ops K Kp l env M → wpList C.P ops Q l a w := by
  intro l
  induction l with
  | nil => intro env M a w _ hag hds hd hi h; exact hpost.normal _ _ _ _ hag hds hd hi h
  | cons o rest ih =>
    intro env M a w hm hag hds hd hi h
    have hf := hfit o (hm o (List.mem_cons_self ..))
    have hb : bopG C ops o env M (fun env' M' => bops C ops K Kp rest env' M') Kp := h
    unfold wpList
    rw [wanted_agree hag hfit]
    unfold bopG at hb
    split
    · rename_i hw
      rw [if_pos hw] at hb
      refine .inl (opwp_of_awp (K := fun v M' => bops C ops K Kp rest (Go.AF.eput env o.dst v) M') (Kp := Kp) (F := F) (by rw [← hag.execOp hf]; exact awp_of_bop hb) hd hi (fun v w' hv => ?_) (fun c w' hc => hpost.panic _ _ _ hds hc))
      obtain ⟨M', hk, hd', hi'⟩ := hv
      exact ih _ _ _ _ (fun o' ho' => hm o' (List.mem_cons_of_mem _ ho')) (hag.put (opFits_spec hf).2.1 v) (hz o (hm o (List.mem_cons_self ..)) _ _ hds) hd' hi' hk
    · rename_i hw
      rw [if_neg hw] at hb
      exact ih _ _ _ _ (fun o' ho' => hm o' (List.mem_cons_of_mem _ ho')) (hag.put (opFits_spec hf).2.1 undef) (hz o (hm o (List.mem_cons_self ..)) _ _ hds) hd hi hb

end

structure PostC (E : WEnv) (N : Nat) (Z : Act → Prop) (F : Mem) (ws : List Nat) (env0 : Nat → Value) (Q : AEx → (Nat → Value) → Mem → Prop) (Kp : List PanicEntry → Mem → Prop) (Q' : Exit → Act → World → Prop) : Prop where
  normal : ∀ env M a w, Off ws env0 env → Agree N env a.tmps → Z a → M.dj F → (M.union F).In E w → Q .normal env M → Q' .normal a w
  exit : ∀ id env M a w, Off ws env0 env → Agree N env a.tmps → Z a → M.dj F → (M.union F).In E w → Q (.exit id) env M → Q' (.exit id) a w
  ret : ∀ env M a w, Off ws env0 env → Agree N env a.tmps → Z a → M.dj F → (M.union F).In E w → Q .ret env M → Q' .ret a w
  panic : ∀ c a w, Z a → With E F (Kp c) w → Q' (.panic c) a w

theorem alTy_inst {c : CSh} {v : Value} {K K' : Value → Prop} (h : alTy c K) (hv : exC c (some v) K') : K v ∧ K' v := by
  cases c <;> simp only [alTy, exC] at h hv
  case int k =>
    unfold exI at hv; split at hv
    · split at hv
      · rename_i k' n he hk; cases he; subst hk; exact ⟨h _, hv⟩
      · exact hv.elim
    · exact hv.elim
  case bool => unfold exB at hv; split at hv <;> first | (rename_i he; cases he; exact ⟨h _, hv⟩) | exact hv.elim
  case str => unfold exS at hv; split at hv <;> first | (rename_i he; cases he; exact ⟨h _, hv⟩) | exact hv.elim
  case ptr => unfold exP at hv; split at hv <;> first | (rename_i he; cases he; exact ⟨h _, hv⟩) | exact hv.elim
  case sl => unfold exSl at hv; split at hv <;> first | (rename_i he; cases he; exact ⟨h _ _ _, hv⟩) | exact hv.elim
  case val => exact ⟨h _, hv⟩

theorem alTys_inst : ∀ {cs : List CSh} {vs : List Value} {K K' : List Value → Prop}, alTys cs K → exCs cs vs K' → K vs ∧ K' vs
  | [], [], K, K', h, hv => ⟨h, hv⟩
  | c :: cs, v :: vs, K, K', h, hv => by
    simp only [alTys, exCs] at h hv
    obtain ⟨h1, h2⟩ := alTy_inst h hv
    exact alTys_inst (K := fun vs => K (v :: vs)) (K' := fun vs => K' (v :: vs)) h1 h2
  | [], _ :: _, _, _, _, hv => hv.elim
  | _ :: _, [], _, _, _, hv => hv.elim

theorem alTsh_inst {c : TSh} {v : Value} {K K' : Value → Prop} (h : alTsh c K) (hv : exTv c v K') : K v ∧ K' v := by
  cases c with
  | c c => exact alTy_inst h hv
  | a l =>
    simp only [alTsh, exTv] at h hv
    cases v <;> try exact hv.elim
    rename_i cs
    have := alTys_inst (vs := cs.toList) (K := fun vs => K (.agg vs.toArray)) (K' := fun vs => K' (.agg vs.toArray)) h hv
    simpa using this
  | b n =>
    simp only [alTsh, exTv] at h hv
    cases v <;> try exact hv.elim
    rename_i cs
    exact ⟨by simpa using h cs.toList hv.1, hv.2⟩

theorem alAll_inst {env : Nat → Value} : ∀ {live : List (Nat × TSh)} {K : List (Nat × Value) → Prop} {K' : List Value → Prop}, alAll live K → exLive env live K' →
    ∃ l : List (Nat × Value), K l ∧ K' (l.map (·.2)) ∧ ∀ i, look l i (env i) = env i
  | [], K, K', h, hv => ⟨[], h, hv, fun _ => rfl⟩
  | (s, c) :: live, K, K', h, hv => by
    simp only [alAll, exLive] at h hv
    obtain ⟨h1, h2⟩ := alTsh_inst h hv
    obtain ⟨l, g1, g2, g3⟩ := alAll_inst (K := fun vs => K ((s, env s) :: vs)) (K' := fun vs => K' (env s :: vs)) h1 h2
    refine ⟨(s, env s) :: l, g1, g2, fun i => ?_⟩
    unfold look
    by_cases hi : i = s
    · subst hi; simp
    · have : Nat.beq i s = false := by cases hb : Nat.beq i s with
        | false => rfl
        | true => exact absurd (Nat.eq_of_beq_eq_true hb) hi
      simp [this, g3]

theorem meet_use {env env1 : Nat → Value} {ws : List Nat} {live : List (Nat × TSh)} {J : List Value → Mem → Prop} {Q : (Nat → Value) → Mem → Prop} {M : Mem}
    (h : meet env ws live J Q) (ho : Off ws env env1) (hl : exLive env1 live fun vs => J vs M) : Q env1 M := by
  obtain ⟨l, h1, h2, h3⟩ := alAll_inst (h env1) hl
  have := h1 M h2
  have e : newEnv env env1 ws l = env1 := by
    funext i
    unfold newEnv
    cases hb : elemB ws i with
    | true => exact h3 i
    | false => rw [← ho i hb]; exact h3 i
  rwa [e] at this

end Go.AF
