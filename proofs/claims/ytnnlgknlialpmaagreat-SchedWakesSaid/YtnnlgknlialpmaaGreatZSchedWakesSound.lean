/- A part of proofs about one program. -/
import Derived.Test.YtnnlgknlialpmaaGreatZSchedWakesExec
set_option linter.unusedVariables false
namespace Go.AF
variable {E : qi}
def nC (ws : List Nat) (env env' : Nat → Value) : Prop := ∀ i, iO ws i = false → env' i = env i
theorem fU : ∀ {l : List Nat} {i : Nat}, iO l i = true ↔ i ∈ l
 | [], i => by simp [iO]
 | k :: l, i => by
  unfold iO
  by_cases h : i = k
  ·subst h; simp
  ·have : Nat.beq i k = false := by cases hb : Nat.beq i k with
    | false => rfl
    | true => exact absurd (Nat.eq_of_beq_eq_true hb) h
   simp [this, h, fU (l := l)]
theorem nC.refl (ws : List Nat) (env : Nat → Value) : nC ws env env := fun _ _ => rfl
theorem nC.mono {ws NZ : List Nat} {env env' : Nat → Value} (h : nC ws env env') (hs : ∀ i ∈ ws, i ∈ NZ) : nC NZ env env' := fun i hi => h i (by
 cases hb : iO ws i with
 | false => rfl
 | true => have := fU.2 (hs i (fU.1 hb)); rw [hi] at this; cases this)
theorem nC.trans {ws NZ : List Nat} {env env' N0 : Nat → Value} (h : nC ws env env') (h' : nC NZ env' N0) : nC (ws ++ NZ) env N0 := fun i hi => by
 have h1 : iO ws i = false := by
  cases hb : iO ws i with
  | false => rfl
  | true => have := fU.2 (List.mem_append_left NZ (fU.1 hb)); rw [hi] at this; cases this
 have h2 : iO NZ i = false := by
  cases hb : iO NZ i with
  | false => rfl
  | true => have := fU.2 (List.mem_append_right ws (fU.1 hb)); rw [hi] at this; cases this
 rw [h' i h2, h i h1]
theorem nC.aX {ws : List Nat} {env env' : Nat → Value} (h : nC ws env env') {dst : Option Tmp} (hd : ∀ d, dst = some d → d ∈ ws) (v : Value) : nC ws env (aX env' dst v) := fun i hi => by
 cases dst with
 | none => exact h i hi
 | some d =>
  rw [gk, if_neg, h i hi]
  rintro rfl
  have := fU.2 (hd i rfl); rw [hi] at this; cases this
section
variable {C : Ctx} {ops : Array Oper} {K : (Nat → Value) → Mem → Prop} {Kp : List PanicEntry → Mem → Prop}
theorem BB {ws : List Nat} {o : Oper} {rO env : Nat → Value} {M : Mem} (ho : nC ws rO env) (hd : ∀ d, o.dst = some d → d ∈ ws) (h : dL C ops o env M K Kp) :
  dL C ops o env M (fun env' M' => K env' M' ∧ nC ws rO env') Kp := by
 unfold dL at h ⊢
 split
 ·rename_i hw; rw [if_pos hw] at h; exact kP h fun v M' hv => ⟨hv, ho.aX hd v⟩
 ·rename_i hw; rw [if_neg hw] at h; exact ⟨h, ho.aX hd undef⟩
theorem BC {i : Nat} {o : Oper} (h : ops[i]? = some o) : ∀ d, o.dst = some d → d ∈ gN ops := fun d hd =>
 List.mem_filterMap.2 ⟨o, by have := Array.mem_of_getElem? h; simpa using this, hd⟩
theorem Im {S : Mem → Prop} {rO : Nat → Value} : ∀ (f L : Nat) (env : Nat → Value) (M : Mem), nC (gN ops) rO env → cW C ops S K Kp f L env M →
  cW C ops S (fun env' M' => K env' M' ∧ nC (gN ops) rO env') Kp f L env M := by
 intro f
 induction f with
 | zero => intro L env M ho h eA; exact ⟨(h eA).1, (h eA).2, ho⟩
 | succ f ih =>
  intro L env M ho h eA
  obtain ⟨h1, h2⟩ := h eA
  refine ⟨fun hno => ⟨h1 hno, ho⟩, fun i hi => ?_⟩
  have := h2 i hi
  unfold fD at this ⊢
  cases VR : ops[i]? with
  | none => rw [VR] at this; exact ⟨this.1, ih _ _ _ ho this.2⟩
  | some o =>
   rw [VR] at this
   exact ig (BB ho (BC VR) this) fun env' M' hx => ⟨hx.1.1, ih _ _ _ hx.2 hx.1.2⟩
def Io (C : Ctx) (ops : Array Oper) (K : (Nat → Value) → Mem → Prop) (Kp : List PanicEntry → Mem → Prop) : List Oper → (Nat → Value) → Mem → Prop
 | [], env, M => K env M
 | o :: rest, env, M => dL C ops o env M (fun env' M' => Io C ops K Kp rest env' M') Kp
theorem Ip (hC : C.Good) {rO : Nat → Value} : ∀ (l : List Oper) (env : Nat → Value) (M : Mem), (∀ o ∈ l, o ∈ ops.toList) → nC (gN ops) rO env → O3 C ops K Kp l env M →
  Io C ops (fun env' M' => K env' M' ∧ nC (gN ops) rO env') Kp l env M := by
 intro l
 induction l with
 | nil => intro env M _ ho h; exact ⟨h, ho⟩
 | cons o rest ih =>
  intro env M hm ho h
  have hd : ∀ d, o.dst = some d → d ∈ gN ops := fun d hd => List.mem_filterMap.2 ⟨o, hm o (List.mem_cons_self ..), hd⟩
  exact ig (BB ho hd (gM hC h)) fun env' M' hx => ih env' M' (fun o' SD => hm o' (List.mem_cons_of_mem _ SD)) hx.2 hx.1
theorem wh {N : Nat} {Z : Act → Prop} {F : Mem} {Q : Exit → Act → World → Prop} (hz : ∀ o ∈ ops.toList, ∀ (a : Act) (v : Value), Z a → Z (a.put o.dst v)) (hfit : ∀ o ∈ ops.toList, lO N o = true) (hpost : Post E N Z F K Kp Q) :
  ∀ (l : List Oper) (env : Nat → Value) (M : Mem) (a : Act) (w : World), (∀ o ∈ l, o ∈ ops.toList) → dB N env a.tmps → Z a → M.dj F → (M.union F).In E w →
   Io C ops K Kp l env M → wpList C.P ops Q l a w := by
 intro l
 induction l with
 | nil => intro env M a w _ ei hds hd hi h; exact hpost.normal _ _ _ _ ei hds hd hi h
 | cons o rest ih =>
  intro env M a w hm ei hds hd hi h
  have hf := hfit o (hm o (List.mem_cons_self ..))
  have hb : dL C ops o env M (fun env' M' => Io C ops K Kp rest env' M') Kp := h
  unfold wpList
  rw [rN ei hfit]
  unfold dL at hb
  split
  ·rename_i hw
   rw [if_pos hw] at hb
   refine .inl (uE (K := fun v M' => Io C ops K Kp rest (Go.AF.aX env o.dst v) M') (Kp := Kp) (F := F) (by rw [← ei.execOp hf]; exact vY hb) hd hi (fun v w' hv => ?_) (fun c w' hc => hpost.panic _ _ _ hds hc))
   obtain ⟨M', hk, hd', hi'⟩ := hv
   exact ih _ _ _ _ (fun o' SD => hm o' (List.mem_cons_of_mem _ SD)) (ei.put (fI hf).2.1 v) (hz o (hm o (List.mem_cons_self ..)) _ _ hds) hd' hi' hk
  ·rename_i hw
   rw [if_neg hw] at hb
   exact ih _ _ _ _ (fun o' SD => hm o' (List.mem_cons_of_mem _ SD)) (ei.put (fI hf).2.1 undef) (hz o (hm o (List.mem_cons_self ..)) _ _ hds) hd hi hb
end
structure EY (E : qi) (N : Nat) (Z : Act → Prop) (F : Mem) (ws : List Nat) (rO : Nat → Value) (Q : K5 → (Nat → Value) → Mem → Prop) (Kp : List PanicEntry → Mem → Prop) (Q' : Exit → Act → World → Prop) : Prop where
 normal : ∀ env M a w, nC ws rO env → dB N env a.tmps → Z a → M.dj F → (M.union F).In E w → Q .normal env M → Q' .normal a w
 exit : ∀ id env M a w, nC ws rO env → dB N env a.tmps → Z a → M.dj F → (M.union F).In E w → Q (.exit id) env M → Q' (.exit id) a w
 ret : ∀ env M a w, nC ws rO env → dB N env a.tmps → Z a → M.dj F → (M.union F).In E w → Q .ret env M → Q' .ret a w
 panic : ∀ c a w, Z a → fx E F (Kp c) w → Q' (.panic c) a w
theorem yK {c : yx} {v : Value} {K K' : Value → Prop} (h : Lx c K) (hv : Bd c (some v) K') : K v ∧ K' v := by
 cases c <;> simp only [Lx, Bd] at h hv
 case int k =>
  unfold aG at hv; split at hv
  ·split at hv
   ·rename_i k' n he hk; cases he; subst hk; exact ⟨h _, hv⟩
   ·exact hv.elim
  ·exact hv.elim
 case bool => unfold cV at hv; split at hv <;> first | (rename_i he; cases he; exact ⟨h _, hv⟩) | exact hv.elim
 case str => unfold fC at hv; split at hv <;> first | (rename_i he; cases he; exact ⟨h _, hv⟩) | exact hv.elim
 case ptr => unfold b8 at hv; split at hv <;> first | (rename_i he; cases he; exact ⟨h _, hv⟩) | exact hv.elim
 case sl => unfold az at hv; split at hv <;> first | (rename_i he; cases he; exact ⟨h _ _ _, hv⟩) | exact hv.elim
 case val => exact ⟨h _, hv⟩
theorem wj : ∀ {cs : List yx} {vs : List Value} {K K' : List Value → Prop}, EV cs K → C5 cs vs K' → K vs ∧ K' vs
 | [], [], K, K', h, hv => ⟨h, hv⟩
 | c :: cs, v :: vs, K, K', h, hv => by
  simp only [EV, C5] at h hv
  obtain ⟨h1, h2⟩ := yK h hv
  exact wj (K := fun vs => K (v :: vs)) (K' := fun vs => K' (v :: vs)) h1 h2
 | [], _ :: _, _, _, _, hv => hv.elim
 | _ :: _, [], _, _, _, hv => hv.elim
theorem Ds {c : xS} {v : Value} {K K' : Value → Prop} (h : EW c K) (hv : Dr c v K') : K v ∧ K' v := by
 cases c with
 | c c => exact yK h hv
 | a l =>
  simp only [EW, Dr] at h hv
  cases v <;> try exact hv.elim
  rename_i cs
  have := wj (vs := cs.toList) (K := fun vs => K (.agg vs.toArray)) (K' := fun vs => K' (.agg vs.toArray)) h hv
  simpa using this
 | b n =>
  simp only [EW, Dr] at h hv
  cases v <;> try exact hv.elim
  rename_i cs
  exact ⟨by simpa using h cs.toList hv.1, hv.2⟩
theorem wk {env : Nat → Value} : ∀ {live : List (Nat × xS)} {K : List (Nat × Value) → Prop} {K' : List Value → Prop}, EX live K → fZ env live K' →
  ∃ l : List (Nat × Value), K l ∧ K' (l.map (·.2)) ∧ ∀ i, look l i (env i) = env i
 | [], K, K', h, hv => ⟨[], h, hv, fun _ => rfl⟩
 | (s, c) :: live, K, K', h, hv => by
  simp only [EX, fZ] at h hv
  obtain ⟨h1, h2⟩ := Ds h hv
  obtain ⟨l, g1, g2, g3⟩ := wk (K := fun vs => K ((s, env s) :: vs)) (K' := fun vs => K' (env s :: vs)) h1 h2
  refine ⟨(s, env s) :: l, g1, g2, fun i => ?_⟩
  unfold look
  by_cases hi : i = s
  ·subst hi; simp
  ·have : Nat.beq i s = false := by cases hb : Nat.beq i s with
    | false => rfl
    | true => exact absurd (Nat.eq_of_beq_eq_true hb) hi
   simp [this, g3]
theorem nD {env fK : Nat → Value} {ws : List Nat} {live : List (Nat × xS)} {J : List Value → Mem → Prop} {Q : (Nat → Value) → Mem → Prop} {M : Mem}
  (h : meet env ws live J Q) (ho : nC ws env fK) (hl : fZ fK live fun vs => J vs M) : Q fK M := by
 obtain ⟨l, h1, h2, h3⟩ := wk (h fK) hl
 have := h1 M h2
 have e : newEnv env fK ws l = fK := by
  funext i
  unfold newEnv
  cases hb : iO ws i with
  | true => exact h3 i
  | false => rw [← ho i hb]; exact h3 i
 rwa [e] at this
end Go.AF
