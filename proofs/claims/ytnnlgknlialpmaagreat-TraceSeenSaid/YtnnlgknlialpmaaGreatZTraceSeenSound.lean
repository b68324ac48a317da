/- A part of proofs about one program. -/
import Derived.Test.YtnnlgknlialpmaaGreatZTraceSeenExec
set_option linter.unusedVariables false
namespace Go.AF
variable {E : s9}
def pG (ws : List Nat) (env env' : Nat → Value) : Prop := ∀ i, ke ws i = false → env' i = env i
theorem gK : ∀ {l : List Nat} {i : Nat}, ke l i = true ↔ i ∈ l
 | [], i => by simp [ke]
 | k :: l, i => by
  unfold ke
  by_cases h : i = k
  ·subst h; simp
  ·have : Nat.beq i k = false := by cases hb : Nat.beq i k with
    | false => rfl
    | true => exact absurd (Nat.eq_of_beq_eq_true hb) h
   simp [this, h, gK (l := l)]
theorem pG.refl (ws : List Nat) (env : Nat → Value) : pG ws env env := fun _ _ => rfl
theorem pG.mono {ws So : List Nat} {env env' : Nat → Value} (h : pG ws env env') (hs : ∀ i ∈ ws, i ∈ So) : pG So env env' := fun i hi => h i (by
 cases hb : ke ws i with
 | false => rfl
 | true => have := gK.2 (hs i (gK.1 hb)); rw [hi] at this; cases this)
theorem pG.trans {ws So : List Nat} {env env' Sp : Nat → Value} (h : pG ws env env') (h' : pG So env' Sp) : pG (ws ++ So) env Sp := fun i hi => by
 have h1 : ke ws i = false := by
  cases hb : ke ws i with
  | false => rfl
  | true => have := gK.2 (List.mem_append_left So (gK.1 hb)); rw [hi] at this; cases this
 have h2 : ke So i = false := by
  cases hb : ke So i with
  | false => rfl
  | true => have := gK.2 (List.mem_append_right ws (gK.1 hb)); rw [hi] at this; cases this
 rw [h' i h2, h i h1]
theorem pG.bt {ws : List Nat} {env env' : Nat → Value} (h : pG ws env env') {dst : Option Tmp} (hd : ∀ d, dst = some d → d ∈ ws) (v : Value) : pG ws env (bt env' dst v) := fun i hi => by
 cases dst with
 | none => exact h i hi
 | some d =>
  rw [g6, if_neg, h i hi]
  rintro rfl
  have := gK.2 (hd i rfl); rw [hi] at this; cases this
section
variable {C : Ctx} {ops : Array Oper} {K : (Nat → Value) → Mem → Prop} {Kp : List PanicEntry → Mem → Prop}
theorem Es {ws : List Nat} {o : Oper} {ur env : Nat → Value} {M : Mem} (ho : pG ws ur env) (hd : ∀ d, o.dst = some d → d ∈ ws) (h : eO C ops o env M K Kp) :
  eO C ops o env M (fun env' M' => K env' M' ∧ pG ws ur env') Kp := by
 unfold eO at h ⊢
 split
 ·rename_i hw; rw [if_pos hw] at h; exact mQ h fun v M' hv => ⟨hv, ho.bt hd v⟩
 ·rename_i hw; rw [if_neg hw] at h; exact ⟨h, ho.bt hd undef⟩
theorem Et {i : Nat} {o : Oper} (h : ops[i]? = some o) : ∀ d, o.dst = some d → d ∈ iQ ops := fun d hd =>
 List.mem_filterMap.2 ⟨o, by have := Array.mem_of_getElem? h; simpa using this, hd⟩
theorem Md {S : Mem → Prop} {ur : Nat → Value} : ∀ (f L : Nat) (env : Nat → Value) (M : Mem), pG (iQ ops) ur env → dM C ops S K Kp f L env M →
  dM C ops S (fun env' M' => K env' M' ∧ pG (iQ ops) ur env') Kp f L env M := by
 intro f
 induction f with
 | zero => intro L env M ho h fB; exact ⟨(h fB).1, (h fB).2, ho⟩
 | succ f ih =>
  intro L env M ho h fB
  obtain ⟨h1, h2⟩ := h fB
  refine ⟨fun hno => ⟨h1 hno, ho⟩, fun i hi => ?_⟩
  have := h2 i hi
  unfold gn at this ⊢
  cases hoi : ops[i]? with
  | none => rw [hoi] at this; exact ⟨this.1, ih _ _ _ ho this.2⟩
  | some o =>
   rw [hoi] at this
   exact jy (Es ho (Et hoi) this) fun env' M' hx => ⟨hx.1.1, ih _ _ _ hx.2 hx.1.2⟩
def Me (C : Ctx) (ops : Array Oper) (K : (Nat → Value) → Mem → Prop) (Kp : List PanicEntry → Mem → Prop) : List Oper → (Nat → Value) → Mem → Prop
 | [], env, M => K env M
 | o :: rest, env, M => eO C ops o env M (fun env' M' => Me C ops K Kp rest env' M') Kp
theorem Mf (hC : C.Good) {ur : Nat → Value} : ∀ (l : List Oper) (env : Nat → Value) (M : Mem), (∀ o ∈ l, o ∈ ops.toList) → pG (iQ ops) ur env → TE C ops K Kp l env M →
  Me C ops (fun env' M' => K env' M' ∧ pG (iQ ops) ur env') Kp l env M := by
 intro l
 induction l with
 | nil => intro env M _ ho h; exact ⟨h, ho⟩
 | cons o rest ih =>
  intro env M hm ho h
  have hd : ∀ d, o.dst = some d → d ∈ iQ ops := fun d hd => List.mem_filterMap.2 ⟨o, hm o (List.mem_cons_self ..), hd⟩
  exact jy (Es ho hd (iP hC h)) fun env' M' hx => ih env' M' (fun o' Xy => hm o' (List.mem_cons_of_mem _ Xy)) hx.2 hx.1
theorem zb {N : Nat} {Z : Act → Prop} {F : Mem} {Q : Exit → Act → World → Prop} (hz : ∀ o ∈ ops.toList, ∀ (a : Act) (v : Value), Z a → Z (a.put o.dst v)) (hfit : ∀ o ∈ ops.toList, nE N o = true) (hpost : Post E N Z F K Kp Q) :
  ∀ (l : List Oper) (env : Nat → Value) (M : Mem) (a : Act) (w : World), (∀ o ∈ l, o ∈ ops.toList) → eD N env a.tmps → Z a → M.dj F → (M.union F).In E w →
   Me C ops K Kp l env M → wpList C.P ops Q l a w := by
 intro l
 induction l with
 | nil => intro env M a w _ fy hds hd hi h; exact hpost.normal _ _ _ _ fy hds hd hi h
 | cons o rest ih =>
  intro env M a w hm fy hds hd hi h
  have hf := hfit o (hm o (List.mem_cons_self ..))
  have hb : eO C ops o env M (fun env' M' => Me C ops K Kp rest env' M') Kp := h
  unfold wpList
  rw [uq fy hfit]
  unfold eO at hb
  split
  ·rename_i hw
   rw [if_pos hw] at hb
   refine .inl (xu (K := fun v M' => Me C ops K Kp rest (Go.AF.bt env o.dst v) M') (Kp := Kp) (F := F) (by rw [← fy.execOp hf]; exact y5 hb) hd hi (fun v w' hv => ?_) (fun c w' hc => hpost.panic _ _ _ hds hc))
   obtain ⟨M', hk, hd', hi'⟩ := hv
   exact ih _ _ _ _ (fun o' Xy => hm o' (List.mem_cons_of_mem _ Xy)) (fy.put (gx hf).2.1 v) (hz o (hm o (List.mem_cons_self ..)) _ _ hds) hd' hi' hk
  ·rename_i hw
   rw [if_neg hw] at hb
   exact ih _ _ _ _ (fun o' Xy => hm o' (List.mem_cons_of_mem _ Xy)) (fy.put (gx hf).2.1 undef) (hz o (hm o (List.mem_cons_self ..)) _ _ hds) hd hi hb
end
structure Is (E : s9) (N : Nat) (Z : Act → Prop) (F : Mem) (ws : List Nat) (ur : Nat → Value) (Q : Pm → (Nat → Value) → Mem → Prop) (Kp : List PanicEntry → Mem → Prop) (Q' : Exit → Act → World → Prop) : Prop where
 normal : ∀ env M a w, pG ws ur env → eD N env a.tmps → Z a → M.dj F → (M.union F).In E w → Q .normal env M → Q' .normal a w
 exit : ∀ id env M a w, pG ws ur env → eD N env a.tmps → Z a → M.dj F → (M.union F).In E w → Q (.exit id) env M → Q' (.exit id) a w
 ret : ∀ env M a w, pG ws ur env → eD N env a.tmps → Z a → M.dj F → (M.union F).In E w → Q .ret env M → Q' .ret a w
 panic : ∀ c a w, Z a → gi E F (Kp c) w → Q' (.panic c) a w
theorem BH {c : Bu} {v : Value} {K K' : Value → Prop} (h : PV c K) (hv : D1 c (some v) K') : K v ∧ K' v := by
 cases c <;> simp only [PV, D1] at h hv
 case int k =>
  unfold aI at hv; split at hv
  ·split at hv
   ·rename_i k' n he hk; cases he; subst hk; exact ⟨h _, hv⟩
   ·exact hv.elim
  ·exact hv.elim
 case bool => unfold c7 at hv; split at hv <;> first | (rename_i he; cases he; exact ⟨h _, hv⟩) | exact hv.elim
 case str => unfold fm at hv; split at hv <;> first | (rename_i he; cases he; exact ⟨h _, hv⟩) | exact hv.elim
 case ptr => unfold cy at hv; split at hv <;> first | (rename_i he; cases he; exact ⟨h _, hv⟩) | exact hv.elim
 case sl => unfold aB at hv; split at hv <;> first | (rename_i he; cases he; exact ⟨h _ _ _, hv⟩) | exact hv.elim
 case val => exact ⟨h _, hv⟩
theorem zc : ∀ {cs : List Bu} {vs : List Value} {K K' : List Value → Prop}, Ip cs K → F9 cs vs K' → K vs ∧ K' vs
 | [], [], K, K', h, hv => ⟨h, hv⟩
 | c :: cs, v :: vs, K, K', h, hv => by
  simp only [Ip, F9] at h hv
  obtain ⟨h1, h2⟩ := BH h hv
  exact zc (K := fun vs => K (v :: vs)) (K' := fun vs => K' (v :: vs)) h1 h2
 | [], _ :: _, _, _, _, hv => hv.elim
 | _ :: _, [], _, _, _, hv => hv.elim
theorem Gu {c : AM} {v : Value} {K K' : Value → Prop} (h : Iq c K) (hv : Gt c v K') : K v ∧ K' v := by
 cases c with
 | c c => exact BH h hv
 | a l =>
  simp only [Iq, Gt] at h hv
  cases v <;> try exact hv.elim
  rename_i cs
  have := zc (vs := cs.toList) (K := fun vs => K (.agg vs.toArray)) (K' := fun vs => K' (.agg vs.toArray)) h hv
  simpa using this
 | b n =>
  simp only [Iq, Gt] at h hv
  cases v <;> try exact hv.elim
  rename_i cs
  exact ⟨by simpa using h cs.toList hv.1, hv.2⟩
theorem zd {env : Nat → Value} : ∀ {live : List (Nat × AM)} {K : List (Nat × Value) → Prop} {K' : List Value → Prop}, Ir live K → gV env live K' →
  ∃ l : List (Nat × Value), K l ∧ K' (l.map (·.2)) ∧ ∀ i, look l i (env i) = env i
 | [], K, K', h, hv => ⟨[], h, hv, fun _ => rfl⟩
 | (s, c) :: live, K, K', h, hv => by
  simp only [Ir, gV] at h hv
  obtain ⟨h1, h2⟩ := Gu h hv
  obtain ⟨l, g1, g2, g3⟩ := zd (K := fun vs => K ((s, env s) :: vs)) (K' := fun vs => K' (env s :: vs)) h1 h2
  refine ⟨(s, env s) :: l, g1, g2, fun i => ?_⟩
  unfold look
  by_cases hi : i = s
  ·subst hi; simp
  ·have : Nat.beq i s = false := by cases hb : Nat.beq i s with
    | false => rfl
    | true => exact absurd (Nat.eq_of_beq_eq_true hb) hi
   simp [this, g3]
theorem pH {env gy : Nat → Value} {ws : List Nat} {live : List (Nat × AM)} {J : List Value → Mem → Prop} {Q : (Nat → Value) → Mem → Prop} {M : Mem}
  (h : meet env ws live J Q) (ho : pG ws env gy) (hl : gV gy live fun vs => J vs M) : Q gy M := by
 obtain ⟨l, h1, h2, h3⟩ := zd (h gy) hl
 have := h1 M h2
 have e : newEnv env gy ws l = gy := by
  funext i
  unfold newEnv
  cases hb : ke ws i with
  | true => exact h3 i
  | false => rw [← ho i hb]; exact h3 i
 rwa [e] at this
end Go.AF
