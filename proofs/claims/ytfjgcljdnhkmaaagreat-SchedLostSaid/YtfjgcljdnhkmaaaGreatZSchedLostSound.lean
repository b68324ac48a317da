/- A part of proofs about one program. -/
import Derived.Test.YtfjgcljdnhkmaaaGreatZSchedLostExec
set_option linter.unusedVariables false
namespace Go.AF
variable {E : si}
def o6 (ws : List Nat) (env env' : Nat → Value) : Prop := ∀ i, jM ws i = false → env' i = env i
theorem gB : ∀ {l : List Nat} {i : Nat}, jM l i = true ↔ i ∈ l
 | [], i => by simp [jM]
 | k :: l, i => by
  unfold jM
  by_cases h : i = k
  ·subst h; simp
  ·have : Nat.beq i k = false := by cases hb : Nat.beq i k with
    | false => rfl
    | true => exact absurd (Nat.eq_of_beq_eq_true hb) h
   simp [this, h, gB (l := l)]
theorem o6.refl (ws : List Nat) (env : Nat → Value) : o6 ws env env := fun _ _ => rfl
theorem o6.mono {ws Rf : List Nat} {env env' : Nat → Value} (h : o6 ws env env') (hs : ∀ i ∈ ws, i ∈ Rf) : o6 Rf env env' := fun i hi => h i (by
 cases hb : jM ws i with
 | false => rfl
 | true => have := gB.2 (hs i (gB.1 hb)); rw [hi] at this; cases this)
theorem o6.trans {ws Rf : List Nat} {env env' Rh : Nat → Value} (h : o6 ws env env') (h' : o6 Rf env' Rh) : o6 (ws ++ Rf) env Rh := fun i hi => by
 have h1 : jM ws i = false := by
  cases hb : jM ws i with
  | false => rfl
  | true => have := gB.2 (List.mem_append_left Rf (gB.1 hb)); rw [hi] at this; cases this
 have h2 : jM Rf i = false := by
  cases hb : jM Rf i with
  | false => rfl
  | true => have := gB.2 (List.mem_append_right ws (gB.1 hb)); rw [hi] at this; cases this
 rw [h' i h2, h i h1]
theorem o6.bt {ws : List Nat} {env env' : Nat → Value} (h : o6 ws env env') {dst : Option Tmp} (hd : ∀ d, dst = some d → d ∈ ws) (v : Value) : o6 ws env (bt env' dst v) := fun i hi => by
 cases dst with
 | none => exact h i hi
 | some d =>
  rw [gQ, if_neg, h i hi]
  rintro rfl
  have := gB.2 (hd i rfl); rw [hi] at this; cases this
section
variable {C : Ctx} {ops : Array Oper} {K : (Nat → Value) → Mem → Prop} {Kp : List PanicEntry → Mem → Prop}
theorem DM {ws : List Nat} {o : Oper} {tJ env : Nat → Value} {M : Mem} (ho : o6 ws tJ env) (hd : ∀ d, o.dst = some d → d ∈ ws) (h : eD C ops o env M K Kp) :
  eD C ops o env M (fun env' M' => K env' M' ∧ o6 ws tJ env') Kp := by
 unfold eD at h ⊢
 split
 ·rename_i hw; rw [if_pos hw] at h; exact mh h fun v M' hv => ⟨hv, ho.bt hd v⟩
 ·rename_i hw; rw [if_neg hw] at h; exact ⟨h, ho.bt hd undef⟩
theorem DN {i : Nat} {o : Oper} (h : ops[i]? = some o) : ∀ d, o.dst = some d → d ∈ iz ops := fun d hd =>
 List.mem_filterMap.2 ⟨o, by have := Array.mem_of_getElem? h; simpa using this, hd⟩
theorem Lw {S : Mem → Prop} {tJ : Nat → Value} : ∀ (f L : Nat) (env : Nat → Value) (M : Mem), o6 (iz ops) tJ env → dK C ops S K Kp f L env M →
  dK C ops S (fun env' M' => K env' M' ∧ o6 (iz ops) tJ env') Kp f L env M := by
 intro f
 induction f with
 | zero => intro L env M ho h eS; exact ⟨(h eS).1, (h eS).2, ho⟩
 | succ f ih =>
  intro L env M ho h eS
  obtain ⟨h1, h2⟩ := h eS
  refine ⟨fun hno => ⟨h1 hno, ho⟩, fun i hi => ?_⟩
  have := h2 i hi
  unfold fU at this ⊢
  cases hoi : ops[i]? with
  | none => rw [hoi] at this; exact ⟨this.1, ih _ _ _ ho this.2⟩
  | some o =>
   rw [hoi] at this
   exact iT (DM ho (DN hoi) this) fun env' M' hx => ⟨hx.1.1, ih _ _ _ hx.2 hx.1.2⟩
def Lx (C : Ctx) (ops : Array Oper) (K : (Nat → Value) → Mem → Prop) (Kp : List PanicEntry → Mem → Prop) : List Oper → (Nat → Value) → Mem → Prop
 | [], env, M => K env M
 | o :: rest, env, M => eD C ops o env M (fun env' M' => Lx C ops K Kp rest env' M') Kp
theorem Ly (hC : C.Good) {tJ : Nat → Value} : ∀ (l : List Oper) (env : Nat → Value) (M : Mem), (∀ o ∈ l, o ∈ ops.toList) → o6 (iz ops) tJ env → SC C ops K Kp l env M →
  Lx C ops (fun env' M' => K env' M' ∧ o6 (iz ops) tJ env') Kp l env M := by
 intro l
 induction l with
 | nil => intro env M _ ho h; exact ⟨h, ho⟩
 | cons o rest ih =>
  intro env M hm ho h
  have hd : ∀ d, o.dst = some d → d ∈ iz ops := fun d hd => List.mem_filterMap.2 ⟨o, hm o (List.mem_cons_self ..), hd⟩
  exact iT (DM ho hd (iy hC h)) fun env' M' hx => ih env' M' (fun o' WL => hm o' (List.mem_cons_of_mem _ WL)) hx.2 hx.1
theorem x5 {N : Nat} {Z : Act → Prop} {F : Mem} {Q : Exit → Act → World → Prop} (hz : ∀ o ∈ ops.toList, ∀ (a : Act) (v : Value), Z a → Z (a.put o.dst v)) (hfit : ∀ o ∈ ops.toList, m9 N o = true) (hpost : Post E N Z F K Kp Q) :
  ∀ (l : List Oper) (env : Nat → Value) (M : Mem) (a : Act) (w : World), (∀ o ∈ l, o ∈ ops.toList) → dY N env a.tmps → Z a → M.dj F → (M.union F).In E w →
   Lx C ops K Kp l env M → wpList C.P ops Q l a w := by
 intro l
 induction l with
 | nil => intro env M a w _ eW hds hd hi h; exact hpost.normal _ _ _ _ eW hds hd hi h
 | cons o rest ih =>
  intro env M a w hm eW hds hd hi h
  have hf := hfit o (hm o (List.mem_cons_self ..))
  have hb : eD C ops o env M (fun env' M' => Lx C ops K Kp rest env' M') Kp := h
  unfold wpList
  rw [tI eW hfit]
  unfold eD at hb
  split
  ·rename_i hw
   rw [if_pos hw] at hb
   refine .inl (vY (K := fun v M' => Lx C ops K Kp rest (Go.AF.bt env o.dst v) M') (Kp := Kp) (F := F) (by rw [← eW.execOp hf]; exact xU hb) hd hi (fun v w' hv => ?_) (fun c w' hc => hpost.panic _ _ _ hds hc))
   obtain ⟨M', hk, hd', hi'⟩ := hv
   exact ih _ _ _ _ (fun o' WL => hm o' (List.mem_cons_of_mem _ WL)) (eW.put (gh hf).2.1 v) (hz o (hm o (List.mem_cons_self ..)) _ _ hds) hd' hi' hk
  ·rename_i hw
   rw [if_neg hw] at hb
   exact ih _ _ _ _ (fun o' WL => hm o' (List.mem_cons_of_mem _ WL)) (eW.put (gh hf).2.1 undef) (hz o (hm o (List.mem_cons_self ..)) _ _ hds) hd hi hb
end
structure HK (E : si) (N : Nat) (Z : Act → Prop) (F : Mem) (ws : List Nat) (tJ : Nat → Value) (Q : OJ → (Nat → Value) → Mem → Prop) (Kp : List PanicEntry → Mem → Prop) (Q' : Exit → Act → World → Prop) : Prop where
 normal : ∀ env M a w, o6 ws tJ env → dY N env a.tmps → Z a → M.dj F → (M.union F).In E w → Q .normal env M → Q' .normal a w
 exit : ∀ id env M a w, o6 ws tJ env → dY N env a.tmps → Z a → M.dj F → (M.union F).In E w → Q (.exit id) env M → Q' (.exit id) a w
 ret : ∀ env M a w, o6 ws tJ env → dY N env a.tmps → Z a → M.dj F → (M.union F).In E w → Q .ret env M → Q' .ret a w
 panic : ∀ c a w, Z a → fP E F (Kp c) w → Q' (.panic c) a w
theorem AN {c : Ax} {v : Value} {K K' : Value → Prop} (h : Pa c K) (hv : Dk c (some v) K') : K v ∧ K' v := by
 cases c <;> simp only [Pa, Dk] at h hv
 case int k =>
  unfold aK at hv; split at hv
  ·split at hv
   ·rename_i k' n he hk; cases he; subst hk; exact ⟨h _, hv⟩
   ·exact hv.elim
  ·exact hv.elim
 case bool => unfold cD at hv; split at hv <;> first | (rename_i he; cases he; exact ⟨h _, hv⟩) | exact hv.elim
 case str => unfold fH at hv; split at hv <;> first | (rename_i he; cases he; exact ⟨h _, hv⟩) | exact hv.elim
 case ptr => unfold bL at hv; split at hv <;> first | (rename_i he; cases he; exact ⟨h _, hv⟩) | exact hv.elim
 case sl => unfold aD at hv; split at hv <;> first | (rename_i he; cases he; exact ⟨h _ _ _, hv⟩) | exact hv.elim
 case val => exact ⟨h _, hv⟩
theorem x6 : ∀ {cs : List Ax} {vs : List Value} {K K' : List Value → Prop}, HH cs K → Fq cs vs K' → K vs ∧ K' vs
 | [], [], K, K', h, hv => ⟨h, hv⟩
 | c :: cs, v :: vs, K, K', h, hv => by
  simp only [HH, Fq] at h hv
  obtain ⟨h1, h2⟩ := AN h hv
  exact x6 (K := fun vs => K (v :: vs)) (K' := fun vs => K' (v :: vs)) h1 h2
 | [], _ :: _, _, _, _, hv => hv.elim
 | _ :: _, [], _, _, _, hv => hv.elim
theorem FM {c : zL} {v : Value} {K K' : Value → Prop} (h : HI c K) (hv : FL c v K') : K v ∧ K' v := by
 cases c with
 | c c => exact AN h hv
 | a l =>
  simp only [HI, FL] at h hv
  cases v <;> try exact hv.elim
  rename_i cs
  have := x6 (vs := cs.toList) (K := fun vs => K (.agg vs.toArray)) (K' := fun vs => K' (.agg vs.toArray)) h hv
  simpa using this
 | b n =>
  simp only [HI, FL] at h hv
  cases v <;> try exact hv.elim
  rename_i cs
  exact ⟨by simpa using h cs.toList hv.1, hv.2⟩
theorem x7 {env : Nat → Value} : ∀ {live : List (Nat × zL)} {K : List (Nat × Value) → Prop} {K' : List Value → Prop}, HJ live K → gK env live K' →
  ∃ l : List (Nat × Value), K l ∧ K' (l.map (·.2)) ∧ ∀ i, look l i (env i) = env i
 | [], K, K', h, hv => ⟨[], h, hv, fun _ => rfl⟩
 | (s, c) :: live, K, K', h, hv => by
  simp only [HJ, gK] at h hv
  obtain ⟨h1, h2⟩ := FM h hv
  obtain ⟨l, g1, g2, g3⟩ := x7 (K := fun vs => K ((s, env s) :: vs)) (K' := fun vs => K' (env s :: vs)) h1 h2
  refine ⟨(s, env s) :: l, g1, g2, fun i => ?_⟩
  unfold look
  by_cases hi : i = s
  ·subst hi; simp
  ·have : Nat.beq i s = false := by cases hb : Nat.beq i s with
    | false => rfl
    | true => exact absurd (Nat.eq_of_beq_eq_true hb) hi
   simp [this, g3]
theorem pb {env gi : Nat → Value} {ws : List Nat} {live : List (Nat × zL)} {J : List Value → Mem → Prop} {Q : (Nat → Value) → Mem → Prop} {M : Mem}
  (h : meet env ws live J Q) (ho : o6 ws env gi) (hl : gK gi live fun vs => J vs M) : Q gi M := by
 obtain ⟨l, h1, h2, h3⟩ := x7 (h gi) hl
 have := h1 M h2
 have e : newEnv env gi ws l = gi := by
  funext i
  unfold newEnv
  cases hb : jM ws i with
  | true => exact h3 i
  | false => rw [← ho i hb]; exact h3 i
 rwa [e] at this
end Go.AF
