/- A part of proofs about one program. -/
import Derived.Test.YtfjgcljdnhkmaaaZWorldSleepsExec
set_option linter.unusedVariables false
namespace Go.AF
variable {E : mb}
def jZ (ws : List Nat) (env env' : Nat → Value) : Prop := ∀ i, fR ws i = false → env' i = env i
theorem dN : ∀ {l : List Nat} {i : Nat}, fR l i = true ↔ i ∈ l
 | [], i => by simp [fR]
 | k :: l, i => by
  unfold fR
  by_cases h : i = k
  ·subst h; simp
  ·have : Nat.beq i k = false := by cases hb : Nat.beq i k with
    | false => rfl
    | true => exact absurd (Nat.eq_of_beq_eq_true hb) h
   simp [this, h, dN (l := l)]
theorem jZ.refl (ws : List Nat) (env : Nat → Value) : jZ ws env env := fun _ _ => rfl
theorem jZ.mono {ws DY : List Nat} {env env' : Nat → Value} (h : jZ ws env env') (hs : ∀ i ∈ ws, i ∈ DY) : jZ DY env env' := fun i hi => h i (by
 cases hb : fR ws i with
 | false => rfl
 | true => have := dN.2 (hs i (dN.1 hb)); rw [hi] at this; cases this)
theorem jZ.trans {ws DY : List Nat} {env env' DZ : Nat → Value} (h : jZ ws env env') (h' : jZ DY env' DZ) : jZ (ws ++ DY) env DZ := fun i hi => by
 have h1 : fR ws i = false := by
  cases hb : fR ws i with
  | false => rfl
  | true => have := dN.2 (List.mem_append_left DY (dN.1 hb)); rw [hi] at this; cases this
 have h2 : fR DY i = false := by
  cases hb : fR DY i with
  | false => rfl
  | true => have := dN.2 (List.mem_append_right ws (dN.1 hb)); rw [hi] at this; cases this
 rw [h' i h2, h i h1]
theorem jZ.aL {ws : List Nat} {env env' : Nat → Value} (h : jZ ws env env') {dst : Option Tmp} (hd : ∀ d, dst = some d → d ∈ ws) (v : Value) : jZ ws env (aL env' dst v) := fun i hi => by
 cases dst with
 | none => exact h i hi
 | some d =>
  rw [fD, if_neg, h i hi]
  rintro rfl
  have := dN.2 (hd i rfl); rw [hi] at this; cases this
section
variable {C : Ctx} {ops : Array Oper} {K : (Nat → Value) → Mem → Prop} {Kp : List PanicEntry → Mem → Prop}
theorem vn {ws : List Nat} {o : Oper} {nt env : Nat → Value} {M : Mem} (ho : jZ ws nt env) (hd : ∀ d, o.dst = some d → d ∈ ws) (h : cK C ops o env M K Kp) :
  cK C ops o env M (fun env' M' => K env' M' ∧ jZ ws nt env') Kp := by
 unfold cK at h ⊢
 split
 ·rename_i hw; rw [if_pos hw] at h; exact ij h fun v M' hv => ⟨hv, ho.aL hd v⟩
 ·rename_i hw; rw [if_neg hw] at h; exact ⟨h, ho.aL hd undef⟩
theorem vo {i : Nat} {o : Oper} (h : ops[i]? = some o) : ∀ d, o.dst = some d → d ∈ eU ops := fun d hd =>
 List.mem_filterMap.2 ⟨o, by have := Array.mem_of_getElem? h; simpa using this, hd⟩
theorem AP {S : Mem → Prop} {nt : Nat → Value} : ∀ (f L : Nat) (env : Nat → Value) (M : Mem), jZ (eU ops) nt env → b6 C ops S K Kp f L env M →
  b6 C ops S (fun env' M' => K env' M' ∧ jZ (eU ops) nt env') Kp f L env M := by
 intro f
 induction f with
 | zero => intro L env M ho h cX; exact ⟨(h cX).1, (h cX).2, ho⟩
 | succ f ih =>
  intro L env M ho h cX
  obtain ⟨h1, h2⟩ := h cX
  refine ⟨fun hno => ⟨h1 hno, ho⟩, fun i hi => ?_⟩
  have := h2 i hi
  unfold dy at this ⊢
  cases JJ : ops[i]? with
  | none => rw [JJ] at this; exact ⟨this.1, ih _ _ _ ho this.2⟩
  | some o =>
   rw [JJ] at this
   exact fy (vn ho (vo JJ) this) fun env' M' hx => ⟨hx.1.1, ih _ _ _ hx.2 hx.1.2⟩
def AQ (C : Ctx) (ops : Array Oper) (K : (Nat → Value) → Mem → Prop) (Kp : List PanicEntry → Mem → Prop) : List Oper → (Nat → Value) → Mem → Prop
 | [], env, M => K env M
 | o :: rest, env, M => cK C ops o env M (fun env' M' => AQ C ops K Kp rest env' M') Kp
theorem AR (hC : C.Good) {nt : Nat → Value} : ∀ (l : List Oper) (env : Nat → Value) (M : Mem), (∀ o ∈ l, o ∈ ops.toList) → jZ (eU ops) nt env → ES C ops K Kp l env M →
  AQ C ops (fun env' M' => K env' M' ∧ jZ (eU ops) nt env') Kp l env M := by
 intro l
 induction l with
 | nil => intro env M _ ho h; exact ⟨h, ho⟩
 | cons o rest ih =>
  intro env M hm ho h
  have hd : ∀ d, o.dst = some d → d ∈ eU ops := fun d hd => List.mem_filterMap.2 ⟨o, hm o (List.mem_cons_self ..), hd⟩
  exact fy (vn ho hd (eT hC h)) fun env' M' hx => ih env' M' (fun o' GO => hm o' (List.mem_cons_of_mem _ GO)) hx.2 hx.1
theorem qB {N : Nat} {Z : Act → Prop} {F : Mem} {Q : Exit → Act → World → Prop} (hz : ∀ o ∈ ops.toList, ∀ (a : Act) (v : Value), Z a → Z (a.put o.dst v)) (hfit : ∀ o ∈ ops.toList, iQ N o = true) (hpost : Post E N Z F K Kp Q) :
  ∀ (l : List Oper) (env : Nat → Value) (M : Mem) (a : Act) (w : World), (∀ o ∈ l, o ∈ ops.toList) → cO N env a.tmps → Z a → M.dj F → (M.union F).In E w →
   AQ C ops K Kp l env M → wpList C.P ops Q l a w := by
 intro l
 induction l with
 | nil => intro env M a w _ cW hds hd hi h; exact hpost.normal _ _ _ _ cW hds hd hi h
 | cons o rest ih =>
  intro env M a w hm cW hds hd hi h
  have hf := hfit o (hm o (List.mem_cons_self ..))
  have hb : cK C ops o env M (fun env' M' => AQ C ops K Kp rest env' M') Kp := h
  unfold wpList
  rw [nq cW hfit]
  unfold cK at hb
  split
  ·rename_i hw
   rw [if_pos hw] at hb
   refine .inl (pb (K := fun v M' => AQ C ops K Kp rest (Go.AF.aL env o.dst v) M') (Kp := Kp) (F := F) (by rw [← cW.execOp hf]; exact qw hb) hd hi (fun v w' hv => ?_) (fun c w' hc => hpost.panic _ _ _ hds hc))
   obtain ⟨M', hk, hd', hi'⟩ := hv
   exact ih _ _ _ _ (fun o' GO => hm o' (List.mem_cons_of_mem _ GO)) (cW.put (dH hf).2.1 v) (hz o (hm o (List.mem_cons_self ..)) _ _ hds) hd' hi' hk
  ·rename_i hw
   rw [if_neg hw] at hb
   exact ih _ _ _ _ (fun o' GO => hm o' (List.mem_cons_of_mem _ GO)) (cW.put (dH hf).2.1 undef) (hz o (hm o (List.mem_cons_self ..)) _ _ hds) hd hi hb
end
structure yq (E : mb) (N : Nat) (Z : Act → Prop) (F : Mem) (ws : List Nat) (nt : Nat → Value) (Q : CR → (Nat → Value) → Mem → Prop) (Kp : List PanicEntry → Mem → Prop) (Q' : Exit → Act → World → Prop) : Prop where
 normal : ∀ env M a w, jZ ws nt env → cO N env a.tmps → Z a → M.dj F → (M.union F).In E w → Q .normal env M → Q' .normal a w
 exit : ∀ id env M a w, jZ ws nt env → cO N env a.tmps → Z a → M.dj F → (M.union F).In E w → Q (.exit id) env M → Q' (.exit id) a w
 ret : ∀ env M a w, jZ ws nt env → cO N env a.tmps → Z a → M.dj F → (M.union F).In E w → Q .ret env M → Q' .ret a w
 panic : ∀ c a w, Z a → ee E F (Kp c) w → Q' (.panic c) a w
theorem sQ {c : sC} {v : Value} {K K' : Value → Prop} (h : CQ c K) (hv : uR c (some v) K') : K v ∧ K' v := by
 cases c <;> simp only [CQ, uR] at h hv
 case int k =>
  unfold bG at hv; split at hv
  ·split at hv
   ·rename_i k' n he hk; cases he; subst hk; exact ⟨h _, hv⟩
   ·exact hv.elim
  ·exact hv.elim
 case bool => unfold dz at hv; split at hv <;> first | (rename_i he; cases he; exact ⟨h _, hv⟩) | exact hv.elim
 case str => unfold fN at hv; split at hv <;> first | (rename_i he; cases he; exact ⟨h _, hv⟩) | exact hv.elim
 case ptr => unfold dU at hv; split at hv <;> first | (rename_i he; cases he; exact ⟨h _, hv⟩) | exact hv.elim
 case sl => unfold aE at hv; split at hv <;> first | (rename_i he; cases he; exact ⟨h _ _ _, hv⟩) | exact hv.elim
 case val => exact ⟨h _, hv⟩
theorem qC : ∀ {cs : List sC} {vs : List Value} {K K' : List Value → Prop}, yn cs K → wK cs vs K' → K vs ∧ K' vs
 | [], [], K, K', h, hv => ⟨h, hv⟩
 | c :: cs, v :: vs, K, K', h, hv => by
  simp only [yn, wK] at h hv
  obtain ⟨h1, h2⟩ := sQ h hv
  exact qC (K := fun vs => K (v :: vs)) (K' := fun vs => K' (v :: vs)) h1 h2
 | [], _ :: _, _, _, _, hv => hv.elim
 | _ :: _, [], _, _, _, hv => hv.elim
theorem xh {c : rZ} {v : Value} {K K' : Value → Prop} (h : yo c K) (hv : xg c v K') : K v ∧ K' v := by
 cases c with
 | c c => exact sQ h hv
 | a l =>
  simp only [yo, xg] at h hv
  cases v <;> try exact hv.elim
  rename_i cs
  have := qC (vs := cs.toList) (K := fun vs => K (.agg vs.toArray)) (K' := fun vs => K' (.agg vs.toArray)) h hv
  simpa using this
 | b n =>
  simp only [yo, xg] at h hv
  cases v <;> try exact hv.elim
  rename_i cs
  exact ⟨by simpa using h cs.toList hv.1, hv.2⟩
theorem qD {env : Nat → Value} : ∀ {live : List (Nat × rZ)} {K : List (Nat × Value) → Prop} {K' : List Value → Prop}, yp live K → dX env live K' →
  ∃ l : List (Nat × Value), K l ∧ K' (l.map (·.2)) ∧ ∀ i, look l i (env i) = env i
 | [], K, K', h, hv => ⟨[], h, hv, fun _ => rfl⟩
 | (s, c) :: live, K, K', h, hv => by
  simp only [yp, dX] at h hv
  obtain ⟨h1, h2⟩ := xh h hv
  obtain ⟨l, g1, g2, g3⟩ := qD (K := fun vs => K ((s, env s) :: vs)) (K' := fun vs => K' (env s :: vs)) h1 h2
  refine ⟨(s, env s) :: l, g1, g2, fun i => ?_⟩
  unfold look
  by_cases hi : i = s
  ·subst hi; simp
  ·have : Nat.beq i s = false := by cases hb : Nat.beq i s with
    | false => rfl
    | true => exact absurd (Nat.eq_of_beq_eq_true hb) hi
   simp [this, g3]
theorem j1 {env dY : Nat → Value} {ws : List Nat} {live : List (Nat × rZ)} {J : List Value → Mem → Prop} {Q : (Nat → Value) → Mem → Prop} {M : Mem}
  (h : meet env ws live J Q) (ho : jZ ws env dY) (hl : dX dY live fun vs => J vs M) : Q dY M := by
 obtain ⟨l, h1, h2, h3⟩ := qD (h dY) hl
 have := h1 M h2
 have e : newEnv env dY ws l = dY := by
  funext i
  unfold newEnv
  cases hb : fR ws i with
  | true => exact h3 i
  | false => rw [← ho i hb]; exact h3 i
 rwa [e] at this
end Go.AF
