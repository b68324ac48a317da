/- A part of proofs about one program. -/
import Derived.Test.YtnnlgknlialpmaaGreatZTaperSumsExec
set_option linter.unusedVariables false
namespace Go.AF
variable {E : tX}
def pY (ws : List Nat) (env env' : Nat → Value) : Prop := ∀ i, kA ws i = false → env' i = env i
theorem gR : ∀ {l : List Nat} {i : Nat}, kA l i = true ↔ i ∈ l
 | [], i => by simp [kA]
 | k :: l, i => by
  unfold kA
  by_cases h : i = k
  ·subst h; simp
  ·have : Nat.beq i k = false := by cases hb : Nat.beq i k with
    | false => rfl
    | true => exact absurd (Nat.eq_of_beq_eq_true hb) h
   simp [this, h, gR (l := l)]
theorem pY.refl (ws : List Nat) (env : Nat → Value) : pY ws env env := fun _ _ => rfl
theorem pY.mono {ws UY : List Nat} {env env' : Nat → Value} (h : pY ws env env') (hs : ∀ i ∈ ws, i ∈ UY) : pY UY env env' := fun i hi => h i (by
 cases hb : kA ws i with
 | false => rfl
 | true => have := gR.2 (hs i (gR.1 hb)); rw [hi] at this; cases this)
theorem pY.trans {ws UY : List Nat} {env env' UZ : Nat → Value} (h : pY ws env env') (h' : pY UY env' UZ) : pY (ws ++ UY) env UZ := fun i hi => by
 have h1 : kA ws i = false := by
  cases hb : kA ws i with
  | false => rfl
  | true => have := gR.2 (List.mem_append_left UY (gR.1 hb)); rw [hi] at this; cases this
 have h2 : kA UY i = false := by
  cases hb : kA UY i with
  | false => rfl
  | true => have := gR.2 (List.mem_append_right ws (gR.1 hb)); rw [hi] at this; cases this
 rw [h' i h2, h i h1]
theorem pY.bx {ws : List Nat} {env env' : Nat → Value} (h : pY ws env env') {dst : Option Tmp} (hd : ∀ d, dst = some d → d ∈ ws) (v : Value) : pY ws env (bx env' dst v) := fun i hi => by
 cases dst with
 | none => exact h i hi
 | some d =>
  rw [ia, if_neg, h i hi]
  rintro rfl
  have := gR.2 (hd i rfl); rw [hi] at this; cases this
section
variable {C : Ctx} {ops : Array Oper} {K : (Nat → Value) → Mem → Prop} {Kp : List PanicEntry → Mem → Prop}
theorem FP {ws : List Nat} {o : Oper} {vz env : Nat → Value} {M : Mem} (ho : pY ws vz env) (hd : ∀ d, o.dst = some d → d ∈ ws) (h : eT C ops o env M K Kp) :
  eT C ops o env M (fun env' M' => K env' M' ∧ pY ws vz env') Kp := by
 unfold eT at h ⊢
 split
 ·rename_i hw; rw [if_pos hw] at h; exact m6 h fun v M' hv => ⟨hv, ho.bx hd v⟩
 ·rename_i hw; rw [if_neg hw] at h; exact ⟨h, ho.bx hd undef⟩
theorem FQ {i : Nat} {o : Oper} (h : ops[i]? = some o) : ∀ d, o.dst = some d → d ∈ iT ops := fun d hd =>
 List.mem_filterMap.2 ⟨o, by have := Array.mem_of_getElem? h; simpa using this, hd⟩
theorem OL {S : Mem → Prop} {vz : Nat → Value} : ∀ (f L : Nat) (env : Nat → Value) (M : Mem), pY (iT ops) vz env → dX C ops S K Kp f L env M →
  dX C ops S (fun env' M' => K env' M' ∧ pY (iT ops) vz env') Kp f L env M := by
 intro f
 induction f with
 | zero => intro L env M ho h fI; exact ⟨(h fI).1, (h fI).2, ho⟩
 | succ f ih =>
  intro L env M ho h fI
  obtain ⟨h1, h2⟩ := h fI
  refine ⟨fun hno => ⟨h1 hno, ho⟩, fun i hi => ?_⟩
  have := h2 i hi
  unfold gx at this ⊢
  cases hoi : ops[i]? with
  | none => rw [hoi] at this; exact ⟨this.1, ih _ _ _ ho this.2⟩
  | some o =>
   rw [hoi] at this
   exact jv (FP ho (FQ hoi) this) fun env' M' hx => ⟨hx.1.1, ih _ _ _ hx.2 hx.1.2⟩
def OM (C : Ctx) (ops : Array Oper) (K : (Nat → Value) → Mem → Prop) (Kp : List PanicEntry → Mem → Prop) : List Oper → (Nat → Value) → Mem → Prop
 | [], env, M => K env M
 | o :: rest, env, M => eT C ops o env M (fun env' M' => OM C ops K Kp rest env' M') Kp
theorem ON (hC : C.Good) {vz : Nat → Value} : ∀ (l : List Oper) (env : Nat → Value) (M : Mem), (∀ o ∈ l, o ∈ ops.toList) → pY (iT ops) vz env → V6 C ops K Kp l env M →
  OM C ops (fun env' M' => K env' M' ∧ pY (iT ops) vz env') Kp l env M := by
 intro l
 induction l with
 | nil => intro env M _ ho h; exact ⟨h, ho⟩
 | cons o rest ih =>
  intro env M hm ho h
  have hd : ∀ d, o.dst = some d → d ∈ iT ops := fun d hd => List.mem_filterMap.2 ⟨o, hm o (List.mem_cons_self ..), hd⟩
  exact jv (FP ho hd (iS hC h)) fun env' M' hx => ih env' M' (fun o' ZU => hm o' (List.mem_cons_of_mem _ ZU)) hx.2 hx.1
theorem An {N : Nat} {Z : Act → Prop} {F : Mem} {Q : Exit → Act → World → Prop} (hz : ∀ o ∈ ops.toList, ∀ (a : Act) (v : Value), Z a → Z (a.put o.dst v)) (hfit : ∀ o ∈ ops.toList, od N o = true) (hpost : Post E N Z F K Kp Q) :
  ∀ (l : List Oper) (env : Nat → Value) (M : Mem) (a : Act) (w : World), (∀ o ∈ l, o ∈ ops.toList) → eF N env a.tmps → Z a → M.dj F → (M.union F).In E w →
   OM C ops K Kp l env M → wpList C.P ops Q l a w := by
 intro l
 induction l with
 | nil => intro env M a w _ fD hds hd hi h; exact hpost.normal _ _ _ _ fD hds hd hi h
 | cons o rest ih =>
  intro env M a w hm fD hds hd hi h
  have hf := hfit o (hm o (List.mem_cons_self ..))
  have hb : eT C ops o env M (fun env' M' => OM C ops K Kp rest env' M') Kp := h
  unfold wpList
  rw [vv fD hfit]
  unfold eT at hb
  split
  ·rename_i hw
   rw [if_pos hw] at hb
   refine .inl (yz (K := fun v M' => OM C ops K Kp rest (Go.AF.bx env o.dst v) M') (Kp := Kp) (F := F) (by rw [← fD.execOp hf]; exact Ai hb) hd hi (fun v w' hv => ?_) (fun c w' hc => hpost.panic _ _ _ hds hc))
   obtain ⟨M', hk, hd', hi'⟩ := hv
   exact ih _ _ _ _ (fun o' ZU => hm o' (List.mem_cons_of_mem _ ZU)) (fD.put (gE hf).2.1 v) (hz o (hm o (List.mem_cons_self ..)) _ _ hds) hd' hi' hk
  ·rename_i hw
   rw [if_neg hw] at hb
   exact ih _ _ _ _ (fun o' ZU => hm o' (List.mem_cons_of_mem _ ZU)) (fD.put (gE hf).2.1 undef) (hz o (hm o (List.mem_cons_self ..)) _ _ hds) hd hi hb
end
structure Kx (E : tX) (N : Nat) (Z : Act → Prop) (F : Mem) (ws : List Nat) (vz : Nat → Value) (Q : RM → (Nat → Value) → Mem → Prop) (Kp : List PanicEntry → Mem → Prop) (Q' : Exit → Act → World → Prop) : Prop where
 normal : ∀ env M a w, pY ws vz env → eF N env a.tmps → Z a → M.dj F → (M.union F).In E w → Q .normal env M → Q' .normal a w
 exit : ∀ id env M a w, pY ws vz env → eF N env a.tmps → Z a → M.dj F → (M.union F).In E w → Q (.exit id) env M → Q' (.exit id) a w
 ret : ∀ env M a w, pY ws vz env → eF N env a.tmps → Z a → M.dj F → (M.union F).In E w → Q .ret env M → Q' .ret a w
 panic : ∀ c a w, Z a → gq E F (Kp c) w → Q' (.panic c) a w
theorem C1 {c : CO} {v : Value} {K K' : Value → Prop} (h : SB c K) (hv : Fp c (some v) K') : K v ∧ K' v := by
 cases c <;> simp only [SB, Fp] at h hv
 case int k =>
  unfold aK at hv; split at hv
  ·split at hv
   ·rename_i k' n he hk; cases he; subst hk; exact ⟨h _, hv⟩
   ·exact hv.elim
  ·exact hv.elim
 case bool => unfold dH at hv; split at hv <;> first | (rename_i he; cases he; exact ⟨h _, hv⟩) | exact hv.elim
 case str => unfold fz at hv; split at hv <;> first | (rename_i he; cases he; exact ⟨h _, hv⟩) | exact hv.elim
 case ptr => unfold cv at hv; split at hv <;> first | (rename_i he; cases he; exact ⟨h _, hv⟩) | exact hv.elim
 case sl => unfold az at hv; split at hv <;> first | (rename_i he; cases he; exact ⟨h _ _ _, hv⟩) | exact hv.elim
 case val => exact ⟨h _, hv⟩
theorem Ap : ∀ {cs : List CO} {vs : List Value} {K K' : List Value → Prop}, Ku cs K → H7 cs vs K' → K vs ∧ K' vs
 | [], [], K, K', h, hv => ⟨h, hv⟩
 | c :: cs, v :: vs, K, K', h, hv => by
  simp only [Ku, H7] at h hv
  obtain ⟨h1, h2⟩ := C1 h hv
  exact Ap (K := fun vs => K (v :: vs)) (K' := fun vs => K' (v :: vs)) h1 h2
 | [], _ :: _, _, _, _, hv => hv.elim
 | _ :: _, [], _, _, _, hv => hv.elim
theorem Iv {c : B8} {v : Value} {K K' : Value → Prop} (h : Kv c K) (hv : Iu c v K') : K v ∧ K' v := by
 cases c with
 | c c => exact C1 h hv
 | a l =>
  simp only [Kv, Iu] at h hv
  cases v <;> try exact hv.elim
  rename_i cs
  have := Ap (vs := cs.toList) (K := fun vs => K (.agg vs.toArray)) (K' := fun vs => K' (.agg vs.toArray)) h hv
  simpa using this
 | b n =>
  simp only [Kv, Iu] at h hv
  cases v <;> try exact hv.elim
  rename_i cs
  exact ⟨by simpa using h cs.toList hv.1, hv.2⟩
theorem Aq {env : Nat → Value} : ∀ {live : List (Nat × B8)} {K : List (Nat × Value) → Prop} {K' : List Value → Prop}, Kw live K → g8 env live K' →
  ∃ l : List (Nat × Value), K l ∧ K' (l.map (·.2)) ∧ ∀ i, look l i (env i) = env i
 | [], K, K', h, hv => ⟨[], h, hv, fun _ => rfl⟩
 | (s, c) :: live, K, K', h, hv => by
  simp only [Kw, g8] at h hv
  obtain ⟨h1, h2⟩ := Iv h hv
  obtain ⟨l, g1, g2, g3⟩ := Aq (K := fun vs => K ((s, env s) :: vs)) (K' := fun vs => K' (env s :: vs)) h1 h2
  refine ⟨(s, env s) :: l, g1, g2, fun i => ?_⟩
  unfold look
  by_cases hi : i = s
  ·subst hi; simp
  ·have : Nat.beq i s = false := by cases hb : Nat.beq i s with
    | false => rfl
    | true => exact absurd (Nat.eq_of_beq_eq_true hb) hi
   simp [this, g3]
theorem pZ {env gF : Nat → Value} {ws : List Nat} {live : List (Nat × B8)} {J : List Value → Mem → Prop} {Q : (Nat → Value) → Mem → Prop} {M : Mem}
  (h : meet env ws live J Q) (ho : pY ws env gF) (hl : g8 gF live fun vs => J vs M) : Q gF M := by
 obtain ⟨l, h1, h2, h3⟩ := Aq (h gF) hl
 have := h1 M h2
 have e : newEnv env gF ws l = gF := by
  funext i
  unfold newEnv
  cases hb : kA ws i with
  | true => exact h3 i
  | false => rw [← ho i hb]; exact h3 i
 rwa [e] at this
end Go.AF
