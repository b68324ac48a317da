/- A part of proofs about one program. -/
import Derived.Test.YtfjgcljdnhkmaaaGreatZSchedAloneSound
set_option linter.unusedVariables false
namespace Go.AF
variable {E : pO}
theorem iI {i d : Nat} : Nat.beq i d = true ↔ i = d := ⟨Nat.eq_of_beq_eq_true, fun h => by subst h; simp⟩
theorem AK {c : Operand} {e : Bool} {env : Nat → Value} (h : mL env c = .bool e) : tQ c e env = env := by
 cases c <;> try rfl
 exact kf h
def N7 (E : pO) (N : Nat) (Z : Act → Prop) (F : Mem) (env : Nat → Value) (ws : List Nat) (live : List (Nat × xm)) (I : Nat → List Value → Mem → Prop) (n : Nat) (a : Act) (w : World) : Prop :=
 ∃ fk M1, m5 ws env fk ∧ da N fk a.tmps ∧ Z a ∧ M1.dj F ∧ (M1.union F).In E w ∧ fL fk live fun vs => I n vs M1
theorem Fk {P : Program} {c : Code} {Q : Exit → Act → World → Prop} {R : Nat → Act → World → Prop} {a : Act} {w : World} (h0 : ∃ n, R n a w)
  (round : ∀ n a w, R n a w → c.wp P (Exit.then (fun a' w' => ∃ m, m < n ∧ R m a' w') Q) a w) : (Code.loop c).wp P Q a w := by
 intro b k cs
 have key : ∀ n a w, R n a w → ∃ e a' w', Q e a' w' ∧ Arrives P (lone (b.at a (.code c :: .inLoop c :: k)) cs w) b k cs e a' w' := by
  intro n
  induction n using Nat.strongRecOn with
  | _ n ih =>
   intro a w hR
   obtain ⟨e, a₁, w₁, hq, AM⟩ := round n a w hR b (.inLoop c :: k) cs
   cases e with
   | normal =>
    obtain ⟨m, hm, Z0⟩ := hq
    obtain ⟨e₂, a₂, w₂, Z1, Rk⟩ := ih m hm a₁ w₁ Z0
    exact ⟨e₂, a₂, w₂, Z1, .of_steps (Steps.trans AM (.one step_inLoop)) Rk⟩
   | exit id => exact ⟨_, a₁, w₁, hq, .pass (x := .inLoop c) rfl (fun _ _ => .inl (by simp)) AM⟩
   | goto l => exact ⟨_, a₁, w₁, hq, .pass (x := .inLoop c) rfl (fun _ _ => .inl (by simp)) AM⟩
   | ret => exact ⟨_, a₁, w₁, hq, .pass (x := .inLoop c) rfl (fun _ _ => .inl (by simp)) AM⟩
   | panic ch => exact ⟨_, a₁, w₁, hq, .pass (x := .inLoop c) rfl (fun _ _ => .inl (by simp)) AM⟩
   | outgrown => exact ⟨_, a₁, w₁, hq, .pass (x := .inLoop c) rfl (fun _ _ => .inl (by simp)) AM⟩
 obtain ⟨n, h0⟩ := h0
 obtain ⟨e, a', w', hq, AM⟩ := key n a w h0
 exact ⟨e, a', w', hq, .of_steps (.one step_loop) AM⟩
theorem CE {c : xR} {v : Value} {X : Value → Prop} (h : Af c (some v) X) : X v ∧ Af c (some v) fun u => u = v := by
 cases c <;> simp only [Af] at h ⊢
 case int k =>
  unfold aG at h ⊢; split at h
  ·split at h
   ·rename_i he hk; cases he; subst hk; simp only [if_true]; exact ⟨h, trivial⟩
   ·exact h.elim
  ·exact h.elim
 case bool => unfold c6 at h ⊢; split at h <;> first | (rename_i he; cases he; exact ⟨h, rfl⟩) | exact h.elim
 case str => unfold fD at h ⊢; split at h <;> first | (rename_i he; cases he; exact ⟨h, rfl⟩) | exact h.elim
 case ptr => unfold cj at h ⊢; split at h <;> first | (rename_i he; cases he; exact ⟨h, rfl⟩) | exact h.elim
 case sl => unfold aC at h ⊢; split at h <;> first | (rename_i he; cases he; exact ⟨h, rfl⟩) | exact h.elim
 case val => exact ⟨h, rfl⟩
theorem yg {c : xR} {v : Value} {X : Value → Prop} (h : Af c (some v) fun u => u = v) (hx : X v) : Af c (some v) X := by
 cases c <;> simp only [Af] at h ⊢
 case int k => unfold aG at h ⊢; split at h <;> first | (split at h <;> simp_all) | exact h.elim
 case bool => unfold c6 at h ⊢; split at h <;> simp_all
 case str => unfold fD at h ⊢; split at h <;> simp_all
 case ptr => unfold cj at h ⊢; split at h <;> simp_all
 case sl => unfold aC at h ⊢; split at h <;> simp_all
 case val => exact hx
theorem D8 : ∀ {l : List xR} {vs : List Value} {X : List Value → Prop}, Ch l vs X → X vs ∧ ∀ Y : List Value → Prop, Y vs → Ch l vs Y
 | [], [], X, h => ⟨h, fun _ h => h⟩
 | c :: cs, v :: vs, X, h => by
  simp only [Ch] at h ⊢
  obtain ⟨h1, h2⟩ := CE h
  obtain ⟨h3, h4⟩ := D8 (X := fun vs => X (v :: vs)) h1
  exact ⟨h3, fun Y hy => yg h2 (h4 _ hy)⟩
 | [], _ :: _, _, h => h.elim
 | _ :: _, [], _, h => h.elim
theorem KK {c : xm} {v : Value} {X : Value → Prop} (h : CC c v X) : X v ∧ ∀ Y : Value → Prop, Y v → CC c v Y := by
 cases c with
 | c c => exact ⟨(CE h).1, fun Y hy => yg (CE h).2 hy⟩
 | a l =>
  cases v <;> try exact h.elim
  rename_i cs
  simp only [CC] at h ⊢
  obtain ⟨h1, h2⟩ := D8 h
  exact ⟨by simpa using h1, fun Y hy => h2 _ (by simpa using hy)⟩
 | b n =>
  cases v <;> try exact h.elim
  rename_i cs
  exact ⟨h.2, fun Y hy => ⟨h.1, hy⟩⟩
theorem sM {env : Nat → Value} : ∀ {live : List (Nat × xm)} {K : List Value → Prop}, fL env live K → ∃ vs, K vs ∧ ∀ K' : List Value → Prop, K' vs → fL env live K'
 | [], K, h => ⟨[], h, fun _ h => h⟩
 | (s, c) :: live, K, h => by
  simp only [fL] at h ⊢
  obtain ⟨h1, h2⟩ := KK h
  obtain ⟨vs, h3, h4⟩ := sM h1
  exact ⟨env s :: vs, h3, fun K' hk => h2 _ (h4 _ hk)⟩
theorem fm {C : Ctx} (hC : C.Good) {H : List (Nat × Hint)} {Kp : List PanicEntry → Mem → Prop} {N : Nat} {Z : Act → Prop} {F : Mem} (c : Code) :
  ∀ (mN : Nat) (Q : Kg → (Nat → Value) → Mem → Prop) (Q' : Exit → Act → World → Prop) (env : Nat → Value) (M : Mem) (a : Act) (w : World), (∀ d ∈ writes c, ∀ (a : Act) (v : Value), Z a → Z (a.put (some d) v)) → fits N c = true →
   D7 E N Z F (writes c) env Q Kp Q' → da N env a.tmps → Z a → M.dj F → (M.union F).In E w → cJ C H Kp c mN Q env M → c.wp C.P Q' a w := by
 induction c with
 | skip => intro mN Q Q' env M a w hz hf hp dQ hds hd hi h; exact wp_skip (hp.normal _ _ _ _ (m5.refl _ _) dQ hds hd hi h)
 | label l => intro mN Q Q' env M a w hz hf hp dQ hds hd hi h; exact wp_label (hp.normal _ _ _ _ (m5.refl _ _) dQ hds hd hi h)
 | exit id => intro mN Q Q' env M a w hz hf hp dQ hds hd hi h; exact wp_exit (hp.exit _ _ _ _ _ (m5.refl _ _) dQ hds hd hi h)
 | ret => intro mN Q Q' env M a w hz hf hp dQ hds hd hi h; exact wp_ret (hp.ret _ _ _ _ (m5.refl _ _) dQ hds hd hi h)
 | goto l => intro mN Q Q' env M a w hz hf hp dQ hds hd hi h; exact h.elim
 | refuse s => intro mN Q Q' env M a w hz hf hp dQ hds hd hi h; exact h.elim
 | rangeFunc f ps as b => intro mN Q Q' env M a w hz hf hp dQ hds hd hi h; exact h.elim
 | region id ops draw =>
  intro mN Q Q' env M a w hz hf hp dQ hds hd hi h
  have hfit : ∀ o ∈ ops.toList, lg N o = true := fun o ho => List.all_eq_true.1 hf o ho
  have Y9 : ∀ o ∈ ops.toList, ∀ (a : Act) (v : Value), Z a → Z (a.put o.dst v) := fun o ho a v Tz => by
   cases hd : o.dst with
   | none => exact Tz
   | some d => exact hz d (List.mem_filterMap.2 ⟨o, ho, hd⟩) a v Tz
  have post : ∀ K : (Nat → Value) → Mem → Prop, (∀ env' M', K env' M' → m5 (gB ops) env env' → Q .normal env' M') →
    Post E N Z F (fun env' M' => K env' M' ∧ m5 (gB ops) env env') Kp Q' := fun K hK =>
   ⟨fun env' M' a' w' g1 g2 g3 g4 g5 => hp.normal env' M' a' w' g5.2 g1 g2 g3 g4 (hK env' M' g5.1 g5.2), hp.panic⟩
  simp only [cJ] at h
  cases draw with
  | false =>
   simp only [Bool.false_eq_true, if_false] at h
   exact wp_region_list (vl Y9 hfit (post (fun env' M' => Q .normal env' M') fun _ _ h _ => h) _ env M a w (fun _ h => h) dQ hds hd hi (HA hC _ _ _ (fun _ h => h) (m5.refl _ _) h))
  | true =>
   simp only [if_true] at h
   have hsel : ∀ (j : Nat) (o : Oper) cs b, ops[j]? = some o → o.op ≠ .select cs b := fun j o cs b ho =>
    (fj (hfit o (by have := Array.mem_of_getElem? ho; simpa using this))).2.2 cs b
   have hc0 : uL ops.size 0 = ops.size := by unfold uL; rw [List.filter_eq_self.2 (by simp)]; simp
   have down : ∀ (dS : List Nat) (t : Ex) (K : (Nat → Value) → Mem → Prop), lV ops dS = true → pT C ops dS K Kp t [] 0 0 env M → (∀ env' M', K env' M' → m5 (gB ops) env env' → Q .normal env' M') →
     (Code.region id ops true).wp C.P Q' a w := fun dS t K ha hr hK => by
    have tP : ∀ (j : Nat) (o : Oper), ops[j]? = some o → ∀ e ∈ o.after, Region.binds .any e = true → e.on < ops.size := fun j o ho e he hb => by
     have hlt := (Array.getElem?_eq_some_iff.1 ho).1
     have := List.all_eq_true.1 ha j (List.mem_range.2 hlt)
     rw [ho] at this
     simp only [Bool.and_eq_true, List.all_eq_true, Bool.or_eq_true, Bool.not_eq_true', decide_eq_true_eq] at this
     have := (this.1 e (by simpa using he)).resolve_left (by simp [hb])
     omega
    have h1 := (CB hC hsel ha t [] (fun _ _ _ _ s hs => by cases hs)).1 0 env M (fun s hs => by cases hs) (fun k o hk => by simp at hk) hr
    rw [hc0] at h1
    exact wp_region_any hC.2 (xo Y9 hfit tP (post K hK) _ 0 _ env M a _ ⟨by simp, fun i hi => by simp [hi]⟩ dQ hds hd hi (Hy _ _ _ _ (m5.refl _ _) h1))
   split at h
   ·rename_i dS t _
    obtain ⟨ha, hr⟩ := cond_true h
    exact down dS t _ ha hr fun _ _ h _ => h
   ·rename_i dS t live _
    obtain ⟨ha, J, hr, hm⟩ := cond_true h
    exact down dS t _ ha hr fun env' M' hl ho => m6 hm ho hl
   ·exact h.elim
 | seq x y TC Rl =>
  intro mN Q Q' env M a w hz hf hp dQ hds hd hi h
  simp only [fits, Bool.and_eq_true] at hf
  refine wp_seq (TC mN _ _ env M a w (fun d hd => hz d (List.mem_append_left _ hd)) hf.1 ⟨fun fk M1 a1 w1 o1 g1 g2 g3 g4 h1 => ?_, fun id fk M1 a1 w1 o1 g1 g2 g3 g4 h1 => ?_, fun fk M1 a1 w1 o1 g1 g2 g3 g4 h1 => ?_, fun c a1 w1 g1 g2 => hp.panic c a1 w1 g1 g2⟩ dQ hds hd hi h)
  ·exact Rl mN Q Q' fk M1 a1 w1 (fun d hd => hz d (List.mem_append_right _ hd)) hf.2 ⟨fun iJ M2 a2 w2 o2 => hp.normal iJ M2 a2 w2 (o1.trans o2), fun id iJ M2 a2 w2 o2 => hp.exit id iJ M2 a2 w2 (o1.trans o2), fun iJ M2 a2 w2 o2 => hp.ret iJ M2 a2 w2 (o1.trans o2), hp.panic⟩ g1 g2 g3 g4 h1
  ·exact hp.exit id fk M1 a1 w1 (o1.mono fun i hi => List.mem_append_left _ hi) g1 g2 g3 g4 h1
  ·exact hp.ret fk M1 a1 w1 (o1.mono fun i hi => List.mem_append_left _ hi) g1 g2 g3 g4 h1
 | cond c x y TC Rl =>
  intro mN Q Q' env M a w hz hf hp dQ hds hd hi h
  simp only [fits, Bool.and_eq_true] at hf
  obtain ⟨⟨hc, Z2⟩, Z3⟩ := hf
  simp only [cJ] at h
  have CF : mL env c = a.eval c := dQ.eval fun t ht => by subst ht; simpa using hc
  have plain : ∀ Q0 : Kg → (Nat → Value) → Mem → Prop, D7 E N Z F (writes x ++ writes y) env Q0 Kp Q' → (match mL env c with
    | .bool e => aQ e (cJ C H Kp x mN Q0 (tQ c true env) M) (cJ C H Kp y mN Q0 (tQ c false env) M)
    | _ => False) → (Code.cond c x y).wp C.P Q' a w := by
   intro Q0 hp h
   cases he : mL env c <;> rw [he] at h <;> try exact h.elim
   rename_i e
   simp only at h
   have px : D7 E N Z F (writes x) env Q0 Kp Q' := ⟨fun iJ M2 a2 w2 o2 => hp.normal iJ M2 a2 w2 (o2.mono fun i hi => List.mem_append_left _ hi), fun id iJ M2 a2 w2 o2 => hp.exit id iJ M2 a2 w2 (o2.mono fun i hi => List.mem_append_left _ hi), fun iJ M2 a2 w2 o2 => hp.ret iJ M2 a2 w2 (o2.mono fun i hi => List.mem_append_left _ hi), hp.panic⟩
   have py : D7 E N Z F (writes y) env Q0 Kp Q' := ⟨fun iJ M2 a2 w2 o2 => hp.normal iJ M2 a2 w2 (o2.mono fun i hi => List.mem_append_right _ hi), fun id iJ M2 a2 w2 o2 => hp.exit id iJ M2 a2 w2 (o2.mono fun i hi => List.mem_append_right _ hi), fun iJ M2 a2 w2 o2 => hp.ret iJ M2 a2 w2 (o2.mono fun i hi => List.mem_append_right _ hi), hp.panic⟩
   cases e with
   | true =>
    rw [AK he] at h
    exact wp_cond_true (CF ▸ he) (TC mN Q0 Q' env M a w (fun d hd => hz d (List.mem_append_left _ hd)) Z2 px dQ hds hd hi h)
   | false =>
    have h' : cJ C H Kp y mN Q0 (tQ c false env) M := h
    rw [AK he] at h'
    exact wp_cond_false (CF ▸ he) (Rl mN Q0 Q' env M a w (fun d hd => hz d (List.mem_append_right _ hd)) Z3 py dQ hds hd hi h')
  split at h
  ·rename_i live _
   obtain ⟨J, h, hm⟩ := h
   exact plain (fun e env' M' => match e with | .normal => fL env' live fun vs => J vs M' | e => Q e env' M') ⟨fun fk M1 a1 w1 o1 g1 g2 g3 g4 h1 => hp.normal _ _ _ _ o1 g1 g2 g3 g4 (m6 hm o1 h1), fun i fk M1 a1 w1 o1 g1 g2 g3 g4 h1 => hp.exit _ _ _ _ _ o1 g1 g2 g3 g4 h1, fun fk M1 a1 w1 o1 g1 g2 g3 g4 h1 => hp.ret _ _ _ _ o1 g1 g2 g3 g4 h1, hp.panic⟩ h
  ·exact plain Q hp h
 | block id c ih =>
  intro mN Q Q' env M a w hz hf hp dQ hds hd hi h
  simp only [cJ] at h
  refine wp_block ?_
  have plain : cJ C H Kp c id (fun e env' M' => match e with
      | .exit i => bif Nat.beq i id then Q .normal env' M' else Q (.exit i) env' M'
      | e => Q e env' M') env M → c.wp C.P (Exit.inBlock id Q') a w := fun h => by
   refine ih id _ _ env M a w hz hf ⟨fun fk M1 a1 w1 o1 g1 g2 g3 g4 h1 => ?_, fun i fk M1 a1 w1 o1 g1 g2 g3 g4 h1 => ?_, fun fk M1 a1 w1 o1 g1 g2 g3 g4 h1 => ?_, fun c a1 w1 g1 g2 => hp.panic c a1 w1 g1 g2⟩ dQ hds hd hi h
   ·exact hp.normal _ _ _ _ o1 g1 g2 g3 g4 h1
   ·by_cases N8 : i = id
    ·subst N8
     simp only [iI.2 rfl] at h1
     simp only [Exit.inBlock, if_true]
     exact hp.normal _ _ _ _ o1 g1 g2 g3 g4 h1
    ·have hb : Nat.beq i id = false := by cases hb : Nat.beq i id with
      | false => rfl
      | true => exact absurd (iI.1 hb) N8
     simp only [hb, cond_false] at h1
     simp only [Exit.inBlock, N8, if_false]
     exact hp.exit _ _ _ _ _ o1 g1 g2 g3 g4 h1
   ·exact hp.ret _ _ _ _ o1 g1 g2 g3 g4 h1
  split at h
  ·rename_i live _
   obtain ⟨J, h, hm⟩ := h
   refine ih id _ _ env M a w hz hf ⟨fun fk M1 a1 w1 o1 g1 g2 g3 g4 h1 => ?_, fun i fk M1 a1 w1 o1 g1 g2 g3 g4 h1 => ?_, fun fk M1 a1 w1 o1 g1 g2 g3 g4 h1 => ?_, fun c a1 w1 g1 g2 => hp.panic c a1 w1 g1 g2⟩ dQ hds hd hi h
   ·exact hp.normal _ _ _ _ o1 g1 g2 g3 g4 (m6 hm o1 h1)
   ·by_cases N8 : i = id
    ·subst N8
     simp only [iI.2 rfl] at h1
     simp only [Exit.inBlock, if_true]
     exact hp.normal _ _ _ _ o1 g1 g2 g3 g4 (m6 hm o1 h1)
    ·have hb : Nat.beq i id = false := by cases hb : Nat.beq i id with
      | false => rfl
      | true => exact absurd (iI.1 hb) N8
     simp only [hb, cond_false] at h1
     simp only [Exit.inBlock, N8, if_false]
     exact hp.exit _ _ _ _ _ o1 g1 g2 g3 g4 h1
   ·exact hp.ret _ _ _ _ o1 g1 g2 g3 g4 h1
  ·exact plain h
 | loop c ih =>
  intro mN Q Q' env M a w hz hf hp dQ hds hd hi h
  simp only [cJ] at h
  split at h
  ·rename_i live _
   obtain ⟨I, h0, hr⟩ := h
   have start : ∃ n, N7 E N Z F env (writes c) live I n a w := by
    obtain ⟨vs, ⟨n, hn⟩, hk⟩ := sM h0
    exact ⟨n, env, M, m5.refl _ _, dQ, hds, hd, hi, hk _ hn⟩
   refine Fk start fun n a1 w1 hR => ?_
   obtain ⟨fk, M1, o1, g1, g2, g3, g4, hl⟩ := hR
   have hb := m6 (hr n) o1 hl
   have both : ∀ {iJ : Nat → Value}, m5 (writes c) fk iJ → m5 (writes c) env iJ := fun o2 => (o1.trans o2).mono (fun i hi => by simpa using hi)
   refine ih mN _ _ fk M1 a1 w1 hz hf ⟨fun iJ M2 a2 w2 o2 g1 g2 g3 g4 h2 => ?_, fun i iJ M2 a2 w2 o2 g1 g2 g3 g4 h2 => ?_, fun iJ M2 a2 w2 o2 g1 g2 g3 g4 h2 => ?_, fun c a1 w1 g1 g2 => hp.panic c a1 w1 g1 g2⟩ g1 g2 g3 g4 hb
   ·obtain ⟨vs, ⟨m, hm, hI⟩, hk⟩ := sM h2
    exact ⟨m, hm, iJ, M2, both o2, g1, g2, g3, g4, hk _ hI⟩
   ·exact hp.exit _ _ _ _ _ (both o2) g1 g2 g3 g4 h2
   ·exact hp.ret _ _ _ _ (both o2) g1 g2 g3 g4 h2
  ·exact h.elim
 | scope c ih =>
  intro mN Q Q' env M a w hz hf hp dQ hds hd hi h
  refine wp_scope_straight (ih mN Q _ env M a w hz hf ⟨fun fk M1 a1 w1 o1 g1 g2 g3 g4 h1 => ?_, fun i fk M1 a1 w1 o1 g1 g2 g3 g4 h1 => ?_, fun fk M1 a1 w1 o1 g1 g2 g3 g4 h1 => ?_, fun c a1 w1 g1 g2 => hp.panic c a1 w1 g1 g2⟩ dQ hds hd hi h)
  ·exact hp.normal _ _ _ _ o1 g1 g2 g3 g4 h1
  ·exact hp.exit _ _ _ _ _ o1 g1 g2 g3 g4 h1
  ·exact hp.ret _ _ _ _ o1 g1 g2 g3 g4 h1
def eO (args : List Value) : Nat → Value := fun i => args.getD i undef
def Fl (P : Program) (M : Mem) (env : Nat → Value) : List ResultVar → (List Value → Prop) → Prop
 | [], K => K []
 | .tmp t :: l, K => Fl P M env l fun vs => K (env t :: vs)
 | .cell a t :: l, K => DY P t (env a) M fun v => Fl P M env l fun vs => K (v :: vs)
def KL : List Value → Value
 | [v] => v
 | vs => .tuple vs.toArray
def Fm (P : Program) (fn : Func) (K : Value → Mem → Prop) : Kg → (Nat → Value) → Mem → Prop
 | .normal, env, M => Fl P M env fn.results.toList fun vs => K (KL vs) M
 | .ret, env, M => Fl P M env fn.results.toList fun vs => K (KL vs) M
 | .exit _, _, _ => False
def ze (n : Nat) (fn : Func) : Bool := fn.results.toList.all fun r => match r with
 | .tmp t => decide (t < n)
 | .cell a _ => decide (a < n)
theorem sN (P : Program) {α : Type} (s : Sem α) {M : Mem} {w : World} (hi : M.In E w) : ∀ {x : α}, bC P s M = some x → s.run P w = .ok x w := by
 induction s with
 | pure a => intro x h; simp only [bC, Option.some.injEq] at h; subst h; rfl
 | load m a k ih =>
  intro x h
  simp only [bC] at h
  cases hv : M.ld a with
  | none => simp [hv] at h
  | some v =>
   rw [hv] at h
   simp only [Sem.run, DX hi hv]
   exact ih v h
 | shape r k ih =>
  intro x h
  simp only [bC] at h
  split at h
  ·rename_i c e f hb
   have : w.shape? r = some (e, c.size) := by simp [World.shape?, hi.1 _ _ hb]
   simp only [Sem.run, this]
   exact ih _ h
  ·cases h
 | frozen a k ih =>
  intro x h
  simp only [bC] at h
  split at h
  ·rename_i c e f hb
   have : w.frozen? a = (decide (f.1 ≤ a.off) && decide (a.off < f.2)) := by simp [World.frozen?, hi.1 _ _ hb]
   simp only [Sem.run, this]
   exact ih _ h
  ·cases h
 | program k ih => intro x h; exact ih P h
 | mark m k ih => intro x h; exact ih h
 | _ => intro x h; simp [bC] at h
theorem CG {P : Program} {t : TypeId} {x v : Value} {M : Mem} (h : bC P (Instr.loadAt t x) M = some v) : bC P (do loadVar t (← asAddr x)) M = some v := by
 unfold Instr.loadAt at h
 rw [aJ] at h ⊢
 cases x <;> try (simp only [Instr.sureAddr, stuck, bC] at h; cases h; done)
 rename_i p
 cases p with
 | none => simp only [Instr.sureAddr, stuck, bC] at h; cases h
 | some a => exact h
theorem Fo {P : Program} {N : Nat} {env : Nat → Value} {tmps : Array Value} {M : Mem} (dQ : da N env tmps) :
  ∀ (l : List ResultVar) (K : List Value → Prop), (∀ r ∈ l, match r with | .tmp t => t < N | .cell a _ => a < N) → Fl P M env l K →
   ∀ (f : ResultVar → Sem Value), (∀ t, f (.tmp t) = pure (tmps.getD t undef)) → (∀ a t, f (.cell a t) = do loadVar t (← asAddr (tmps.getD a undef))) → ∃ vs, bC P (l.mapM f) M = some vs ∧ K vs := by
 intro l
 induction l with
 | nil => intro K _ h f _ _; exact ⟨[], rfl, h⟩
 | cons r l ih =>
  intro K hr h f hf hc
  have G8 : ∀ r ∈ l, match r with | .tmp t => t < N | .cell a _ => a < N := fun r hx => hr r (List.mem_cons_of_mem _ hx)
  cases r with
  | tmp t =>
   have ht : t < N := hr _ (List.mem_cons_self ..)
   have := dQ.2 t ht
   obtain ⟨vs, h1, h2⟩ := ih _ G8 h f hf hc
   refine ⟨env t :: vs, ?_, h2⟩
   rw [List.mapM_cons]
   simp only [aJ, hf, bj, Option.bind_some, h1]
   simp [this]
  | cell a t =>
   have ha : a < N := hr _ (List.mem_cons_self ..)
   have := dQ.2 a ha
   obtain ⟨v, hv, h⟩ := u4 h
   obtain ⟨vs, h1, h2⟩ := ih _ G8 h f hf hc
   refine ⟨v :: vs, ?_, h2⟩
   have hg : tmps.getD a undef = env a := by simp [this]
   rw [List.mapM_cons, aJ, hc, hg, CG hv]
   simp only [Option.bind_some, aJ, h1, bj]
theorem vp {P : Program} {N : Nat} {fn : Func} {env : Nat → Value} {tmps : Array Value} {M F : Mem} {K : List Value → Prop} {w : World} (dQ : da N env tmps) (hf : ze N fn = true)
  (hi : (M.union F).In E w) (h : Fl P M env fn.results.toList K) : ∃ vs, (results fn tmps).run P w = .ok (KL vs) w ∧ K vs := by
 have hr : ∀ r ∈ fn.results.toList, match r with | .tmp t => t < N | .cell a _ => a < N := by
  intro r hr
  have := List.all_eq_true.1 hf r hr
  cases r <;> simp_all
 obtain ⟨vs, hk, hK⟩ := Fo dQ fn.results.toList K hr h (fun
  | .tmp t => pure (tmps.getD t undef)
  | .cell a t => do loadVar t (← asAddr (tmps.getD a undef))) (fun _ => rfl) (fun _ _ => rfl)
 refine ⟨vs, sN P _ hi (j6 P _ (fun b o hb => Mem.union_left hb) (?_ : bC P _ M = _)), hK⟩
 unfold results
 rw [Array.mapM_eq_mapM_toList]
 simp only [aJ, G4]
 erw [hk]
 simp only [Option.map_some, Option.bind_some, bj, Option.some.injEq]
 match vs with
 | [] => rfl
 | [v] => rfl
 | v :: u :: l => simp [KL]
theorem Fp {C : Ctx} (hC : C.Good) {f : FuncId} {fn : Func} {c : Code} {args : List Value} {M : Mem} {K : Value → Mem → Prop} {Kp : List PanicEntry → Mem → Prop} (H : List (Nat × Hint))
  (hf : C.P.funcs[f]? = some fn) (hb : fn.body = some c) (hfit : (fits fn.ntmps c && ze fn.ntmps fn && decide (args.length ≤ fn.ntmps)) = true)
  (h : cJ C H Kp c 0 (Fm C.P fn K) (eO args) M) : aa C.P f args.toArray M K Kp := by
 simp only [Bool.and_eq_true, decide_eq_true_eq] at hfit
 obtain ⟨⟨h1, h2⟩, h3⟩ := hfit
 intro E F w hd hi
 have dQ : da fn.ntmps (eO args) (args.toArray ++ Array.replicate (fn.ntmps - args.toArray.size) undef) := by
  refine ⟨by simp; omega, fun i hi => ?_⟩
  unfold eO
  by_cases hl : i < args.length
  ·rw [Array.getElem?_append_left (by simpa using hl)]
   simp [List.getD, hl]
  ·rw [Array.getElem?_append_right (by simpa using Nat.le_of_not_lt hl)]
   have : args[i]? = none := by simpa using Nat.le_of_not_lt hl
   simp only [List.getD, this, Option.getD_none]
   rw [Array.getElem?_replicate, if_pos (by simp; omega)]
 refine calls_of_wp hf hb (fm hC (F := F) (Z := fun a => a.defers = []) c 0 _ _ _ M _ w (fun d _ a v h => by rw [put_defers]; exact h) h1 ⟨?_, ?_, ?_, ?_⟩ dQ rfl hd hi h)
 ·intro env M1 a1 w1 _ g1 g2 g3 g4 hq
  unfold Fm at hq
  simp only at hq
  obtain ⟨vs, hvs, hq⟩ := vp g1 h2 g4 hq
  exact ⟨g2, _, hvs, ⟨M1, hq, g3, g4⟩⟩
 ·intro id env M1 a1 w1 _ g1 g2 g3 g4 hq; exact hq.elim
 ·intro env M1 a1 w1 _ g1 g2 g3 g4 hq
  unfold Fm at hq
  simp only at hq
  obtain ⟨vs, hvs, hq⟩ := vp g1 h2 g4 hq
  exact ⟨g2, _, hvs, ⟨M1, hq, g3, g4⟩⟩
 ·intro c a1 w1 g1 g2; exact ⟨g1, g2⟩
end Go.AF
namespace Go.AF
def dM (fn : Func) : Code := fn.body.getD .skip
def uN (fn : Func) (n : Nat) : Bool := fits fn.ntmps (dM fn) && ze fn.ntmps fn && decide (n ≤ fn.ntmps) && fn.body.isSome
theorem AN {C : Ctx} (hC : C.Good) {f : FuncId} {fn : Func} {args : List Value} {M : Mem} {K : Value → Mem → Prop} {Kp : List PanicEntry → Mem → Prop} (H : List (Nat × Hint))
  (hf : C.P.funcs[f]? = some fn) (hfit : uN fn args.length = true)
  (h : cJ C H Kp (dM fn) 0 (Fm C.P fn K) (eO args) M) : aa C.P f args.toArray M K Kp := by
 unfold uN at hfit
 simp only [Bool.and_eq_true] at hfit
 obtain ⟨h1, h2⟩ := hfit
 obtain ⟨c, hc⟩ := Option.isSome_iff_exists.1 h2
 have hb : dM fn = c := by unfold dM; rw [hc]; rfl
 rw [hb] at h h1
 exact Fp hC H hf hc (by simp only [Bool.and_eq_true]; exact h1) h
theorem bX {C : Ctx} (hC : C.Good) {f : FuncId} {fn : Func} {args : List Value} {M : Mem} {K : Value → Mem → Prop} {Kp : List PanicEntry → Mem → Prop} (H : List (Nat × Hint))
  (hf : C.P.funcs[f]? = some fn) (hfit : uN fn args.length = true) {vc : Prop}
  (he : vc = cJ C H Kp (dM fn) 0 (Fm C.P fn K) (eO args) M) (h : vc) : aa C.P f args.toArray M K Kp :=
 AN hC H hf hfit (he ▸ h)
end Go.AF
