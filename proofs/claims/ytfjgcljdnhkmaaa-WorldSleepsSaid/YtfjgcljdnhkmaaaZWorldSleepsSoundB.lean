/- A part of proofs about one program. -/
import Derived.Test.YtfjgcljdnhkmaaaZWorldSleepsSound
set_option linter.unusedVariables false
namespace Go.AF
variable {E : mb}
theorem fW {i d : Nat} : Nat.beq i d = true ↔ i = d := ⟨Nat.eq_of_beq_eq_true, fun h => by subst h; simp⟩
theorem vp {c : Operand} {e : Bool} {env : Nat → Value} (h : jL env c = .bool e) : pg c e env = env := by
 cases c <;> try rfl
 exact ik h
def EU (E : mb) (N : Nat) (Z : Act → Prop) (F : Mem) (env : Nat → Value) (ws : List Nat) (live : List (Nat × rZ)) (I : Nat → List Value → Mem → Prop) (n : Nat) (a : Act) (w : World) : Prop :=
 ∃ dY M1, jZ ws env dY ∧ cO N dY a.tmps ∧ Z a ∧ M1.dj F ∧ (M1.union F).In E w ∧ dX dY live fun vs => I n vs M1
theorem zq {P : Program} {c : Code} {Q : Exit → Act → World → Prop} {R : Nat → Act → World → Prop} {a : Act} {w : World} (h0 : ∃ n, R n a w)
  (round : ∀ n a w, R n a w → c.wp P (Exit.then (fun a' w' => ∃ m, m < n ∧ R m a' w') Q) a w) : (Code.loop c).wp P Q a w := by
 intro b k cs
 have key : ∀ n a w, R n a w → ∃ e a' w', Q e a' w' ∧ Arrives P (lone (b.at a (.code c :: .inLoop c :: k)) cs w) b k cs e a' w' := by
  intro n
  induction n using Nat.strongRecOn with
  | _ n ih =>
   intro a w hR
   obtain ⟨e, a₁, w₁, hq, vq⟩ := round n a w hR b (.inLoop c :: k) cs
   cases e with
   | normal =>
    obtain ⟨m, hm, NU⟩ := hq
    obtain ⟨e₂, a₂, w₂, NV, GP⟩ := ih m hm a₁ w₁ NU
    exact ⟨e₂, a₂, w₂, NV, .of_steps (Steps.trans vq (.one step_inLoop)) GP⟩
   | exit id => exact ⟨_, a₁, w₁, hq, .pass (x := .inLoop c) rfl (fun _ _ => .inl (by simp)) vq⟩
   | goto l => exact ⟨_, a₁, w₁, hq, .pass (x := .inLoop c) rfl (fun _ _ => .inl (by simp)) vq⟩
   | ret => exact ⟨_, a₁, w₁, hq, .pass (x := .inLoop c) rfl (fun _ _ => .inl (by simp)) vq⟩
   | panic ch => exact ⟨_, a₁, w₁, hq, .pass (x := .inLoop c) rfl (fun _ _ => .inl (by simp)) vq⟩
   | outgrown => exact ⟨_, a₁, w₁, hq, .pass (x := .inLoop c) rfl (fun _ _ => .inl (by simp)) vq⟩
 obtain ⟨n, h0⟩ := h0
 obtain ⟨e, a', w', hq, vq⟩ := key n a w h0
 exact ⟨e, a', w', hq, .of_steps (.one step_loop) vq⟩
theorem xj {c : sC} {v : Value} {X : Value → Prop} (h : uR c (some v) X) : X v ∧ uR c (some v) fun u => u = v := by
 cases c <;> simp only [uR] at h ⊢
 case int k =>
  unfold bG at h ⊢; split at h
  ·split at h
   ·rename_i he hk; cases he; subst hk; simp only [if_true]; exact ⟨h, trivial⟩
   ·exact h.elim
  ·exact h.elim
 case bool => unfold dz at h ⊢; split at h <;> first | (rename_i he; cases he; exact ⟨h, rfl⟩) | exact h.elim
 case str => unfold fN at h ⊢; split at h <;> first | (rename_i he; cases he; exact ⟨h, rfl⟩) | exact h.elim
 case ptr => unfold dU at h ⊢; split at h <;> first | (rename_i he; cases he; exact ⟨h, rfl⟩) | exact h.elim
 case sl => unfold aE at h ⊢; split at h <;> first | (rename_i he; cases he; exact ⟨h, rfl⟩) | exact h.elim
 case val => exact ⟨h, rfl⟩
theorem sR {c : sC} {v : Value} {X : Value → Prop} (h : uR c (some v) fun u => u = v) (hx : X v) : uR c (some v) X := by
 cases c <;> simp only [uR] at h ⊢
 case int k => unfold bG at h ⊢; split at h <;> first | (split at h <;> simp_all) | exact h.elim
 case bool => unfold dz at h ⊢; split at h <;> simp_all
 case str => unfold fN at h ⊢; split at h <;> simp_all
 case ptr => unfold dU at h ⊢; split at h <;> simp_all
 case sl => unfold aE at h ⊢; split at h <;> simp_all
 case val => exact hx
theorem yu : ∀ {l : List sC} {vs : List Value} {X : List Value → Prop}, wK l vs X → X vs ∧ ∀ Y : List Value → Prop, Y vs → wK l vs Y
 | [], [], X, h => ⟨h, fun _ h => h⟩
 | c :: cs, v :: vs, X, h => by
  simp only [wK] at h ⊢
  obtain ⟨h1, h2⟩ := xj h
  obtain ⟨h3, h4⟩ := yu (X := fun vs => X (v :: vs)) h1
  exact ⟨h3, fun Y hy => sR h2 (h4 _ hy)⟩
 | [], _ :: _, _, h => h.elim
 | _ :: _, [], _, h => h.elim
theorem CT {c : rZ} {v : Value} {X : Value → Prop} (h : xg c v X) : X v ∧ ∀ Y : Value → Prop, Y v → xg c v Y := by
 cases c with
 | c c => exact ⟨(xj h).1, fun Y hy => sR (xj h).2 hy⟩
 | a l =>
  cases v <;> try exact h.elim
  rename_i cs
  simp only [xg] at h ⊢
  obtain ⟨h1, h2⟩ := yu h
  exact ⟨by simpa using h1, fun Y hy => h2 _ (by simpa using hy)⟩
 | b n =>
  cases v <;> try exact h.elim
  rename_i cs
  exact ⟨h.2, fun Y hy => ⟨h.1, hy⟩⟩
theorem oB {env : Nat → Value} : ∀ {live : List (Nat × rZ)} {K : List Value → Prop}, dX env live K → ∃ vs, K vs ∧ ∀ K' : List Value → Prop, K' vs → dX env live K'
 | [], K, h => ⟨[], h, fun _ h => h⟩
 | (s, c) :: live, K, h => by
  simp only [dX] at h ⊢
  obtain ⟨h1, h2⟩ := CT h
  obtain ⟨vs, h3, h4⟩ := oB h1
  exact ⟨env s :: vs, h3, fun K' hk => h2 _ (h4 _ hk)⟩
theorem eH {C : Ctx} (hC : C.Good) {H : List (Nat × Hint)} {Kp : List PanicEntry → Mem → Prop} {N : Nat} {Z : Act → Prop} {F : Mem} (c : Code) :
  ∀ (jM : Nat) (Q : CR → (Nat → Value) → Mem → Prop) (Q' : Exit → Act → World → Prop) (env : Nat → Value) (M : Mem) (a : Act) (w : World), (∀ d ∈ writes c, ∀ (a : Act) (v : Value), Z a → Z (a.put (some d) v)) → fits N c = true →
   yq E N Z F (writes c) env Q Kp Q' → cO N env a.tmps → Z a → M.dj F → (M.union F).In E w → ct C H Kp c jM Q env M → c.wp C.P Q' a w := by
 induction c with
 | skip => intro jM Q Q' env M a w hz hf hp cW hds hd hi h; exact wp_skip (hp.normal _ _ _ _ (jZ.refl _ _) cW hds hd hi h)
 | label l => intro jM Q Q' env M a w hz hf hp cW hds hd hi h; exact wp_label (hp.normal _ _ _ _ (jZ.refl _ _) cW hds hd hi h)
 | exit id => intro jM Q Q' env M a w hz hf hp cW hds hd hi h; exact wp_exit (hp.exit _ _ _ _ _ (jZ.refl _ _) cW hds hd hi h)
 | ret => intro jM Q Q' env M a w hz hf hp cW hds hd hi h; exact wp_ret (hp.ret _ _ _ _ (jZ.refl _ _) cW hds hd hi h)
 | goto l => intro jM Q Q' env M a w hz hf hp cW hds hd hi h; exact h.elim
 | refuse s => intro jM Q Q' env M a w hz hf hp cW hds hd hi h; exact h.elim
 | rangeFunc f ps as b => intro jM Q Q' env M a w hz hf hp cW hds hd hi h; exact h.elim
 | region id ops draw =>
  intro jM Q Q' env M a w hz hf hp cW hds hd hi h
  have hfit : ∀ o ∈ ops.toList, iQ N o = true := fun o ho => List.all_eq_true.1 hf o ho
  have MS : ∀ o ∈ ops.toList, ∀ (a : Act) (v : Value), Z a → Z (a.put o.dst v) := fun o ho a v I2 => by
   cases hd : o.dst with
   | none => exact I2
   | some d => exact hz d (List.mem_filterMap.2 ⟨o, ho, hd⟩) a v I2
  have post : ∀ K : (Nat → Value) → Mem → Prop, (∀ env' M', K env' M' → jZ (eU ops) env env' → Q .normal env' M') →
    Post E N Z F (fun env' M' => K env' M' ∧ jZ (eU ops) env env') Kp Q' := fun K hK =>
   ⟨fun env' M' a' w' g1 g2 g3 g4 g5 => hp.normal env' M' a' w' g5.2 g1 g2 g3 g4 (hK env' M' g5.1 g5.2), hp.panic⟩
  simp only [ct] at h
  cases draw with
  | false =>
   simp only [Bool.false_eq_true, if_false] at h
   exact wp_region_list (qB MS hfit (post (fun env' M' => Q .normal env' M') fun _ _ h _ => h) _ env M a w (fun _ h => h) cW hds hd hi (AR hC _ _ _ (fun _ h => h) (jZ.refl _ _) h))
  | true =>
   simp only [if_true] at h
   have hsel : ∀ (j : Nat) (o : Oper) cs b, ops[j]? = some o → o.op ≠ .select cs b := fun j o cs b ho =>
    (dH (hfit o (by have := Array.mem_of_getElem? ho; simpa using this))).2.2 cs b
   have hc0 : pY ops.size 0 = ops.size := by unfold pY; rw [List.filter_eq_self.2 (by simp)]; simp
   have down : ∀ (cV : List Nat) (t : Ex) (K : (Nat → Value) → Mem → Prop), jr ops cV = true → mm C ops cV K Kp t [] 0 0 env M → (∀ env' M', K env' M' → jZ (eU ops) env env' → Q .normal env' M') →
     (Code.region id ops true).wp C.P Q' a w := fun cV t K ha hr hK => by
    have pe : ∀ (j : Nat) (o : Oper), ops[j]? = some o → ∀ e ∈ o.after, Region.binds .any e = true → e.on < ops.size := fun j o ho e he hb => by
     have hlt := (Array.getElem?_eq_some_iff.1 ho).1
     have := List.all_eq_true.1 ha j (List.mem_range.2 hlt)
     rw [ho] at this
     simp only [Bool.and_eq_true, List.all_eq_true, Bool.or_eq_true, Bool.not_eq_true', decide_eq_true_eq] at this
     have := (this.1 e (by simpa using he)).resolve_left (by simp [hb])
     omega
    have h1 := (xe hC hsel ha t [] (fun _ _ _ _ s hs => by cases hs)).1 0 env M (fun s hs => by cases hs) (fun k o hk => by simp at hk) hr
    rw [hc0] at h1
    exact wp_region_any hC.2 (r5 MS hfit pe (post K hK) _ 0 _ env M a _ ⟨by simp, fun i hi => by simp [hi]⟩ cW hds hd hi (AP _ _ _ _ (jZ.refl _ _) h1))
   split at h
   ·rename_i cV t _
    obtain ⟨ha, hr⟩ := cond_true h
    exact down cV t _ ha hr fun _ _ h _ => h
   ·rename_i cV t live _
    obtain ⟨ha, J, hr, hm⟩ := cond_true h
    exact down cV t _ ha hr fun env' M' hl ho => j1 hm ho hl
   ·exact h.elim
 | seq x y I7 GQ =>
  intro jM Q Q' env M a w hz hf hp cW hds hd hi h
  simp only [fits, Bool.and_eq_true] at hf
  refine wp_seq (I7 jM _ _ env M a w (fun d hd => hz d (List.mem_append_left _ hd)) hf.1 ⟨fun dY M1 a1 w1 o1 g1 g2 g3 g4 h1 => ?_, fun id dY M1 a1 w1 o1 g1 g2 g3 g4 h1 => ?_, fun dY M1 a1 w1 o1 g1 g2 g3 g4 h1 => ?_, fun c a1 w1 g1 g2 => hp.panic c a1 w1 g1 g2⟩ cW hds hd hi h)
  ·exact GQ jM Q Q' dY M1 a1 w1 (fun d hd => hz d (List.mem_append_right _ hd)) hf.2 ⟨fun fX M2 a2 w2 o2 => hp.normal fX M2 a2 w2 (o1.trans o2), fun id fX M2 a2 w2 o2 => hp.exit id fX M2 a2 w2 (o1.trans o2), fun fX M2 a2 w2 o2 => hp.ret fX M2 a2 w2 (o1.trans o2), hp.panic⟩ g1 g2 g3 g4 h1
  ·exact hp.exit id dY M1 a1 w1 (o1.mono fun i hi => List.mem_append_left _ hi) g1 g2 g3 g4 h1
  ·exact hp.ret dY M1 a1 w1 (o1.mono fun i hi => List.mem_append_left _ hi) g1 g2 g3 g4 h1
 | cond c x y I7 GQ =>
  intro jM Q Q' env M a w hz hf hp cW hds hd hi h
  simp only [fits, Bool.and_eq_true] at hf
  obtain ⟨⟨hc, NW⟩, NX⟩ := hf
  simp only [ct] at h
  have MT : jL env c = a.eval c := cW.eval fun t ht => by subst ht; simpa using hc
  have plain : ∀ Q0 : CR → (Nat → Value) → Mem → Prop, yq E N Z F (writes x ++ writes y) env Q0 Kp Q' → (match jL env c with
    | .bool e => aX e (ct C H Kp x jM Q0 (pg c true env) M) (ct C H Kp y jM Q0 (pg c false env) M)
    | _ => False) → (Code.cond c x y).wp C.P Q' a w := by
   intro Q0 hp h
   cases he : jL env c <;> rw [he] at h <;> try exact h.elim
   rename_i e
   simp only at h
   have px : yq E N Z F (writes x) env Q0 Kp Q' := ⟨fun fX M2 a2 w2 o2 => hp.normal fX M2 a2 w2 (o2.mono fun i hi => List.mem_append_left _ hi), fun id fX M2 a2 w2 o2 => hp.exit id fX M2 a2 w2 (o2.mono fun i hi => List.mem_append_left _ hi), fun fX M2 a2 w2 o2 => hp.ret fX M2 a2 w2 (o2.mono fun i hi => List.mem_append_left _ hi), hp.panic⟩
   have py : yq E N Z F (writes y) env Q0 Kp Q' := ⟨fun fX M2 a2 w2 o2 => hp.normal fX M2 a2 w2 (o2.mono fun i hi => List.mem_append_right _ hi), fun id fX M2 a2 w2 o2 => hp.exit id fX M2 a2 w2 (o2.mono fun i hi => List.mem_append_right _ hi), fun fX M2 a2 w2 o2 => hp.ret fX M2 a2 w2 (o2.mono fun i hi => List.mem_append_right _ hi), hp.panic⟩
   cases e with
   | true =>
    rw [vp he] at h
    exact wp_cond_true (MT ▸ he) (I7 jM Q0 Q' env M a w (fun d hd => hz d (List.mem_append_left _ hd)) NW px cW hds hd hi h)
   | false =>
    have h' : ct C H Kp y jM Q0 (pg c false env) M := h
    rw [vp he] at h'
    exact wp_cond_false (MT ▸ he) (GQ jM Q0 Q' env M a w (fun d hd => hz d (List.mem_append_right _ hd)) NX py cW hds hd hi h')
  split at h
  ·rename_i live _
   obtain ⟨J, h, hm⟩ := h
   exact plain (fun e env' M' => match e with | .normal => dX env' live fun vs => J vs M' | e => Q e env' M') ⟨fun dY M1 a1 w1 o1 g1 g2 g3 g4 h1 => hp.normal _ _ _ _ o1 g1 g2 g3 g4 (j1 hm o1 h1), fun i dY M1 a1 w1 o1 g1 g2 g3 g4 h1 => hp.exit _ _ _ _ _ o1 g1 g2 g3 g4 h1, fun dY M1 a1 w1 o1 g1 g2 g3 g4 h1 => hp.ret _ _ _ _ o1 g1 g2 g3 g4 h1, hp.panic⟩ h
  ·exact plain Q hp h
 | block id c ih =>
  intro jM Q Q' env M a w hz hf hp cW hds hd hi h
  simp only [ct] at h
  refine wp_block ?_
  have plain : ct C H Kp c id (fun e env' M' => match e with
      | .exit i => bif Nat.beq i id then Q .normal env' M' else Q (.exit i) env' M'
      | e => Q e env' M') env M → c.wp C.P (Exit.inBlock id Q') a w := fun h => by
   refine ih id _ _ env M a w hz hf ⟨fun dY M1 a1 w1 o1 g1 g2 g3 g4 h1 => ?_, fun i dY M1 a1 w1 o1 g1 g2 g3 g4 h1 => ?_, fun dY M1 a1 w1 o1 g1 g2 g3 g4 h1 => ?_, fun c a1 w1 g1 g2 => hp.panic c a1 w1 g1 g2⟩ cW hds hd hi h
   ·exact hp.normal _ _ _ _ o1 g1 g2 g3 g4 h1
   ·by_cases EV : i = id
    ·subst EV
     simp only [fW.2 rfl] at h1
     simp only [Exit.inBlock, if_true]
     exact hp.normal _ _ _ _ o1 g1 g2 g3 g4 h1
    ·have hb : Nat.beq i id = false := by cases hb : Nat.beq i id with
      | false => rfl
      | true => exact absurd (fW.1 hb) EV
     simp only [hb, cond_false] at h1
     simp only [Exit.inBlock, EV, if_false]
     exact hp.exit _ _ _ _ _ o1 g1 g2 g3 g4 h1
   ·exact hp.ret _ _ _ _ o1 g1 g2 g3 g4 h1
  split at h
  ·rename_i live _
   obtain ⟨J, h, hm⟩ := h
   refine ih id _ _ env M a w hz hf ⟨fun dY M1 a1 w1 o1 g1 g2 g3 g4 h1 => ?_, fun i dY M1 a1 w1 o1 g1 g2 g3 g4 h1 => ?_, fun dY M1 a1 w1 o1 g1 g2 g3 g4 h1 => ?_, fun c a1 w1 g1 g2 => hp.panic c a1 w1 g1 g2⟩ cW hds hd hi h
   ·exact hp.normal _ _ _ _ o1 g1 g2 g3 g4 (j1 hm o1 h1)
   ·by_cases EV : i = id
    ·subst EV
     simp only [fW.2 rfl] at h1
     simp only [Exit.inBlock, if_true]
     exact hp.normal _ _ _ _ o1 g1 g2 g3 g4 (j1 hm o1 h1)
    ·have hb : Nat.beq i id = false := by cases hb : Nat.beq i id with
      | false => rfl
      | true => exact absurd (fW.1 hb) EV
     simp only [hb, cond_false] at h1
     simp only [Exit.inBlock, EV, if_false]
     exact hp.exit _ _ _ _ _ o1 g1 g2 g3 g4 h1
   ·exact hp.ret _ _ _ _ o1 g1 g2 g3 g4 h1
  ·exact plain h
 | loop c ih =>
  intro jM Q Q' env M a w hz hf hp cW hds hd hi h
  simp only [ct] at h
  split at h
  ·rename_i live _
   obtain ⟨I, h0, hr⟩ := h
   have start : ∃ n, EU E N Z F env (writes c) live I n a w := by
    obtain ⟨vs, ⟨n, hn⟩, hk⟩ := oB h0
    exact ⟨n, env, M, jZ.refl _ _, cW, hds, hd, hi, hk _ hn⟩
   refine zq start fun n a1 w1 hR => ?_
   obtain ⟨dY, M1, o1, g1, g2, g3, g4, hl⟩ := hR
   have hb := j1 (hr n) o1 hl
   have both : ∀ {fX : Nat → Value}, jZ (writes c) dY fX → jZ (writes c) env fX := fun o2 => (o1.trans o2).mono (fun i hi => by simpa using hi)
   refine ih jM _ _ dY M1 a1 w1 hz hf ⟨fun fX M2 a2 w2 o2 g1 g2 g3 g4 h2 => ?_, fun i fX M2 a2 w2 o2 g1 g2 g3 g4 h2 => ?_, fun fX M2 a2 w2 o2 g1 g2 g3 g4 h2 => ?_, fun c a1 w1 g1 g2 => hp.panic c a1 w1 g1 g2⟩ g1 g2 g3 g4 hb
   ·obtain ⟨vs, ⟨m, hm, hI⟩, hk⟩ := oB h2
    exact ⟨m, hm, fX, M2, both o2, g1, g2, g3, g4, hk _ hI⟩
   ·exact hp.exit _ _ _ _ _ (both o2) g1 g2 g3 g4 h2
   ·exact hp.ret _ _ _ _ (both o2) g1 g2 g3 g4 h2
  ·exact h.elim
 | scope c ih =>
  intro jM Q Q' env M a w hz hf hp cW hds hd hi h
  refine wp_scope_straight (ih jM Q _ env M a w hz hf ⟨fun dY M1 a1 w1 o1 g1 g2 g3 g4 h1 => ?_, fun i dY M1 a1 w1 o1 g1 g2 g3 g4 h1 => ?_, fun dY M1 a1 w1 o1 g1 g2 g3 g4 h1 => ?_, fun c a1 w1 g1 g2 => hp.panic c a1 w1 g1 g2⟩ cW hds hd hi h)
  ·exact hp.normal _ _ _ _ o1 g1 g2 g3 g4 h1
  ·exact hp.exit _ _ _ _ _ o1 g1 g2 g3 g4 h1
  ·exact hp.ret _ _ _ _ o1 g1 g2 g3 g4 h1
def eV (args : List Value) : Nat → Value := fun i => args.getD i undef
def zu (P : Program) (M : Mem) (env : Nat → Value) : List ResultVar → (List Value → Prop) → Prop
 | [], K => K []
 | .tmp t :: l, K => zu P M env l fun vs => K (env t :: vs)
 | .cell a t :: l, K => yg P t (env a) M fun v => zu P M env l fun vs => K (v :: vs)
def CU : List Value → Value
 | [v] => v
 | vs => .tuple vs.toArray
def zw (P : Program) (fn : Func) (K : Value → Mem → Prop) : CR → (Nat → Value) → Mem → Prop
 | .normal, env, M => zu P M env fn.results.toList fun vs => K (CU vs) M
 | .ret, env, M => zu P M env fn.results.toList fun vs => K (CU vs) M
 | .exit _, _, _ => False
def tX (n : Nat) (fn : Func) : Bool := fn.results.toList.all fun r => match r with
 | .tmp t => decide (t < n)
 | .cell a _ => decide (a < n)
theorem sS (P : Program) {α : Type} (s : Sem α) {M : Mem} {w : World} (hi : M.In E w) : ∀ {x : α}, aV P s M = some x → s.run P w = .ok x w := by
 induction s with
 | pure a => intro x h; simp only [aV, Option.some.injEq] at h; subst h; rfl
 | load m a k ih =>
  intro x h
  simp only [aV] at h
  cases hv : M.ld a with
  | none => simp [hv] at h
  | some v =>
   rw [hv] at h
   simp only [Sem.run, yf hi hv]
   exact ih v h
 | shape r k ih =>
  intro x h
  simp only [aV] at h
  split at h
  ·rename_i c e f hb
   have : w.shape? r = some (e, c.size) := by simp [World.shape?, hi.1 _ _ hb]
   simp only [Sem.run, this]
   exact ih _ h
  ·cases h
 | frozen a k ih =>
  intro x h
  simp only [aV] at h
  split at h
  ·rename_i c e f hb
   have : w.frozen? a = (decide (f.1 ≤ a.off) && decide (a.off < f.2)) := by simp [World.frozen?, hi.1 _ _ hb]
   simp only [Sem.run, this]
   exact ih _ h
  ·cases h
 | program k ih => intro x h; exact ih P h
 | mark m k ih => intro x h; exact ih h
 | _ => intro x h; simp [aV] at h
theorem xk {P : Program} {t : TypeId} {x v : Value} {M : Mem} (h : aV P (Instr.loadAt t x) M = some v) : aV P (do loadVar t (← asAddr x)) M = some v := by
 unfold Instr.loadAt at h
 rw [az] at h ⊢
 cases x <;> try (simp only [Instr.sureAddr, stuck, aV] at h; cases h; done)
 rename_i p
 cases p with
 | none => simp only [Instr.sureAddr, stuck, aV] at h; cases h
 | some a => exact h
theorem zx {P : Program} {N : Nat} {env : Nat → Value} {tmps : Array Value} {M : Mem} (cW : cO N env tmps) :
  ∀ (l : List ResultVar) (K : List Value → Prop), (∀ r ∈ l, match r with | .tmp t => t < N | .cell a _ => a < N) → zu P M env l K →
   ∀ (f : ResultVar → Sem Value), (∀ t, f (.tmp t) = pure (tmps.getD t undef)) → (∀ a t, f (.cell a t) = do loadVar t (← asAddr (tmps.getD a undef))) → ∃ vs, aV P (l.mapM f) M = some vs ∧ K vs := by
 intro l
 induction l with
 | nil => intro K _ h f _ _; exact ⟨[], rfl, h⟩
 | cons r l ih =>
  intro K hr h f hf hc
  have CD : ∀ r ∈ l, match r with | .tmp t => t < N | .cell a _ => a < N := fun r hx => hr r (List.mem_cons_of_mem _ hx)
  cases r with
  | tmp t =>
   have ht : t < N := hr _ (List.mem_cons_self ..)
   have := cW.2 t ht
   obtain ⟨vs, h1, h2⟩ := ih _ CD h f hf hc
   refine ⟨env t :: vs, ?_, h2⟩
   rw [List.mapM_cons]
   simp only [az, hf, aT, Option.bind_some, h1]
   simp [this]
  | cell a t =>
   have ha : a < N := hr _ (List.mem_cons_self ..)
   have := cW.2 a ha
   obtain ⟨v, hv, h⟩ := qo h
   obtain ⟨vs, h1, h2⟩ := ih _ CD h f hf hc
   refine ⟨v :: vs, ?_, h2⟩
   have hg : tmps.getD a undef = env a := by simp [this]
   rw [List.mapM_cons, az, hc, hg, xk hv]
   simp only [Option.bind_some, az, h1, aT]
theorem qE {P : Program} {N : Nat} {fn : Func} {env : Nat → Value} {tmps : Array Value} {M F : Mem} {K : List Value → Prop} {w : World} (cW : cO N env tmps) (hf : tX N fn = true)
  (hi : (M.union F).In E w) (h : zu P M env fn.results.toList K) : ∃ vs, (results fn tmps).run P w = .ok (CU vs) w ∧ K vs := by
 have hr : ∀ r ∈ fn.results.toList, match r with | .tmp t => t < N | .cell a _ => a < N := by
  intro r hr
  have := List.all_eq_true.1 hf r hr
  cases r <;> simp_all
 obtain ⟨vs, hk, hK⟩ := zx cW fn.results.toList K hr h (fun
  | .tmp t => pure (tmps.getD t undef)
  | .cell a t => do loadVar t (← asAddr (tmps.getD a undef))) (fun _ => rfl) (fun _ _ => rfl)
 refine ⟨vs, sS P _ hi (jP P _ (fun b o hb => Mem.union_left hb) (?_ : aV P _ M = _)), hK⟩
 unfold results
 rw [Array.mapM_eq_mapM_toList]
 simp only [az, Ap]
 erw [hk]
 simp only [Option.map_some, Option.bind_some, aT, Option.some.injEq]
 match vs with
 | [] => rfl
 | [v] => rfl
 | v :: u :: l => simp [CU]
theorem zy {C : Ctx} (hC : C.Good) {f : FuncId} {fn : Func} {c : Code} {args : List Value} {M : Mem} {K : Value → Mem → Prop} {Kp : List PanicEntry → Mem → Prop} (H : List (Nat × Hint))
  (hf : C.P.funcs[f]? = some fn) (hb : fn.body = some c) (hfit : (fits fn.ntmps c && tX fn.ntmps fn && decide (args.length ≤ fn.ntmps)) = true)
  (h : ct C H Kp c 0 (zw C.P fn K) (eV args) M) : ae C.P f args.toArray M K Kp := by
 simp only [Bool.and_eq_true, decide_eq_true_eq] at hfit
 obtain ⟨⟨h1, h2⟩, h3⟩ := hfit
 intro E F w hd hi
 have cW : cO fn.ntmps (eV args) (args.toArray ++ Array.replicate (fn.ntmps - args.toArray.size) undef) := by
  refine ⟨by simp; omega, fun i hi => ?_⟩
  unfold eV
  by_cases hl : i < args.length
  ·rw [Array.getElem?_append_left (by simpa using hl)]
   simp [List.getD, hl]
  ·rw [Array.getElem?_append_right (by simpa using Nat.le_of_not_lt hl)]
   have : args[i]? = none := by simpa using Nat.le_of_not_lt hl
   simp only [List.getD, this, Option.getD_none]
   rw [Array.getElem?_replicate, if_pos (by simp; omega)]
 refine calls_of_wp hf hb (eH hC (F := F) (Z := fun a => a.defers = []) c 0 _ _ _ M _ w (fun d _ a v h => by rw [put_defers]; exact h) h1 ⟨?_, ?_, ?_, ?_⟩ cW rfl hd hi h)
 ·intro env M1 a1 w1 _ g1 g2 g3 g4 hq
  unfold zw at hq
  simp only at hq
  obtain ⟨vs, hvs, hq⟩ := qE g1 h2 g4 hq
  exact ⟨g2, _, hvs, ⟨M1, hq, g3, g4⟩⟩
 ·intro id env M1 a1 w1 _ g1 g2 g3 g4 hq; exact hq.elim
 ·intro env M1 a1 w1 _ g1 g2 g3 g4 hq
  unfold zw at hq
  simp only at hq
  obtain ⟨vs, hvs, hq⟩ := qE g1 h2 g4 hq
  exact ⟨g2, _, hvs, ⟨M1, hq, g3, g4⟩⟩
 ·intro c a1 w1 g1 g2; exact ⟨g1, g2⟩
end Go.AF
namespace Go.AF
def eA (fn : Func) : Code := fn.body.getD .skip
def qb (fn : Func) (n : Nat) : Bool := fits fn.ntmps (eA fn) && tX fn.ntmps fn && decide (n ≤ fn.ntmps) && fn.body.isSome
theorem vr {C : Ctx} (hC : C.Good) {f : FuncId} {fn : Func} {args : List Value} {M : Mem} {K : Value → Mem → Prop} {Kp : List PanicEntry → Mem → Prop} (H : List (Nat × Hint))
  (hf : C.P.funcs[f]? = some fn) (hfit : qb fn args.length = true)
  (h : ct C H Kp (eA fn) 0 (zw C.P fn K) (eV args) M) : ae C.P f args.toArray M K Kp := by
 unfold qb at hfit
 simp only [Bool.and_eq_true] at hfit
 obtain ⟨h1, h2⟩ := hfit
 obtain ⟨c, hc⟩ := Option.isSome_iff_exists.1 h2
 have hb : eA fn = c := by unfold eA; rw [hc]; rfl
 rw [hb] at h h1
 exact zy hC H hf hc (by simp only [Bool.and_eq_true]; exact h1) h
theorem cY {C : Ctx} (hC : C.Good) {f : FuncId} {fn : Func} {args : List Value} {M : Mem} {K : Value → Mem → Prop} {Kp : List PanicEntry → Mem → Prop} (H : List (Nat × Hint))
  (hf : C.P.funcs[f]? = some fn) (hfit : qb fn args.length = true) {vc : Prop}
  (he : vc = ct C H Kp (eA fn) 0 (zw C.P fn K) (eV args) M) (h : vc) : ae C.P f args.toArray M K Kp :=
 vr hC H hf hfit (he ▸ h)
end Go.AF
