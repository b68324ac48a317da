/- A part of proofs about one program. -/
import Derived.Test.YtnnlgknlialpmaaGreatZReplayToldSound
set_option linter.unusedVariables false
namespace Go.AF
variable {E : oA}
theorem hG {i d : Nat} : Nat.beq i d = true ↔ i = d := ⟨Nat.eq_of_beq_eq_true, fun h => by subst h; simp⟩
theorem Ai {c : Operand} {e : Bool} {env : Nat → Value} (h : lE env c = .bool e) : sL c e env = env := by
 cases c <;> try rfl
 exact jH h
def ML (E : oA) (N : Nat) (Z : Act → Prop) (F : Mem) (env : Nat → Value) (ws : List Nat) (live : List (Nat × wJ)) (I : Nat → List Value → Mem → Prop) (n : Nat) (a : Act) (w : World) : Prop :=
 ∃ eN M1, lS ws env eN ∧ cS N eN a.tmps ∧ Z a ∧ M1.dj F ∧ (M1.union F).In E w ∧ fh eN live fun vs => I n vs M1
theorem EO {P : Program} {c : Code} {Q : Exit → Act → World → Prop} {R : Nat → Act → World → Prop} {a : Act} {w : World} (h0 : ∃ n, R n a w)
  (round : ∀ n a w, R n a w → c.wp P (Exit.then (fun a' w' => ∃ m, m < n ∧ R m a' w') Q) a w) : (Code.loop c).wp P Q a w := by
 intro b k cs
 have key : ∀ n a w, R n a w → ∃ e a' w', Q e a' w' ∧ Arrives P (lone (b.at a (.code c :: .inLoop c :: k)) cs w) b k cs e a' w' := by
  intro n
  induction n using Nat.strongRecOn with
  | _ n ih =>
   intro a w hR
   obtain ⟨e, a₁, w₁, hq, Aj⟩ := round n a w hR b (.inLoop c :: k) cs
   cases e with
   | normal =>
    obtain ⟨m, hm, hR₁⟩ := hq
    obtain ⟨e₂, a₂, w₂, hq₂, P6⟩ := ih m hm a₁ w₁ hR₁
    exact ⟨e₂, a₂, w₂, hq₂, .of_steps (Steps.trans Aj (.one step_inLoop)) P6⟩
   | exit id => exact ⟨_, a₁, w₁, hq, .pass (x := .inLoop c) rfl (fun _ _ => .inl (by simp)) Aj⟩
   | goto l => exact ⟨_, a₁, w₁, hq, .pass (x := .inLoop c) rfl (fun _ _ => .inl (by simp)) Aj⟩
   | ret => exact ⟨_, a₁, w₁, hq, .pass (x := .inLoop c) rfl (fun _ _ => .inl (by simp)) Aj⟩
   | panic ch => exact ⟨_, a₁, w₁, hq, .pass (x := .inLoop c) rfl (fun _ _ => .inl (by simp)) Aj⟩
   | outgrown => exact ⟨_, a₁, w₁, hq, .pass (x := .inLoop c) rfl (fun _ _ => .inl (by simp)) Aj⟩
 obtain ⟨n, h0⟩ := h0
 obtain ⟨e, a', w', hq, Aj⟩ := key n a w h0
 exact ⟨e, a', w', hq, .of_steps (.one step_loop) Aj⟩
theorem Cq {c : xp} {v : Value} {X : Value → Prop} (h : zJ c (some v) X) : X v ∧ zJ c (some v) fun u => u = v := by
 cases c <;> simp only [zJ] at h ⊢
 case int k =>
  unfold aE at h ⊢; split at h
  ·split at h
   ·rename_i he hk; cases he; subst hk; simp only [if_true]; exact ⟨h, trivial⟩
   ·exact h.elim
  ·exact h.elim
 case bool => unfold cY at h ⊢; split at h <;> first | (rename_i he; cases he; exact ⟨h, rfl⟩) | exact h.elim
 case str => unfold gh at h ⊢; split at h <;> first | (rename_i he; cases he; exact ⟨h, rfl⟩) | exact h.elim
 case ptr => unfold cz at h ⊢; split at h <;> first | (rename_i he; cases he; exact ⟨h, rfl⟩) | exact h.elim
 case sl => unfold ay at h ⊢; split at h <;> first | (rename_i he; cases he; exact ⟨h, rfl⟩) | exact h.elim
 case val => exact ⟨h, rfl⟩
theorem xI {c : xp} {v : Value} {X : Value → Prop} (h : zJ c (some v) fun u => u = v) (hx : X v) : zJ c (some v) X := by
 cases c <;> simp only [zJ] at h ⊢
 case int k => unfold aE at h ⊢; split at h <;> first | (split at h <;> simp_all) | exact h.elim
 case bool => unfold cY at h ⊢; split at h <;> simp_all
 case str => unfold gh at h ⊢; split at h <;> simp_all
 case ptr => unfold cz at h ⊢; split at h <;> simp_all
 case sl => unfold ay at h ⊢; split at h <;> simp_all
 case val => exact hx
theorem DP : ∀ {l : List xp} {vs : List Value} {X : List Value → Prop}, B5 l vs X → X vs ∧ ∀ Y : List Value → Prop, Y vs → B5 l vs Y
 | [], [], X, h => ⟨h, fun _ h => h⟩
 | c :: cs, v :: vs, X, h => by
  simp only [B5] at h ⊢
  obtain ⟨h1, h2⟩ := Cq h
  obtain ⟨h3, h4⟩ := DP (X := fun vs => X (v :: vs)) h1
  exact ⟨h3, fun Y hy => xI h2 (h4 _ hy)⟩
 | [], _ :: _, _, h => h.elim
 | _ :: _, [], _, h => h.elim
theorem JU {c : wJ} {v : Value} {X : Value → Prop} (h : Co c v X) : X v ∧ ∀ Y : Value → Prop, Y v → Co c v Y := by
 cases c with
 | c c => exact ⟨(Cq h).1, fun Y hy => xI (Cq h).2 hy⟩
 | a l =>
  cases v <;> try exact h.elim
  rename_i cs
  simp only [Co] at h ⊢
  obtain ⟨h1, h2⟩ := DP h
  exact ⟨by simpa using h1, fun Y hy => h2 _ (by simpa using hy)⟩
 | b n =>
  cases v <;> try exact h.elim
  rename_i cs
  exact ⟨h.2, fun Y hy => ⟨h.1, hy⟩⟩
theorem rK {env : Nat → Value} : ∀ {live : List (Nat × wJ)} {K : List Value → Prop}, fh env live K → ∃ vs, K vs ∧ ∀ K' : List Value → Prop, K' vs → fh env live K'
 | [], K, h => ⟨[], h, fun _ h => h⟩
 | (s, c) :: live, K, h => by
  simp only [fh] at h ⊢
  obtain ⟨h1, h2⟩ := JU h
  obtain ⟨vs, h3, h4⟩ := rK h1
  exact ⟨env s :: vs, h3, fun K' hk => h2 _ (h4 _ hk)⟩
theorem eO {C : Ctx} (hC : C.Good) {H : List (Nat × Hint)} {Kp : List PanicEntry → Mem → Prop} {N : Nat} {Z : Act → Prop} {F : Mem} (c : Code) :
  ∀ (lF : Nat) (Q : Jj → (Nat → Value) → Mem → Prop) (Q' : Exit → Act → World → Prop) (env : Nat → Value) (M : Mem) (a : Act) (w : World), (∀ d ∈ writes c, ∀ (a : Act) (v : Value), Z a → Z (a.put (some d) v)) → fits N c = true →
   DO E N Z F (writes c) env Q Kp Q' → cS N env a.tmps → Z a → M.dj F → (M.union F).In E w → cL C H Kp c lF Q env M → c.wp C.P Q' a w := by
 induction c with
 | skip => intro lF Q Q' env M a w hz hf hp dD hds hd hi h; exact wp_skip (hp.normal _ _ _ _ (lS.refl _ _) dD hds hd hi h)
 | label l => intro lF Q Q' env M a w hz hf hp dD hds hd hi h; exact wp_label (hp.normal _ _ _ _ (lS.refl _ _) dD hds hd hi h)
 | exit id => intro lF Q Q' env M a w hz hf hp dD hds hd hi h; exact wp_exit (hp.exit _ _ _ _ _ (lS.refl _ _) dD hds hd hi h)
 | ret => intro lF Q Q' env M a w hz hf hp dD hds hd hi h; exact wp_ret (hp.ret _ _ _ _ (lS.refl _ _) dD hds hd hi h)
 | goto l => intro lF Q Q' env M a w hz hf hp dD hds hd hi h; exact h.elim
 | refuse s => intro lF Q Q' env M a w hz hf hp dD hds hd hi h; exact h.elim
 | rangeFunc f ps as b => intro lF Q Q' env M a w hz hf hp dD hds hd hi h; exact h.elim
 | region id ops draw =>
  intro lF Q Q' env M a w hz hf hp dD hds hd hi h
  have hfit : ∀ o ∈ ops.toList, j5 N o = true := fun o ho => List.all_eq_true.1 hf o ho
  have hzo : ∀ o ∈ ops.toList, ∀ (a : Act) (v : Value), Z a → Z (a.put o.dst v) := fun o ho a v Sn => by
   cases hd : o.dst with
   | none => exact Sn
   | some d => exact hz d (List.mem_filterMap.2 ⟨o, ho, hd⟩) a v Sn
  have post : ∀ K : (Nat → Value) → Mem → Prop, (∀ env' M', K env' M' → lS (fQ ops) env env' → Q .normal env' M') →
    Post E N Z F (fun env' M' => K env' M' ∧ lS (fQ ops) env env') Kp Q' := fun K hK =>
   ⟨fun env' M' a' w' g1 g2 g3 g4 g5 => hp.normal env' M' a' w' g5.2 g1 g2 g3 g4 (hK env' M' g5.1 g5.2), hp.panic⟩
  simp only [cL] at h
  cases draw with
  | false =>
   simp only [Bool.false_eq_true, if_false] at h
   exact wp_region_list (uD hzo hfit (post (fun env' M' => Q .normal env' M') fun _ _ h _ => h) _ env M a w (fun _ h => h) dD hds hd hi (GP hC _ _ _ (fun _ h => h) (lS.refl _ _) h))
  | true =>
   simp only [if_true] at h
   have hsel : ∀ (j : Nat) (o : Oper) cs b, ops[j]? = some o → o.op ≠ .select cs b := fun j o cs b ho =>
    (eM (hfit o (by have := Array.mem_of_getElem? ho; simpa using this))).2.2 cs b
   have hc0 : BQ ops.size 0 = ops.size := by unfold BQ; rw [List.filter_eq_self.2 (by simp)]; simp
   have down : ∀ (dF : List Nat) (t : Ex) (K : (Nat → Value) → Mem → Prop), kL ops dF = true → oF C ops dF K Kp t [] 0 0 env M → (∀ env' M', K env' M' → lS (fQ ops) env env' → Q .normal env' M') →
     (Code.region id ops true).wp C.P Q' a w := fun dF t K ha hr hK => by
    have sK : ∀ (j : Nat) (o : Oper), ops[j]? = some o → ∀ e ∈ o.after, Region.binds .any e = true → e.on < ops.size := fun j o ho e he hb => by
     have hlt := (Array.getElem?_eq_some_iff.1 ho).1
     have := List.all_eq_true.1 ha j (List.mem_range.2 hlt)
     rw [ho] at this
     simp only [Bool.and_eq_true, List.all_eq_true, Bool.or_eq_true, Bool.not_eq_true', decide_eq_true_eq] at this
     have := (this.1 e (by simpa using he)).resolve_left (by simp [hb])
     omega
    have h1 := (Cn hC hsel ha t [] (fun _ _ _ _ s hs => by cases hs)).1 0 env M (fun s hs => by cases hs) (fun k o hk => by simp at hk) hr
    rw [hc0] at h1
    exact wp_region_any hC.2 (wL hzo hfit sK (post K hK) _ 0 _ env M a _ ⟨by simp, fun i hi => by simp [hi]⟩ dD hds hd hi (GN _ _ _ _ (lS.refl _ _) h1))
   split at h
   ·rename_i dF t _
    obtain ⟨ha, hr⟩ := cond_true h
    exact down dF t _ ha hr fun _ _ h _ => h
   ·rename_i dF t live _
    obtain ⟨ha, J, hr, hm⟩ := cond_true h
    exact down dF t _ ha hr fun env' M' hl ho => lT hm ho hl
   ·exact h.elim
 | seq x y Sp P7 =>
  intro lF Q Q' env M a w hz hf hp dD hds hd hi h
  simp only [fits, Bool.and_eq_true] at hf
  refine wp_seq (Sp lF _ _ env M a w (fun d hd => hz d (List.mem_append_left _ hd)) hf.1 ⟨fun eN M1 a1 w1 o1 g1 g2 g3 g4 h1 => ?_, fun id eN M1 a1 w1 o1 g1 g2 g3 g4 h1 => ?_, fun eN M1 a1 w1 o1 g1 g2 g3 g4 h1 => ?_, fun c a1 w1 g1 g2 => hp.panic c a1 w1 g1 g2⟩ dD hds hd hi h)
  ·exact P7 lF Q Q' eN M1 a1 w1 (fun d hd => hz d (List.mem_append_right _ hd)) hf.2 ⟨fun hH M2 a2 w2 o2 => hp.normal hH M2 a2 w2 (o1.trans o2), fun id hH M2 a2 w2 o2 => hp.exit id hH M2 a2 w2 (o1.trans o2), fun hH M2 a2 w2 o2 => hp.ret hH M2 a2 w2 (o1.trans o2), hp.panic⟩ g1 g2 g3 g4 h1
  ·exact hp.exit id eN M1 a1 w1 (o1.mono fun i hi => List.mem_append_left _ hi) g1 g2 g3 g4 h1
  ·exact hp.ret eN M1 a1 w1 (o1.mono fun i hi => List.mem_append_left _ hi) g1 g2 g3 g4 h1
 | cond c x y Sp P7 =>
  intro lF Q Q' env M a w hz hf hp dD hds hd hi h
  simp only [fits, Bool.and_eq_true] at hf
  obtain ⟨⟨hc, hfx⟩, hfy⟩ := hf
  simp only [cL] at h
  have Cr : lE env c = a.eval c := dD.eval fun t ht => by subst ht; simpa using hc
  have plain : ∀ Q0 : Jj → (Nat → Value) → Mem → Prop, DO E N Z F (writes x ++ writes y) env Q0 Kp Q' → (match lE env c with
    | .bool e => aK e (cL C H Kp x lF Q0 (sL c true env) M) (cL C H Kp y lF Q0 (sL c false env) M)
    | _ => False) → (Code.cond c x y).wp C.P Q' a w := by
   intro Q0 hp h
   cases he : lE env c <;> rw [he] at h <;> try exact h.elim
   rename_i e
   simp only at h
   have px : DO E N Z F (writes x) env Q0 Kp Q' := ⟨fun hH M2 a2 w2 o2 => hp.normal hH M2 a2 w2 (o2.mono fun i hi => List.mem_append_left _ hi), fun id hH M2 a2 w2 o2 => hp.exit id hH M2 a2 w2 (o2.mono fun i hi => List.mem_append_left _ hi), fun hH M2 a2 w2 o2 => hp.ret hH M2 a2 w2 (o2.mono fun i hi => List.mem_append_left _ hi), hp.panic⟩
   have py : DO E N Z F (writes y) env Q0 Kp Q' := ⟨fun hH M2 a2 w2 o2 => hp.normal hH M2 a2 w2 (o2.mono fun i hi => List.mem_append_right _ hi), fun id hH M2 a2 w2 o2 => hp.exit id hH M2 a2 w2 (o2.mono fun i hi => List.mem_append_right _ hi), fun hH M2 a2 w2 o2 => hp.ret hH M2 a2 w2 (o2.mono fun i hi => List.mem_append_right _ hi), hp.panic⟩
   cases e with
   | true =>
    rw [Ai he] at h
    exact wp_cond_true (Cr ▸ he) (Sp lF Q0 Q' env M a w (fun d hd => hz d (List.mem_append_left _ hd)) hfx px dD hds hd hi h)
   | false =>
    have h' : cL C H Kp y lF Q0 (sL c false env) M := h
    rw [Ai he] at h'
    exact wp_cond_false (Cr ▸ he) (P7 lF Q0 Q' env M a w (fun d hd => hz d (List.mem_append_right _ hd)) hfy py dD hds hd hi h')
  split at h
  ·rename_i live _
   obtain ⟨J, h, hm⟩ := h
   exact plain (fun e env' M' => match e with | .normal => fh env' live fun vs => J vs M' | e => Q e env' M') ⟨fun eN M1 a1 w1 o1 g1 g2 g3 g4 h1 => hp.normal _ _ _ _ o1 g1 g2 g3 g4 (lT hm o1 h1), fun i eN M1 a1 w1 o1 g1 g2 g3 g4 h1 => hp.exit _ _ _ _ _ o1 g1 g2 g3 g4 h1, fun eN M1 a1 w1 o1 g1 g2 g3 g4 h1 => hp.ret _ _ _ _ o1 g1 g2 g3 g4 h1, hp.panic⟩ h
  ·exact plain Q hp h
 | block id c ih =>
  intro lF Q Q' env M a w hz hf hp dD hds hd hi h
  simp only [cL] at h
  refine wp_block ?_
  have plain : cL C H Kp c id (fun e env' M' => match e with
      | .exit i => bif Nat.beq i id then Q .normal env' M' else Q (.exit i) env' M'
      | e => Q e env' M') env M → c.wp C.P (Exit.inBlock id Q') a w := fun h => by
   refine ih id _ _ env M a w hz hf ⟨fun eN M1 a1 w1 o1 g1 g2 g3 g4 h1 => ?_, fun i eN M1 a1 w1 o1 g1 g2 g3 g4 h1 => ?_, fun eN M1 a1 w1 o1 g1 g2 g3 g4 h1 => ?_, fun c a1 w1 g1 g2 => hp.panic c a1 w1 g1 g2⟩ dD hds hd hi h
   ·exact hp.normal _ _ _ _ o1 g1 g2 g3 g4 h1
   ·by_cases MM : i = id
    ·subst MM
     simp only [hG.2 rfl] at h1
     simp only [Exit.inBlock, if_true]
     exact hp.normal _ _ _ _ o1 g1 g2 g3 g4 h1
    ·have hb : Nat.beq i id = false := by cases hb : Nat.beq i id with
      | false => rfl
      | true => exact absurd (hG.1 hb) MM
     simp only [hb, cond_false] at h1
     simp only [Exit.inBlock, MM, if_false]
     exact hp.exit _ _ _ _ _ o1 g1 g2 g3 g4 h1
   ·exact hp.ret _ _ _ _ o1 g1 g2 g3 g4 h1
  split at h
  ·rename_i live _
   obtain ⟨J, h, hm⟩ := h
   refine ih id _ _ env M a w hz hf ⟨fun eN M1 a1 w1 o1 g1 g2 g3 g4 h1 => ?_, fun i eN M1 a1 w1 o1 g1 g2 g3 g4 h1 => ?_, fun eN M1 a1 w1 o1 g1 g2 g3 g4 h1 => ?_, fun c a1 w1 g1 g2 => hp.panic c a1 w1 g1 g2⟩ dD hds hd hi h
   ·exact hp.normal _ _ _ _ o1 g1 g2 g3 g4 (lT hm o1 h1)
   ·by_cases MM : i = id
    ·subst MM
     simp only [hG.2 rfl] at h1
     simp only [Exit.inBlock, if_true]
     exact hp.normal _ _ _ _ o1 g1 g2 g3 g4 (lT hm o1 h1)
    ·have hb : Nat.beq i id = false := by cases hb : Nat.beq i id with
      | false => rfl
      | true => exact absurd (hG.1 hb) MM
     simp only [hb, cond_false] at h1
     simp only [Exit.inBlock, MM, if_false]
     exact hp.exit _ _ _ _ _ o1 g1 g2 g3 g4 h1
   ·exact hp.ret _ _ _ _ o1 g1 g2 g3 g4 h1
  ·exact plain h
 | loop c ih =>
  intro lF Q Q' env M a w hz hf hp dD hds hd hi h
  simp only [cL] at h
  split at h
  ·rename_i live _
   obtain ⟨I, h0, hr⟩ := h
   have start : ∃ n, ML E N Z F env (writes c) live I n a w := by
    obtain ⟨vs, ⟨n, hn⟩, hk⟩ := rK h0
    exact ⟨n, env, M, lS.refl _ _, dD, hds, hd, hi, hk _ hn⟩
   refine EO start fun n a1 w1 hR => ?_
   obtain ⟨eN, M1, o1, g1, g2, g3, g4, hl⟩ := hR
   have hb := lT (hr n) o1 hl
   have both : ∀ {hH : Nat → Value}, lS (writes c) eN hH → lS (writes c) env hH := fun o2 => (o1.trans o2).mono (fun i hi => by simpa using hi)
   refine ih lF _ _ eN M1 a1 w1 hz hf ⟨fun hH M2 a2 w2 o2 g1 g2 g3 g4 h2 => ?_, fun i hH M2 a2 w2 o2 g1 g2 g3 g4 h2 => ?_, fun hH M2 a2 w2 o2 g1 g2 g3 g4 h2 => ?_, fun c a1 w1 g1 g2 => hp.panic c a1 w1 g1 g2⟩ g1 g2 g3 g4 hb
   ·obtain ⟨vs, ⟨m, hm, hI⟩, hk⟩ := rK h2
    exact ⟨m, hm, hH, M2, both o2, g1, g2, g3, g4, hk _ hI⟩
   ·exact hp.exit _ _ _ _ _ (both o2) g1 g2 g3 g4 h2
   ·exact hp.ret _ _ _ _ (both o2) g1 g2 g3 g4 h2
  ·exact h.elim
 | scope c ih =>
  intro lF Q Q' env M a w hz hf hp dD hds hd hi h
  refine wp_scope_straight (ih lF Q _ env M a w hz hf ⟨fun eN M1 a1 w1 o1 g1 g2 g3 g4 h1 => ?_, fun i eN M1 a1 w1 o1 g1 g2 g3 g4 h1 => ?_, fun eN M1 a1 w1 o1 g1 g2 g3 g4 h1 => ?_, fun c a1 w1 g1 g2 => hp.panic c a1 w1 g1 g2⟩ dD hds hd hi h)
  ·exact hp.normal _ _ _ _ o1 g1 g2 g3 g4 h1
  ·exact hp.exit _ _ _ _ _ o1 g1 g2 g3 g4 h1
  ·exact hp.ret _ _ _ _ o1 g1 g2 g3 g4 h1
def er (args : List Value) : Nat → Value := fun i => args.getD i undef
def EP (P : Program) (M : Mem) (env : Nat → Value) : List ResultVar → (List Value → Prop) → Prop
 | [], K => K []
 | .tmp t :: l, K => EP P M env l fun vs => K (env t :: vs)
 | .cell a t :: l, K => DE P t (env a) M fun v => EP P M env l fun vs => K (v :: vs)
def JV : List Value → Value
 | [v] => v
 | vs => .tuple vs.toArray
def ER (P : Program) (fn : Func) (K : Value → Mem → Prop) : Jj → (Nat → Value) → Mem → Prop
 | .normal, env, M => EP P M env fn.results.toList fun vs => K (JV vs) M
 | .ret, env, M => EP P M env fn.results.toList fun vs => K (JV vs) M
 | .exit _, _, _ => False
def yG (n : Nat) (fn : Func) : Bool := fn.results.toList.all fun r => match r with
 | .tmp t => decide (t < n)
 | .cell a _ => decide (a < n)
theorem rL (P : Program) {α : Type} (s : Sem α) {M : Mem} {w : World} (hi : M.In E w) : ∀ {x : α}, br P s M = some x → s.run P w = .ok x w := by
 induction s with
 | pure a => intro x h; simp only [br, Option.some.injEq] at h; subst h; rfl
 | load m a k ih =>
  intro x h
  simp only [br] at h
  cases hv : M.ld a with
  | none => simp [hv] at h
  | some v =>
   rw [hv] at h
   simp only [Sem.run, DD hi hv]
   exact ih v h
 | shape r k ih =>
  intro x h
  simp only [br] at h
  split at h
  ·rename_i c e f hb
   have : w.shape? r = some (e, c.size) := by simp [World.shape?, hi.1 _ _ hb]
   simp only [Sem.run, this]
   exact ih _ h
  ·cases h
 | frozen a k ih =>
  intro x h
  simp only [br] at h
  split at h
  ·rename_i c e f hb
   have : w.frozen? a = (decide (f.1 ≤ a.off) && decide (a.off < f.2)) := by simp [World.frozen?, hi.1 _ _ hb]
   simp only [Sem.run, this]
   exact ih _ h
  ·cases h
 | program k ih => intro x h; exact ih P h
 | mark m k ih => intro x h; exact ih h
 | _ => intro x h; simp [br] at h
theorem Cs {P : Program} {t : TypeId} {x v : Value} {M : Mem} (h : br P (Instr.loadAt t x) M = some v) : br P (do loadVar t (← asAddr x)) M = some v := by
 unfold Instr.loadAt at h
 rw [aG] at h ⊢
 cases x <;> try (simp only [Instr.sureAddr, stuck, br] at h; cases h; done)
 rename_i p
 cases p with
 | none => simp only [Instr.sureAddr, stuck, br] at h; cases h
 | some a => exact h
theorem ES {P : Program} {N : Nat} {env : Nat → Value} {tmps : Array Value} {M : Mem} (dD : cS N env tmps) :
  ∀ (l : List ResultVar) (K : List Value → Prop), (∀ r ∈ l, match r with | .tmp t => t < N | .cell a _ => a < N) → EP P M env l K →
   ∀ (f : ResultVar → Sem Value), (∀ t, f (.tmp t) = pure (tmps.getD t undef)) → (∀ a t, f (.cell a t) = do loadVar t (← asAddr (tmps.getD a undef))) → ∃ vs, br P (l.mapM f) M = some vs ∧ K vs := by
 intro l
 induction l with
 | nil => intro K _ h f _ _; exact ⟨[], rfl, h⟩
 | cons r l ih =>
  intro K hr h f hf hc
  have JG : ∀ r ∈ l, match r with | .tmp t => t < N | .cell a _ => a < N := fun r hx => hr r (List.mem_cons_of_mem _ hx)
  cases r with
  | tmp t =>
   have ht : t < N := hr _ (List.mem_cons_self ..)
   have := dD.2 t ht
   obtain ⟨vs, h1, h2⟩ := ih _ JG h f hf hc
   refine ⟨env t :: vs, ?_, h2⟩
   rw [List.mapM_cons]
   simp only [aG, hf, be, Option.bind_some, h1]
   simp [this]
  | cell a t =>
   have ha : a < N := hr _ (List.mem_cons_self ..)
   have := dD.2 a ha
   obtain ⟨v, hv, h⟩ := uq h
   obtain ⟨vs, h1, h2⟩ := ih _ JG h f hf hc
   refine ⟨v :: vs, ?_, h2⟩
   have hg : tmps.getD a undef = env a := by simp [this]
   rw [List.mapM_cons, aG, hc, hg, Cs hv]
   simp only [Option.bind_some, aG, h1, be]
theorem uG {P : Program} {N : Nat} {fn : Func} {env : Nat → Value} {tmps : Array Value} {M F : Mem} {K : List Value → Prop} {w : World} (dD : cS N env tmps) (hf : yG N fn = true)
  (hi : (M.union F).In E w) (h : EP P M env fn.results.toList K) : ∃ vs, (results fn tmps).run P w = .ok (JV vs) w ∧ K vs := by
 have hr : ∀ r ∈ fn.results.toList, match r with | .tmp t => t < N | .cell a _ => a < N := by
  intro r hr
  have := List.all_eq_true.1 hf r hr
  cases r <;> simp_all
 obtain ⟨vs, hk, hK⟩ := ES dD fn.results.toList K hr h (fun
  | .tmp t => pure (tmps.getD t undef)
  | .cell a t => do loadVar t (← asAddr (tmps.getD a undef))) (fun _ => rfl) (fun _ _ => rfl)
 refine ⟨vs, rL P _ hi (jC P _ (fun b o hb => Mem.union_left hb) (?_ : br P _ M = _)), hK⟩
 unfold results
 rw [Array.mapM_eq_mapM_toList]
 simp only [aG, Gr]
 erw [hk]
 simp only [Option.map_some, Option.bind_some, be, Option.some.injEq]
 match vs with
 | [] => rfl
 | [v] => rfl
 | v :: u :: l => simp [JV]
theorem ET {C : Ctx} (hC : C.Good) {f : FuncId} {fn : Func} {c : Code} {args : List Value} {M : Mem} {K : Value → Mem → Prop} {Kp : List PanicEntry → Mem → Prop} (H : List (Nat × Hint))
  (hf : C.P.funcs[f]? = some fn) (hb : fn.body = some c) (hfit : (fits fn.ntmps c && yG fn.ntmps fn && decide (args.length ≤ fn.ntmps)) = true)
  (h : cL C H Kp c 0 (ER C.P fn K) (er args) M) : aa C.P f args.toArray M K Kp := by
 simp only [Bool.and_eq_true, decide_eq_true_eq] at hfit
 obtain ⟨⟨h1, h2⟩, h3⟩ := hfit
 intro E F w hd hi
 have dD : cS fn.ntmps (er args) (args.toArray ++ Array.replicate (fn.ntmps - args.toArray.size) undef) := by
  refine ⟨by simp; omega, fun i hi => ?_⟩
  unfold er
  by_cases hl : i < args.length
  ·rw [Array.getElem?_append_left (by simpa using hl)]
   simp [List.getD, hl]
  ·rw [Array.getElem?_append_right (by simpa using Nat.le_of_not_lt hl)]
   have : args[i]? = none := by simpa using Nat.le_of_not_lt hl
   simp only [List.getD, this, Option.getD_none]
   rw [Array.getElem?_replicate, if_pos (by simp; omega)]
 refine calls_of_wp hf hb (eO hC (F := F) (Z := fun a => a.defers = []) c 0 _ _ _ M _ w (fun d _ a v h => by rw [put_defers]; exact h) h1 ⟨?_, ?_, ?_, ?_⟩ dD rfl hd hi h)
 ·intro env M1 a1 w1 _ g1 g2 g3 g4 hq
  unfold ER at hq
  simp only at hq
  obtain ⟨vs, hvs, hq⟩ := uG g1 h2 g4 hq
  exact ⟨g2, _, hvs, ⟨M1, hq, g3, g4⟩⟩
 ·intro id env M1 a1 w1 _ g1 g2 g3 g4 hq; exact hq.elim
 ·intro env M1 a1 w1 _ g1 g2 g3 g4 hq
  unfold ER at hq
  simp only at hq
  obtain ⟨vs, hvs, hq⟩ := uG g1 h2 g4 hq
  exact ⟨g2, _, hvs, ⟨M1, hq, g3, g4⟩⟩
 ·intro c a1 w1 g1 g2; exact ⟨g1, g2⟩
end Go.AF
namespace Go.AF
def dn (fn : Func) : Code := fn.body.getD .skip
def tW (fn : Func) (n : Nat) : Bool := fits fn.ntmps (dn fn) && yG fn.ntmps fn && decide (n ≤ fn.ntmps) && fn.body.isSome
theorem Ak {C : Ctx} (hC : C.Good) {f : FuncId} {fn : Func} {args : List Value} {M : Mem} {K : Value → Mem → Prop} {Kp : List PanicEntry → Mem → Prop} (H : List (Nat × Hint))
  (hf : C.P.funcs[f]? = some fn) (hfit : tW fn args.length = true)
  (h : cL C H Kp (dn fn) 0 (ER C.P fn K) (er args) M) : aa C.P f args.toArray M K Kp := by
 unfold tW at hfit
 simp only [Bool.and_eq_true] at hfit
 obtain ⟨h1, h2⟩ := hfit
 obtain ⟨c, hc⟩ := Option.isSome_iff_exists.1 h2
 have hb : dn fn = c := by unfold dn; rw [hc]; rfl
 rw [hb] at h h1
 exact ET hC H hf hc (by simp only [Bool.and_eq_true]; exact h1) h
theorem bV {C : Ctx} (hC : C.Good) {f : FuncId} {fn : Func} {args : List Value} {M : Mem} {K : Value → Mem → Prop} {Kp : List PanicEntry → Mem → Prop} (H : List (Nat × Hint))
  (hf : C.P.funcs[f]? = some fn) (hfit : tW fn args.length = true) {vc : Prop}
  (he : vc = cL C H Kp (dn fn) 0 (ER C.P fn K) (er args) M) (h : vc) : aa C.P f args.toArray M K Kp :=
 Ak hC H hf hfit (he ▸ h)
end Go.AF
