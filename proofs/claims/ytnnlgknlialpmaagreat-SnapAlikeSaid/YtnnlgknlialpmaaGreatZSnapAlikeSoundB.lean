/- A part of proofs about one program. -/
import Derived.Test.YtnnlgknlialpmaaGreatZSnapAlikeSound
set_option linter.unusedVariables false
namespace Go.AF
variable {E : ud}
theorem lj {i d : Nat} : Nat.beq i d = true ↔ i = d := ⟨Nat.eq_of_beq_eq_true, fun h => by subst h; simp⟩
theorem F1 {c : Operand} {e : Bool} {env : Nat → Value} (h : pW env c = .bool e) : yz c e env = env := by
 cases c <;> try rfl
 exact nj h
def VU (E : ud) (N : Nat) (Z : Act → Prop) (F : Mem) (env : Nat → Value) (ws : List Nat) (live : List (Nat × Ca)) (I : Nat → List Value → Mem → Prop) (n : Nat) (a : Act) (w : World) : Prop :=
 ∃ gO M1, qj ws env gO ∧ eL N gO a.tmps ∧ Z a ∧ M1.dj F ∧ (M1.union F).In E w ∧ hO gO live fun vs => I n vs M1
theorem Mf {P : Program} {c : Code} {Q : Exit → Act → World → Prop} {R : Nat → Act → World → Prop} {a : Act} {w : World} (h0 : ∃ n, R n a w)
  (round : ∀ n a w, R n a w → c.wp P (Exit.then (fun a' w' => ∃ m, m < n ∧ R m a' w') Q) a w) : (Code.loop c).wp P Q a w := by
 intro b k cs
 have key : ∀ n a w, R n a w → ∃ e a' w', Q e a' w' ∧ Arrives P (lone (b.at a (.code c :: .inLoop c :: k)) cs w) b k cs e a' w' := by
  intro n
  induction n using Nat.strongRecOn with
  | _ n ih =>
   intro a w hR
   obtain ⟨e, a₁, w₁, hq, F2⟩ := round n a w hR b (.inLoop c :: k) cs
   cases e with
   | normal =>
    obtain ⟨m, hm, hR₁⟩ := hq
    obtain ⟨e₂, a₂, w₂, hq₂, harr₂⟩ := ih m hm a₁ w₁ hR₁
    exact ⟨e₂, a₂, w₂, hq₂, .of_steps (Steps.trans F2 (.one step_inLoop)) harr₂⟩
   | exit id => exact ⟨_, a₁, w₁, hq, .pass (x := .inLoop c) rfl (fun _ _ => .inl (by simp)) F2⟩
   | goto l => exact ⟨_, a₁, w₁, hq, .pass (x := .inLoop c) rfl (fun _ _ => .inl (by simp)) F2⟩
   | ret => exact ⟨_, a₁, w₁, hq, .pass (x := .inLoop c) rfl (fun _ _ => .inl (by simp)) F2⟩
   | panic ch => exact ⟨_, a₁, w₁, hq, .pass (x := .inLoop c) rfl (fun _ _ => .inl (by simp)) F2⟩
   | outgrown => exact ⟨_, a₁, w₁, hq, .pass (x := .inLoop c) rfl (fun _ _ => .inl (by simp)) F2⟩
 obtain ⟨n, h0⟩ := h0
 obtain ⟨e, a', w', hq, F2⟩ := key n a w h0
 exact ⟨e, a', w', hq, .of_steps (.one step_loop) F2⟩
theorem IE {c : CT} {v : Value} {X : Value → Prop} (h : Fx c (some v) X) : X v ∧ Fx c (some v) fun u => u = v := by
 cases c <;> simp only [Fx] at h ⊢
 case int k =>
  unfold aK at h ⊢; split at h
  ·split at h
   ·rename_i he hk; cases he; subst hk; simp only [if_true]; exact ⟨h, trivial⟩
   ·exact h.elim
  ·exact h.elim
 case bool => unfold dH at h ⊢; split at h <;> first | (rename_i he; cases he; exact ⟨h, rfl⟩) | exact h.elim
 case str => unfold fa at h ⊢; split at h <;> first | (rename_i he; cases he; exact ⟨h, rfl⟩) | exact h.elim
 case ptr => unfold cw at h ⊢; split at h <;> first | (rename_i he; cases he; exact ⟨h, rfl⟩) | exact h.elim
 case sl => unfold az at h ⊢; split at h <;> first | (rename_i he; cases he; exact ⟨h, rfl⟩) | exact h.elim
 case val => exact ⟨h, rfl⟩
theorem C7 {c : CT} {v : Value} {X : Value → Prop} (h : Fx c (some v) fun u => u = v) (hx : X v) : Fx c (some v) X := by
 cases c <;> simp only [Fx] at h ⊢
 case int k => unfold aK at h ⊢; split at h <;> first | (split at h <;> simp_all) | exact h.elim
 case bool => unfold dH at h ⊢; split at h <;> simp_all
 case str => unfold fa at h ⊢; split at h <;> simp_all
 case ptr => unfold cw at h ⊢; split at h <;> simp_all
 case sl => unfold az at h ⊢; split at h <;> simp_all
 case val => exact hx
theorem KG : ∀ {l : List CT} {vs : List Value} {X : List Value → Prop}, Ih l vs X → X vs ∧ ∀ Y : List Value → Prop, Y vs → Ih l vs Y
 | [], [], X, h => ⟨h, fun _ h => h⟩
 | c :: cs, v :: vs, X, h => by
  simp only [Ih] at h ⊢
  obtain ⟨h1, h2⟩ := IE h
  obtain ⟨h3, h4⟩ := KG (X := fun vs => X (v :: vs)) h1
  exact ⟨h3, fun Y hy => C7 h2 (h4 _ hy)⟩
 | [], _ :: _, _, h => h.elim
 | _ :: _, [], _, h => h.elim
theorem Su {c : Ca} {v : Value} {X : Value → Prop} (h : IC c v X) : X v ∧ ∀ Y : Value → Prop, Y v → IC c v Y := by
 cases c with
 | c c => exact ⟨(IE h).1, fun Y hy => C7 (IE h).2 hy⟩
 | a l =>
  cases v <;> try exact h.elim
  rename_i cs
  simp only [IC] at h ⊢
  obtain ⟨h1, h2⟩ := KG h
  exact ⟨by simpa using h1, fun Y hy => h2 _ (by simpa using hy)⟩
 | b n =>
  cases v <;> try exact h.elim
  rename_i cs
  exact ⟨h.2, fun Y hy => ⟨h.1, hy⟩⟩
theorem xo {env : Nat → Value} : ∀ {live : List (Nat × Ca)} {K : List Value → Prop}, hO env live K → ∃ vs, K vs ∧ ∀ K' : List Value → Prop, K' vs → hO env live K'
 | [], K, h => ⟨[], h, fun _ h => h⟩
 | (s, c) :: live, K, h => by
  simp only [hO] at h ⊢
  obtain ⟨h1, h2⟩ := Su h
  obtain ⟨vs, h3, h4⟩ := xo h1
  exact ⟨env s :: vs, h3, fun K' hk => h2 _ (h4 _ hk)⟩
theorem gP {C : Ctx} (hC : C.Good) {H : List (Nat × Hint)} {Kp : List PanicEntry → Mem → Prop} {N : Nat} {Z : Act → Prop} {F : Mem} (c : Code) :
  ∀ (pX : Nat) (Q : RE → (Nat → Value) → Mem → Prop) (Q' : Exit → Act → World → Prop) (env : Nat → Value) (M : Mem) (a : Act) (w : World), (∀ d ∈ writes c, ∀ (a : Act) (v : Value), Z a → Z (a.put (some d) v)) → fits N c = true →
   KF E N Z F (writes c) env Q Kp Q' → eL N env a.tmps → Z a → M.dj F → (M.union F).In E w → eo C H Kp c pX Q env M → c.wp C.P Q' a w := by
 induction c with
 | skip => intro pX Q Q' env M a w hz hf hp fI hds hd hi h; exact wp_skip (hp.normal _ _ _ _ (qj.refl _ _) fI hds hd hi h)
 | label l => intro pX Q Q' env M a w hz hf hp fI hds hd hi h; exact wp_label (hp.normal _ _ _ _ (qj.refl _ _) fI hds hd hi h)
 | exit id => intro pX Q Q' env M a w hz hf hp fI hds hd hi h; exact wp_exit (hp.exit _ _ _ _ _ (qj.refl _ _) fI hds hd hi h)
 | ret => intro pX Q Q' env M a w hz hf hp fI hds hd hi h; exact wp_ret (hp.ret _ _ _ _ (qj.refl _ _) fI hds hd hi h)
 | goto l => intro pX Q Q' env M a w hz hf hp fI hds hd hi h; exact h.elim
 | refuse s => intro pX Q Q' env M a w hz hf hp fI hds hd hi h; exact h.elim
 | rangeFunc f ps as b => intro pX Q Q' env M a w hz hf hp fI hds hd hi h; exact h.elim
 | region id ops draw =>
  intro pX Q Q' env M a w hz hf hp fI hds hd hi h
  have hfit : ∀ o ∈ ops.toList, oq N o = true := fun o ho => List.all_eq_true.1 hf o ho
  have hzo : ∀ o ∈ ops.toList, ∀ (a : Act) (v : Value), Z a → Z (a.put o.dst v) := fun o ho a v hz' => by
   cases hd : o.dst with
   | none => exact hz'
   | some d => exact hz d (List.mem_filterMap.2 ⟨o, ho, hd⟩) a v hz'
  have post : ∀ K : (Nat → Value) → Mem → Prop, (∀ env' M', K env' M' → qj (iX ops) env env' → Q .normal env' M') →
    Post E N Z F (fun env' M' => K env' M' ∧ qj (iX ops) env env') Kp Q' := fun K hK =>
   ⟨fun env' M' a' w' g1 g2 g3 g4 g5 => hp.normal env' M' a' w' g5.2 g1 g2 g3 g4 (hK env' M' g5.1 g5.2), hp.panic⟩
  simp only [eo] at h
  cases draw with
  | false =>
   simp only [Bool.false_eq_true, if_false] at h
   exact wp_region_list (An hzo hfit (post (fun env' M' => Q .normal env' M') fun _ _ h _ => h) _ env M a w (fun _ h => h) fI hds hd hi (OL hC _ _ _ (fun _ h => h) (qj.refl _ _) h))
  | true =>
   simp only [if_true] at h
   have hsel : ∀ (j : Nat) (o : Oper) cs b, ops[j]? = some o → o.op ≠ .select cs b := fun j o cs b ho =>
    (gN (hfit o (by have := Array.mem_of_getElem? ho; simpa using this))).2.2 cs b
   have hc0 : zH ops.size 0 = ops.size := by unfold zH; rw [List.filter_eq_self.2 (by simp)]; simp
   have down : ∀ (fJ : List Nat) (t : Ex) (K : (Nat → Value) → Mem → Prop), oZ ops fJ = true → uj C ops fJ K Kp t [] 0 0 env M → (∀ env' M', K env' M' → qj (iX ops) env env' → Q .normal env' M') →
     (Code.region id ops true).wp C.P Q' a w := fun fJ t K ha hr hK => by
    have yy : ∀ (j : Nat) (o : Oper), ops[j]? = some o → ∀ e ∈ o.after, Region.binds .any e = true → e.on < ops.size := fun j o ho e he hb => by
     have hlt := (Array.getElem?_eq_some_iff.1 ho).1
     have := List.all_eq_true.1 ha j (List.mem_range.2 hlt)
     rw [ho] at this
     simp only [Bool.and_eq_true, List.all_eq_true, Bool.or_eq_true, Bool.not_eq_true', decide_eq_true_eq] at this
     have := (this.1 e (by simpa using he)).resolve_left (by simp [hb])
     omega
    have h1 := (IB hC hsel ha t [] (fun _ _ _ _ s hs => by cases hs)).1 0 env M (fun s hs => by cases hs) (fun k o hk => by simp at hk) hr
    rw [hc0] at h1
    exact wp_region_any hC.2 (Cc hzo hfit yy (post K hK) _ 0 _ env M a _ ⟨by simp, fun i hi => by simp [hi]⟩ fI hds hd hi (OJ _ _ _ _ (qj.refl _ _) h1))
   split at h
   ·rename_i fJ t _
    obtain ⟨ha, hr⟩ := cond_true h
    exact down fJ t _ ha hr fun _ _ h _ => h
   ·rename_i fJ t live _
    obtain ⟨ha, J, hr, hm⟩ := cond_true h
    exact down fJ t _ ha hr fun env' M' hl ho => qk hm ho hl
   ·exact h.elim
 | seq x y ihx ihy =>
  intro pX Q Q' env M a w hz hf hp fI hds hd hi h
  simp only [fits, Bool.and_eq_true] at hf
  refine wp_seq (ihx pX _ _ env M a w (fun d hd => hz d (List.mem_append_left _ hd)) hf.1 ⟨fun gO M1 a1 w1 o1 g1 g2 g3 g4 h1 => ?_, fun id gO M1 a1 w1 o1 g1 g2 g3 g4 h1 => ?_, fun gO M1 a1 w1 o1 g1 g2 g3 g4 h1 => ?_, fun c a1 w1 g1 g2 => hp.panic c a1 w1 g1 g2⟩ fI hds hd hi h)
  ·exact ihy pX Q Q' gO M1 a1 w1 (fun d hd => hz d (List.mem_append_right _ hd)) hf.2 ⟨fun lp M2 a2 w2 o2 => hp.normal lp M2 a2 w2 (o1.trans o2), fun id lp M2 a2 w2 o2 => hp.exit id lp M2 a2 w2 (o1.trans o2), fun lp M2 a2 w2 o2 => hp.ret lp M2 a2 w2 (o1.trans o2), hp.panic⟩ g1 g2 g3 g4 h1
  ·exact hp.exit id gO M1 a1 w1 (o1.mono fun i hi => List.mem_append_left _ hi) g1 g2 g3 g4 h1
  ·exact hp.ret gO M1 a1 w1 (o1.mono fun i hi => List.mem_append_left _ hi) g1 g2 g3 g4 h1
 | cond c x y ihx ihy =>
  intro pX Q Q' env M a w hz hf hp fI hds hd hi h
  simp only [fits, Bool.and_eq_true] at hf
  obtain ⟨⟨hc, hfx⟩, hfy⟩ := hf
  simp only [eo] at h
  have IF : pW env c = a.eval c := fI.eval fun t ht => by subst ht; simpa using hc
  have plain : ∀ Q0 : RE → (Nat → Value) → Mem → Prop, KF E N Z F (writes x ++ writes y) env Q0 Kp Q' → (match pW env c with
    | .bool e => aS e (eo C H Kp x pX Q0 (yz c true env) M) (eo C H Kp y pX Q0 (yz c false env) M)
    | _ => False) → (Code.cond c x y).wp C.P Q' a w := by
   intro Q0 hp h
   cases he : pW env c <;> rw [he] at h <;> try exact h.elim
   rename_i e
   simp only at h
   have px : KF E N Z F (writes x) env Q0 Kp Q' := ⟨fun lp M2 a2 w2 o2 => hp.normal lp M2 a2 w2 (o2.mono fun i hi => List.mem_append_left _ hi), fun id lp M2 a2 w2 o2 => hp.exit id lp M2 a2 w2 (o2.mono fun i hi => List.mem_append_left _ hi), fun lp M2 a2 w2 o2 => hp.ret lp M2 a2 w2 (o2.mono fun i hi => List.mem_append_left _ hi), hp.panic⟩
   have py : KF E N Z F (writes y) env Q0 Kp Q' := ⟨fun lp M2 a2 w2 o2 => hp.normal lp M2 a2 w2 (o2.mono fun i hi => List.mem_append_right _ hi), fun id lp M2 a2 w2 o2 => hp.exit id lp M2 a2 w2 (o2.mono fun i hi => List.mem_append_right _ hi), fun lp M2 a2 w2 o2 => hp.ret lp M2 a2 w2 (o2.mono fun i hi => List.mem_append_right _ hi), hp.panic⟩
   cases e with
   | true =>
    rw [F1 he] at h
    exact wp_cond_true (IF ▸ he) (ihx pX Q0 Q' env M a w (fun d hd => hz d (List.mem_append_left _ hd)) hfx px fI hds hd hi h)
   | false =>
    have h' : eo C H Kp y pX Q0 (yz c false env) M := h
    rw [F1 he] at h'
    exact wp_cond_false (IF ▸ he) (ihy pX Q0 Q' env M a w (fun d hd => hz d (List.mem_append_right _ hd)) hfy py fI hds hd hi h')
  split at h
  ·rename_i live _
   obtain ⟨J, h, hm⟩ := h
   exact plain (fun e env' M' => match e with | .normal => hO env' live fun vs => J vs M' | e => Q e env' M') ⟨fun gO M1 a1 w1 o1 g1 g2 g3 g4 h1 => hp.normal _ _ _ _ o1 g1 g2 g3 g4 (qk hm o1 h1), fun i gO M1 a1 w1 o1 g1 g2 g3 g4 h1 => hp.exit _ _ _ _ _ o1 g1 g2 g3 g4 h1, fun gO M1 a1 w1 o1 g1 g2 g3 g4 h1 => hp.ret _ _ _ _ o1 g1 g2 g3 g4 h1, hp.panic⟩ h
  ·exact plain Q hp h
 | block id c ih =>
  intro pX Q Q' env M a w hz hf hp fI hds hd hi h
  simp only [eo] at h
  refine wp_block ?_
  have plain : eo C H Kp c id (fun e env' M' => match e with
      | .exit i => bif Nat.beq i id then Q .normal env' M' else Q (.exit i) env' M'
      | e => Q e env' M') env M → c.wp C.P (Exit.inBlock id Q') a w := fun h => by
   refine ih id _ _ env M a w hz hf ⟨fun gO M1 a1 w1 o1 g1 g2 g3 g4 h1 => ?_, fun i gO M1 a1 w1 o1 g1 g2 g3 g4 h1 => ?_, fun gO M1 a1 w1 o1 g1 g2 g3 g4 h1 => ?_, fun c a1 w1 g1 g2 => hp.panic c a1 w1 g1 g2⟩ fI hds hd hi h
   ·exact hp.normal _ _ _ _ o1 g1 g2 g3 g4 h1
   ·by_cases VV : i = id
    ·subst VV
     simp only [lj.2 rfl] at h1
     simp only [Exit.inBlock, if_true]
     exact hp.normal _ _ _ _ o1 g1 g2 g3 g4 h1
    ·have hb : Nat.beq i id = false := by cases hb : Nat.beq i id with
      | false => rfl
      | true => exact absurd (lj.1 hb) VV
     simp only [hb, cond_false] at h1
     simp only [Exit.inBlock, VV, if_false]
     exact hp.exit _ _ _ _ _ o1 g1 g2 g3 g4 h1
   ·exact hp.ret _ _ _ _ o1 g1 g2 g3 g4 h1
  split at h
  ·rename_i live _
   obtain ⟨J, h, hm⟩ := h
   refine ih id _ _ env M a w hz hf ⟨fun gO M1 a1 w1 o1 g1 g2 g3 g4 h1 => ?_, fun i gO M1 a1 w1 o1 g1 g2 g3 g4 h1 => ?_, fun gO M1 a1 w1 o1 g1 g2 g3 g4 h1 => ?_, fun c a1 w1 g1 g2 => hp.panic c a1 w1 g1 g2⟩ fI hds hd hi h
   ·exact hp.normal _ _ _ _ o1 g1 g2 g3 g4 (qk hm o1 h1)
   ·by_cases VV : i = id
    ·subst VV
     simp only [lj.2 rfl] at h1
     simp only [Exit.inBlock, if_true]
     exact hp.normal _ _ _ _ o1 g1 g2 g3 g4 (qk hm o1 h1)
    ·have hb : Nat.beq i id = false := by cases hb : Nat.beq i id with
      | false => rfl
      | true => exact absurd (lj.1 hb) VV
     simp only [hb, cond_false] at h1
     simp only [Exit.inBlock, VV, if_false]
     exact hp.exit _ _ _ _ _ o1 g1 g2 g3 g4 h1
   ·exact hp.ret _ _ _ _ o1 g1 g2 g3 g4 h1
  ·exact plain h
 | loop c ih =>
  intro pX Q Q' env M a w hz hf hp fI hds hd hi h
  simp only [eo] at h
  split at h
  ·rename_i live _
   obtain ⟨I, h0, hr⟩ := h
   have start : ∃ n, VU E N Z F env (writes c) live I n a w := by
    obtain ⟨vs, ⟨n, hn⟩, hk⟩ := xo h0
    exact ⟨n, env, M, qj.refl _ _, fI, hds, hd, hi, hk _ hn⟩
   refine Mf start fun n a1 w1 hR => ?_
   obtain ⟨gO, M1, o1, g1, g2, g3, g4, hl⟩ := hR
   have hb := qk (hr n) o1 hl
   have both : ∀ {lp : Nat → Value}, qj (writes c) gO lp → qj (writes c) env lp := fun o2 => (o1.trans o2).mono (fun i hi => by simpa using hi)
   refine ih pX _ _ gO M1 a1 w1 hz hf ⟨fun lp M2 a2 w2 o2 g1 g2 g3 g4 h2 => ?_, fun i lp M2 a2 w2 o2 g1 g2 g3 g4 h2 => ?_, fun lp M2 a2 w2 o2 g1 g2 g3 g4 h2 => ?_, fun c a1 w1 g1 g2 => hp.panic c a1 w1 g1 g2⟩ g1 g2 g3 g4 hb
   ·obtain ⟨vs, ⟨m, hm, hI⟩, hk⟩ := xo h2
    exact ⟨m, hm, lp, M2, both o2, g1, g2, g3, g4, hk _ hI⟩
   ·exact hp.exit _ _ _ _ _ (both o2) g1 g2 g3 g4 h2
   ·exact hp.ret _ _ _ _ (both o2) g1 g2 g3 g4 h2
  ·exact h.elim
 | scope c ih =>
  intro pX Q Q' env M a w hz hf hp fI hds hd hi h
  refine wp_scope_straight (ih pX Q _ env M a w hz hf ⟨fun gO M1 a1 w1 o1 g1 g2 g3 g4 h1 => ?_, fun i gO M1 a1 w1 o1 g1 g2 g3 g4 h1 => ?_, fun gO M1 a1 w1 o1 g1 g2 g3 g4 h1 => ?_, fun c a1 w1 g1 g2 => hp.panic c a1 w1 g1 g2⟩ fI hds hd hi h)
  ·exact hp.normal _ _ _ _ o1 g1 g2 g3 g4 h1
  ·exact hp.exit _ _ _ _ _ o1 g1 g2 g3 g4 h1
  ·exact hp.ret _ _ _ _ o1 g1 g2 g3 g4 h1
def gA (args : List Value) : Nat → Value := fun i => args.getD i undef
def Mg (P : Program) (M : Mem) (env : Nat → Value) : List ResultVar → (List Value → Prop) → Prop
 | [], K => K []
 | .tmp t :: l, K => Mg P M env l fun vs => K (env t :: vs)
 | .cell a t :: l, K => Kw P t (env a) M fun v => Mg P M env l fun vs => K (v :: vs)
def Sv : List Value → Value
 | [v] => v
 | vs => .tuple vs.toArray
def Mh (P : Program) (fn : Func) (K : Value → Mem → Prop) : RE → (Nat → Value) → Mem → Prop
 | .normal, env, M => Mg P M env fn.results.toList fun vs => K (Sv vs) M
 | .ret, env, M => Mg P M env fn.results.toList fun vs => K (Sv vs) M
 | .exit _, _, _ => False
def Ed (n : Nat) (fn : Func) : Bool := fn.results.toList.all fun r => match r with
 | .tmp t => decide (t < n)
 | .cell a _ => decide (a < n)
theorem xp (P : Program) {α : Type} (s : Sem α) {M : Mem} {w : World} (hi : M.In E w) : ∀ {x : α}, bQ P s M = some x → s.run P w = .ok x w := by
 induction s with
 | pure a => intro x h; simp only [bQ, Option.some.injEq] at h; subst h; rfl
 | load m a k ih =>
  intro x h
  simp only [bQ] at h
  cases hv : M.ld a with
  | none => simp [hv] at h
  | some v =>
   rw [hv] at h
   simp only [Sem.run, Kv hi hv]
   exact ih v h
 | shape r k ih =>
  intro x h
  simp only [bQ] at h
  split at h
  ·rename_i c e f hb
   have : w.shape? r = some (e, c.size) := by simp [World.shape?, hi.1 _ _ hb]
   simp only [Sem.run, this]
   exact ih _ h
  ·cases h
 | frozen a k ih =>
  intro x h
  simp only [bQ] at h
  split at h
  ·rename_i c e f hb
   have : w.frozen? a = (decide (f.1 ≤ a.off) && decide (a.off < f.2)) := by simp [World.frozen?, hi.1 _ _ hb]
   simp only [Sem.run, this]
   exact ih _ h
  ·cases h
 | program k ih => intro x h; exact ih P h
 | mark m k ih => intro x h; exact ih h
 | _ => intro x h; simp [bQ] at h
theorem IG {P : Program} {t : TypeId} {x v : Value} {M : Mem} (h : bQ P (Instr.loadAt t x) M = some v) : bQ P (do loadVar t (← asAddr x)) M = some v := by
 unfold Instr.loadAt at h
 rw [aT] at h ⊢
 cases x <;> try (simp only [Instr.sureAddr, stuck, bQ] at h; cases h; done)
 rename_i p
 cases p with
 | none => simp only [Instr.sureAddr, stuck, bQ] at h; cases h
 | some a => exact h
theorem Mi {P : Program} {N : Nat} {env : Nat → Value} {tmps : Array Value} {M : Mem} (fI : eL N env tmps) :
  ∀ (l : List ResultVar) (K : List Value → Prop), (∀ r ∈ l, match r with | .tmp t => t < N | .cell a _ => a < N) → Mg P M env l K →
   ∀ (f : ResultVar → Sem Value), (∀ t, f (.tmp t) = pure (tmps.getD t undef)) → (∀ a t, f (.cell a t) = do loadVar t (← asAddr (tmps.getD a undef))) → ∃ vs, bQ P (l.mapM f) M = some vs ∧ K vs := by
 intro l
 induction l with
 | nil => intro K _ h f _ _; exact ⟨[], rfl, h⟩
 | cons r l ih =>
  intro K hr h f hf hc
  have Sb : ∀ r ∈ l, match r with | .tmp t => t < N | .cell a _ => a < N := fun r hx => hr r (List.mem_cons_of_mem _ hx)
  cases r with
  | tmp t =>
   have ht : t < N := hr _ (List.mem_cons_self ..)
   have := fI.2 t ht
   obtain ⟨vs, h1, h2⟩ := ih _ Sb h f hf hc
   refine ⟨env t :: vs, ?_, h2⟩
   rw [List.mapM_cons]
   simp only [aT, hf, bJ, Option.bind_some, h1]
   simp [this]
  | cell a t =>
   have ha : a < N := hr _ (List.mem_cons_self ..)
   have := fI.2 a ha
   obtain ⟨v, hv, h⟩ := z9 h
   obtain ⟨vs, h1, h2⟩ := ih _ Sb h f hf hc
   refine ⟨v :: vs, ?_, h2⟩
   have hg : tmps.getD a undef = env a := by simp [this]
   rw [List.mapM_cons, aT, hc, hg, IG hv]
   simp only [Option.bind_some, aT, h1, bJ]
theorem Aq {P : Program} {N : Nat} {fn : Func} {env : Nat → Value} {tmps : Array Value} {M F : Mem} {K : List Value → Prop} {w : World} (fI : eL N env tmps) (hf : Ed N fn = true)
  (hi : (M.union F).In E w) (h : Mg P M env fn.results.toList K) : ∃ vs, (results fn tmps).run P w = .ok (Sv vs) w ∧ K vs := by
 have hr : ∀ r ∈ fn.results.toList, match r with | .tmp t => t < N | .cell a _ => a < N := by
  intro r hr
  have := List.all_eq_true.1 hf r hr
  cases r <;> simp_all
 obtain ⟨vs, hk, hK⟩ := Mi fI fn.results.toList K hr h (fun
  | .tmp t => pure (tmps.getD t undef)
  | .cell a t => do loadVar t (← asAddr (tmps.getD a undef))) (fun _ => rfl) (fun _ _ => rfl)
 refine ⟨vs, xp P _ hi (m8 P _ (fun b o hb => Mem.union_left hb) (?_ : bQ P _ M = _)), hK⟩
 unfold results
 rw [Array.mapM_eq_mapM_toList]
 simp only [aT, Om]
 erw [hk]
 simp only [Option.map_some, Option.bind_some, bJ, Option.some.injEq]
 match vs with
 | [] => rfl
 | [v] => rfl
 | v :: u :: l => simp [Sv]
theorem Mj {C : Ctx} (hC : C.Good) {f : FuncId} {fn : Func} {c : Code} {args : List Value} {M : Mem} {K : Value → Mem → Prop} {Kp : List PanicEntry → Mem → Prop} (H : List (Nat × Hint))
  (hf : C.P.funcs[f]? = some fn) (hb : fn.body = some c) (hfit : (fits fn.ntmps c && Ed fn.ntmps fn && decide (args.length ≤ fn.ntmps)) = true)
  (h : eo C H Kp c 0 (Mh C.P fn K) (gA args) M) : aa C.P f args.toArray M K Kp := by
 simp only [Bool.and_eq_true, decide_eq_true_eq] at hfit
 obtain ⟨⟨h1, h2⟩, h3⟩ := hfit
 intro E F w hd hi
 have fI : eL fn.ntmps (gA args) (args.toArray ++ Array.replicate (fn.ntmps - args.toArray.size) undef) := by
  refine ⟨by simp; omega, fun i hi => ?_⟩
  unfold gA
  by_cases hl : i < args.length
  ·rw [Array.getElem?_append_left (by simpa using hl)]
   simp [List.getD, hl]
  ·rw [Array.getElem?_append_right (by simpa using Nat.le_of_not_lt hl)]
   have : args[i]? = none := by simpa using Nat.le_of_not_lt hl
   simp only [List.getD, this, Option.getD_none]
   rw [Array.getElem?_replicate, if_pos (by simp; omega)]
 refine calls_of_wp hf hb (gP hC (F := F) (Z := fun a => a.defers = []) c 0 _ _ _ M _ w (fun d _ a v h => by rw [put_defers]; exact h) h1 ⟨?_, ?_, ?_, ?_⟩ fI rfl hd hi h)
 ·intro env M1 a1 w1 _ g1 g2 g3 g4 hq
  unfold Mh at hq
  simp only at hq
  obtain ⟨vs, hvs, hq⟩ := Aq g1 h2 g4 hq
  exact ⟨g2, _, hvs, ⟨M1, hq, g3, g4⟩⟩
 ·intro id env M1 a1 w1 _ g1 g2 g3 g4 hq; exact hq.elim
 ·intro env M1 a1 w1 _ g1 g2 g3 g4 hq
  unfold Mh at hq
  simp only at hq
  obtain ⟨vs, hvs, hq⟩ := Aq g1 h2 g4 hq
  exact ⟨g2, _, hvs, ⟨M1, hq, g3, g4⟩⟩
 ·intro c a1 w1 g1 g2; exact ⟨g1, g2⟩
end Go.AF
namespace Go.AF
def fD (fn : Func) : Code := fn.body.getD .skip
def zJ (fn : Func) (n : Nat) : Bool := fits fn.ntmps (fD fn) && Ed fn.ntmps fn && decide (n ≤ fn.ntmps) && fn.body.isSome
theorem F3 {C : Ctx} (hC : C.Good) {f : FuncId} {fn : Func} {args : List Value} {M : Mem} {K : Value → Mem → Prop} {Kp : List PanicEntry → Mem → Prop} (H : List (Nat × Hint))
  (hf : C.P.funcs[f]? = some fn) (hfit : zJ fn args.length = true)
  (h : eo C H Kp (fD fn) 0 (Mh C.P fn K) (gA args) M) : aa C.P f args.toArray M K Kp := by
 unfold zJ at hfit
 simp only [Bool.and_eq_true] at hfit
 obtain ⟨h1, h2⟩ := hfit
 obtain ⟨c, hc⟩ := Option.isSome_iff_exists.1 h2
 have hb : fD fn = c := by unfold fD; rw [hc]; rfl
 rw [hb] at h h1
 exact Mj hC H hf hc (by simp only [Bool.and_eq_true]; exact h1) h
theorem bY {C : Ctx} (hC : C.Good) {f : FuncId} {fn : Func} {args : List Value} {M : Mem} {K : Value → Mem → Prop} {Kp : List PanicEntry → Mem → Prop} (H : List (Nat × Hint))
  (hf : C.P.funcs[f]? = some fn) (hfit : zJ fn args.length = true) {vc : Prop}
  (he : vc = eo C H Kp (fD fn) 0 (Mh C.P fn K) (gA args) M) (h : vc) : aa C.P f args.toArray M K Kp :=
 F3 hC H hf hfit (he ▸ h)
end Go.AF
