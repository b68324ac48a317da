/- A part of proofs about one program. -/
import Derived.Test.YtnnlgknlialpmaaGreatZFairBoundSound
set_option linter.unusedVariables false
namespace Go.AF
variable {E : sB}
theorem j5 {i d : Nat} : Nat.beq i d = true ↔ i = d := ⟨Nat.eq_of_beq_eq_true, fun h => by subst h; simp⟩
theorem Em {c : Operand} {e : Bool} {env : Nat → Value} (h : oU env c = .bool e) : wS c e env = env := by
 cases c <;> try rfl
 exact mF h
def TK (E : sB) (N : Nat) (Z : Act → Prop) (F : Mem) (env : Nat → Value) (ws : List Nat) (live : List (Nat × AI)) (I : Nat → List Value → Mem → Prop) (n : Nat) (a : Act) (w : World) : Prop :=
 ∃ gx M1, pA ws env gx ∧ dS N gx a.tmps ∧ Z a ∧ M1.dj F ∧ (M1.union F).In E w ∧ gN gx live fun vs => I n vs M1
theorem JU {P : Program} {c : Code} {Q : Exit → Act → World → Prop} {R : Nat → Act → World → Prop} {a : Act} {w : World} (h0 : ∃ n, R n a w)
  (round : ∀ n a w, R n a w → c.wp P (Exit.then (fun a' w' => ∃ m, m < n ∧ R m a' w') Q) a w) : (Code.loop c).wp P Q a w := by
 intro b k cs
 have key : ∀ n a w, R n a w → ∃ e a' w', Q e a' w' ∧ Arrives P (lone (b.at a (.code c :: .inLoop c :: k)) cs w) b k cs e a' w' := by
  intro n
  induction n using Nat.strongRecOn with
  | _ n ih =>
   intro a w hR
   obtain ⟨e, a₁, w₁, hq, En⟩ := round n a w hR b (.inLoop c :: k) cs
   cases e with
   | normal =>
    obtain ⟨m, hm, hR₁⟩ := hq
    obtain ⟨e₂, a₂, w₂, hq₂, XE⟩ := ih m hm a₁ w₁ hR₁
    exact ⟨e₂, a₂, w₂, hq₂, .of_steps (Steps.trans En (.one step_inLoop)) XE⟩
   | exit id => exact ⟨_, a₁, w₁, hq, .pass (x := .inLoop c) rfl (fun _ _ => .inl (by simp)) En⟩
   | goto l => exact ⟨_, a₁, w₁, hq, .pass (x := .inLoop c) rfl (fun _ _ => .inl (by simp)) En⟩
   | ret => exact ⟨_, a₁, w₁, hq, .pass (x := .inLoop c) rfl (fun _ _ => .inl (by simp)) En⟩
   | panic ch => exact ⟨_, a₁, w₁, hq, .pass (x := .inLoop c) rfl (fun _ _ => .inl (by simp)) En⟩
   | outgrown => exact ⟨_, a₁, w₁, hq, .pass (x := .inLoop c) rfl (fun _ _ => .inl (by simp)) En⟩
 obtain ⟨n, h0⟩ := h0
 obtain ⟨e, a', w', hq, En⟩ := key n a w h0
 exact ⟨e, a', w', hq, .of_steps (.one step_loop) En⟩
theorem Gj {c : Bx} {v : Value} {X : Value → Prop} (h : DU c (some v) X) : X v ∧ DU c (some v) fun u => u = v := by
 cases c <;> simp only [DU] at h ⊢
 case int k =>
  unfold aJ at h ⊢; split at h
  ·split at h
   ·rename_i he hk; cases he; subst hk; simp only [if_true]; exact ⟨h, trivial⟩
   ·exact h.elim
  ·exact h.elim
 case bool => unfold de at h ⊢; split at h <;> first | (rename_i he; cases he; exact ⟨h, rfl⟩) | exact h.elim
 case str => unfold fA at h ⊢; split at h <;> first | (rename_i he; cases he; exact ⟨h, rfl⟩) | exact h.elim
 case ptr => unfold cw at h ⊢; split at h <;> first | (rename_i he; cases he; exact ⟨h, rfl⟩) | exact h.elim
 case sl => unfold aB at h ⊢; split at h <;> first | (rename_i he; cases he; exact ⟨h, rfl⟩) | exact h.elim
 case val => exact ⟨h, rfl⟩
theorem BL {c : Bx} {v : Value} {X : Value → Prop} (h : DU c (some v) fun u => u = v) (hx : X v) : DU c (some v) X := by
 cases c <;> simp only [DU] at h ⊢
 case int k => unfold aJ at h ⊢; split at h <;> first | (split at h <;> simp_all) | exact h.elim
 case bool => unfold de at h ⊢; split at h <;> simp_all
 case str => unfold fA at h ⊢; split at h <;> simp_all
 case ptr => unfold cw at h ⊢; split at h <;> simp_all
 case sl => unfold aB at h ⊢; split at h <;> simp_all
 case val => exact hx
theorem Ip : ∀ {l : List Bx} {vs : List Value} {X : List Value → Prop}, FX l vs X → X vs ∧ ∀ Y : List Value → Prop, Y vs → FX l vs Y
 | [], [], X, h => ⟨h, fun _ h => h⟩
 | c :: cs, v :: vs, X, h => by
  simp only [FX] at h ⊢
  obtain ⟨h1, h2⟩ := Gj h
  obtain ⟨h3, h4⟩ := Ip (X := fun vs => X (v :: vs)) h1
  exact ⟨h3, fun Y hy => BL h2 (h4 _ hy)⟩
 | [], _ :: _, _, h => h.elim
 | _ :: _, [], _, h => h.elim
theorem Qh {c : AI} {v : Value} {X : Value → Prop} (h : Gh c v X) : X v ∧ ∀ Y : Value → Prop, Y v → Gh c v Y := by
 cases c with
 | c c => exact ⟨(Gj h).1, fun Y hy => BL (Gj h).2 hy⟩
 | a l =>
  cases v <;> try exact h.elim
  rename_i cs
  simp only [Gh] at h ⊢
  obtain ⟨h1, h2⟩ := Ip h
  exact ⟨by simpa using h1, fun Y hy => h2 _ (by simpa using hy)⟩
 | b n =>
  cases v <;> try exact h.elim
  rename_i cs
  exact ⟨h.2, fun Y hy => ⟨h.1, hy⟩⟩
theorem vE {env : Nat → Value} : ∀ {live : List (Nat × AI)} {K : List Value → Prop}, gN env live K → ∃ vs, K vs ∧ ∀ K' : List Value → Prop, K' vs → gN env live K'
 | [], K, h => ⟨[], h, fun _ h => h⟩
 | (s, c) :: live, K, h => by
  simp only [gN] at h ⊢
  obtain ⟨h1, h2⟩ := Qh h
  obtain ⟨vs, h3, h4⟩ := vE h1
  exact ⟨env s :: vs, h3, fun K' hk => h2 _ (h4 _ hk)⟩
theorem gy {C : Ctx} (hC : C.Good) {H : List (Nat × Hint)} {Kp : List PanicEntry → Mem → Prop} {N : Nat} {Z : Act → Prop} {F : Mem} (c : Code) :
  ∀ (oV : Nat) (Q : PC → (Nat → Value) → Mem → Prop) (Q' : Exit → Act → World → Prop) (env : Nat → Value) (M : Mem) (a : Act) (w : World), (∀ d ∈ writes c, ∀ (a : Act) (v : Value), Z a → Z (a.put (some d) v)) → fits N c = true →
   Io E N Z F (writes c) env Q Kp Q' → dS N env a.tmps → Z a → M.dj F → (M.union F).In E w → dI C H Kp c oV Q env M → c.wp C.P Q' a w := by
 induction c with
 | skip => intro oV Q Q' env M a w hz hf hp eX hds hd hi h; exact wp_skip (hp.normal _ _ _ _ (pA.refl _ _) eX hds hd hi h)
 | label l => intro oV Q Q' env M a w hz hf hp eX hds hd hi h; exact wp_label (hp.normal _ _ _ _ (pA.refl _ _) eX hds hd hi h)
 | exit id => intro oV Q Q' env M a w hz hf hp eX hds hd hi h; exact wp_exit (hp.exit _ _ _ _ _ (pA.refl _ _) eX hds hd hi h)
 | ret => intro oV Q Q' env M a w hz hf hp eX hds hd hi h; exact wp_ret (hp.ret _ _ _ _ (pA.refl _ _) eX hds hd hi h)
 | goto l => intro oV Q Q' env M a w hz hf hp eX hds hd hi h; exact h.elim
 | refuse s => intro oV Q Q' env M a w hz hf hp eX hds hd hi h; exact h.elim
 | rangeFunc f ps as b => intro oV Q Q' env M a w hz hf hp eX hds hd hi h; exact h.elim
 | region id ops draw =>
  intro oV Q Q' env M a w hz hf hp eX hds hd hi h
  have hfit : ∀ o ∈ ops.toList, nx N o = true := fun o ho => List.all_eq_true.1 hf o ho
  have hzo : ∀ o ∈ ops.toList, ∀ (a : Act) (v : Value), Z a → Z (a.put o.dst v) := fun o ho a v hz' => by
   cases hd : o.dst with
   | none => exact hz'
   | some d => exact hz d (List.mem_filterMap.2 ⟨o, ho, hd⟩) a v hz'
  have post : ∀ K : (Nat → Value) → Mem → Prop, (∀ env' M', K env' M' → pA (iI ops) env env' → Q .normal env' M') →
    Post E N Z F (fun env' M' => K env' M' ∧ pA (iI ops) env env') Kp Q' := fun K hK =>
   ⟨fun env' M' a' w' g1 g2 g3 g4 g5 => hp.normal env' M' a' w' g5.2 g1 g2 g3 g4 (hK env' M' g5.1 g5.2), hp.panic⟩
  simp only [dI] at h
  cases draw with
  | false =>
   simp only [Bool.false_eq_true, if_false] at h
   exact wp_region_list (yF hzo hfit (post (fun env' M' => Q .normal env' M') fun _ _ h _ => h) _ env M a w (fun _ h => h) eX hds hd hi (Mp hC _ _ _ (fun _ h => h) (pA.refl _ _) h))
  | true =>
   simp only [if_true] at h
   have hsel : ∀ (j : Nat) (o : Oper) cs b, ops[j]? = some o → o.op ≠ .select cs b := fun j o cs b ho =>
    (gv (hfit o (by have := Array.mem_of_getElem? ho; simpa using this))).2.2 cs b
   have hc0 : xQ ops.size 0 = ops.size := by unfold xQ; rw [List.filter_eq_self.2 (by simp)]; simp
   have down : ∀ (eY : List Nat) (t : Ex) (K : (Nat → Value) → Mem → Prop), om ops eY = true → sG C ops eY K Kp t [] 0 0 env M → (∀ env' M', K env' M' → pA (iI ops) env env' → Q .normal env' M') →
     (Code.region id ops true).wp C.P Q' a w := fun eY t K ha hr hK => by
    have wR : ∀ (j : Nat) (o : Oper), ops[j]? = some o → ∀ e ∈ o.after, Region.binds .any e = true → e.on < ops.size := fun j o ho e he hb => by
     have hlt := (Array.getElem?_eq_some_iff.1 ho).1
     have := List.all_eq_true.1 ha j (List.mem_range.2 hlt)
     rw [ho] at this
     simp only [Bool.and_eq_true, List.all_eq_true, Bool.or_eq_true, Bool.not_eq_true', decide_eq_true_eq] at this
     have := (this.1 e (by simpa using he)).resolve_left (by simp [hb])
     omega
    have h1 := (Gg hC hsel ha t [] (fun _ _ _ _ s hs => by cases hs)).1 0 env M (fun s hs => by cases hs) (fun k o hk => by simp at hk) hr
    rw [hc0] at h1
    exact wp_region_any hC.2 (AK hzo hfit wR (post K hK) _ 0 _ env M a _ ⟨by simp, fun i hi => by simp [hi]⟩ eX hds hd hi (Mn _ _ _ _ (pA.refl _ _) h1))
   split at h
   ·rename_i eY t _
    obtain ⟨ha, hr⟩ := cond_true h
    exact down eY t _ ha hr fun _ _ h _ => h
   ·rename_i eY t live _
    obtain ⟨ha, J, hr, hm⟩ := cond_true h
    exact down eY t _ ha hr fun env' M' hl ho => pB hm ho hl
   ·exact h.elim
 | seq x y ihx XF =>
  intro oV Q Q' env M a w hz hf hp eX hds hd hi h
  simp only [fits, Bool.and_eq_true] at hf
  refine wp_seq (ihx oV _ _ env M a w (fun d hd => hz d (List.mem_append_left _ hd)) hf.1 ⟨fun gx M1 a1 w1 o1 g1 g2 g3 g4 h1 => ?_, fun id gx M1 a1 w1 o1 g1 g2 g3 g4 h1 => ?_, fun gx M1 a1 w1 o1 g1 g2 g3 g4 h1 => ?_, fun c a1 w1 g1 g2 => hp.panic c a1 w1 g1 g2⟩ eX hds hd hi h)
  ·exact XF oV Q Q' gx M1 a1 w1 (fun d hd => hz d (List.mem_append_right _ hd)) hf.2 ⟨fun j6 M2 a2 w2 o2 => hp.normal j6 M2 a2 w2 (o1.trans o2), fun id j6 M2 a2 w2 o2 => hp.exit id j6 M2 a2 w2 (o1.trans o2), fun j6 M2 a2 w2 o2 => hp.ret j6 M2 a2 w2 (o1.trans o2), hp.panic⟩ g1 g2 g3 g4 h1
  ·exact hp.exit id gx M1 a1 w1 (o1.mono fun i hi => List.mem_append_left _ hi) g1 g2 g3 g4 h1
  ·exact hp.ret gx M1 a1 w1 (o1.mono fun i hi => List.mem_append_left _ hi) g1 g2 g3 g4 h1
 | cond c x y ihx XF =>
  intro oV Q Q' env M a w hz hf hp eX hds hd hi h
  simp only [fits, Bool.and_eq_true] at hf
  obtain ⟨⟨hc, hfx⟩, hfy⟩ := hf
  simp only [dI] at h
  have Gk : oU env c = a.eval c := eX.eval fun t ht => by subst ht; simpa using hc
  have plain : ∀ Q0 : PC → (Nat → Value) → Mem → Prop, Io E N Z F (writes x ++ writes y) env Q0 Kp Q' → (match oU env c with
    | .bool e => aO e (dI C H Kp x oV Q0 (wS c true env) M) (dI C H Kp y oV Q0 (wS c false env) M)
    | _ => False) → (Code.cond c x y).wp C.P Q' a w := by
   intro Q0 hp h
   cases he : oU env c <;> rw [he] at h <;> try exact h.elim
   rename_i e
   simp only at h
   have px : Io E N Z F (writes x) env Q0 Kp Q' := ⟨fun j6 M2 a2 w2 o2 => hp.normal j6 M2 a2 w2 (o2.mono fun i hi => List.mem_append_left _ hi), fun id j6 M2 a2 w2 o2 => hp.exit id j6 M2 a2 w2 (o2.mono fun i hi => List.mem_append_left _ hi), fun j6 M2 a2 w2 o2 => hp.ret j6 M2 a2 w2 (o2.mono fun i hi => List.mem_append_left _ hi), hp.panic⟩
   have py : Io E N Z F (writes y) env Q0 Kp Q' := ⟨fun j6 M2 a2 w2 o2 => hp.normal j6 M2 a2 w2 (o2.mono fun i hi => List.mem_append_right _ hi), fun id j6 M2 a2 w2 o2 => hp.exit id j6 M2 a2 w2 (o2.mono fun i hi => List.mem_append_right _ hi), fun j6 M2 a2 w2 o2 => hp.ret j6 M2 a2 w2 (o2.mono fun i hi => List.mem_append_right _ hi), hp.panic⟩
   cases e with
   | true =>
    rw [Em he] at h
    exact wp_cond_true (Gk ▸ he) (ihx oV Q0 Q' env M a w (fun d hd => hz d (List.mem_append_left _ hd)) hfx px eX hds hd hi h)
   | false =>
    have h' : dI C H Kp y oV Q0 (wS c false env) M := h
    rw [Em he] at h'
    exact wp_cond_false (Gk ▸ he) (XF oV Q0 Q' env M a w (fun d hd => hz d (List.mem_append_right _ hd)) hfy py eX hds hd hi h')
  split at h
  ·rename_i live _
   obtain ⟨J, h, hm⟩ := h
   exact plain (fun e env' M' => match e with | .normal => gN env' live fun vs => J vs M' | e => Q e env' M') ⟨fun gx M1 a1 w1 o1 g1 g2 g3 g4 h1 => hp.normal _ _ _ _ o1 g1 g2 g3 g4 (pB hm o1 h1), fun i gx M1 a1 w1 o1 g1 g2 g3 g4 h1 => hp.exit _ _ _ _ _ o1 g1 g2 g3 g4 h1, fun gx M1 a1 w1 o1 g1 g2 g3 g4 h1 => hp.ret _ _ _ _ o1 g1 g2 g3 g4 h1, hp.panic⟩ h
  ·exact plain Q hp h
 | block id c ih =>
  intro oV Q Q' env M a w hz hf hp eX hds hd hi h
  simp only [dI] at h
  refine wp_block ?_
  have plain : dI C H Kp c id (fun e env' M' => match e with
      | .exit i => bif Nat.beq i id then Q .normal env' M' else Q (.exit i) env' M'
      | e => Q e env' M') env M → c.wp C.P (Exit.inBlock id Q') a w := fun h => by
   refine ih id _ _ env M a w hz hf ⟨fun gx M1 a1 w1 o1 g1 g2 g3 g4 h1 => ?_, fun i gx M1 a1 w1 o1 g1 g2 g3 g4 h1 => ?_, fun gx M1 a1 w1 o1 g1 g2 g3 g4 h1 => ?_, fun c a1 w1 g1 g2 => hp.panic c a1 w1 g1 g2⟩ eX hds hd hi h
   ·exact hp.normal _ _ _ _ o1 g1 g2 g3 g4 h1
   ·by_cases TL : i = id
    ·subst TL
     simp only [j5.2 rfl] at h1
     simp only [Exit.inBlock, if_true]
     exact hp.normal _ _ _ _ o1 g1 g2 g3 g4 h1
    ·have hb : Nat.beq i id = false := by cases hb : Nat.beq i id with
      | false => rfl
      | true => exact absurd (j5.1 hb) TL
     simp only [hb, cond_false] at h1
     simp only [Exit.inBlock, TL, if_false]
     exact hp.exit _ _ _ _ _ o1 g1 g2 g3 g4 h1
   ·exact hp.ret _ _ _ _ o1 g1 g2 g3 g4 h1
  split at h
  ·rename_i live _
   obtain ⟨J, h, hm⟩ := h
   refine ih id _ _ env M a w hz hf ⟨fun gx M1 a1 w1 o1 g1 g2 g3 g4 h1 => ?_, fun i gx M1 a1 w1 o1 g1 g2 g3 g4 h1 => ?_, fun gx M1 a1 w1 o1 g1 g2 g3 g4 h1 => ?_, fun c a1 w1 g1 g2 => hp.panic c a1 w1 g1 g2⟩ eX hds hd hi h
   ·exact hp.normal _ _ _ _ o1 g1 g2 g3 g4 (pB hm o1 h1)
   ·by_cases TL : i = id
    ·subst TL
     simp only [j5.2 rfl] at h1
     simp only [Exit.inBlock, if_true]
     exact hp.normal _ _ _ _ o1 g1 g2 g3 g4 (pB hm o1 h1)
    ·have hb : Nat.beq i id = false := by cases hb : Nat.beq i id with
      | false => rfl
      | true => exact absurd (j5.1 hb) TL
     simp only [hb, cond_false] at h1
     simp only [Exit.inBlock, TL, if_false]
     exact hp.exit _ _ _ _ _ o1 g1 g2 g3 g4 h1
   ·exact hp.ret _ _ _ _ o1 g1 g2 g3 g4 h1
  ·exact plain h
 | loop c ih =>
  intro oV Q Q' env M a w hz hf hp eX hds hd hi h
  simp only [dI] at h
  split at h
  ·rename_i live _
   obtain ⟨I, h0, hr⟩ := h
   have start : ∃ n, TK E N Z F env (writes c) live I n a w := by
    obtain ⟨vs, ⟨n, hn⟩, hk⟩ := vE h0
    exact ⟨n, env, M, pA.refl _ _, eX, hds, hd, hi, hk _ hn⟩
   refine JU start fun n a1 w1 hR => ?_
   obtain ⟨gx, M1, o1, g1, g2, g3, g4, hl⟩ := hR
   have hb := pB (hr n) o1 hl
   have both : ∀ {j6 : Nat → Value}, pA (writes c) gx j6 → pA (writes c) env j6 := fun o2 => (o1.trans o2).mono (fun i hi => by simpa using hi)
   refine ih oV _ _ gx M1 a1 w1 hz hf ⟨fun j6 M2 a2 w2 o2 g1 g2 g3 g4 h2 => ?_, fun i j6 M2 a2 w2 o2 g1 g2 g3 g4 h2 => ?_, fun j6 M2 a2 w2 o2 g1 g2 g3 g4 h2 => ?_, fun c a1 w1 g1 g2 => hp.panic c a1 w1 g1 g2⟩ g1 g2 g3 g4 hb
   ·obtain ⟨vs, ⟨m, hm, hI⟩, hk⟩ := vE h2
    exact ⟨m, hm, j6, M2, both o2, g1, g2, g3, g4, hk _ hI⟩
   ·exact hp.exit _ _ _ _ _ (both o2) g1 g2 g3 g4 h2
   ·exact hp.ret _ _ _ _ (both o2) g1 g2 g3 g4 h2
  ·exact h.elim
 | scope c ih =>
  intro oV Q Q' env M a w hz hf hp eX hds hd hi h
  refine wp_scope_straight (ih oV Q _ env M a w hz hf ⟨fun gx M1 a1 w1 o1 g1 g2 g3 g4 h1 => ?_, fun i gx M1 a1 w1 o1 g1 g2 g3 g4 h1 => ?_, fun gx M1 a1 w1 o1 g1 g2 g3 g4 h1 => ?_, fun c a1 w1 g1 g2 => hp.panic c a1 w1 g1 g2⟩ eX hds hd hi h)
  ·exact hp.normal _ _ _ _ o1 g1 g2 g3 g4 h1
  ·exact hp.exit _ _ _ _ _ o1 g1 g2 g3 g4 h1
  ·exact hp.ret _ _ _ _ o1 g1 g2 g3 g4 h1
def fV (args : List Value) : Nat → Value := fun i => args.getD i undef
def JV (P : Program) (M : Mem) (env : Nat → Value) : List ResultVar → (List Value → Prop) → Prop
 | [], K => K []
 | .tmp t :: l, K => JV P M env l fun vs => K (env t :: vs)
 | .cell a t :: l, K => Ic P t (env a) M fun v => JV P M env l fun vs => K (v :: vs)
def Qi : List Value → Value
 | [v] => v
 | vs => .tuple vs.toArray
def JW (P : Program) (fn : Func) (K : Value → Mem → Prop) : PC → (Nat → Value) → Mem → Prop
 | .normal, env, M => JV P M env fn.results.toList fun vs => K (Qi vs) M
 | .ret, env, M => JV P M env fn.results.toList fun vs => K (Qi vs) M
 | .exit _, _, _ => False
def CT (n : Nat) (fn : Func) : Bool := fn.results.toList.all fun r => match r with
 | .tmp t => decide (t < n)
 | .cell a _ => decide (a < n)
theorem vF (P : Program) {α : Type} (s : Sem α) {M : Mem} {w : World} (hi : M.In E w) : ∀ {x : α}, bL P s M = some x → s.run P w = .ok x w := by
 induction s with
 | pure a => intro x h; simp only [bL, Option.some.injEq] at h; subst h; rfl
 | load m a k ih =>
  intro x h
  simp only [bL] at h
  cases hv : M.ld a with
  | none => simp [hv] at h
  | some v =>
   rw [hv] at h
   simp only [Sem.run, Ib hi hv]
   exact ih v h
 | shape r k ih =>
  intro x h
  simp only [bL] at h
  split at h
  ·rename_i c e f hb
   have : w.shape? r = some (e, c.size) := by simp [World.shape?, hi.1 _ _ hb]
   simp only [Sem.run, this]
   exact ih _ h
  ·cases h
 | frozen a k ih =>
  intro x h
  simp only [bL] at h
  split at h
  ·rename_i c e f hb
   have : w.frozen? a = (decide (f.1 ≤ a.off) && decide (a.off < f.2)) := by simp [World.frozen?, hi.1 _ _ hb]
   simp only [Sem.run, this]
   exact ih _ h
  ·cases h
 | program k ih => intro x h; exact ih P h
 | mark m k ih => intro x h; exact ih h
 | _ => intro x h; simp [bL] at h
theorem Gl {P : Program} {t : TypeId} {x v : Value} {M : Mem} (h : bL P (Instr.loadAt t x) M = some v) : bL P (do loadVar t (← asAddr x)) M = some v := by
 unfold Instr.loadAt at h
 rw [aN] at h ⊢
 cases x <;> try (simp only [Instr.sureAddr, stuck, bL] at h; cases h; done)
 rename_i p
 cases p with
 | none => simp only [Instr.sureAddr, stuck, bL] at h; cases h
 | some a => exact h
theorem JX {P : Program} {N : Nat} {env : Nat → Value} {tmps : Array Value} {M : Mem} (eX : dS N env tmps) :
  ∀ (l : List ResultVar) (K : List Value → Prop), (∀ r ∈ l, match r with | .tmp t => t < N | .cell a _ => a < N) → JV P M env l K →
   ∀ (f : ResultVar → Sem Value), (∀ t, f (.tmp t) = pure (tmps.getD t undef)) → (∀ a t, f (.cell a t) = do loadVar t (← asAddr (tmps.getD a undef))) → ∃ vs, bL P (l.mapM f) M = some vs ∧ K vs := by
 intro l
 induction l with
 | nil => intro K _ h f _ _; exact ⟨[], rfl, h⟩
 | cons r l ih =>
  intro K hr h f hf hc
  have P3 : ∀ r ∈ l, match r with | .tmp t => t < N | .cell a _ => a < N := fun r hx => hr r (List.mem_cons_of_mem _ hx)
  cases r with
  | tmp t =>
   have ht : t < N := hr _ (List.mem_cons_self ..)
   have := eX.2 t ht
   obtain ⟨vs, h1, h2⟩ := ih _ P3 h f hf hc
   refine ⟨env t :: vs, ?_, h2⟩
   rw [List.mapM_cons]
   simp only [aN, hf, bC, Option.bind_some, h1]
   simp [this]
  | cell a t =>
   have ha : a < N := hr _ (List.mem_cons_self ..)
   have := eX.2 a ha
   obtain ⟨v, hv, h⟩ := yq h
   obtain ⟨vs, h1, h2⟩ := ih _ P3 h f hf hc
   refine ⟨v :: vs, ?_, h2⟩
   have hg : tmps.getD a undef = env a := by simp [this]
   rw [List.mapM_cons, aN, hc, hg, Gl hv]
   simp only [Option.bind_some, aN, h1, bC]
theorem yI {P : Program} {N : Nat} {fn : Func} {env : Nat → Value} {tmps : Array Value} {M F : Mem} {K : List Value → Prop} {w : World} (eX : dS N env tmps) (hf : CT N fn = true)
  (hi : (M.union F).In E w) (h : JV P M env fn.results.toList K) : ∃ vs, (results fn tmps).run P w = .ok (Qi vs) w ∧ K vs := by
 have hr : ∀ r ∈ fn.results.toList, match r with | .tmp t => t < N | .cell a _ => a < N := by
  intro r hr
  have := List.all_eq_true.1 hf r hr
  cases r <;> simp_all
 obtain ⟨vs, hk, hK⟩ := JX eX fn.results.toList K hr h (fun
  | .tmp t => pure (tmps.getD t undef)
  | .cell a t => do loadVar t (← asAddr (tmps.getD a undef))) (fun _ => rfl) (fun _ _ => rfl)
 refine ⟨vs, vF P _ hi (mA P _ (fun b o hb => Mem.union_left hb) (?_ : bL P _ M = _)), hK⟩
 unfold results
 rw [Array.mapM_eq_mapM_toList]
 simp only [aN, LQ]
 erw [hk]
 simp only [Option.map_some, Option.bind_some, bC, Option.some.injEq]
 match vs with
 | [] => rfl
 | [v] => rfl
 | v :: u :: l => simp [Qi]
theorem JY {C : Ctx} (hC : C.Good) {f : FuncId} {fn : Func} {c : Code} {args : List Value} {M : Mem} {K : Value → Mem → Prop} {Kp : List PanicEntry → Mem → Prop} (H : List (Nat × Hint))
  (hf : C.P.funcs[f]? = some fn) (hb : fn.body = some c) (hfit : (fits fn.ntmps c && CT fn.ntmps fn && decide (args.length ≤ fn.ntmps)) = true)
  (h : dI C H Kp c 0 (JW C.P fn K) (fV args) M) : aa C.P f args.toArray M K Kp := by
 simp only [Bool.and_eq_true, decide_eq_true_eq] at hfit
 obtain ⟨⟨h1, h2⟩, h3⟩ := hfit
 intro E F w hd hi
 have eX : dS fn.ntmps (fV args) (args.toArray ++ Array.replicate (fn.ntmps - args.toArray.size) undef) := by
  refine ⟨by simp; omega, fun i hi => ?_⟩
  unfold fV
  by_cases hl : i < args.length
  ·rw [Array.getElem?_append_left (by simpa using hl)]
   simp [List.getD, hl]
  ·rw [Array.getElem?_append_right (by simpa using Nat.le_of_not_lt hl)]
   have : args[i]? = none := by simpa using Nat.le_of_not_lt hl
   simp only [List.getD, this, Option.getD_none]
   rw [Array.getElem?_replicate, if_pos (by simp; omega)]
 refine calls_of_wp hf hb (gy hC (F := F) (Z := fun a => a.defers = []) c 0 _ _ _ M _ w (fun d _ a v h => by rw [put_defers]; exact h) h1 ⟨?_, ?_, ?_, ?_⟩ eX rfl hd hi h)
 ·intro env M1 a1 w1 _ g1 g2 g3 g4 hq
  unfold JW at hq
  simp only at hq
  obtain ⟨vs, hvs, hq⟩ := yI g1 h2 g4 hq
  exact ⟨g2, _, hvs, ⟨M1, hq, g3, g4⟩⟩
 ·intro id env M1 a1 w1 _ g1 g2 g3 g4 hq; exact hq.elim
 ·intro env M1 a1 w1 _ g1 g2 g3 g4 hq
  unfold JW at hq
  simp only at hq
  obtain ⟨vs, hvs, hq⟩ := yI g1 h2 g4 hq
  exact ⟨g2, _, hvs, ⟨M1, hq, g3, g4⟩⟩
 ·intro c a1 w1 g1 g2; exact ⟨g1, g2⟩
end Go.AF
namespace Go.AF
def eK (fn : Func) : Code := fn.body.getD .skip
def xS (fn : Func) (n : Nat) : Bool := fits fn.ntmps (eK fn) && CT fn.ntmps fn && decide (n ≤ fn.ntmps) && fn.body.isSome
theorem Eo {C : Ctx} (hC : C.Good) {f : FuncId} {fn : Func} {args : List Value} {M : Mem} {K : Value → Mem → Prop} {Kp : List PanicEntry → Mem → Prop} (H : List (Nat × Hint))
  (hf : C.P.funcs[f]? = some fn) (hfit : xS fn args.length = true)
  (h : dI C H Kp (eK fn) 0 (JW C.P fn K) (fV args) M) : aa C.P f args.toArray M K Kp := by
 unfold xS at hfit
 simp only [Bool.and_eq_true] at hfit
 obtain ⟨h1, h2⟩ := hfit
 obtain ⟨c, hc⟩ := Option.isSome_iff_exists.1 h2
 have hb : eK fn = c := by unfold eK; rw [hc]; rfl
 rw [hb] at h h1
 exact JY hC H hf hc (by simp only [Bool.and_eq_true]; exact h1) h
theorem cq {C : Ctx} (hC : C.Good) {f : FuncId} {fn : Func} {args : List Value} {M : Mem} {K : Value → Mem → Prop} {Kp : List PanicEntry → Mem → Prop} (H : List (Nat × Hint))
  (hf : C.P.funcs[f]? = some fn) (hfit : xS fn args.length = true) {vc : Prop}
  (he : vc = dI C H Kp (eK fn) 0 (JW C.P fn K) (fV args) M) (h : vc) : aa C.P f args.toArray M K Kp :=
 Eo hC H hf hfit (he ▸ h)
end Go.AF
