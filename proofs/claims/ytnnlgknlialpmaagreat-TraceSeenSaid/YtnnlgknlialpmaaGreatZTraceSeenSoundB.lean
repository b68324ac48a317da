/- A part of proofs about one program. -/
import Derived.Test.YtnnlgknlialpmaaGreatZTraceSeenSound
set_option linter.unusedVariables false
namespace Go.AF
variable {E : s9}
theorem kB {i d : Nat} : Nat.beq i d = true ↔ i = d := ⟨Nat.eq_of_beq_eq_true, fun h => by subst h; simp⟩
theorem Eu {c : Operand} {e : Bool} {env : Nat → Value} (h : pe env c = .bool e) : xy c e env = env := by
 cases c <;> try rfl
 exact mR h
def TG (E : s9) (N : Nat) (Z : Act → Prop) (F : Mem) (env : Nat → Value) (ws : List Nat) (live : List (Nat × AM)) (I : Nat → List Value → Mem → Prop) (n : Nat) (a : Act) (w : World) : Prop :=
 ∃ gy M1, pG ws env gy ∧ eD N gy a.tmps ∧ Z a ∧ M1.dj F ∧ (M1.union F).In E w ∧ gV gy live fun vs => I n vs M1
theorem JQ {P : Program} {c : Code} {Q : Exit → Act → World → Prop} {R : Nat → Act → World → Prop} {a : Act} {w : World} (h0 : ∃ n, R n a w)
  (round : ∀ n a w, R n a w → c.wp P (Exit.then (fun a' w' => ∃ m, m < n ∧ R m a' w') Q) a w) : (Code.loop c).wp P Q a w := by
 intro b k cs
 have key : ∀ n a w, R n a w → ∃ e a' w', Q e a' w' ∧ Arrives P (lone (b.at a (.code c :: .inLoop c :: k)) cs w) b k cs e a' w' := by
  intro n
  induction n using Nat.strongRecOn with
  | _ n ih =>
   intro a w hR
   obtain ⟨e, a₁, w₁, hq, Ew⟩ := round n a w hR b (.inLoop c :: k) cs
   cases e with
   | normal =>
    obtain ⟨m, hm, hR₁⟩ := hq
    obtain ⟨e₂, a₂, w₂, hq₂, Xz⟩ := ih m hm a₁ w₁ hR₁
    exact ⟨e₂, a₂, w₂, hq₂, .of_steps (Steps.trans Ew (.one step_inLoop)) Xz⟩
   | exit id => exact ⟨_, a₁, w₁, hq, .pass (x := .inLoop c) rfl (fun _ _ => .inl (by simp)) Ew⟩
   | goto l => exact ⟨_, a₁, w₁, hq, .pass (x := .inLoop c) rfl (fun _ _ => .inl (by simp)) Ew⟩
   | ret => exact ⟨_, a₁, w₁, hq, .pass (x := .inLoop c) rfl (fun _ _ => .inl (by simp)) Ew⟩
   | panic ch => exact ⟨_, a₁, w₁, hq, .pass (x := .inLoop c) rfl (fun _ _ => .inl (by simp)) Ew⟩
   | outgrown => exact ⟨_, a₁, w₁, hq, .pass (x := .inLoop c) rfl (fun _ _ => .inl (by simp)) Ew⟩
 obtain ⟨n, h0⟩ := h0
 obtain ⟨e, a', w', hq, Ew⟩ := key n a w h0
 exact ⟨e, a', w', hq, .of_steps (.one step_loop) Ew⟩
theorem Gv {c : Bu} {v : Value} {X : Value → Prop} (h : D1 c (some v) X) : X v ∧ D1 c (some v) fun u => u = v := by
 cases c <;> simp only [D1] at h ⊢
 case int k =>
  unfold aI at h ⊢; split at h
  ·split at h
   ·rename_i he hk; cases he; subst hk; simp only [if_true]; exact ⟨h, trivial⟩
   ·exact h.elim
  ·exact h.elim
 case bool => unfold c7 at h ⊢; split at h <;> first | (rename_i he; cases he; exact ⟨h, rfl⟩) | exact h.elim
 case str => unfold fm at h ⊢; split at h <;> first | (rename_i he; cases he; exact ⟨h, rfl⟩) | exact h.elim
 case ptr => unfold cy at h ⊢; split at h <;> first | (rename_i he; cases he; exact ⟨h, rfl⟩) | exact h.elim
 case sl => unfold aB at h ⊢; split at h <;> first | (rename_i he; cases he; exact ⟨h, rfl⟩) | exact h.elim
 case val => exact ⟨h, rfl⟩
theorem BI {c : Bu} {v : Value} {X : Value → Prop} (h : D1 c (some v) fun u => u = v) (hx : X v) : D1 c (some v) X := by
 cases c <;> simp only [D1] at h ⊢
 case int k => unfold aI at h ⊢; split at h <;> first | (split at h <;> simp_all) | exact h.elim
 case bool => unfold c7 at h ⊢; split at h <;> simp_all
 case str => unfold fm at h ⊢; split at h <;> simp_all
 case ptr => unfold cy at h ⊢; split at h <;> simp_all
 case sl => unfold aB at h ⊢; split at h <;> simp_all
 case val => exact hx
theorem It : ∀ {l : List Bu} {vs : List Value} {X : List Value → Prop}, F9 l vs X → X vs ∧ ∀ Y : List Value → Prop, Y vs → F9 l vs Y
 | [], [], X, h => ⟨h, fun _ h => h⟩
 | c :: cs, v :: vs, X, h => by
  simp only [F9] at h ⊢
  obtain ⟨h1, h2⟩ := Gv h
  obtain ⟨h3, h4⟩ := It (X := fun vs => X (v :: vs)) h1
  exact ⟨h3, fun Y hy => BI h2 (h4 _ hy)⟩
 | [], _ :: _, _, h => h.elim
 | _ :: _, [], _, h => h.elim
theorem PX {c : AM} {v : Value} {X : Value → Prop} (h : Gt c v X) : X v ∧ ∀ Y : Value → Prop, Y v → Gt c v Y := by
 cases c with
 | c c => exact ⟨(Gv h).1, fun Y hy => BI (Gv h).2 hy⟩
 | a l =>
  cases v <;> try exact h.elim
  rename_i cs
  simp only [Gt] at h ⊢
  obtain ⟨h1, h2⟩ := It h
  exact ⟨by simpa using h1, fun Y hy => h2 _ (by simpa using hy)⟩
 | b n =>
  cases v <;> try exact h.elim
  rename_i cs
  exact ⟨h.2, fun Y hy => ⟨h.1, hy⟩⟩
theorem vV {env : Nat → Value} : ∀ {live : List (Nat × AM)} {K : List Value → Prop}, gV env live K → ∃ vs, K vs ∧ ∀ K' : List Value → Prop, K' vs → gV env live K'
 | [], K, h => ⟨[], h, fun _ h => h⟩
 | (s, c) :: live, K, h => by
  simp only [gV] at h ⊢
  obtain ⟨h1, h2⟩ := PX h
  obtain ⟨vs, h3, h4⟩ := vV h1
  exact ⟨env s :: vs, h3, fun K' hk => h2 _ (h4 _ hk)⟩
theorem gz {C : Ctx} (hC : C.Good) {H : List (Nat × Hint)} {Kp : List PanicEntry → Mem → Prop} {N : Nat} {Z : Act → Prop} {F : Mem} (c : Code) :
  ∀ (pg : Nat) (Q : Pm → (Nat → Value) → Mem → Prop) (Q' : Exit → Act → World → Prop) (env : Nat → Value) (M : Mem) (a : Act) (w : World), (∀ d ∈ writes c, ∀ (a : Act) (v : Value), Z a → Z (a.put (some d) v)) → fits N c = true →
   Is E N Z F (writes c) env Q Kp Q' → eD N env a.tmps → Z a → M.dj F → (M.union F).In E w → dN C H Kp c pg Q env M → c.wp C.P Q' a w := by
 induction c with
 | skip => intro pg Q Q' env M a w hz hf hp fy hds hd hi h; exact wp_skip (hp.normal _ _ _ _ (pG.refl _ _) fy hds hd hi h)
 | label l => intro pg Q Q' env M a w hz hf hp fy hds hd hi h; exact wp_label (hp.normal _ _ _ _ (pG.refl _ _) fy hds hd hi h)
 | exit id => intro pg Q Q' env M a w hz hf hp fy hds hd hi h; exact wp_exit (hp.exit _ _ _ _ _ (pG.refl _ _) fy hds hd hi h)
 | ret => intro pg Q Q' env M a w hz hf hp fy hds hd hi h; exact wp_ret (hp.ret _ _ _ _ (pG.refl _ _) fy hds hd hi h)
 | goto l => intro pg Q Q' env M a w hz hf hp fy hds hd hi h; exact h.elim
 | refuse s => intro pg Q Q' env M a w hz hf hp fy hds hd hi h; exact h.elim
 | rangeFunc f ps as b => intro pg Q Q' env M a w hz hf hp fy hds hd hi h; exact h.elim
 | region id ops draw =>
  intro pg Q Q' env M a w hz hf hp fy hds hd hi h
  have hfit : ∀ o ∈ ops.toList, nE N o = true := fun o ho => List.all_eq_true.1 hf o ho
  have hzo : ∀ o ∈ ops.toList, ∀ (a : Act) (v : Value), Z a → Z (a.put o.dst v) := fun o ho a v hz' => by
   cases hd : o.dst with
   | none => exact hz'
   | some d => exact hz d (List.mem_filterMap.2 ⟨o, ho, hd⟩) a v hz'
  have post : ∀ K : (Nat → Value) → Mem → Prop, (∀ env' M', K env' M' → pG (iQ ops) env env' → Q .normal env' M') →
    Post E N Z F (fun env' M' => K env' M' ∧ pG (iQ ops) env env') Kp Q' := fun K hK =>
   ⟨fun env' M' a' w' g1 g2 g3 g4 g5 => hp.normal env' M' a' w' g5.2 g1 g2 g3 g4 (hK env' M' g5.1 g5.2), hp.panic⟩
  simp only [dN] at h
  cases draw with
  | false =>
   simp only [Bool.false_eq_true, if_false] at h
   exact wp_region_list (zb hzo hfit (post (fun env' M' => Q .normal env' M') fun _ _ h _ => h) _ env M a w (fun _ h => h) fy hds hd hi (Mf hC _ _ _ (fun _ h => h) (pG.refl _ _) h))
  | true =>
   simp only [if_true] at h
   have hsel : ∀ (j : Nat) (o : Oper) cs b, ops[j]? = some o → o.op ≠ .select cs b := fun j o cs b ho =>
    (gx (hfit o (by have := Array.mem_of_getElem? ho; simpa using this))).2.2 cs b
   have hc0 : yE ops.size 0 = ops.size := by unfold yE; rw [List.filter_eq_self.2 (by simp)]; simp
   have down : ∀ (fz : List Nat) (t : Ex) (K : (Nat → Value) → Mem → Prop), oq ops fz = true → th C ops fz K Kp t [] 0 0 env M → (∀ env' M', K env' M' → pG (iQ ops) env env' → Q .normal env' M') →
     (Code.region id ops true).wp C.P Q' a w := fun fz t K ha hr hK => by
    have xw : ∀ (j : Nat) (o : Oper), ops[j]? = some o → ∀ e ∈ o.after, Region.binds .any e = true → e.on < ops.size := fun j o ho e he hb => by
     have hlt := (Array.getElem?_eq_some_iff.1 ho).1
     have := List.all_eq_true.1 ha j (List.mem_range.2 hlt)
     rw [ho] at this
     simp only [Bool.and_eq_true, List.all_eq_true, Bool.or_eq_true, Bool.not_eq_true', decide_eq_true_eq] at this
     have := (this.1 e (by simpa using he)).resolve_left (by simp [hb])
     omega
    have h1 := (Gs hC hsel ha t [] (fun _ _ _ _ s hs => by cases hs)).1 0 env M (fun s hs => by cases hs) (fun k o hk => by simp at hk) hr
    rw [hc0] at h1
    exact wp_region_any hC.2 (AP hzo hfit xw (post K hK) _ 0 _ env M a _ ⟨by simp, fun i hi => by simp [hi]⟩ fy hds hd hi (Md _ _ _ _ (pG.refl _ _) h1))
   split at h
   ·rename_i fz t _
    obtain ⟨ha, hr⟩ := cond_true h
    exact down fz t _ ha hr fun _ _ h _ => h
   ·rename_i fz t live _
    obtain ⟨ha, J, hr, hm⟩ := cond_true h
    exact down fz t _ ha hr fun env' M' hl ho => pH hm ho hl
   ·exact h.elim
 | seq x y ihx XA =>
  intro pg Q Q' env M a w hz hf hp fy hds hd hi h
  simp only [fits, Bool.and_eq_true] at hf
  refine wp_seq (ihx pg _ _ env M a w (fun d hd => hz d (List.mem_append_left _ hd)) hf.1 ⟨fun gy M1 a1 w1 o1 g1 g2 g3 g4 h1 => ?_, fun id gy M1 a1 w1 o1 g1 g2 g3 g4 h1 => ?_, fun gy M1 a1 w1 o1 g1 g2 g3 g4 h1 => ?_, fun c a1 w1 g1 g2 => hp.panic c a1 w1 g1 g2⟩ fy hds hd hi h)
  ·exact XA pg Q Q' gy M1 a1 w1 (fun d hd => hz d (List.mem_append_right _ hd)) hf.2 ⟨fun kC M2 a2 w2 o2 => hp.normal kC M2 a2 w2 (o1.trans o2), fun id kC M2 a2 w2 o2 => hp.exit id kC M2 a2 w2 (o1.trans o2), fun kC M2 a2 w2 o2 => hp.ret kC M2 a2 w2 (o1.trans o2), hp.panic⟩ g1 g2 g3 g4 h1
  ·exact hp.exit id gy M1 a1 w1 (o1.mono fun i hi => List.mem_append_left _ hi) g1 g2 g3 g4 h1
  ·exact hp.ret gy M1 a1 w1 (o1.mono fun i hi => List.mem_append_left _ hi) g1 g2 g3 g4 h1
 | cond c x y ihx XA =>
  intro pg Q Q' env M a w hz hf hp fy hds hd hi h
  simp only [fits, Bool.and_eq_true] at hf
  obtain ⟨⟨hc, hfx⟩, hfy⟩ := hf
  simp only [dN] at h
  have Gw : pe env c = a.eval c := fy.eval fun t ht => by subst ht; simpa using hc
  have plain : ∀ Q0 : Pm → (Nat → Value) → Mem → Prop, Is E N Z F (writes x ++ writes y) env Q0 Kp Q' → (match pe env c with
    | .bool e => aP e (dN C H Kp x pg Q0 (xy c true env) M) (dN C H Kp y pg Q0 (xy c false env) M)
    | _ => False) → (Code.cond c x y).wp C.P Q' a w := by
   intro Q0 hp h
   cases he : pe env c <;> rw [he] at h <;> try exact h.elim
   rename_i e
   simp only at h
   have px : Is E N Z F (writes x) env Q0 Kp Q' := ⟨fun kC M2 a2 w2 o2 => hp.normal kC M2 a2 w2 (o2.mono fun i hi => List.mem_append_left _ hi), fun id kC M2 a2 w2 o2 => hp.exit id kC M2 a2 w2 (o2.mono fun i hi => List.mem_append_left _ hi), fun kC M2 a2 w2 o2 => hp.ret kC M2 a2 w2 (o2.mono fun i hi => List.mem_append_left _ hi), hp.panic⟩
   have py : Is E N Z F (writes y) env Q0 Kp Q' := ⟨fun kC M2 a2 w2 o2 => hp.normal kC M2 a2 w2 (o2.mono fun i hi => List.mem_append_right _ hi), fun id kC M2 a2 w2 o2 => hp.exit id kC M2 a2 w2 (o2.mono fun i hi => List.mem_append_right _ hi), fun kC M2 a2 w2 o2 => hp.ret kC M2 a2 w2 (o2.mono fun i hi => List.mem_append_right _ hi), hp.panic⟩
   cases e with
   | true =>
    rw [Eu he] at h
    exact wp_cond_true (Gw ▸ he) (ihx pg Q0 Q' env M a w (fun d hd => hz d (List.mem_append_left _ hd)) hfx px fy hds hd hi h)
   | false =>
    have h' : dN C H Kp y pg Q0 (xy c false env) M := h
    rw [Eu he] at h'
    exact wp_cond_false (Gw ▸ he) (XA pg Q0 Q' env M a w (fun d hd => hz d (List.mem_append_right _ hd)) hfy py fy hds hd hi h')
  split at h
  ·rename_i live _
   obtain ⟨J, h, hm⟩ := h
   exact plain (fun e env' M' => match e with | .normal => gV env' live fun vs => J vs M' | e => Q e env' M') ⟨fun gy M1 a1 w1 o1 g1 g2 g3 g4 h1 => hp.normal _ _ _ _ o1 g1 g2 g3 g4 (pH hm o1 h1), fun i gy M1 a1 w1 o1 g1 g2 g3 g4 h1 => hp.exit _ _ _ _ _ o1 g1 g2 g3 g4 h1, fun gy M1 a1 w1 o1 g1 g2 g3 g4 h1 => hp.ret _ _ _ _ o1 g1 g2 g3 g4 h1, hp.panic⟩ h
  ·exact plain Q hp h
 | block id c ih =>
  intro pg Q Q' env M a w hz hf hp fy hds hd hi h
  simp only [dN] at h
  refine wp_block ?_
  have plain : dN C H Kp c id (fun e env' M' => match e with
      | .exit i => bif Nat.beq i id then Q .normal env' M' else Q (.exit i) env' M'
      | e => Q e env' M') env M → c.wp C.P (Exit.inBlock id Q') a w := fun h => by
   refine ih id _ _ env M a w hz hf ⟨fun gy M1 a1 w1 o1 g1 g2 g3 g4 h1 => ?_, fun i gy M1 a1 w1 o1 g1 g2 g3 g4 h1 => ?_, fun gy M1 a1 w1 o1 g1 g2 g3 g4 h1 => ?_, fun c a1 w1 g1 g2 => hp.panic c a1 w1 g1 g2⟩ fy hds hd hi h
   ·exact hp.normal _ _ _ _ o1 g1 g2 g3 g4 h1
   ·by_cases TH : i = id
    ·subst TH
     simp only [kB.2 rfl] at h1
     simp only [Exit.inBlock, if_true]
     exact hp.normal _ _ _ _ o1 g1 g2 g3 g4 h1
    ·have hb : Nat.beq i id = false := by cases hb : Nat.beq i id with
      | false => rfl
      | true => exact absurd (kB.1 hb) TH
     simp only [hb, cond_false] at h1
     simp only [Exit.inBlock, TH, if_false]
     exact hp.exit _ _ _ _ _ o1 g1 g2 g3 g4 h1
   ·exact hp.ret _ _ _ _ o1 g1 g2 g3 g4 h1
  split at h
  ·rename_i live _
   obtain ⟨J, h, hm⟩ := h
   refine ih id _ _ env M a w hz hf ⟨fun gy M1 a1 w1 o1 g1 g2 g3 g4 h1 => ?_, fun i gy M1 a1 w1 o1 g1 g2 g3 g4 h1 => ?_, fun gy M1 a1 w1 o1 g1 g2 g3 g4 h1 => ?_, fun c a1 w1 g1 g2 => hp.panic c a1 w1 g1 g2⟩ fy hds hd hi h
   ·exact hp.normal _ _ _ _ o1 g1 g2 g3 g4 (pH hm o1 h1)
   ·by_cases TH : i = id
    ·subst TH
     simp only [kB.2 rfl] at h1
     simp only [Exit.inBlock, if_true]
     exact hp.normal _ _ _ _ o1 g1 g2 g3 g4 (pH hm o1 h1)
    ·have hb : Nat.beq i id = false := by cases hb : Nat.beq i id with
      | false => rfl
      | true => exact absurd (kB.1 hb) TH
     simp only [hb, cond_false] at h1
     simp only [Exit.inBlock, TH, if_false]
     exact hp.exit _ _ _ _ _ o1 g1 g2 g3 g4 h1
   ·exact hp.ret _ _ _ _ o1 g1 g2 g3 g4 h1
  ·exact plain h
 | loop c ih =>
  intro pg Q Q' env M a w hz hf hp fy hds hd hi h
  simp only [dN] at h
  split at h
  ·rename_i live _
   obtain ⟨I, h0, hr⟩ := h
   have start : ∃ n, TG E N Z F env (writes c) live I n a w := by
    obtain ⟨vs, ⟨n, hn⟩, hk⟩ := vV h0
    exact ⟨n, env, M, pG.refl _ _, fy, hds, hd, hi, hk _ hn⟩
   refine JQ start fun n a1 w1 hR => ?_
   obtain ⟨gy, M1, o1, g1, g2, g3, g4, hl⟩ := hR
   have hb := pH (hr n) o1 hl
   have both : ∀ {kC : Nat → Value}, pG (writes c) gy kC → pG (writes c) env kC := fun o2 => (o1.trans o2).mono (fun i hi => by simpa using hi)
   refine ih pg _ _ gy M1 a1 w1 hz hf ⟨fun kC M2 a2 w2 o2 g1 g2 g3 g4 h2 => ?_, fun i kC M2 a2 w2 o2 g1 g2 g3 g4 h2 => ?_, fun kC M2 a2 w2 o2 g1 g2 g3 g4 h2 => ?_, fun c a1 w1 g1 g2 => hp.panic c a1 w1 g1 g2⟩ g1 g2 g3 g4 hb
   ·obtain ⟨vs, ⟨m, hm, hI⟩, hk⟩ := vV h2
    exact ⟨m, hm, kC, M2, both o2, g1, g2, g3, g4, hk _ hI⟩
   ·exact hp.exit _ _ _ _ _ (both o2) g1 g2 g3 g4 h2
   ·exact hp.ret _ _ _ _ (both o2) g1 g2 g3 g4 h2
  ·exact h.elim
 | scope c ih =>
  intro pg Q Q' env M a w hz hf hp fy hds hd hi h
  refine wp_scope_straight (ih pg Q _ env M a w hz hf ⟨fun gy M1 a1 w1 o1 g1 g2 g3 g4 h1 => ?_, fun i gy M1 a1 w1 o1 g1 g2 g3 g4 h1 => ?_, fun gy M1 a1 w1 o1 g1 g2 g3 g4 h1 => ?_, fun c a1 w1 g1 g2 => hp.panic c a1 w1 g1 g2⟩ fy hds hd hi h)
  ·exact hp.normal _ _ _ _ o1 g1 g2 g3 g4 h1
  ·exact hp.exit _ _ _ _ _ o1 g1 g2 g3 g4 h1
  ·exact hp.ret _ _ _ _ o1 g1 g2 g3 g4 h1
def gj (args : List Value) : Nat → Value := fun i => args.getD i undef
def JR (P : Program) (M : Mem) (env : Nat → Value) : List ResultVar → (List Value → Prop) → Prop
 | [], K => K []
 | .tmp t :: l, K => JR P M env l fun vs => K (env t :: vs)
 | .cell a t :: l, K => Ij P t (env a) M fun v => JR P M env l fun vs => K (v :: vs)
def PY : List Value → Value
 | [v] => v
 | vs => .tuple vs.toArray
def JS (P : Program) (fn : Func) (K : Value → Mem → Prop) : Pm → (Nat → Value) → Mem → Prop
 | .normal, env, M => JR P M env fn.results.toList fun vs => K (PY vs) M
 | .ret, env, M => JR P M env fn.results.toList fun vs => K (PY vs) M
 | .exit _, _, _ => False
def CT (n : Nat) (fn : Func) : Bool := fn.results.toList.all fun r => match r with
 | .tmp t => decide (t < n)
 | .cell a _ => decide (a < n)
theorem vW (P : Program) {α : Type} (s : Sem α) {M : Mem} {w : World} (hi : M.In E w) : ∀ {x : α}, bR P s M = some x → s.run P w = .ok x w := by
 induction s with
 | pure a => intro x h; simp only [bR, Option.some.injEq] at h; subst h; rfl
 | load m a k ih =>
  intro x h
  simp only [bR] at h
  cases hv : M.ld a with
  | none => simp [hv] at h
  | some v =>
   rw [hv] at h
   simp only [Sem.run, Ii hi hv]
   exact ih v h
 | shape r k ih =>
  intro x h
  simp only [bR] at h
  split at h
  ·rename_i c e f hb
   have : w.shape? r = some (e, c.size) := by simp [World.shape?, hi.1 _ _ hb]
   simp only [Sem.run, this]
   exact ih _ h
  ·cases h
 | frozen a k ih =>
  intro x h
  simp only [bR] at h
  split at h
  ·rename_i c e f hb
   have : w.frozen? a = (decide (f.1 ≤ a.off) && decide (a.off < f.2)) := by simp [World.frozen?, hi.1 _ _ hb]
   simp only [Sem.run, this]
   exact ih _ h
  ·cases h
 | program k ih => intro x h; exact ih P h
 | mark m k ih => intro x h; exact ih h
 | _ => intro x h; simp [bR] at h
theorem Gx {P : Program} {t : TypeId} {x v : Value} {M : Mem} (h : bR P (Instr.loadAt t x) M = some v) : bR P (do loadVar t (← asAddr x)) M = some v := by
 unfold Instr.loadAt at h
 rw [aR] at h ⊢
 cases x <;> try (simp only [Instr.sureAddr, stuck, bR] at h; cases h; done)
 rename_i p
 cases p with
 | none => simp only [Instr.sureAddr, stuck, bR] at h; cases h
 | some a => exact h
theorem JT {P : Program} {N : Nat} {env : Nat → Value} {tmps : Array Value} {M : Mem} (fy : eD N env tmps) :
  ∀ (l : List ResultVar) (K : List Value → Prop), (∀ r ∈ l, match r with | .tmp t => t < N | .cell a _ => a < N) → JR P M env l K →
   ∀ (f : ResultVar → Sem Value), (∀ t, f (.tmp t) = pure (tmps.getD t undef)) → (∀ a t, f (.cell a t) = do loadVar t (← asAddr (tmps.getD a undef))) → ∃ vs, bR P (l.mapM f) M = some vs ∧ K vs := by
 intro l
 induction l with
 | nil => intro K _ h f _ _; exact ⟨[], rfl, h⟩
 | cons r l ih =>
  intro K hr h f hf hc
  have PE : ∀ r ∈ l, match r with | .tmp t => t < N | .cell a _ => a < N := fun r hx => hr r (List.mem_cons_of_mem _ hx)
  cases r with
  | tmp t =>
   have ht : t < N := hr _ (List.mem_cons_self ..)
   have := fy.2 t ht
   obtain ⟨vs, h1, h2⟩ := ih _ PE h f hf hc
   refine ⟨env t :: vs, ?_, h2⟩
   rw [List.mapM_cons]
   simp only [aR, hf, bI, Option.bind_some, h1]
   simp [this]
  | cell a t =>
   have ha : a < N := hr _ (List.mem_cons_self ..)
   have := fy.2 a ha
   obtain ⟨v, hv, h⟩ := yW h
   obtain ⟨vs, h1, h2⟩ := ih _ PE h f hf hc
   refine ⟨v :: vs, ?_, h2⟩
   have hg : tmps.getD a undef = env a := by simp [this]
   rw [List.mapM_cons, aR, hc, hg, Gx hv]
   simp only [Option.bind_some, aR, h1, bI]
theorem ze {P : Program} {N : Nat} {fn : Func} {env : Nat → Value} {tmps : Array Value} {M F : Mem} {K : List Value → Prop} {w : World} (fy : eD N env tmps) (hf : CT N fn = true)
  (hi : (M.union F).In E w) (h : JR P M env fn.results.toList K) : ∃ vs, (results fn tmps).run P w = .ok (PY vs) w ∧ K vs := by
 have hr : ∀ r ∈ fn.results.toList, match r with | .tmp t => t < N | .cell a _ => a < N := by
  intro r hr
  have := List.all_eq_true.1 hf r hr
  cases r <;> simp_all
 obtain ⟨vs, hk, hK⟩ := JT fy fn.results.toList K hr h (fun
  | .tmp t => pure (tmps.getD t undef)
  | .cell a t => do loadVar t (← asAddr (tmps.getD a undef))) (fun _ => rfl) (fun _ _ => rfl)
 refine ⟨vs, vW P _ hi (mL P _ (fun b o hb => Mem.union_left hb) (?_ : bR P _ M = _)), hK⟩
 unfold results
 rw [Array.mapM_eq_mapM_toList]
 simp only [aR, LH]
 erw [hk]
 simp only [Option.map_some, Option.bind_some, bI, Option.some.injEq]
 match vs with
 | [] => rfl
 | [v] => rfl
 | v :: u :: l => simp [PY]
theorem JU {C : Ctx} (hC : C.Good) {f : FuncId} {fn : Func} {c : Code} {args : List Value} {M : Mem} {K : Value → Mem → Prop} {Kp : List PanicEntry → Mem → Prop} (H : List (Nat × Hint))
  (hf : C.P.funcs[f]? = some fn) (hb : fn.body = some c) (hfit : (fits fn.ntmps c && CT fn.ntmps fn && decide (args.length ≤ fn.ntmps)) = true)
  (h : dN C H Kp c 0 (JS C.P fn K) (gj args) M) : aa C.P f args.toArray M K Kp := by
 simp only [Bool.and_eq_true, decide_eq_true_eq] at hfit
 obtain ⟨⟨h1, h2⟩, h3⟩ := hfit
 intro E F w hd hi
 have fy : eD fn.ntmps (gj args) (args.toArray ++ Array.replicate (fn.ntmps - args.toArray.size) undef) := by
  refine ⟨by simp; omega, fun i hi => ?_⟩
  unfold gj
  by_cases hl : i < args.length
  ·rw [Array.getElem?_append_left (by simpa using hl)]
   simp [List.getD, hl]
  ·rw [Array.getElem?_append_right (by simpa using Nat.le_of_not_lt hl)]
   have : args[i]? = none := by simpa using Nat.le_of_not_lt hl
   simp only [List.getD, this, Option.getD_none]
   rw [Array.getElem?_replicate, if_pos (by simp; omega)]
 refine calls_of_wp hf hb (gz hC (F := F) (Z := fun a => a.defers = []) c 0 _ _ _ M _ w (fun d _ a v h => by rw [put_defers]; exact h) h1 ⟨?_, ?_, ?_, ?_⟩ fy rfl hd hi h)
 ·intro env M1 a1 w1 _ g1 g2 g3 g4 hq
  unfold JS at hq
  simp only at hq
  obtain ⟨vs, hvs, hq⟩ := ze g1 h2 g4 hq
  exact ⟨g2, _, hvs, ⟨M1, hq, g3, g4⟩⟩
 ·intro id env M1 a1 w1 _ g1 g2 g3 g4 hq; exact hq.elim
 ·intro env M1 a1 w1 _ g1 g2 g3 g4 hq
  unfold JS at hq
  simp only at hq
  obtain ⟨vs, hvs, hq⟩ := ze g1 h2 g4 hq
  exact ⟨g2, _, hvs, ⟨M1, hq, g3, g4⟩⟩
 ·intro c a1 w1 g1 g2; exact ⟨g1, g2⟩
end Go.AF
namespace Go.AF
def fj (fn : Func) : Code := fn.body.getD .skip
def yG (fn : Func) (n : Nat) : Bool := fits fn.ntmps (fj fn) && CT fn.ntmps fn && decide (n ≤ fn.ntmps) && fn.body.isSome
theorem Ey {C : Ctx} (hC : C.Good) {f : FuncId} {fn : Func} {args : List Value} {M : Mem} {K : Value → Mem → Prop} {Kp : List PanicEntry → Mem → Prop} (H : List (Nat × Hint))
  (hf : C.P.funcs[f]? = some fn) (hfit : yG fn args.length = true)
  (h : dN C H Kp (fj fn) 0 (JS C.P fn K) (gj args) M) : aa C.P f args.toArray M K Kp := by
 unfold yG at hfit
 simp only [Bool.and_eq_true] at hfit
 obtain ⟨h1, h2⟩ := hfit
 obtain ⟨c, hc⟩ := Option.isSome_iff_exists.1 h2
 have hb : fj fn = c := by unfold fj; rw [hc]; rfl
 rw [hb] at h h1
 exact JU hC H hf hc (by simp only [Bool.and_eq_true]; exact h1) h
theorem cz {C : Ctx} (hC : C.Good) {f : FuncId} {fn : Func} {args : List Value} {M : Mem} {K : Value → Mem → Prop} {Kp : List PanicEntry → Mem → Prop} (H : List (Nat × Hint))
  (hf : C.P.funcs[f]? = some fn) (hfit : yG fn args.length = true) {vc : Prop}
  (he : vc = dN C H Kp (fj fn) 0 (JS C.P fn K) (gj args) M) (h : vc) : aa C.P f args.toArray M K Kp :=
 Ey hC H hf hfit (he ▸ h)
end Go.AF
