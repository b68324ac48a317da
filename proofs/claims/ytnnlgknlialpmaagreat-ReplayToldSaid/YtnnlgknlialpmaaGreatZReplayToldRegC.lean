/- A part of proofs about one program. -/
import Derived.Test.YtnnlgknlialpmaaGreatZReplayToldRegL
set_option linter.unusedVariables false
namespace Go.AF
variable {E : oA}
inductive Ex where
 | done
 | step (i : Nat) (t : Ex)
 | eo (i : Nat) (t : Ex)
 | late (i : Nat) (t : Ex)
 | fork (i : Nat) (a b : Ex)
 | dead
def rG (ops : Array Oper) (L pS : Nat) : Bool := (List.range ops.size).all fun i => !dS ops L i || pS.testBit i
def xE : List (Mem → Prop) → Mem → Prop → Prop
 | [], _, X => X
 | s :: l, M, X => s M ∧ xE l M X
def iC (l : List (Mem → Prop)) (M : Mem) : Prop := ∀ s ∈ l, s M
theorem ig : ∀ {l : List (Mem → Prop)} {M : Mem} {X : Prop}, xE l M X ↔ iC l M ∧ X
 | [], M, X => by simp [xE, iC]
 | s :: l, M, X => by
  simp only [xE, ig (l := l), iC, List.mem_cons, forall_eq_or_imp]
  constructor
  ·rintro ⟨a, b, c⟩; exact ⟨⟨a, b⟩, c⟩
  ·rintro ⟨⟨a, b⟩, c⟩; exact ⟨a, b, c⟩
def Ck (P : Program) (t : TypeId) (x : Value) (M : Mem) (K : Value → (Mem → Prop) → Prop) : Prop :=
 match x with
 | .pointer p => az p fun b o =>
  match P.underlying t with
  | some (.struct _) | some (.array _ _) =>
   if (flat P 8 t).length = P.cellsOf t then
    B6 M ⟨b, o, none⟩ (flat P 8 t) 0 fun vs => K (.agg vs.toArray) (fun M' => M'.dP ⟨b, o, none⟩ 0 (P.cellsOf t) = some vs)
   else False
  | some d => zJ (Pk d) (M.ld ⟨b, o, none⟩) fun v => K v (fun M' => M'.ld ⟨b, o, none⟩ = some v)
  | none => False
 | _ => False
def xF (P : Program) (ρ : Operand → Value) (o : Oper) (M : Mem) (K : Value → (Mem → Prop) → Prop) : Prop :=
 match o.op with
 | .load t a => Ck P t (ρ a) M K
 | _ => False
def Ls (C : Ctx) (ops : Array Oper) (o : Oper) (env : Nat → Value) (M : Mem) (K : (Nat → Value) → List (Mem → Prop) → Prop) : Prop :=
 match o.guard with
 | none => xF C.P (lE env) o M (fun v p => K (aT env o.dst v) [p])
 | some (j, want) => match jF ops j with
  | some s => match env s with
   | .bool e => match want with
    | true => aK e (xF C.P (lE (aT env (some s) (.bool true))) o M (fun v p => K (aT (aT env (some s) (.bool true)) o.dst v) [p])) (K (aT (aT env (some s) (.bool false)) o.dst undef) [])
    | false => aK e (K (aT (aT env (some s) (.bool true)) o.dst undef) []) (xF C.P (lE (aT env (some s) (.bool false))) o M (fun v p => K (aT (aT env (some s) (.bool false)) o.dst v) [p]))
   | _ => K (aT env o.dst undef) []
  | none => K (aT env o.dst undef) []
def Cl (P : Program) (ρ : Operand → Value) (o : Oper) : Prop :=
 match o.op with
 | .buildSlice t len parts => match P.underlying t with
  | some (.slice e) => match P.info? e with
   | some i => match i.zero with
    | some z => if z.cells.toList.length = i.size ∧ len * i.size ≤ 16777216 then
      (match ur (fun k => some (k * i.size, i.size)) (List.replicate len z.cells.toList).flatten (parts.toList.map fun p => (p.1, ρ p.2)) with
      | some _ => True
      | none => False) else False
    | none => False
   | none => False
  | _ => False
 | .alloc e => match zeroOf P e with
  | some _ => True
  | none => False
 | .box _ _ => True
 | _ => False
def mV (C : Ctx) (ops : Array Oper) (env : Nat → Value) (L i : Nat) : List Nat → Prop → Prop
 | [], X => X
 | j :: l, X => bif Nat.beq j i || !dS ops L j then mV C ops env L i l X else
   (match ops[j]? with
   | some o => Cl C.P (lE env) o ∧ mV C ops env L i l X
   | none => mV C ops env L i l X)
def z9 (P : Program) (o : Oper) : Bool := match cls P o with
 | .Ez => true
 | _ => false
def behind (C : Ctx) (o : Oper) (Ss : List (Mem → Prop)) (M : Mem) (X : Prop) : Prop := bif z9 C.P o then xE Ss M X else X
def oF (C : Ctx) (ops : Array Oper) (dF : List Nat) (K : (Nat → Value) → Mem → Prop) (Kp : List PanicEntry → Mem → Prop) : Ex → List (Mem → Prop) → Nat → Nat → (Nat → Value) → Mem → Prop
 | .done, _, L, _, env, M => bif rG ops L 0 then K env M else False
 | .step i t, Ss, L, _, env, M => bif dS ops L i && uA C.P ops dF L i then
   (match ops[i]? with
   | some o => EE C ops o env M (fun env' M' => behind C o Ss M' (oF C ops dF K Kp t Ss (L ||| 2 ^ i) 0 env' M')) Kp
   | none => False) else False
 | .eo i t, Ss, L, _, env, M => bif dS ops L i && lP ops dF L i then
   (match ops[i]? with
   | some o => Ls C ops o env M (fun env' p => oF C ops dF K Kp t (p ++ Ss) (L ||| 2 ^ i) 0 env' M)
   | none => False) else False
 | .late i t, Ss, L, _, env, M => bif dS ops L i && sI C.P ops dF L i then
   (match ops[i]? with
   | some o => bif z9 C.P o then mV C ops env L i (List.range ops.size) (EE C ops o env M (fun env' M' => xE Ss M' (oF C ops dF K Kp t Ss (L ||| 2 ^ i) 0 env' M')) Kp) else False
   | none => False) else False
 | .fork i a b, Ss, L, pS, env, M => bif dS ops L i then
   (match ops[i]? with
   | some o => EE C ops o env M (fun env' M' => behind C o Ss M' (oF C ops dF K Kp a Ss (L ||| 2 ^ i) 0 env' M')) Kp ∧ oF C ops dF K Kp b Ss L (pS ||| 2 ^ i) env M
   | none => False) else False
 | .dead, _, L, pS, _, _ => bif rG ops L pS && !Nat.beq pS 0 then True else False
def rH (Kp : List PanicEntry → Mem → Prop) : List PanicEntry → Mem → Prop := fun c M => ∃ M1, M1.le M ∧ Kp c M1
theorem JQ (Kp : List PanicEntry → Mem → Prop) : MG (rH Kp) := fun _ _ _ hle ⟨M1, h1, h2⟩ => ⟨M1, fun b o h => hle b o (h1 b o h), h2⟩
theorem en.up {F : Mem} {Kp : List PanicEntry → Mem → Prop} {c : List PanicEntry} {w : World} (h : en E F (rH Kp c) w) : en E F (Kp c) w := by
 obtain ⟨M, ⟨M1, hle, hk⟩, hd, hi⟩ := h
 refine ⟨M1, hk, fun b => ?_, ⟨fun b o hb => ?_, hi.2⟩⟩
 ·rcases hd b with h | h
  ·left; cases hm : M1 b with
   | none => rfl
   | some o => rw [hle b o hm] at h; cases h
  ·exact .inr h
 ·unfold Mem.union at hb
  cases hm : M1 b with
  | some o' => rw [hm] at hb; cases hb; exact hi.1 b o (Mem.union_left (hle b o hm))
  | none =>
   rw [hm] at hb
   refine hi.1 b o ?_
   unfold Mem.union
   rcases hd b with h | h
   ·rw [h]; exact hb
   ·rw [h] at hb; cases hb
section
variable {C : Ctx} {ops : Array Oper} {K : (Nat → Value) → Mem → Prop} {Kp : List PanicEntry → Mem → Prop}
theorem iD {L pS : Nat} (h : rG ops L pS = true) (i : Nat) (hi : dS ops L i = true) : pS.testBit i = true := by
 obtain ⟨_, o, ho, _⟩ := bp.1 hi
 have := List.all_eq_true.1 h i (List.mem_range.2 (Array.getElem?_eq_some_iff.1 ho).1)
 simpa [hi] using this
theorem EL {S : Mem → Prop} {L : Nat} {env : Nat → Value} {M : Mem} (h : ∀ i, dS ops L i = false) (hk : K env M) : ∀ f, cK C ops S K Kp f L env M
 | 0 => fun _ => ⟨h, hk⟩
 | f + 1 => fun _ => ⟨fun _ => hk, fun i hi => by rw [h i] at hi; cases hi⟩
theorem cond_true {b : Bool} {X : Prop} (h : bif b then X else False) : b = true ∧ X := by cases b; exact h.elim; exact ⟨rfl, h⟩
theorem MI {ρ : Operand → Value} {o : Oper} {M : Mem} {K : Value → Mem → Prop} {rA : List PanicEntry → Mem → Prop} (h : oe C ρ o M K Kp) (hp : ∀ c M', Kp c M' → rA c M') : oe C ρ o M K rA := by
 unfold oe at h ⊢
 split at h
 ·exact h
 ·exact h
 ·exact h
 ·refine fN C.P _ h (fun n M' hn => ?_) (fun _ _ h => hp _ _ h)
  cases n <;> first | exact hn.elim | exact hn | exact aa.mono hn (fun _ _ h => h) hp
theorem tV {o : Oper} {env : Nat → Value} {M : Mem} {rA : List PanicEntry → Mem → Prop} (h : cZ C ops o env M K Kp) (hp : ∀ c M', Kp c M' → rA c M') : cZ C ops o env M K rA := by
 unfold cZ at h ⊢
 split
 ·rename_i hw; rw [if_pos hw] at h; exact MI h hp
 ·rename_i hw; rw [if_neg hw] at h; exact h
theorem EM {S S' : Mem → Prop} (hs : ∀ M, S M → S' M) : ∀ (f L : Nat) (env : Nat → Value) (M : Mem), cK C ops S K Kp f L env M → cK C ops S' K Kp f L env M := by
 intro f
 induction f with
 | zero => intro L env M h; exact h
 | succ f ih => intro L env M h dJ; exact ⟨(h dJ).1, fun j hj => xC ((h dJ).2 j hj) fun env' M' hx => ⟨hs _ hx.1, ih _ _ _ hx.2⟩⟩
theorem lQ {o : Oper} {env : Nat → Value} {M : Mem} {Ss : List (Mem → Prop)} {X : (Nat → Value) → Mem → Prop} (hS : sH (iC Ss)) (iP : iC Ss M)
  (h : cZ C ops o env M (fun env' M' => behind C o Ss M' (X env' M')) Kp) : cZ C ops o env M (fun env' M' => iC Ss M' ∧ X env' M') Kp := by
 unfold cZ at h ⊢
 cases he : z9 C.P o with
 | true =>
  simp only [behind, he] at h
  split
  ·rename_i hw; rw [if_pos hw] at h; exact jG h fun v M' hv => ig.1 hv
  ·rename_i hw; rw [if_neg hw] at h; exact ig.1 h
 | false =>
  simp only [behind, he, cond_false] at h
  split
  ·rename_i hw; rw [if_pos hw] at h
   unfold oe at h ⊢
   unfold z9 at he
   cases hc : cls C.P o <;> rw [hc] at h he <;> simp only at h ⊢
   ·obtain ⟨v, hv, h⟩ := h; exact ⟨v, hv, iP, h⟩
   ·obtain ⟨v, hv, h⟩ := h; exact ⟨v, hv, iP, h⟩
   ·obtain ⟨ob, k, hn, h⟩ := h
    exact ⟨ob, k, hn, fun b hb => let ⟨v, hv, h⟩ := h b hb; ⟨v, hv, hS _ _ (lN hb) iP, h⟩⟩
   ·simp at he
  ·rename_i hw; rw [if_neg hw] at h; exact ⟨iP, h⟩
theorem Aa {M M' : Mem} (h : M.le M') {a : Addr} : ∀ (n i : Nat) (vs : List Value), M.dP a i n = some vs → M'.dP a i n = some vs
 | 0, i, vs, hv => hv
 | n + 1, i, vs, hv => by
  simp only [Mem.dP] at hv ⊢
  cases hx : M.ld (a.add i) with
  | none => simp [hx] at hv
  | some v =>
   rw [Mem.Gn h hx]
   simp only [hx] at hv
   cases hr : M.dP a (i + 1) n with
   | none => simp [hr] at hv
   | some rest => rw [Aa h n (i + 1) rest hr]; rw [hr] at hv; exact hv
theorem Ad {P : Program} {t : TypeId} {x : Value} {M : Mem} {K : Value → (Mem → Prop) → Prop} (h : Ck P t x M K) :
  ∃ v p, (∀ M', p M' → br P (Instr.loadAt t x) M' = some v) ∧ p M ∧ sH p ∧ K v p := by
 unfold Ck at h
 cases x <;> try exact h.elim
 rename_i p
 obtain ⟨b, o, hp, h2⟩ := gu h
 subst hp
 clear h
 cases hd : P.underlying t with
 | none => rw [hd] at h2; exact h2.elim
 | some d =>
  rw [hd] at h2
  have agg : rC d = true → (if (flat P 8 t).length = P.cellsOf t then B6 M ⟨b, o, none⟩ (flat P 8 t) 0 fun vs => K (.agg vs.toArray) (fun M' => M'.dP ⟨b, o, none⟩ 0 (P.cellsOf t) = some vs) else False) →
    ∃ v p, (∀ M', p M' → br P (Instr.loadAt t (.pointer (some ⟨b, o, none⟩))) M' = some v) ∧ p M ∧ sH p ∧ K v p := by
   intro dD h
   split at h
   ·rename_i hl
    obtain ⟨vs, hvs, h⟩ := rD h
    rw [hl] at hvs
    exact ⟨_, _, fun M' hm => lI hd dD rfl hm, hvs, fun M1 M2 hle h1 => Aa hle _ _ _ h1, h⟩
   ·exact h.elim
  cases d with
  | struct fs => exact agg rfl h2
  | array m e => exact agg rfl h2
  | _ => (obtain ⟨v, hv, h⟩ := lH h2; exact ⟨v, _, fun M' hm => sE hd rfl hm, hv, fun M1 M2 hle h1 => Mem.Gn hle h1, h⟩)
theorem Cm {P : Program} {ρ : Operand → Value} {o : Oper} {M : Mem} {K : Value → (Mem → Prop) → Prop} (h : xF P ρ o M K) :
  cls P o = .read ∧ ∃ v p, (∀ M', p M' → br P (execOp ρ o) M' = some (.value v)) ∧ p M ∧ sH p ∧ K v p := by
 unfold xF at h
 split at h
 ·rename_i t a ho
  obtain ⟨v, p, h1, h2, h3, h4⟩ := Ad h
  obtain ⟨dst, op, type, pos, after, guard⟩ := o
  simp only at ho; subst ho
  exact ⟨rfl, v, p, fun M' hp => eJ (h1 M' hp), h2, h3, h4⟩
 ·exact h.elim
theorem Ae {o : Oper} {env : Nat → Value} (h : Cl C.P (lE env) o) : DK C.P ops env o := by
 intro _
 unfold Cl at h
 split at h
 ·rename_i t len parts ho
  split at h
  ·rename_i e hu
   split at h
   ·rename_i i hi
    split at h
    ·rename_i z hz
     split at h
     ·rename_i hc
      split at h
      ·rename_i cs hcs
       have hb : GC C.P (lE env) o Mem.empty (fun _ _ => True) := by
        unfold GC; rw [ho]; simp only
        unfold JH; rw [hu]; simp only
        rw [hi]; simp only
        rw [hz]; simp only
        rw [if_pos hc, hcs]
        exact fun _ _ => trivial
       obtain ⟨ob, k, hn, hk⟩ := DJ hb
       exact ⟨ob, k, hn, fun b => let ⟨v, hv, _⟩ := hk b rfl; ⟨v, hv⟩⟩
      ·exact h.elim
     ·exact h.elim
    ·exact h.elim
   ·exact h.elim
  ·exact h.elim
 ·rename_i e ho
  obtain ⟨dst, op, type, pos, after, guard⟩ := o
  simp only at ho; subst ho
  split at h
  ·rename_i z hz
   unfold zeroOf at hz
   cases hi : C.P.info? e with
   | none => simp [hi] at hz
   | some i =>
    simp only [hi, Option.bind_some] at hz
    refine ⟨.cells z.cells e, fun b => pure (Next.value (.pointer (some ⟨b, 0, none⟩))), ?_, fun b => ⟨_, rfl⟩⟩
    simp only [execOp]
    rw [zV C.P (Instr.alloc e true (.tuple #[])) _ (ob := .cells z.cells e) (k := fun b => pure (.pointer (some ⟨b, 0, none⟩))) (by
     unfold Instr.alloc
     rw [yA C.P _ _ (DI hi hz)]
     rfl)]
    rfl
  ·exact h.elim
 ·rename_i e x ho
  obtain ⟨dst, op, type, pos, after, guard⟩ := o
  simp only at ho; subst ho
  exact ⟨.cells (lE env x).cells e, fun b => pure (Next.value (.pointer (some ⟨b, 0, none⟩))), rfl, fun b => ⟨_, rfl⟩⟩
 ·exact h.elim
theorem g9 {env : Nat → Value} {L i : Nat} : ∀ {l : List Nat} {X : Prop}, mV C ops env L i l X → X ∧ ∀ j ∈ l, j ≠ i → dS ops L j = true → ∀ oj, ops[j]? = some oj → DK C.P ops env oj
 | [], X, h => ⟨h, fun j hj => by cases hj⟩
 | j :: l, X, h => by
  unfold mV at h
  cases hb : (Nat.beq j i || !dS ops L j) with
  | true =>
   rw [hb] at h
   obtain ⟨h1, h2⟩ := g9 (l := l) h
   refine ⟨h1, fun k hk BR hr oj gy => ?_⟩
   rcases List.mem_cons.1 hk with rfl | hk
   ·simp only [Bool.or_eq_true, Bool.not_eq_true', hr] at hb
    rcases hb with hb | hb
    ·exact absurd (Nat.eq_of_beq_eq_true hb) BR
    ·cases hb
   ·exact h2 k hk BR hr oj gy
  | false =>
   rw [hb] at h
   simp only [cond_false] at h
   cases ho : ops[j]? with
   | none =>
    rw [ho] at h
    obtain ⟨h1, h2⟩ := g9 (l := l) h
    refine ⟨h1, fun k hk BR hr oj gy => ?_⟩
    rcases List.mem_cons.1 hk with rfl | hk
    ·rw [ho] at gy; cases gy
    ·exact h2 k hk BR hr oj gy
   | some o =>
    rw [ho] at h
    obtain ⟨h0, h⟩ := h
    obtain ⟨h1, h2⟩ := g9 (l := l) h
    refine ⟨h1, fun k hk BR hr oj gy => ?_⟩
    rcases List.mem_cons.1 hk with rfl | hk
    ·rw [ho] at gy; cases gy; exact Ae h0
    ·exact h2 k hk BR hr oj gy
theorem xG {i : Nat} {o : Oper} (ho : ops[i]? = some o) (hsel : ∀ (j : Nat) (o : Oper) cs b, ops[j]? = some o → o.op ≠ .select cs b) {dF : List Nat} (ha : kL ops dF = true) {S : Mem → Prop} {Kp : List PanicEntry → Mem → Prop} :
  ∀ (f L : Nat) (env : Nat → Value) (M : Mem), S M → Dn ops L → lP ops dF L i = true → dS ops L i = true → bx ops o env = false →
   cK C ops S K Kp f (L ||| 2 ^ i) (aT env o.dst undef) M → cK C ops S K Kp (f + 1) L env M
 | 0, L, env, M, iP, hd, hf, hr, hw, hx => fun dJ => by
  refine ⟨fun hno => (by rw [hno i] at hr; cases hr), fun j hj => ?_⟩
  by_cases gR : j = i
  ·subst gR; unfold eE; rw [ho]; exact iZ hw ⟨iP, hx⟩
  ·have hj' := dY (i := i) hj gR
   have := (hx dJ).1 j; rw [this] at hj'; cases hj'
 | f + 1, L, env, M, iP, hd, hf, hr, hw, hx => fun dJ => by
  obtain ⟨hL, o1, ho1, gx⟩ := bp.1 hr
  rw [ho] at ho1; cases ho1
  refine ⟨fun hno => (by rw [hno i] at hr; cases hr), fun j hj => ?_⟩
  by_cases gR : j = i
  ·subst gR; unfold eE; rw [ho]; exact iZ hw ⟨iP, hx⟩
  ·obtain ⟨EG, oj, gy, hallj⟩ := bp.1 hj
   have hap := z8 ho ha hd hf hr hj gy gR
   obtain ⟨a1, a2, a3⟩ := Oper.apart_spec hap
   have hj' := dY (i := i) hj gR
   have gj := (hx dJ).2 j hj'
   unfold eE at gj ⊢; rw [gy] at gj ⊢; simp only at gj ⊢
   rw [pQ L i j] at gj
   have h2 := lO hap (fun cs b => hsel j oj cs b gy) gj
   have fin : ∀ u M1, S M1 ∧ cK C ops S K Kp f (L ||| 2 ^ j ||| 2 ^ i) (aT (aT env oj.dst u) o.dst undef) M1 →
     S M1 ∧ cK C ops S K Kp (f + 1) (L ||| 2 ^ j) (aT env oj.dst u) M1 := fun u M1 hy =>
    ⟨hy.1, xG ho hsel ha f (L ||| 2 ^ j) (aT env oj.dst u) M1 hy.1 (hd.add hj) (uB ho hf) (dY hr (Ne.symm gR)) ((c8 o env oj.dst u a3).trans hw) hy.2⟩
   unfold cZ at h2 ⊢
   split
   ·rename_i GH; rw [if_pos GH] at h2; exact jG h2 fun u M1 hy => fin u M1 hy
   ·rename_i GH; rw [if_neg GH] at h2; exact fin _ _ h2
theorem Cn (hC : C.Good) (hsel : ∀ (j : Nat) (o : Oper) cs b, ops[j]? = some o → o.op ≠ .select cs b) {dF : List Nat} (ha : kL ops dF = true) (t : Ex) :
  ∀ (Ss : List (Mem → Prop)), sH (iC Ss) →
  (∀ (L : Nat) (env : Nat → Value) (M : Mem), iC Ss M → Dn ops L → oF C ops dF K Kp t Ss L 0 env M → cK C ops (iC Ss) K (rH Kp) (BQ ops.size L) L env M) ∧
  (∀ (L pS : Nat) (env : Nat → Value) (M : Mem) (f : Nat), iC Ss M → BQ ops.size L = f + 1 → pP M → Dn ops L → oF C ops dF K Kp t Ss L pS env M → pS ≠ 0 →
   ∀ i, dS ops L i = true → pS.testBit i = false → eE C ops (rH Kp) i env M fun env' M' => iC Ss M' ∧ cK C ops (iC Ss) K (rH Kp) f (L ||| 2 ^ i) env' M') := by
 have kp : ∀ c M', Kp c M' → rH Kp c M' := fun c M' h => ⟨M', fun _ _ h => h, h⟩
 have both : ∀ (t : Ex) (Ss : List (Mem → Prop)), (∀ (L : Nat) (pS : Nat) (env : Nat → Value) (M : Mem), iC Ss M → Dn ops L → oF C ops dF K Kp t Ss L pS env M → cK C ops (iC Ss) K (rH Kp) (BQ ops.size L) L env M) →
   (∀ (L : Nat) (env : Nat → Value) (M : Mem), iC Ss M → Dn ops L → oF C ops dF K Kp t Ss L 0 env M → cK C ops (iC Ss) K (rH Kp) (BQ ops.size L) L env M) ∧
   (∀ (L pS : Nat) (env : Nat → Value) (M : Mem) (f : Nat), iC Ss M → BQ ops.size L = f + 1 → pP M → Dn ops L → oF C ops dF K Kp t Ss L pS env M → pS ≠ 0 →
    ∀ i, dS ops L i = true → pS.testBit i = false → eE C ops (rH Kp) i env M fun env' M' => iC Ss M' ∧ cK C ops (iC Ss) K (rH Kp) f (L ||| 2 ^ i) env' M') := fun t Ss h =>
  ⟨fun L env M => h L 0 env M, fun L pS env M f iP GL dJ hd ht _ j hj _ => by
   have hh := h L pS env M iP hd ht
   rw [GL] at hh
   exact (hh dJ).2 j hj⟩
 induction t with
 | done =>
  intro Ss hS
  refine ⟨fun L env M iP hd h => ?_, fun L pS env M f _ _ _ hd h P4 i hi Pq => ?_⟩
  ·obtain ⟨h1, h2⟩ := cond_true h
   refine EL (fun i => ?_) h2 _
   cases hr : dS ops L i with
   | false => rfl
   | true => have := iD h1 i hr; simp at this
  ·obtain ⟨h1, h2⟩ := cond_true h
   have := iD h1 i hi; simp at this
 | step i t ih =>
  intro Ss hS
  refine both _ _ fun L pS env M iP hd h => ?_
  obtain ⟨h1, h2⟩ := cond_true h
  simp only [Bool.and_eq_true] at h1
  obtain ⟨hr, hf⟩ := h1
  obtain ⟨hL, o, ho, gx⟩ := bp.1 hr
  rw [ho] at h2; simp only at h2
  rw [ja (Array.getElem?_eq_some_iff.1 ho).1 hL]
  refine Cj hS ho hsel ha _ L env M iP hd hf hr ?_
  unfold eE; rw [ho]; simp only
  exact gv (tV (lQ hS iP (fP hC h2)) kp) fun env' M' hx => ⟨hx.1, (ih Ss hS).1 _ env' M' hx.1 (hd.add hr) hx.2⟩
 | eo i t ih =>
  intro Ss hS
  refine both _ _ fun L pS env M iP hd h => ?_
  obtain ⟨h1, h2⟩ := cond_true h
  simp only [Bool.and_eq_true] at h1
  obtain ⟨hr, hf⟩ := h1
  obtain ⟨hL, o, ho, gx⟩ := bp.1 hr
  rw [ho] at h2; simp only at h2
  rw [ja (Array.getElem?_eq_some_iff.1 ho).1 hL]
  have yes : bx ops o env = true → xF C.P (lE env) o M (fun v p => oF C ops dF K Kp t ([p] ++ Ss) (L ||| 2 ^ i) 0 (aT env o.dst v) M) →
    cK C ops (iC Ss) K (rH Kp) (BQ ops.size (L ||| 2 ^ i) + 1) L env M := fun hw hp => by
   obtain ⟨hc, v, p, p1, p2, p3, p4⟩ := Cm hp
   have hS' : sH (iC ([p] ++ Ss)) := fun M1 M2 hle hx s hs => by
    rcases List.mem_cons.1 hs with rfl | hs
    ·exact p3 _ _ hle (hx _ (List.mem_cons_self ..))
    ·exact hS M1 M2 hle (fun s hs => hx s (List.mem_cons_of_mem _ hs)) s hs
   have To : iC ([p] ++ Ss) M := fun s hs => by
    rcases List.mem_cons.1 hs with rfl | hs
    ·exact p2
    ·exact iP s hs
   refine EH ho hsel ha hc (s := execOp (lE env) o) (v := v) _ L env M hd hf hr hw rfl (p1 M p2) iP ?_
   refine EM (fun M' hx => ?_) _ _ _ _ ((ih _ hS').1 _ _ M To (hd.add hr) p4)
   exact ⟨fun s hs => hx s (List.mem_cons_of_mem _ hs), p1 M' (hx p (List.mem_cons_self ..))⟩
  have no : bx ops o env = false → oF C ops dF K Kp t ([] ++ Ss) (L ||| 2 ^ i) 0 (aT env o.dst undef) M →
    cK C ops (iC Ss) K (rH Kp) (BQ ops.size (L ||| 2 ^ i) + 1) L env M := fun hw hp =>
   xG ho hsel ha _ L env M iP hd hf hr hw ((ih Ss hS).1 _ _ M iP (hd.add hr) hp)
  unfold Ls at h2
  cases hg : o.guard with
  | none => rw [hg] at h2; exact yes (pN hg) h2
  | some jw =>
   obtain ⟨j, want⟩ := jw
   rw [hg] at h2
   simp only at h2
   cases hs : jF ops j with
   | none => rw [hs] at h2; exact no (uz hg hs) h2
   | some s =>
    rw [hs] at h2
    simp only at h2
    cases he : env s <;> rw [he] at h2 <;> simp only at h2
    case bool e =>
     have hw := pO hg hs he
     cases e
     ·rw [jH he] at h2
      cases want <;> simp only [aK] at h2
      ·exact yes hw h2
      ·exact no hw h2
     ·rw [jH he] at h2
      cases want <;> simp only [aK] at h2
      ·exact no hw h2
      ·exact yes hw h2
    all_goals exact no (oh hg hs (by simp [he])) h2
 | late i t ih =>
  intro Ss hS
  refine both _ _ fun L pS env M iP hd h => ?_
  obtain ⟨h1, h2⟩ := cond_true h
  simp only [Bool.and_eq_true] at h1
  obtain ⟨hr, hl⟩ := h1
  obtain ⟨hL, o, ho, gx⟩ := bp.1 hr
  rw [ho] at h2; simp only at h2
  obtain ⟨he, h2⟩ := cond_true h2
  have hce : cls C.P o = .Ez := by unfold z9 at he; cases hc : cls C.P o <;> rw [hc] at he <;> simp at he
  obtain ⟨h3, h4⟩ := g9 h2
  have hc := ja (n := ops.size) (Array.getElem?_eq_some_iff.1 ho).1 hL
  rw [hc]
  refine EJ hS (JQ Kp) ho hce hsel ha _ L env M hc iP hd hl hr (fun j oj hj gy gR => h4 j (List.mem_range.2 (Array.getElem?_eq_some_iff.1 gy).1) gR hj oj gy) ?_
  unfold eE; rw [ho]; simp only
  exact gv (tV (fP hC h3) kp) fun env' M' hx => ⟨(ig.1 hx).1, (ih Ss hS).1 _ env' M' (ig.1 hx).1 (hd.add hr) (ig.1 hx).2⟩
 | fork i a b iha ihb =>
  intro Ss hS
  refine ⟨fun L env M iP hd h => ?_, fun L pS env M f iP GL dJ hd h P4 j hj F1 => ?_⟩
  ·obtain ⟨hr, h2⟩ := cond_true h
   obtain ⟨hL, o, ho, gx⟩ := bp.1 hr
   rw [ho] at h2; simp only at h2
   have hc := ja (n := ops.size) (Array.getElem?_eq_some_iff.1 ho).1 hL
   rw [hc]
   refine fun dJ => ⟨fun hno => (by rw [hno i] at hr; cases hr), fun j hj => ?_⟩
   by_cases gR : j = i
   ·subst gR
    unfold eE; rw [ho]; simp only
    exact gv (tV (lQ hS iP (fP hC h2.1)) kp) fun env' M' hx => ⟨hx.1, (iha Ss hS).1 _ env' M' hx.1 (hd.add hr) hx.2⟩
   ·exact (ihb Ss hS).2 L (0 ||| 2 ^ i) env M (BQ ops.size (L ||| 2 ^ i)) iP hc dJ hd h2.2 (by simp) j hj (by rw [cT]; simp [Ne.symm gR])
  ·obtain ⟨hr, h2⟩ := cond_true h
   obtain ⟨hL, o, ho, gx⟩ := bp.1 hr
   rw [ho] at h2; simp only at h2
   have hc := ja (n := ops.size) (Array.getElem?_eq_some_iff.1 ho).1 hL
   by_cases gR : j = i
   ·subst gR
    unfold eE; rw [ho]; simp only
    have hf : f = BQ ops.size (L ||| 2 ^ j) := by omega
    subst hf
    exact gv (tV (lQ hS iP (fP hC h2.1)) kp) fun env' M' hx => ⟨hx.1, (iha Ss hS).1 _ env' M' hx.1 (hd.add hr) hx.2⟩
   ·exact (ihb Ss hS).2 L (pS ||| 2 ^ i) env M f iP GL dJ hd h2.2 (by intro h0; have := cT pS i i; rw [h0] at this; simp at this) j hj (by rw [cT, F1]; simp [Ne.symm gR])
 | dead =>
  intro Ss hS
  refine ⟨fun L env M iP hd h => ?_, fun L pS env M f _ _ _ hd h P4 i hi Pq => ?_⟩
  ·obtain ⟨h1, _⟩ := cond_true h
   simp at h1
  ·obtain ⟨h1, _⟩ := cond_true h
   simp only [Bool.and_eq_true] at h1
   have := iD h1.1 i hi; rw [Pq] at this; cases this
theorem sJ {P : Program} {a : Act} {o : Oper} {M F : Mem} {w : World} {K : Value → Mem → Prop} {Kp : List PanicEntry → Mem → Prop} {next : Act → World → Prop} {Q : Exit → Act → World → Prop}
  (h : cO P (execOp a.eval o) M (jE P K Kp) (fun v M' => Kp [{ v, recovered := false }] M')) (hd : M.dj F) (hi : (M.union F).In E w)
  (hn : ∀ v w', en E F (K v) w' → next (a.put o.dst v) w') (hp : ∀ c w', en E F (Kp c) w' → Q (.panic c) a w') : o.wp P a w next Q := by
 have hr := Eo P _ h hd hi
 unfold gr at hr
 unfold Oper.wp
 split at hr
 ·rename_i n w' hrun
  rw [hrun]
  obtain ⟨M', hk, hd', hi'⟩ := hr
  cases n <;> first | exact hk.elim | skip
  ·exact hn _ _ ⟨M', hk, hd', hi'⟩
  ·exact hn _ _ ⟨M', hk, hd', hi'⟩
  ·rename_i f args
   refine (hk E F w' hd' hi').mono fun e w'' he => ?_
   cases e with
   | returned v => exact hn _ _ he
   | panicked c => exact hp _ _ he
   | outgrown => exact he.elim
 ·rename_i v w' hrun
  rw [hrun]
  exact hp _ _ hr
 ·exact hr.elim
theorem pT {N : Nat} {env : Nat → Value} {a : Act} (dD : cS N env a.tmps) (hfit : ∀ o ∈ ops.toList, j5 N o = true) (o : Oper) :
  Region.wanted o (yielded ops a.tmps) = bx ops o env := by
 unfold Region.wanted bx
 cases hg : o.guard with
 | none => rfl
 | some jw =>
  obtain ⟨j, want⟩ := jw
  simp only
  have hy : yielded ops a.tmps j = match (jF ops j).map env with | some (.bool b) => some b | _ => none := by
   unfold yielded jF
   cases hj : ops[j]? with
   | none => rfl
   | some oj =>
    simp only [Option.bind_some]
    cases hd : oj.dst with
    | none => rfl
    | some s =>
     have hm : oj ∈ ops.toList := by have := Array.mem_of_getElem? hj; simpa using this
     have hs := (eM (hfit oj hm)).2.1 s hd
     simp only [Option.bind_some, dD.2 s hs, Option.map_some]
     cases env s <;> rfl
  rw [hy]
  cases (jF ops j).map env with
  | none => rfl
  | some v => cases v <;> first | rfl | (cases want <;> rename_i b <;> cases b <;> rfl)
structure Post (E : oA) (N : Nat) (Z : Act → Prop) (F : Mem) (K : (Nat → Value) → Mem → Prop) (Kp : List PanicEntry → Mem → Prop) (Q : Exit → Act → World → Prop) : Prop where
 normal : ∀ env M a w, cS N env a.tmps → Z a → M.dj F → (M.union F).In E w → K env M → Q .normal a w
 panic : ∀ c a w, Z a → en E F (Kp c) w → Q (.panic c) a w
theorem put_defers {a : Act} {dst : Option Tmp} {v : Value} : (a.put dst v).defers = a.defers := by cases dst <;> rfl
theorem yF {N : Nat} {Z : Act → Prop} {F : Mem} {Q : Exit → Act → World → Prop} (hz : ∀ o ∈ ops.toList, ∀ (a : Act) (v : Value), Z a → Z (a.put o.dst v)) (hfit : ∀ o ∈ ops.toList, j5 N o = true)
  (hp : ∀ c a w, Z a → en E F (Kp c) w → Q (.panic c) a w) {i : Nat} {env : Nat → Value} {M : Mem} {a : Act} {w : World} {K' : (Nat → Value) → Mem → Prop} {next : Act → World → Prop}
  (dD : cS N env a.tmps) (hds : Z a) (hd : M.dj F) (hi : (M.union F).In E w)
  (hn : ∀ env' M' a' w', cS N env' a'.tmps → Z a' → M'.dj F → (M'.union F).In E w' → K' env' M' → next a' w') (h : eE C ops Kp i env M K') : wpOp C.P ops Q i next a w := by
 unfold wpOp
 unfold eE at h
 cases ho : ops[i]? with
 | none => rw [ho] at h; exact hn _ _ _ _ dD hds hd hi h
 | some o =>
  rw [ho] at h
  simp only at h
  have hm : o ∈ ops.toList := by have := Array.mem_of_getElem? ho; simpa using this
  have hf := hfit o hm
  simp only
  rw [pT dD hfit]
  unfold cZ at h
  split
  ·rename_i hw
   rw [if_pos hw] at h
   refine .inl (sJ (K := fun v M' => K' (aT env o.dst v) M') (Kp := Kp) (F := F) (by rw [← dD.execOp hf]; exact uy h) hd hi (fun v w' hv => ?_) (fun c w' hc => hp _ _ _ hds hc))
   obtain ⟨M', hk, hd', hi'⟩ := hv
   exact hn _ _ _ _ (dD.put (eM hf).2.1 v) (hz o hm _ _ hds) hd' hi' hk
  ·rename_i hw
   rw [if_neg hw] at h
   exact hn _ _ _ _ (dD.put (eM hf).2.1 undef) (hz o hm _ _ hds) hd hi h
def lR (ops : Array Oper) (arr : Array Bool) (L : Nat) : Prop := arr.size = ops.size ∧ ∀ i, i < ops.size → arr[i]? = some (L.testBit i)
theorem lR.add {arr : Array Bool} {L i : Nat} (h : lR ops arr L) (hi : i < ops.size) : lR ops (arr.setIfInBounds i true) (L ||| 2 ^ i) := by
 refine ⟨by simp [h.1], fun k hk => ?_⟩
 by_cases BR : i = k
 ·subst BR; simp [h.1, hi]
 ·rw [Array.getElem?_setIfInBounds_ne BR, h.2 k hk, cT]; simp [BR]
theorem rJ {arr : Array Bool} {L : Nat} (h : lR ops arr L) (sK : ∀ (j : Nat) (o : Oper), ops[j]? = some o → ∀ e ∈ o.after, Region.binds .any e = true → e.on < ops.size) (i : Nat) :
  i ∈ Region.ready .any ops arr ↔ dS ops L i = true := by
 rw [mem_ready, bp]
 constructor
 ·rintro ⟨h0, o, ho, gx⟩
  have hlt := (Array.getElem?_eq_some_iff.1 ho).1
  refine ⟨?_, o, ho, fun e he hb => ?_⟩
  ·have := h.2 i hlt; simp [Array.getD_eq_getD_getElem?, this] at h0; exact h0
  ·have h1 := gx e he hb
   have := h.2 e.on (sK i o ho e he hb)
   simpa [Array.getD_eq_getD_getElem?, this] using h1
 ·rintro ⟨h0, o, ho, gx⟩
  have hlt := (Array.getElem?_eq_some_iff.1 ho).1
  refine ⟨by simp [Array.getD_eq_getD_getElem?, h.2 i hlt, h0], o, ho, fun e he hb => ?_⟩
  have := h.2 e.on (sK i o ho e he hb)
  simp [Array.getD_eq_getD_getElem?, this, gx e he hb]
theorem wL {S : Mem → Prop} {N : Nat} {Z : Act → Prop} {F : Mem} {Q : Exit → Act → World → Prop} (hz : ∀ o ∈ ops.toList, ∀ (a : Act) (v : Value), Z a → Z (a.put o.dst v)) (hfit : ∀ o ∈ ops.toList, j5 N o = true)
  (sK : ∀ (j : Nat) (o : Oper), ops[j]? = some o → ∀ e ∈ o.after, Region.binds .any e = true → e.on < ops.size) (hpost : Post E N Z F K Kp Q) :
  ∀ (f L : Nat) (arr : Array Bool) (env : Nat → Value) (M : Mem) (a : Act) (w : World), lR ops arr L → cS N env a.tmps → Z a → M.dj F → (M.union F).In E w →
   cK C ops S K (rH Kp) f L env M → wpAny C.P .any ops Q f arr a w := by
 intro f
 induction f with
 | zero =>
  intro L arr env M a w hl dD hds hd hi h
  have dJ : pP M := ⟨w.heap.size, fun b hb => by
   cases hm : M b with
   | none => rfl
   | some o => have := hi.lt (Mem.union_left (F := F) hm); omega⟩
  obtain ⟨h1, h2⟩ := h dJ
  refine ⟨?_, hpost.normal _ _ _ _ dD hds hd hi h2⟩
  rw [List.eq_nil_iff_forall_not_mem]
  intro i hmem
  have := (rJ hl sK i).1 hmem
  rw [h1 i] at this; cases this
 | succ f ih =>
  intro L arr env M a w hl dD hds hd hi h
  have dJ : pP M := ⟨w.heap.size, fun b hb => by
   cases hm : M b with
   | none => rfl
   | some o => have := hi.lt (Mem.union_left (F := F) hm); omega⟩
  obtain ⟨h1, h2⟩ := h dJ
  refine ⟨fun JR => ?_, fun i hmem => ?_⟩
  ·refine hpost.normal _ _ _ _ dD hds hd hi (h1 fun i => ?_)
   cases hr : dS ops L i with
   | false => rfl
   | true => have := (rJ hl sK i).2 hr; rw [JR] at this; cases this
  ·have hr := (rJ hl sK i).1 hmem
   obtain ⟨_, o, ho, _⟩ := bp.1 hr
   exact yF hz hfit (fun c a w h1 h2 => hpost.panic c a w h1 h2.up) dD hds hd hi (fun env' M' a' w' g1 g2 g3 g4 g5 => ih _ _ _ _ _ _ (hl.add (Array.getElem?_eq_some_iff.1 ho).1) g1 g2 g3 g4 g5.2) (h2 i hr)
def MJ (C : Ctx) (ops : Array Oper) (K : (Nat → Value) → Mem → Prop) (Kp : List PanicEntry → Mem → Prop) : List Oper → (Nat → Value) → Mem → Prop
 | [], env, M => K env M
 | o :: rest, env, M => EE C ops o env M (fun env' M' => MJ C ops K Kp rest env' M') Kp
end
end Go.AF
