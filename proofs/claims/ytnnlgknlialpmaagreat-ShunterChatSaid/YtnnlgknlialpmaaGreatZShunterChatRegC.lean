/- A part of proofs about one program. -/
import Derived.Test.YtnnlgknlialpmaaGreatZShunterChatRegL
set_option linter.unusedVariables false
namespace Go.AF
variable {E : qY}
inductive Ex where
 | done
 | step (i : Nat) (t : Ex)
 | eN (i : Nat) (t : Ex)
 | late (i : Nat) (t : Ex)
 | fork (i : Nat) (a b : Ex)
 | dead
def uE (ops : Array Oper) (L sN : Nat) : Bool := (List.range ops.size).all fun i => !eV ops L i || sN.testBit i
def Ao : List (Mem → Prop) → Mem → Prop → Prop
 | [], _, X => X
 | s :: l, M, X => s M ∧ Ao l M X
def jY (l : List (Mem → Prop)) (M : Mem) : Prop := ∀ s ∈ l, s M
theorem jL : ∀ {l : List (Mem → Prop)} {M : Mem} {X : Prop}, Ao l M X ↔ jY l M ∧ X
 | [], M, X => by simp [Ao, jY]
 | s :: l, M, X => by
  simp only [Ao, jL (l := l), jY, List.mem_cons, forall_eq_or_imp]
  constructor
  ·rintro ⟨a, b, c⟩; exact ⟨⟨a, b⟩, c⟩
  ·rintro ⟨⟨a, b⟩, c⟩; exact ⟨a, b, c⟩
def Fj (P : Program) (t : TypeId) (x : Value) (M : Mem) (K : Value → (Mem → Prop) → Prop) : Prop :=
 match x with
 | .pointer p => aF p fun b o =>
  match P.underlying t with
  | some (.struct _) | some (.array _ _) =>
   if (flat P 8 t).length = P.cellsOf t then
    E4 M ⟨b, o, none⟩ (flat P 8 t) 0 fun vs => K (.agg vs.toArray) (fun M' => M'.iH ⟨b, o, none⟩ 0 (P.cellsOf t) = some vs)
   else False
  | some d => C1 (Ve d) (M.ld ⟨b, o, none⟩) fun v => K v (fun M' => M'.ld ⟨b, o, none⟩ = some v)
  | none => False
 | _ => False
def Ap (P : Program) (ρ : Operand → Value) (o : Oper) (M : Mem) (K : Value → (Mem → Prop) → Prop) : Prop :=
 match o.op with
 | .load t a => Fj P t (ρ a) M K
 | _ => False
def Ra (C : Ctx) (ops : Array Oper) (o : Oper) (env : Nat → Value) (M : Mem) (K : (Nat → Value) → List (Mem → Prop) → Prop) : Prop :=
 match o.guard with
 | none => Ap C.P (nW env) o M (fun v p => K (aY env o.dst v) [p])
 | some (j, want) => match lF ops j with
  | some s => match env s with
   | .bool e => match want with
    | true => aM e (Ap C.P (nW (aY env (some s) (.bool true))) o M (fun v p => K (aY (aY env (some s) (.bool true)) o.dst v) [p])) (K (aY (aY env (some s) (.bool false)) o.dst undef) [])
    | false => aM e (K (aY (aY env (some s) (.bool true)) o.dst undef) []) (Ap C.P (nW (aY env (some s) (.bool false))) o M (fun v p => K (aY (aY env (some s) (.bool false)) o.dst v) [p]))
   | _ => K (aY env o.dst undef) []
  | none => K (aY env o.dst undef) []
def Fk (P : Program) (ρ : Operand → Value) (o : Oper) : Prop :=
 match o.op with
 | .buildSlice t len parts => match P.underlying t with
  | some (.slice e) => match P.info? e with
   | some i => match i.zero with
    | some z => if z.cells.toList.length = i.size ∧ len * i.size ≤ 16777216 then
      (match xm (fun k => some (k * i.size, i.size)) (List.replicate len z.cells.toList).flatten (parts.toList.map fun p => (p.1, ρ p.2)) with
      | some _ => True
      | none => False) else False
    | none => False
   | none => False
  | _ => False
 | .alloc e => match zeroOf P e with
  | some _ => True
  | none => False
 | .box _ _ => True
 | _ => False
def pL (C : Ctx) (ops : Array Oper) (env : Nat → Value) (L i : Nat) : List Nat → Prop → Prop
 | [], X => X
 | j :: l, X => bif Nat.beq j i || !eV ops L j then pL C ops env L i l X else
   (match ops[j]? with
   | some o => Fk C.P (nW env) o ∧ pL C ops env L i l X
   | none => pL C ops env L i l X)
def Dk (P : Program) (o : Oper) : Bool := match cls P o with
 | .IG => true
 | _ => false
def behind (C : Ctx) (o : Oper) (Ss : List (Mem → Prop)) (M : Mem) (X : Prop) : Prop := bif Dk C.P o then Ao Ss M X else X
def rm (C : Ctx) (ops : Array Oper) (eF : List Nat) (K : (Nat → Value) → Mem → Prop) (Kp : List PanicEntry → Mem → Prop) : Ex → List (Mem → Prop) → Nat → Nat → (Nat → Value) → Mem → Prop
 | .done, _, L, _, env, M => bif uE ops L 0 then K env M else False
 | .step i t, Ss, L, _, env, M => bif eV ops L i && xy C.P ops eF L i then
   (match ops[i]? with
   | some o => IM C ops o env M (fun env' M' => behind C o Ss M' (rm C ops eF K Kp t Ss (L ||| 2 ^ i) 0 env' M')) Kp
   | none => False) else False
 | .eN i t, Ss, L, _, env, M => bif eV ops L i && oq ops eF L i then
   (match ops[i]? with
   | some o => Ra C ops o env M (fun env' p => rm C ops eF K Kp t (p ++ Ss) (L ||| 2 ^ i) 0 env' M)
   | none => False) else False
 | .late i t, Ss, L, _, env, M => bif eV ops L i && vI C.P ops eF L i then
   (match ops[i]? with
   | some o => bif Dk C.P o then pL C ops env L i (List.range ops.size) (IM C ops o env M (fun env' M' => Ao Ss M' (rm C ops eF K Kp t Ss (L ||| 2 ^ i) 0 env' M')) Kp) else False
   | none => False) else False
 | .fork i a b, Ss, L, sN, env, M => bif eV ops L i then
   (match ops[i]? with
   | some o => IM C ops o env M (fun env' M' => behind C o Ss M' (rm C ops eF K Kp a Ss (L ||| 2 ^ i) 0 env' M')) Kp ∧ rm C ops eF K Kp b Ss L (sN ||| 2 ^ i) env M
   | none => False) else False
 | .dead, _, L, sN, _, _ => bif uE ops L sN && !Nat.beq sN 0 then True else False
def uF (Kp : List PanicEntry → Mem → Prop) : List PanicEntry → Mem → Prop := fun c M => ∃ M1, M1.le M ∧ Kp c M1
theorem OU (Kp : List PanicEntry → Mem → Prop) : Sz (uF Kp) := fun _ _ _ hle ⟨M1, h1, h2⟩ => ⟨M1, fun b o h => hle b o (h1 b o h), h2⟩
theorem fC.up {F : Mem} {Kp : List PanicEntry → Mem → Prop} {c : List PanicEntry} {w : World} (h : fC E F (uF Kp c) w) : fC E F (Kp c) w := by
 obtain ⟨M, ⟨M1, hle, hk⟩, hd, hi⟩ := h
 refine ⟨M1, hk, fun b => ?_, ⟨fun b o hb => ?_, hi.2⟩⟩
 ·rcases hd b with h | h
  ·left; cases hm : M1 b with
   | none => rfl
   | some o => rw [hle b o hm] at h; cases h
  ·exact .inr h
 ·unfold Mem.union at hb
  cases hm : M1 b with
  | some o' => rw [hm] at hb; cases hb; exact hi.1 b o (Mem.union_left (hle b o hm))
  | none =>
   rw [hm] at hb
   refine hi.1 b o ?_
   unfold Mem.union
   rcases hd b with h | h
   ·rw [h]; exact hb
   ·rw [h] at hb; cases hb
section
variable {C : Ctx} {ops : Array Oper} {K : (Nat → Value) → Mem → Prop} {Kp : List PanicEntry → Mem → Prop}
theorem jZ {L sN : Nat} (h : uE ops L sN = true) (i : Nat) (hi : eV ops L i = true) : sN.testBit i = true := by
 obtain ⟨_, o, ho, _⟩ := bG.1 hi
 have := List.all_eq_true.1 h i (List.mem_range.2 (Array.getElem?_eq_some_iff.1 ho).1)
 simpa [hi] using this
theorem IV {S : Mem → Prop} {L : Nat} {env : Nat → Value} {M : Mem} (h : ∀ i, eV ops L i = false) (hk : K env M) : ∀ f, dg C ops S K Kp f L env M
 | 0 => fun _ => ⟨h, hk⟩
 | f + 1 => fun _ => ⟨fun _ => hk, fun i hi => by rw [h i] at hi; cases hi⟩
theorem cond_true {b : Bool} {X : Prop} (h : bif b then X else False) : b = true ∧ X := by cases b; exact h.elim; exact ⟨rfl, h⟩
theorem SC {ρ : Operand → Value} {o : Oper} {M : Mem} {K : Value → Mem → Prop} {uA : List PanicEntry → Mem → Prop} (h : qN C ρ o M K Kp) (hp : ∀ c M', Kp c M' → uA c M') : qN C ρ o M K uA := by
 unfold qN at h ⊢
 split at h
 ·exact h
 ·exact h
 ·exact h
 ·refine gZ C.P _ h (fun n M' hn => ?_) (fun _ _ h => hp _ _ h)
  cases n <;> first | exact hn.elim | exact hn | exact aa.mono hn (fun _ _ h => h) hp
theorem wT {o : Oper} {env : Nat → Value} {M : Mem} {uA : List PanicEntry → Mem → Prop} (h : dO C ops o env M K Kp) (hp : ∀ c M', Kp c M' → uA c M') : dO C ops o env M K uA := by
 unfold dO at h ⊢
 split
 ·rename_i hw; rw [if_pos hw] at h; exact SC h hp
 ·rename_i hw; rw [if_neg hw] at h; exact h
theorem IW {S S' : Mem → Prop} (hs : ∀ M, S M → S' M) : ∀ (f L : Nat) (env : Nat → Value) (M : Mem), dg C ops S K Kp f L env M → dg C ops S' K Kp f L env M := by
 intro f
 induction f with
 | zero => intro L env M h; exact h
 | succ f ih => intro L env M h eL; exact ⟨(h eL).1, fun j hj => Am ((h eL).2 j hj) fun env' M' hx => ⟨hs _ hx.1, ih _ _ _ hx.2⟩⟩
theorem ot {o : Oper} {env : Nat → Value} {M : Mem} {Ss : List (Mem → Prop)} {X : (Nat → Value) → Mem → Prop} (hS : vH (jY Ss)) (ke : jY Ss M)
  (h : dO C ops o env M (fun env' M' => behind C o Ss M' (X env' M')) Kp) : dO C ops o env M (fun env' M' => jY Ss M' ∧ X env' M') Kp := by
 unfold dO at h ⊢
 cases he : Dk C.P o with
 | true =>
  simp only [behind, he] at h
  split
  ·rename_i hw; rw [if_pos hw] at h; exact lG h fun v M' hv => jL.1 hv
  ·rename_i hw; rw [if_neg hw] at h; exact jL.1 h
 | false =>
  simp only [behind, he, cond_false] at h
  split
  ·rename_i hw; rw [if_pos hw] at h
   unfold qN at h ⊢
   unfold Dk at he
   cases hc : cls C.P o <;> rw [hc] at h he <;> simp only at h ⊢
   ·obtain ⟨v, hv, h⟩ := h; exact ⟨v, hv, ke, h⟩
   ·obtain ⟨v, hv, h⟩ := h; exact ⟨v, hv, ke, h⟩
   ·obtain ⟨ob, k, hn, h⟩ := h
    exact ⟨ob, k, hn, fun b hb => let ⟨v, hv, h⟩ := h b hb; ⟨v, hv, hS _ _ (oh hb) ke, h⟩⟩
   ·simp at he
  ·rename_i hw; rw [if_neg hw] at h; exact ⟨ke, h⟩
theorem Dl {M M' : Mem} (h : M.le M') {a : Addr} : ∀ (n i : Nat) (vs : List Value), M.iH a i n = some vs → M'.iH a i n = some vs
 | 0, i, vs, hv => hv
 | n + 1, i, vs, hv => by
  simp only [Mem.iH] at hv ⊢
  cases hx : M.ld (a.add i) with
  | none => simp [hx] at hv
  | some v =>
   rw [Mem.KK h hx]
   simp only [hx] at hv
   cases hr : M.iH a (i + 1) n with
   | none => simp [hr] at hv
   | some rest => rw [Dl h n (i + 1) rest hr]; rw [hr] at hv; exact hv
theorem Dm {P : Program} {t : TypeId} {x : Value} {M : Mem} {K : Value → (Mem → Prop) → Prop} (h : Fj P t x M K) :
  ∃ v p, (∀ M', p M' → bF P (Instr.loadAt t x) M' = some v) ∧ p M ∧ vH p ∧ K v p := by
 unfold Fj at h
 cases x <;> try exact h.elim
 rename_i p
 obtain ⟨b, o, hp, h2⟩ := iI h
 subst hp
 clear h
 cases hd : P.underlying t with
 | none => rw [hd] at h2; exact h2.elim
 | some d =>
  rw [hd] at h2
  have agg : uB d = true → (if (flat P 8 t).length = P.cellsOf t then E4 M ⟨b, o, none⟩ (flat P 8 t) 0 fun vs => K (.agg vs.toArray) (fun M' => M'.iH ⟨b, o, none⟩ 0 (P.cellsOf t) = some vs) else False) →
    ∃ v p, (∀ M', p M' → bF P (Instr.loadAt t (.pointer (some ⟨b, o, none⟩))) M' = some v) ∧ p M ∧ vH p ∧ K v p := by
   intro eE h
   split at h
   ·rename_i hl
    obtain ⟨vs, hvs, h⟩ := uC h
    rw [hl] at hvs
    exact ⟨_, _, fun M' hm => oa hd eE rfl hm, hvs, fun M1 M2 hle h1 => Dl hle _ _ _ h1, h⟩
   ·exact h.elim
  cases d with
  | struct fs => exact agg rfl h2
  | array m e => exact agg rfl h2
  | _ => (obtain ⟨v, hv, h⟩ := nZ h2; exact ⟨v, _, fun M' hm => vE hd rfl hm, hv, fun M1 M2 hle h1 => Mem.KK hle h1, h⟩)
theorem Fl {P : Program} {ρ : Operand → Value} {o : Oper} {M : Mem} {K : Value → (Mem → Prop) → Prop} (h : Ap P ρ o M K) :
  cls P o = .read ∧ ∃ v p, (∀ M', p M' → bF P (execOp ρ o) M' = some (.value v)) ∧ p M ∧ vH p ∧ K v p := by
 unfold Ap at h
 split at h
 ·rename_i t a ho
  obtain ⟨v, p, h1, h2, h3, h4⟩ := Dm h
  obtain ⟨dst, op, type, pos, after, guard⟩ := o
  simp only at ho; subst ho
  exact ⟨rfl, v, p, fun M' hp => fO (h1 M' hp), h2, h3, h4⟩
 ·exact h.elim
theorem Dp {o : Oper} {env : Nat → Value} (h : Fk C.P (nW env) o) : G7 C.P ops env o := by
 intro _
 unfold Fk at h
 split at h
 ·rename_i t len parts ho
  split at h
  ·rename_i e hu
   split at h
   ·rename_i i hi
    split at h
    ·rename_i z hz
     split at h
     ·rename_i hc
      split at h
      ·rename_i cs hcs
       have hb : KX C.P (nW env) o Mem.empty (fun _ _ => True) := by
        unfold KX; rw [ho]; simp only
        unfold OK; rw [hu]; simp only
        rw [hi]; simp only
        rw [hz]; simp only
        rw [if_pos hc, hcs]
        exact fun _ _ => trivial
       obtain ⟨ob, k, hn, hk⟩ := G6 hb
       exact ⟨ob, k, hn, fun b => let ⟨v, hv, _⟩ := hk b rfl; ⟨v, hv⟩⟩
      ·exact h.elim
     ·exact h.elim
    ·exact h.elim
   ·exact h.elim
  ·exact h.elim
 ·rename_i e ho
  obtain ⟨dst, op, type, pos, after, guard⟩ := o
  simp only at ho; subst ho
  split at h
  ·rename_i z hz
   unfold zeroOf at hz
   cases hi : C.P.info? e with
   | none => simp [hi] at hz
   | some i =>
    simp only [hi, Option.bind_some] at hz
    refine ⟨.cells z.cells e, fun b => pure (Next.value (.pointer (some ⟨b, 0, none⟩))), ?_, fun b => ⟨_, rfl⟩⟩
    simp only [execOp]
    rw [Dd C.P (Instr.alloc e true (.tuple #[])) _ (ob := .cells z.cells e) (k := fun b => pure (.pointer (some ⟨b, 0, none⟩))) (by
     unfold Instr.alloc
     rw [BI C.P _ _ (G5 hi hz)]
     rfl)]
    rfl
  ·exact h.elim
 ·rename_i e x ho
  obtain ⟨dst, op, type, pos, after, guard⟩ := o
  simp only at ho; subst ho
  exact ⟨.cells (nW env x).cells e, fun b => pure (Next.value (.pointer (some ⟨b, 0, none⟩))), rfl, fun b => ⟨_, rfl⟩⟩
 ·exact h.elim
theorem jA {env : Nat → Value} {L i : Nat} : ∀ {l : List Nat} {X : Prop}, pL C ops env L i l X → X ∧ ∀ j ∈ l, j ≠ i → eV ops L j = true → ∀ oj, ops[j]? = some oj → G7 C.P ops env oj
 | [], X, h => ⟨h, fun j hj => by cases hj⟩
 | j :: l, X, h => by
  unfold pL at h
  cases hb : (Nat.beq j i || !eV ops L j) with
  | true =>
   rw [hb] at h
   obtain ⟨h1, h2⟩ := jA (l := l) h
   refine ⟨h1, fun k hk EX hr oj iK => ?_⟩
   rcases List.mem_cons.1 hk with rfl | hk
   ·simp only [Bool.or_eq_true, Bool.not_eq_true', hr] at hb
    rcases hb with hb | hb
    ·exact absurd (Nat.eq_of_beq_eq_true hb) EX
    ·cases hb
   ·exact h2 k hk EX hr oj iK
  | false =>
   rw [hb] at h
   simp only [cond_false] at h
   cases ho : ops[j]? with
   | none =>
    rw [ho] at h
    obtain ⟨h1, h2⟩ := jA (l := l) h
    refine ⟨h1, fun k hk EX hr oj iK => ?_⟩
    rcases List.mem_cons.1 hk with rfl | hk
    ·rw [ho] at iK; cases iK
    ·exact h2 k hk EX hr oj iK
   | some o =>
    rw [ho] at h
    obtain ⟨h0, h⟩ := h
    obtain ⟨h1, h2⟩ := jA (l := l) h
    refine ⟨h1, fun k hk EX hr oj iK => ?_⟩
    rcases List.mem_cons.1 hk with rfl | hk
    ·rw [ho] at iK; cases iK; exact Dp h0
    ·exact h2 k hk EX hr oj iK
theorem Aq {i : Nat} {o : Oper} (ho : ops[i]? = some o) (hsel : ∀ (j : Nat) (o : Oper) cs b, ops[j]? = some o → o.op ≠ .select cs b) {eF : List Nat} (ha : nu ops eF = true) {S : Mem → Prop} {Kp : List PanicEntry → Mem → Prop} :
  ∀ (f L : Nat) (env : Nat → Value) (M : Mem), S M → Dn ops L → oq ops eF L i = true → eV ops L i = true → bK ops o env = false →
   dg C ops S K Kp f (L ||| 2 ^ i) (aY env o.dst undef) M → dg C ops S K Kp (f + 1) L env M
 | 0, L, env, M, ke, hd, hf, hr, hw, hx => fun eL => by
  refine ⟨fun hno => (by rw [hno i] at hr; cases hr), fun j hj => ?_⟩
  by_cases jg : j = i
  ·subst jg; unfold fK; rw [ho]; exact kB hw ⟨ke, hx⟩
  ·have hj' := fj (i := i) hj jg
   have := (hx eL).1 j; rw [this] at hj'; cases hj'
 | f + 1, L, env, M, ke, hd, hf, hr, hw, hx => fun eL => by
  obtain ⟨hL, o1, ho1, gz⟩ := bG.1 hr
  rw [ho] at ho1; cases ho1
  refine ⟨fun hno => (by rw [hno i] at hr; cases hr), fun j hj => ?_⟩
  by_cases jg : j = i
  ·subst jg; unfold fK; rw [ho]; exact kB hw ⟨ke, hx⟩
  ·obtain ⟨IP, oj, iK, hallj⟩ := bG.1 hj
   have hap := Dj ho ha hd hf hr hj iK jg
   obtain ⟨a1, a2, a3⟩ := Oper.apart_spec hap
   have hj' := fj (i := i) hj jg
   have iy := (hx eL).2 j hj'
   unfold fK at iy ⊢; rw [iK] at iy ⊢; simp only at iy ⊢
   rw [sL L i j] at iy
   have h2 := om hap (fun cs b => hsel j oj cs b iK) iy
   have fin : ∀ u M1, S M1 ∧ dg C ops S K Kp f (L ||| 2 ^ j ||| 2 ^ i) (aY (aY env oj.dst u) o.dst undef) M1 →
     S M1 ∧ dg C ops S K Kp (f + 1) (L ||| 2 ^ j) (aY env oj.dst u) M1 := fun u M1 hy =>
    ⟨hy.1, Aq ho hsel ha f (L ||| 2 ^ j) (aY env oj.dst u) M1 hy.1 (hd.add hj) (xz ho hf) (fj hr (Ne.symm jg)) ((dS o env oj.dst u a3).trans hw) hy.2⟩
   unfold dO at h2 ⊢
   split
   ·rename_i K3; rw [if_pos K3] at h2; exact lG h2 fun u M1 hy => fin u M1 hy
   ·rename_i K3; rw [if_neg K3] at h2; exact fin _ _ h2
theorem Fm (hC : C.Good) (hsel : ∀ (j : Nat) (o : Oper) cs b, ops[j]? = some o → o.op ≠ .select cs b) {eF : List Nat} (ha : nu ops eF = true) (t : Ex) :
  ∀ (Ss : List (Mem → Prop)), vH (jY Ss) →
  (∀ (L : Nat) (env : Nat → Value) (M : Mem), jY Ss M → Dn ops L → rm C ops eF K Kp t Ss L 0 env M → dg C ops (jY Ss) K (uF Kp) (wS ops.size L) L env M) ∧
  (∀ (L sN : Nat) (env : Nat → Value) (M : Mem) (f : Nat), jY Ss M → wS ops.size L = f + 1 → sK M → Dn ops L → rm C ops eF K Kp t Ss L sN env M → sN ≠ 0 →
   ∀ i, eV ops L i = true → sN.testBit i = false → fK C ops (uF Kp) i env M fun env' M' => jY Ss M' ∧ dg C ops (jY Ss) K (uF Kp) f (L ||| 2 ^ i) env' M') := by
 have kp : ∀ c M', Kp c M' → uF Kp c M' := fun c M' h => ⟨M', fun _ _ h => h, h⟩
 have both : ∀ (t : Ex) (Ss : List (Mem → Prop)), (∀ (L : Nat) (sN : Nat) (env : Nat → Value) (M : Mem), jY Ss M → Dn ops L → rm C ops eF K Kp t Ss L sN env M → dg C ops (jY Ss) K (uF Kp) (wS ops.size L) L env M) →
   (∀ (L : Nat) (env : Nat → Value) (M : Mem), jY Ss M → Dn ops L → rm C ops eF K Kp t Ss L 0 env M → dg C ops (jY Ss) K (uF Kp) (wS ops.size L) L env M) ∧
   (∀ (L sN : Nat) (env : Nat → Value) (M : Mem) (f : Nat), jY Ss M → wS ops.size L = f + 1 → sK M → Dn ops L → rm C ops eF K Kp t Ss L sN env M → sN ≠ 0 →
    ∀ i, eV ops L i = true → sN.testBit i = false → fK C ops (uF Kp) i env M fun env' M' => jY Ss M' ∧ dg C ops (jY Ss) K (uF Kp) f (L ||| 2 ^ i) env' M') := fun t Ss h =>
  ⟨fun L env M => h L 0 env M, fun L sN env M f ke K7 eL hd ht _ j hj _ => by
   have hh := h L sN env M ke hd ht
   rw [K7] at hh
   exact (hh eL).2 j hj⟩
 induction t with
 | done =>
  intro Ss hS
  refine ⟨fun L env M ke hd h => ?_, fun L sN env M f _ _ _ hd h VV i hi OS => ?_⟩
  ·obtain ⟨h1, h2⟩ := cond_true h
   refine IV (fun i => ?_) h2 _
   cases hr : eV ops L i with
   | false => rfl
   | true => have := jZ h1 i hr; simp at this
  ·obtain ⟨h1, h2⟩ := cond_true h
   have := jZ h1 i hi; simp at this
 | step i t ih =>
  intro Ss hS
  refine both _ _ fun L sN env M ke hd h => ?_
  obtain ⟨h1, h2⟩ := cond_true h
  simp only [Bool.and_eq_true] at h1
  obtain ⟨hr, hf⟩ := h1
  obtain ⟨hL, o, ho, gz⟩ := bG.1 hr
  rw [ho] at h2; simp only at h2
  rw [kC (Array.getElem?_eq_some_iff.1 ho).1 hL]
  refine Fh hS ho hsel ha _ L env M ke hd hf hr ?_
  unfold fK; rw [ho]; simp only
  exact iJ (wT (ot hS ke (g8 hC h2)) kp) fun env' M' hx => ⟨hx.1, (ih Ss hS).1 _ env' M' hx.1 (hd.add hr) hx.2⟩
 | eN i t ih =>
  intro Ss hS
  refine both _ _ fun L sN env M ke hd h => ?_
  obtain ⟨h1, h2⟩ := cond_true h
  simp only [Bool.and_eq_true] at h1
  obtain ⟨hr, hf⟩ := h1
  obtain ⟨hL, o, ho, gz⟩ := bG.1 hr
  rw [ho] at h2; simp only at h2
  rw [kC (Array.getElem?_eq_some_iff.1 ho).1 hL]
  have yes : bK ops o env = true → Ap C.P (nW env) o M (fun v p => rm C ops eF K Kp t ([p] ++ Ss) (L ||| 2 ^ i) 0 (aY env o.dst v) M) →
    dg C ops (jY Ss) K (uF Kp) (wS ops.size (L ||| 2 ^ i) + 1) L env M := fun hw hp => by
   obtain ⟨hc, v, p, p1, p2, p3, p4⟩ := Fl hp
   have hS' : vH (jY ([p] ++ Ss)) := fun M1 M2 hle hx s hs => by
    rcases List.mem_cons.1 hs with rfl | hs
    ·exact p3 _ _ hle (hx _ (List.mem_cons_self ..))
    ·exact hS M1 M2 hle (fun s hs => hx s (List.mem_cons_of_mem _ hs)) s hs
   have YZ : jY ([p] ++ Ss) M := fun s hs => by
    rcases List.mem_cons.1 hs with rfl | hs
    ·exact p2
    ·exact ke s hs
   refine IQ ho hsel ha hc (s := execOp (nW env) o) (v := v) _ L env M hd hf hr hw rfl (p1 M p2) ke ?_
   refine IW (fun M' hx => ?_) _ _ _ _ ((ih _ hS').1 _ _ M YZ (hd.add hr) p4)
   exact ⟨fun s hs => hx s (List.mem_cons_of_mem _ hs), p1 M' (hx p (List.mem_cons_self ..))⟩
  have no : bK ops o env = false → rm C ops eF K Kp t ([] ++ Ss) (L ||| 2 ^ i) 0 (aY env o.dst undef) M →
    dg C ops (jY Ss) K (uF Kp) (wS ops.size (L ||| 2 ^ i) + 1) L env M := fun hw hp =>
   Aq ho hsel ha _ L env M ke hd hf hr hw ((ih Ss hS).1 _ _ M ke (hd.add hr) hp)
  unfold Ra at h2
  cases hg : o.guard with
  | none => rw [hg] at h2; exact yes (sI hg) h2
  | some jw =>
   obtain ⟨j, want⟩ := jw
   rw [hg] at h2
   simp only at h2
   cases hs : lF ops j with
   | none => rw [hs] at h2; exact no (xw hg hs) h2
   | some s =>
    rw [hs] at h2
    simp only at h2
    cases he : env s <;> rw [he] at h2 <;> simp only at h2
    case bool e =>
     have hw := sJ hg hs he
     cases e
     ·rw [lH he] at h2
      cases want <;> simp only [aM] at h2
      ·exact yes hw h2
      ·exact no hw h2
     ·rw [lH he] at h2
      cases want <;> simp only [aM] at h2
      ·exact no hw h2
      ·exact yes hw h2
    all_goals exact no (qO hg hs (by simp [he])) h2
 | late i t ih =>
  intro Ss hS
  refine both _ _ fun L sN env M ke hd h => ?_
  obtain ⟨h1, h2⟩ := cond_true h
  simp only [Bool.and_eq_true] at h1
  obtain ⟨hr, hl⟩ := h1
  obtain ⟨hL, o, ho, gz⟩ := bG.1 hr
  rw [ho] at h2; simp only at h2
  obtain ⟨he, h2⟩ := cond_true h2
  have hce : cls C.P o = .IG := by unfold Dk at he; cases hc : cls C.P o <;> rw [hc] at he <;> simp at he
  obtain ⟨h3, h4⟩ := jA h2
  have hc := kC (n := ops.size) (Array.getElem?_eq_some_iff.1 ho).1 hL
  rw [hc]
  refine IU hS (OU Kp) ho hce hsel ha _ L env M hc ke hd hl hr (fun j oj hj iK jg => h4 j (List.mem_range.2 (Array.getElem?_eq_some_iff.1 iK).1) jg hj oj iK) ?_
  unfold fK; rw [ho]; simp only
  exact iJ (wT (g8 hC h3) kp) fun env' M' hx => ⟨(jL.1 hx).1, (ih Ss hS).1 _ env' M' (jL.1 hx).1 (hd.add hr) (jL.1 hx).2⟩
 | fork i a b iha ihb =>
  intro Ss hS
  refine ⟨fun L env M ke hd h => ?_, fun L sN env M f ke K7 eL hd h VV j hj CW => ?_⟩
  ·obtain ⟨hr, h2⟩ := cond_true h
   obtain ⟨hL, o, ho, gz⟩ := bG.1 hr
   rw [ho] at h2; simp only at h2
   have hc := kC (n := ops.size) (Array.getElem?_eq_some_iff.1 ho).1 hL
   rw [hc]
   refine fun eL => ⟨fun hno => (by rw [hno i] at hr; cases hr), fun j hj => ?_⟩
   by_cases jg : j = i
   ·subst jg
    unfold fK; rw [ho]; simp only
    exact iJ (wT (ot hS ke (g8 hC h2.1)) kp) fun env' M' hx => ⟨hx.1, (iha Ss hS).1 _ env' M' hx.1 (hd.add hr) hx.2⟩
   ·exact (ihb Ss hS).2 L (0 ||| 2 ^ i) env M (wS ops.size (L ||| 2 ^ i)) ke hc eL hd h2.2 (by simp) j hj (by rw [dI]; simp [Ne.symm jg])
  ·obtain ⟨hr, h2⟩ := cond_true h
   obtain ⟨hL, o, ho, gz⟩ := bG.1 hr
   rw [ho] at h2; simp only at h2
   have hc := kC (n := ops.size) (Array.getElem?_eq_some_iff.1 ho).1 hL
   by_cases jg : j = i
   ·subst jg
    unfold fK; rw [ho]; simp only
    have hf : f = wS ops.size (L ||| 2 ^ j) := by omega
    subst hf
    exact iJ (wT (ot hS ke (g8 hC h2.1)) kp) fun env' M' hx => ⟨hx.1, (iha Ss hS).1 _ env' M' hx.1 (hd.add hr) hx.2⟩
   ·exact (ihb Ss hS).2 L (sN ||| 2 ^ i) env M f ke K7 eL hd h2.2 (by intro h0; have := dI sN i i; rw [h0] at this; simp at this) j hj (by rw [dI, CW]; simp [Ne.symm jg])
 | dead =>
  intro Ss hS
  refine ⟨fun L env M ke hd h => ?_, fun L sN env M f _ _ _ hd h VV i hi OS => ?_⟩
  ·obtain ⟨h1, _⟩ := cond_true h
   simp at h1
  ·obtain ⟨h1, _⟩ := cond_true h
   simp only [Bool.and_eq_true] at h1
   have := jZ h1.1 i hi; rw [OS] at this; cases this
theorem vK {P : Program} {a : Act} {o : Oper} {M F : Mem} {w : World} {K : Value → Mem → Prop} {Kp : List PanicEntry → Mem → Prop} {next : Act → World → Prop} {Q : Exit → Act → World → Prop}
  (h : da P (execOp a.eval o) M (lE P K Kp) (fun v M' => Kp [{ v, recovered := false }] M')) (hd : M.dj F) (hi : (M.union F).In E w)
  (hn : ∀ v w', fC E F (K v) w' → next (a.put o.dst v) w') (hp : ∀ c w', fC E F (Kp c) w' → Q (.panic c) a w') : o.wp P a w next Q := by
 have hr := Iy P _ h hd hi
 unfold iG at hr
 unfold Oper.wp
 split at hr
 ·rename_i n w' hrun
  rw [hrun]
  obtain ⟨M', hk, hd', hi'⟩ := hr
  cases n <;> first | exact hk.elim | skip
  ·exact hn _ _ ⟨M', hk, hd', hi'⟩
  ·exact hn _ _ ⟨M', hk, hd', hi'⟩
  ·rename_i f args
   refine (hk E F w' hd' hi').mono fun e w'' he => ?_
   cases e with
   | returned v => exact hn _ _ he
   | panicked c => exact hp _ _ he
   | outgrown => exact he.elim
 ·rename_i v w' hrun
  rw [hrun]
  exact hp _ _ hr
 ·exact hr.elim
theorem sO {N : Nat} {env : Nat → Value} {a : Act} (eE : dG N env a.tmps) (hfit : ∀ o ∈ ops.toList, mD N o = true) (o : Oper) :
  Region.wanted o (yielded ops a.tmps) = bK ops o env := by
 unfold Region.wanted bK
 cases hg : o.guard with
 | none => rfl
 | some jw =>
  obtain ⟨j, want⟩ := jw
  simp only
  have hy : yielded ops a.tmps j = match (lF ops j).map env with | some (.bool b) => some b | _ => none := by
   unfold yielded lF
   cases hj : ops[j]? with
   | none => rfl
   | some oj =>
    simp only [Option.bind_some]
    cases hd : oj.dst with
    | none => rfl
    | some s =>
     have hm : oj ∈ ops.toList := by have := Array.mem_of_getElem? hj; simpa using this
     have hs := (fR (hfit oj hm)).2.1 s hd
     simp only [Option.bind_some, eE.2 s hs, Option.map_some]
     cases env s <;> rfl
  rw [hy]
  cases (lF ops j).map env with
  | none => rfl
  | some v => cases v <;> first | rfl | (cases want <;> rename_i b <;> cases b <;> rfl)
structure Post (E : qY) (N : Nat) (Z : Act → Prop) (F : Mem) (K : (Nat → Value) → Mem → Prop) (Kp : List PanicEntry → Mem → Prop) (Q : Exit → Act → World → Prop) : Prop where
 normal : ∀ env M a w, dG N env a.tmps → Z a → M.dj F → (M.union F).In E w → K env M → Q .normal a w
 panic : ∀ c a w, Z a → fC E F (Kp c) w → Q (.panic c) a w
theorem put_defers {a : Act} {dst : Option Tmp} {v : Value} : (a.put dst v).defers = a.defers := by cases dst <;> rfl
theorem BM {N : Nat} {Z : Act → Prop} {F : Mem} {Q : Exit → Act → World → Prop} (hz : ∀ o ∈ ops.toList, ∀ (a : Act) (v : Value), Z a → Z (a.put o.dst v)) (hfit : ∀ o ∈ ops.toList, mD N o = true)
  (hp : ∀ c a w, Z a → fC E F (Kp c) w → Q (.panic c) a w) {i : Nat} {env : Nat → Value} {M : Mem} {a : Act} {w : World} {K' : (Nat → Value) → Mem → Prop} {next : Act → World → Prop}
  (eE : dG N env a.tmps) (hds : Z a) (hd : M.dj F) (hi : (M.union F).In E w)
  (hn : ∀ env' M' a' w', dG N env' a'.tmps → Z a' → M'.dj F → (M'.union F).In E w' → K' env' M' → next a' w') (h : fK C ops Kp i env M K') : wpOp C.P ops Q i next a w := by
 unfold wpOp
 unfold fK at h
 cases ho : ops[i]? with
 | none => rw [ho] at h; exact hn _ _ _ _ eE hds hd hi h
 | some o =>
  rw [ho] at h
  simp only at h
  have hm : o ∈ ops.toList := by have := Array.mem_of_getElem? ho; simpa using this
  have hf := hfit o hm
  simp only
  rw [sO eE hfit]
  unfold dO at h
  split
  ·rename_i hw
   rw [if_pos hw] at h
   refine .inl (vK (K := fun v M' => K' (aY env o.dst v) M') (Kp := Kp) (F := F) (by rw [← eE.execOp hf]; exact xu h) hd hi (fun v w' hv => ?_) (fun c w' hc => hp _ _ _ hds hc))
   obtain ⟨M', hk, hd', hi'⟩ := hv
   exact hn _ _ _ _ (eE.put (fR hf).2.1 v) (hz o hm _ _ hds) hd' hi' hk
  ·rename_i hw
   rw [if_neg hw] at h
   exact hn _ _ _ _ (eE.put (fR hf).2.1 undef) (hz o hm _ _ hds) hd hi h
def ou (ops : Array Oper) (arr : Array Bool) (L : Nat) : Prop := arr.size = ops.size ∧ ∀ i, i < ops.size → arr[i]? = some (L.testBit i)
theorem ou.add {arr : Array Bool} {L i : Nat} (h : ou ops arr L) (hi : i < ops.size) : ou ops (arr.setIfInBounds i true) (L ||| 2 ^ i) := by
 refine ⟨by simp [h.1], fun k hk => ?_⟩
 by_cases EX : i = k
 ·subst EX; simp [h.1, hi]
 ·rw [Array.getElem?_setIfInBounds_ne EX, h.2 k hk, dI]; simp [EX]
theorem uG {arr : Array Bool} {L : Nat} (h : ou ops arr L) (vL : ∀ (j : Nat) (o : Oper), ops[j]? = some o → ∀ e ∈ o.after, Region.binds .any e = true → e.on < ops.size) (i : Nat) :
  i ∈ Region.ready .any ops arr ↔ eV ops L i = true := by
 rw [mem_ready, bG]
 constructor
 ·rintro ⟨h0, o, ho, gz⟩
  have hlt := (Array.getElem?_eq_some_iff.1 ho).1
  refine ⟨?_, o, ho, fun e he hb => ?_⟩
  ·have := h.2 i hlt; simp [Array.getD_eq_getD_getElem?, this] at h0; exact h0
  ·have h1 := gz e he hb
   have := h.2 e.on (vL i o ho e he hb)
   simpa [Array.getD_eq_getD_getElem?, this] using h1
 ·rintro ⟨h0, o, ho, gz⟩
  have hlt := (Array.getElem?_eq_some_iff.1 ho).1
  refine ⟨by simp [Array.getD_eq_getD_getElem?, h.2 i hlt, h0], o, ho, fun e he hb => ?_⟩
  have := h.2 e.on (vL i o ho e he hb)
  simp [Array.getD_eq_getD_getElem?, this, gz e he hb]
theorem zD {S : Mem → Prop} {N : Nat} {Z : Act → Prop} {F : Mem} {Q : Exit → Act → World → Prop} (hz : ∀ o ∈ ops.toList, ∀ (a : Act) (v : Value), Z a → Z (a.put o.dst v)) (hfit : ∀ o ∈ ops.toList, mD N o = true)
  (vL : ∀ (j : Nat) (o : Oper), ops[j]? = some o → ∀ e ∈ o.after, Region.binds .any e = true → e.on < ops.size) (hpost : Post E N Z F K Kp Q) :
  ∀ (f L : Nat) (arr : Array Bool) (env : Nat → Value) (M : Mem) (a : Act) (w : World), ou ops arr L → dG N env a.tmps → Z a → M.dj F → (M.union F).In E w →
   dg C ops S K (uF Kp) f L env M → wpAny C.P .any ops Q f arr a w := by
 intro f
 induction f with
 | zero =>
  intro L arr env M a w hl eE hds hd hi h
  have eL : sK M := ⟨w.heap.size, fun b hb => by
   cases hm : M b with
   | none => rfl
   | some o => have := hi.lt (Mem.union_left (F := F) hm); omega⟩
  obtain ⟨h1, h2⟩ := h eL
  refine ⟨?_, hpost.normal _ _ _ _ eE hds hd hi h2⟩
  rw [List.eq_nil_iff_forall_not_mem]
  intro i hmem
  have := (uG hl vL i).1 hmem
  rw [h1 i] at this; cases this
 | succ f ih =>
  intro L arr env M a w hl eE hds hd hi h
  have eL : sK M := ⟨w.heap.size, fun b hb => by
   cases hm : M b with
   | none => rfl
   | some o => have := hi.lt (Mem.union_left (F := F) hm); omega⟩
  obtain ⟨h1, h2⟩ := h eL
  refine ⟨fun OV => ?_, fun i hmem => ?_⟩
  ·refine hpost.normal _ _ _ _ eE hds hd hi (h1 fun i => ?_)
   cases hr : eV ops L i with
   | false => rfl
   | true => have := (uG hl vL i).2 hr; rw [OV] at this; cases this
  ·have hr := (uG hl vL i).1 hmem
   obtain ⟨_, o, ho, _⟩ := bG.1 hr
   exact BM hz hfit (fun c a w h1 h2 => hpost.panic c a w h1 h2.up) eE hds hd hi (fun env' M' a' w' g1 g2 g3 g4 g5 => ih _ _ _ _ _ _ (hl.add (Array.getElem?_eq_some_iff.1 ho).1) g1 g2 g3 g4 g5.2) (h2 i hr)
def SD (C : Ctx) (ops : Array Oper) (K : (Nat → Value) → Mem → Prop) (Kp : List PanicEntry → Mem → Prop) : List Oper → (Nat → Value) → Mem → Prop
 | [], env, M => K env M
 | o :: rest, env, M => IM C ops o env M (fun env' M' => SD C ops K Kp rest env' M') Kp
end
end Go.AF
