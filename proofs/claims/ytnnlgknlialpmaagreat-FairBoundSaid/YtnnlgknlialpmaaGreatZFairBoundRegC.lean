/- A part of proofs about one program. -/
import Derived.Test.YtnnlgknlialpmaaGreatZFairBoundRegL
set_option linter.unusedVariables false
namespace Go.AF
variable {E : sB}
inductive Ex where
 | done
 | step (i : Nat) (t : Ex)
 | dw (i : Nat) (t : Ex)
 | late (i : Nat) (t : Ex)
 | fork (i : Nat) (a b : Ex)
 | dead
def vB (ops : Array Oper) (L tZ : Nat) : Bool := (List.range ops.size).all fun i => !fD ops L i || tZ.testBit i
def BH : List (Mem → Prop) → Mem → Prop → Prop
 | [], _, X => X
 | s :: l, M, X => s M ∧ BH l M X
def kN (l : List (Mem → Prop)) (M : Mem) : Prop := ∀ s ∈ l, s M
theorem kA : ∀ {l : List (Mem → Prop)} {M : Mem} {X : Prop}, BH l M X ↔ kN l M ∧ X
 | [], M, X => by simp [BH, kN]
 | s :: l, M, X => by
  simp only [BH, kA (l := l), kN, List.mem_cons, forall_eq_or_imp]
  constructor
  ·rintro ⟨a, b, c⟩; exact ⟨⟨a, b⟩, c⟩
  ·rintro ⟨⟨a, b⟩, c⟩; exact ⟨a, b, c⟩
def Gd (P : Program) (t : TypeId) (x : Value) (M : Mem) (K : Value → (Mem → Prop) → Prop) : Prop :=
 match x with
 | .pointer p => aF p fun b o =>
  match P.underlying t with
  | some (.struct _) | some (.array _ _) =>
   if (flat P 8 t).length = P.cellsOf t then
    FY M ⟨b, o, none⟩ (flat P 8 t) 0 fun vs => K (.agg vs.toArray) (fun M' => M'.g9 ⟨b, o, none⟩ 0 (P.cellsOf t) = some vs)
   else False
  | some d => DU (WQ d) (M.ld ⟨b, o, none⟩) fun v => K v (fun M' => M'.ld ⟨b, o, none⟩ = some v)
  | none => False
 | _ => False
def BI (P : Program) (ρ : Operand → Value) (o : Oper) (M : Mem) (K : Value → (Mem → Prop) → Prop) : Prop :=
 match o.op with
 | .load t a => Gd P t (ρ a) M K
 | _ => False
def Sk (C : Ctx) (ops : Array Oper) (o : Oper) (env : Nat → Value) (M : Mem) (K : (Nat → Value) → List (Mem → Prop) → Prop) : Prop :=
 match o.guard with
 | none => BI C.P (oU env) o M (fun v p => K (bl env o.dst v) [p])
 | some (j, want) => match mD ops j with
  | some s => match env s with
   | .bool e => match want with
    | true => aO e (BI C.P (oU (bl env (some s) (.bool true))) o M (fun v p => K (bl (bl env (some s) (.bool true)) o.dst v) [p])) (K (bl (bl env (some s) (.bool false)) o.dst undef) [])
    | false => aO e (K (bl (bl env (some s) (.bool true)) o.dst undef) []) (BI C.P (oU (bl env (some s) (.bool false))) o M (fun v p => K (bl (bl env (some s) (.bool false)) o.dst v) [p]))
   | _ => K (bl env o.dst undef) []
  | none => K (bl env o.dst undef) []
def Ge (P : Program) (ρ : Operand → Value) (o : Oper) : Prop :=
 match o.op with
 | .buildSlice t len parts => match P.underlying t with
  | some (.slice e) => match P.info? e with
   | some i => match i.zero with
    | some z => if z.cells.toList.length = i.size ∧ len * i.size ≤ 16777216 then
      (match yu (fun k => some (k * i.size, i.size)) (List.replicate len z.cells.toList).flatten (parts.toList.map fun p => (p.1, ρ p.2)) with
      | some _ => True
      | none => False) else False
    | none => False
   | none => False
  | _ => False
 | .alloc e => match zeroOf P e with
  | some _ => True
  | none => False
 | .box _ _ => True
 | _ => False
def qC (C : Ctx) (ops : Array Oper) (env : Nat → Value) (L i : Nat) : List Nat → Prop → Prop
 | [], X => X
 | j :: l, X => bif Nat.beq j i || !fD ops L j then qC C ops env L i l X else
   (match ops[j]? with
   | some o => Ge C.P (oU env) o ∧ qC C ops env L i l X
   | none => qC C ops env L i l X)
def Ee (P : Program) (o : Oper) : Bool := match cls P o with
 | .JE => true
 | _ => false
def behind (C : Ctx) (o : Oper) (Ss : List (Mem → Prop)) (M : Mem) (X : Prop) : Prop := bif Ee C.P o then BH Ss M X else X
def sG (C : Ctx) (ops : Array Oper) (eY : List Nat) (K : (Nat → Value) → Mem → Prop) (Kp : List PanicEntry → Mem → Prop) : Ex → List (Mem → Prop) → Nat → Nat → (Nat → Value) → Mem → Prop
 | .done, _, L, _, env, M => bif vB ops L 0 then K env M else False
 | .step i t, Ss, L, _, env, M => bif fD ops L i && yC C.P ops eY L i then
   (match ops[i]? with
   | some o => JJ C ops o env M (fun env' M' => behind C o Ss M' (sG C ops eY K Kp t Ss (L ||| 2 ^ i) 0 env' M')) Kp
   | none => False) else False
 | .dw i t, Ss, L, _, env, M => bif fD ops L i && po ops eY L i then
   (match ops[i]? with
   | some o => Sk C ops o env M (fun env' p => sG C ops eY K Kp t (p ++ Ss) (L ||| 2 ^ i) 0 env' M)
   | none => False) else False
 | .late i t, Ss, L, _, env, M => bif fD ops L i && wO C.P ops eY L i then
   (match ops[i]? with
   | some o => bif Ee C.P o then qC C ops env L i (List.range ops.size) (JJ C ops o env M (fun env' M' => BH Ss M' (sG C ops eY K Kp t Ss (L ||| 2 ^ i) 0 env' M')) Kp) else False
   | none => False) else False
 | .fork i a b, Ss, L, tZ, env, M => bif fD ops L i then
   (match ops[i]? with
   | some o => JJ C ops o env M (fun env' M' => behind C o Ss M' (sG C ops eY K Kp a Ss (L ||| 2 ^ i) 0 env' M')) Kp ∧ sG C ops eY K Kp b Ss L (tZ ||| 2 ^ i) env M
   | none => False) else False
 | .dead, _, L, tZ, _, _ => bif vB ops L tZ && !Nat.beq tZ 0 then True else False
def vC (Kp : List PanicEntry → Mem → Prop) : List PanicEntry → Mem → Prop := fun c M => ∃ M1, M1.le M ∧ Kp c M1
theorem Qd (Kp : List PanicEntry → Mem → Prop) : TG (vC Kp) := fun _ _ _ hle ⟨M1, h1, h2⟩ => ⟨M1, fun b o h => hle b o (h1 b o h), h2⟩
theorem fU.up {F : Mem} {Kp : List PanicEntry → Mem → Prop} {c : List PanicEntry} {w : World} (h : fU E F (vC Kp c) w) : fU E F (Kp c) w := by
 obtain ⟨M, ⟨M1, hle, hk⟩, hd, hi⟩ := h
 refine ⟨M1, hk, fun b => ?_, ⟨fun b o hb => ?_, hi.2⟩⟩
 ·rcases hd b with h | h
  ·left; cases hm : M1 b with
   | none => rfl
   | some o => rw [hle b o hm] at h; cases h
  ·exact .inr h
 ·unfold Mem.union at hb
  cases hm : M1 b with
  | some o' => rw [hm] at hb; cases hb; exact hi.1 b o (Mem.union_left (hle b o hm))
  | none =>
   rw [hm] at hb
   refine hi.1 b o ?_
   unfold Mem.union
   rcases hd b with h | h
   ·rw [h]; exact hb
   ·rw [h] at hb; cases hb
section
variable {C : Ctx} {ops : Array Oper} {K : (Nat → Value) → Mem → Prop} {Kp : List PanicEntry → Mem → Prop}
theorem kO {L tZ : Nat} (h : vB ops L tZ = true) (i : Nat) (hi : fD ops L i = true) : tZ.testBit i = true := by
 obtain ⟨_, o, ho, _⟩ := bM.1 hi
 have := List.all_eq_true.1 h i (List.mem_range.2 (Array.getElem?_eq_some_iff.1 ho).1)
 simpa [hi] using this
theorem JQ {S : Mem → Prop} {L : Nat} {env : Nat → Value} {M : Mem} (h : ∀ i, fD ops L i = false) (hk : K env M) : ∀ f, dH C ops S K Kp f L env M
 | 0 => fun _ => ⟨h, hk⟩
 | f + 1 => fun _ => ⟨fun _ => hk, fun i hi => by rw [h i] at hi; cases hi⟩
theorem cond_true {b : Bool} {X : Prop} (h : bif b then X else False) : b = true ∧ X := by cases b; exact h.elim; exact ⟨rfl, h⟩
theorem TI {ρ : Operand → Value} {o : Oper} {M : Mem} {K : Value → Mem → Prop} {vt : List PanicEntry → Mem → Prop} (h : r9 C ρ o M K Kp) (hp : ∀ c M', Kp c M' → vt c M') : r9 C ρ o M K vt := by
 unfold r9 at h ⊢
 split at h
 ·exact h
 ·exact h
 ·exact h
 ·refine iE C.P _ h (fun n M' hn => ?_) (fun _ _ h => hp _ _ h)
  cases n <;> first | exact hn.elim | exact hn | exact aa.mono hn (fun _ _ h => h) hp
theorem xR {o : Oper} {env : Nat → Value} {M : Mem} {vt : List PanicEntry → Mem → Prop} (h : ei C ops o env M K Kp) (hp : ∀ c M', Kp c M' → vt c M') : ei C ops o env M K vt := by
 unfold ei at h ⊢
 split
 ·rename_i hw; rw [if_pos hw] at h; exact TI h hp
 ·rename_i hw; rw [if_neg hw] at h; exact h
theorem JR {S S' : Mem → Prop} (hs : ∀ M, S M → S' M) : ∀ (f L : Nat) (env : Nat → Value) (M : Mem), dH C ops S K Kp f L env M → dH C ops S' K Kp f L env M := by
 intro f
 induction f with
 | zero => intro L env M h; exact h
 | succ f ih => intro L env M h fh; exact ⟨(h fh).1, fun j hj => BF ((h fh).2 j hj) fun env' M' hx => ⟨hs _ hx.1, ih _ _ _ hx.2⟩⟩
theorem pq {o : Oper} {env : Nat → Value} {M : Mem} {Ss : List (Mem → Prop)} {X : (Nat → Value) → Mem → Prop} (hS : wN (kN Ss)) (lp : kN Ss M)
  (h : ei C ops o env M (fun env' M' => behind C o Ss M' (X env' M')) Kp) : ei C ops o env M (fun env' M' => kN Ss M' ∧ X env' M') Kp := by
 unfold ei at h ⊢
 cases he : Ee C.P o with
 | true =>
  simp only [behind, he] at h
  split
  ·rename_i hw; rw [if_pos hw] at h; exact mE h fun v M' hv => kA.1 hv
  ·rename_i hw; rw [if_neg hw] at h; exact kA.1 h
 | false =>
  simp only [behind, he, cond_false] at h
  split
  ·rename_i hw; rw [if_pos hw] at h
   unfold r9 at h ⊢
   unfold Ee at he
   cases hc : cls C.P o <;> rw [hc] at h he <;> simp only at h ⊢
   ·obtain ⟨v, hv, h⟩ := h; exact ⟨v, hv, lp, h⟩
   ·obtain ⟨v, hv, h⟩ := h; exact ⟨v, hv, lp, h⟩
   ·obtain ⟨ob, k, hn, h⟩ := h
    exact ⟨ob, k, hn, fun b hb => let ⟨v, hv, h⟩ := h b hb; ⟨v, hv, hS _ _ (pg hb) lp, h⟩⟩
   ·simp at he
  ·rename_i hw; rw [if_neg hw] at h; exact ⟨lp, h⟩
theorem Ef {M M' : Mem} (h : M.le M') {a : Addr} : ∀ (n i : Nat) (vs : List Value), M.g9 a i n = some vs → M'.g9 a i n = some vs
 | 0, i, vs, hv => hv
 | n + 1, i, vs, hv => by
  simp only [Mem.g9] at hv ⊢
  cases hx : M.ld (a.add i) with
  | none => simp [hx] at hv
  | some v =>
   rw [Mem.LN h hx]
   simp only [hx] at hv
   cases hr : M.g9 a (i + 1) n with
   | none => simp [hr] at hv
   | some rest => rw [Ef h n (i + 1) rest hr]; rw [hr] at hv; exact hv
theorem Eg {P : Program} {t : TypeId} {x : Value} {M : Mem} {K : Value → (Mem → Prop) → Prop} (h : Gd P t x M K) :
  ∃ v p, (∀ M', p M' → bL P (Instr.loadAt t x) M' = some v) ∧ p M ∧ wN p ∧ K v p := by
 unfold Gd at h
 cases x <;> try exact h.elim
 rename_i p
 obtain ⟨b, o, hp, h2⟩ := je h
 subst hp
 clear h
 cases hd : P.underlying t with
 | none => rw [hd] at h2; exact h2.elim
 | some d =>
  rw [hd] at h2
  have agg : vu d = true → (if (flat P 8 t).length = P.cellsOf t then FY M ⟨b, o, none⟩ (flat P 8 t) 0 fun vs => K (.agg vs.toArray) (fun M' => M'.g9 ⟨b, o, none⟩ 0 (P.cellsOf t) = some vs) else False) →
    ∃ v p, (∀ M', p M' → bL P (Instr.loadAt t (.pointer (some ⟨b, o, none⟩))) M' = some v) ∧ p M ∧ wN p ∧ K v p := by
   intro eX h
   split at h
   ·rename_i hl
    obtain ⟨vs, hvs, h⟩ := vv h
    rw [hl] at hvs
    exact ⟨_, _, fun M' hm => o5 hd eX rfl hm, hvs, fun M1 M2 hle h1 => Ef hle _ _ _ h1, h⟩
   ·exact h.elim
  cases d with
  | struct fs => exact agg rfl h2
  | array m e => exact agg rfl h2
  | _ => (obtain ⟨v, hv, h⟩ := oZ h2; exact ⟨v, _, fun M' hm => wK hd rfl hm, hv, fun M1 M2 hle h1 => Mem.LN hle h1, h⟩)
theorem Gf {P : Program} {ρ : Operand → Value} {o : Oper} {M : Mem} {K : Value → (Mem → Prop) → Prop} (h : BI P ρ o M K) :
  cls P o = .read ∧ ∃ v p, (∀ M', p M' → bL P (execOp ρ o) M' = some (.value v)) ∧ p M ∧ wN p ∧ K v p := by
 unfold BI at h
 split at h
 ·rename_i t a ho
  obtain ⟨v, p, h1, h2, h3, h4⟩ := Eg h
  obtain ⟨dst, op, type, pos, after, guard⟩ := o
  simp only at ho; subst ho
  exact ⟨rfl, v, p, fun M' hp => gq (h1 M' hp), h2, h3, h4⟩
 ·exact h.elim
theorem Eh {o : Oper} {env : Nat → Value} (h : Ge C.P (oU env) o) : Ij C.P ops env o := by
 intro _
 unfold Ge at h
 split at h
 ·rename_i t len parts ho
  split at h
  ·rename_i e hu
   split at h
   ·rename_i i hi
    split at h
    ·rename_i z hz
     split at h
     ·rename_i hc
      split at h
      ·rename_i cs hcs
       have hb : Mb C.P (oU env) o Mem.empty (fun _ _ => True) := by
        unfold Mb; rw [ho]; simp only
        unfold P4; rw [hu]; simp only
        rw [hi]; simp only
        rw [hz]; simp only
        rw [if_pos hc, hcs]
        exact fun _ _ => trivial
       obtain ⟨ob, k, hn, hk⟩ := Ii hb
       exact ⟨ob, k, hn, fun b => let ⟨v, hv, _⟩ := hk b rfl; ⟨v, hv⟩⟩
      ·exact h.elim
     ·exact h.elim
    ·exact h.elim
   ·exact h.elim
  ·exact h.elim
 ·rename_i e ho
  obtain ⟨dst, op, type, pos, after, guard⟩ := o
  simp only at ho; subst ho
  split at h
  ·rename_i z hz
   unfold zeroOf at hz
   cases hi : C.P.info? e with
   | none => simp [hi] at hz
   | some i =>
    simp only [hi, Option.bind_some] at hz
    refine ⟨.cells z.cells e, fun b => pure (Next.value (.pointer (some ⟨b, 0, none⟩))), ?_, fun b => ⟨_, rfl⟩⟩
    simp only [execOp]
    rw [D6 C.P (Instr.alloc e true (.tuple #[])) _ (ob := .cells z.cells e) (k := fun b => pure (.pointer (some ⟨b, 0, none⟩))) (by
     unfold Instr.alloc
     rw [CO C.P _ _ (Ih hi hz)]
     rfl)]
    rfl
  ·exact h.elim
 ·rename_i e x ho
  obtain ⟨dst, op, type, pos, after, guard⟩ := o
  simp only at ho; subst ho
  exact ⟨.cells (oU env x).cells e, fun b => pure (Next.value (.pointer (some ⟨b, 0, none⟩))), rfl, fun b => ⟨_, rfl⟩⟩
 ·exact h.elim
theorem jZ {env : Nat → Value} {L i : Nat} : ∀ {l : List Nat} {X : Prop}, qC C ops env L i l X → X ∧ ∀ j ∈ l, j ≠ i → fD ops L j = true → ∀ oj, ops[j]? = some oj → Ij C.P ops env oj
 | [], X, h => ⟨h, fun j hj => by cases hj⟩
 | j :: l, X, h => by
  unfold qC at h
  cases hb : (Nat.beq j i || !fD ops L j) with
  | true =>
   rw [hb] at h
   obtain ⟨h1, h2⟩ := jZ (l := l) h
   refine ⟨h1, fun k hk FO hr oj jg => ?_⟩
   rcases List.mem_cons.1 hk with rfl | hk
   ·simp only [Bool.or_eq_true, Bool.not_eq_true', hr] at hb
    rcases hb with hb | hb
    ·exact absurd (Nat.eq_of_beq_eq_true hb) FO
    ·cases hb
   ·exact h2 k hk FO hr oj jg
  | false =>
   rw [hb] at h
   simp only [cond_false] at h
   cases ho : ops[j]? with
   | none =>
    rw [ho] at h
    obtain ⟨h1, h2⟩ := jZ (l := l) h
    refine ⟨h1, fun k hk FO hr oj jg => ?_⟩
    rcases List.mem_cons.1 hk with rfl | hk
    ·rw [ho] at jg; cases jg
    ·exact h2 k hk FO hr oj jg
   | some o =>
    rw [ho] at h
    obtain ⟨h0, h⟩ := h
    obtain ⟨h1, h2⟩ := jZ (l := l) h
    refine ⟨h1, fun k hk FO hr oj jg => ?_⟩
    rcases List.mem_cons.1 hk with rfl | hk
    ·rw [ho] at jg; cases jg; exact Eh h0
    ·exact h2 k hk FO hr oj jg
theorem BJ {i : Nat} {o : Oper} (ho : ops[i]? = some o) (hsel : ∀ (j : Nat) (o : Oper) cs b, ops[j]? = some o → o.op ≠ .select cs b) {eY : List Nat} (ha : om ops eY = true) {S : Mem → Prop} {Kp : List PanicEntry → Mem → Prop} :
  ∀ (f L : Nat) (env : Nat → Value) (M : Mem), S M → Dn ops L → po ops eY L i = true → fD ops L i = true → bQ ops o env = false →
   dH C ops S K Kp f (L ||| 2 ^ i) (bl env o.dst undef) M → dH C ops S K Kp (f + 1) L env M
 | 0, L, env, M, lp, hd, hf, hr, hw, hx => fun fh => by
  refine ⟨fun hno => (by rw [hno i] at hr; cases hr), fun j hj => ?_⟩
  by_cases jC : j = i
  ·subst jC; unfold gm; rw [ho]; exact lG hw ⟨lp, hx⟩
  ·have hj' := fN (i := i) hj jC
   have := (hx fh).1 j; rw [this] at hj'; cases hj'
 | f + 1, L, env, M, lp, hd, hf, hr, hw, hx => fun fh => by
  obtain ⟨hL, o1, ho1, gS⟩ := bM.1 hr
  rw [ho] at ho1; cases ho1
  refine ⟨fun hno => (by rw [hno i] at hr; cases hr), fun j hj => ?_⟩
  by_cases jC : j = i
  ·subst jC; unfold gm; rw [ho]; exact lG hw ⟨lp, hx⟩
  ·obtain ⟨JL, oj, jg, hallj⟩ := bM.1 hj
   have hap := Ec ho ha hd hf hr hj jg jC
   obtain ⟨a1, a2, a3⟩ := Oper.apart_spec hap
   have hj' := fN (i := i) hj jC
   have iX := (hx fh).2 j hj'
   unfold gm at iX ⊢; rw [jg] at iX ⊢; simp only at iX ⊢
   rw [tY L i j] at iX
   have h2 := pn hap (fun cs b => hsel j oj cs b jg) iX
   have fin : ∀ u M1, S M1 ∧ dH C ops S K Kp f (L ||| 2 ^ j ||| 2 ^ i) (bl (bl env oj.dst u) o.dst undef) M1 →
     S M1 ∧ dH C ops S K Kp (f + 1) (L ||| 2 ^ j) (bl env oj.dst u) M1 := fun u M1 hy =>
    ⟨hy.1, BJ ho hsel ha f (L ||| 2 ^ j) (bl env oj.dst u) M1 hy.1 (hd.add hj) (yD ho hf) (fN hr (Ne.symm jC)) ((eA o env oj.dst u a3).trans hw) hy.2⟩
   unfold ei at h2 ⊢
   split
   ·rename_i Mg; rw [if_pos Mg] at h2; exact mE h2 fun u M1 hy => fin u M1 hy
   ·rename_i Mg; rw [if_neg Mg] at h2; exact fin _ _ h2
theorem Gg (hC : C.Good) (hsel : ∀ (j : Nat) (o : Oper) cs b, ops[j]? = some o → o.op ≠ .select cs b) {eY : List Nat} (ha : om ops eY = true) (t : Ex) :
  ∀ (Ss : List (Mem → Prop)), wN (kN Ss) →
  (∀ (L : Nat) (env : Nat → Value) (M : Mem), kN Ss M → Dn ops L → sG C ops eY K Kp t Ss L 0 env M → dH C ops (kN Ss) K (vC Kp) (xQ ops.size L) L env M) ∧
  (∀ (L tZ : Nat) (env : Nat → Value) (M : Mem) (f : Nat), kN Ss M → xQ ops.size L = f + 1 → tX M → Dn ops L → sG C ops eY K Kp t Ss L tZ env M → tZ ≠ 0 →
   ∀ i, fD ops L i = true → tZ.testBit i = false → gm C ops (vC Kp) i env M fun env' M' => kN Ss M' ∧ dH C ops (kN Ss) K (vC Kp) f (L ||| 2 ^ i) env' M') := by
 have kp : ∀ c M', Kp c M' → vC Kp c M' := fun c M' h => ⟨M', fun _ _ h => h, h⟩
 have both : ∀ (t : Ex) (Ss : List (Mem → Prop)), (∀ (L : Nat) (tZ : Nat) (env : Nat → Value) (M : Mem), kN Ss M → Dn ops L → sG C ops eY K Kp t Ss L tZ env M → dH C ops (kN Ss) K (vC Kp) (xQ ops.size L) L env M) →
   (∀ (L : Nat) (env : Nat → Value) (M : Mem), kN Ss M → Dn ops L → sG C ops eY K Kp t Ss L 0 env M → dH C ops (kN Ss) K (vC Kp) (xQ ops.size L) L env M) ∧
   (∀ (L tZ : Nat) (env : Nat → Value) (M : Mem) (f : Nat), kN Ss M → xQ ops.size L = f + 1 → tX M → Dn ops L → sG C ops eY K Kp t Ss L tZ env M → tZ ≠ 0 →
    ∀ i, fD ops L i = true → tZ.testBit i = false → gm C ops (vC Kp) i env M fun env' M' => kN Ss M' ∧ dH C ops (kN Ss) K (vC Kp) f (L ||| 2 ^ i) env' M') := fun t Ss h =>
  ⟨fun L env M => h L 0 env M, fun L tZ env M f lp Mk fh hd ht _ j hj _ => by
   have hh := h L tZ env M lp hd ht
   rw [Mk] at hh
   exact (hh fh).2 j hj⟩
 induction t with
 | done =>
  intro Ss hS
  refine ⟨fun L env M lp hd h => ?_, fun L tZ env M f _ _ _ hd h XC i hi WY => ?_⟩
  ·obtain ⟨h1, h2⟩ := cond_true h
   refine JQ (fun i => ?_) h2 _
   cases hr : fD ops L i with
   | false => rfl
   | true => have := kO h1 i hr; simp at this
  ·obtain ⟨h1, h2⟩ := cond_true h
   have := kO h1 i hi; simp at this
 | step i t ih =>
  intro Ss hS
  refine both _ _ fun L tZ env M lp hd h => ?_
  obtain ⟨h1, h2⟩ := cond_true h
  simp only [Bool.and_eq_true] at h1
  obtain ⟨hr, hf⟩ := h1
  obtain ⟨hL, o, ho, gS⟩ := bM.1 hr
  rw [ho] at h2; simp only at h2
  rw [lH (Array.getElem?_eq_some_iff.1 ho).1 hL]
  refine Gc hS ho hsel ha _ L env M lp hd hf hr ?_
  unfold gm; rw [ho]; simp only
  exact jf (xR (pq hS lp (iH hC h2)) kp) fun env' M' hx => ⟨hx.1, (ih Ss hS).1 _ env' M' hx.1 (hd.add hr) hx.2⟩
 | dw i t ih =>
  intro Ss hS
  refine both _ _ fun L tZ env M lp hd h => ?_
  obtain ⟨h1, h2⟩ := cond_true h
  simp only [Bool.and_eq_true] at h1
  obtain ⟨hr, hf⟩ := h1
  obtain ⟨hL, o, ho, gS⟩ := bM.1 hr
  rw [ho] at h2; simp only at h2
  rw [lH (Array.getElem?_eq_some_iff.1 ho).1 hL]
  have yes : bQ ops o env = true → BI C.P (oU env) o M (fun v p => sG C ops eY K Kp t ([p] ++ Ss) (L ||| 2 ^ i) 0 (bl env o.dst v) M) →
    dH C ops (kN Ss) K (vC Kp) (xQ ops.size (L ||| 2 ^ i) + 1) L env M := fun hw hp => by
   obtain ⟨hc, v, p, p1, p2, p3, p4⟩ := Gf hp
   have hS' : wN (kN ([p] ++ Ss)) := fun M1 M2 hle hx s hs => by
    rcases List.mem_cons.1 hs with rfl | hs
    ·exact p3 _ _ hle (hx _ (List.mem_cons_self ..))
    ·exact hS M1 M2 hle (fun s hs => hx s (List.mem_cons_of_mem _ hs)) s hs
   have hSM' : kN ([p] ++ Ss) M := fun s hs => by
    rcases List.mem_cons.1 hs with rfl | hs
    ·exact p2
    ·exact lp s hs
   refine JM ho hsel ha hc (s := execOp (oU env) o) (v := v) _ L env M hd hf hr hw rfl (p1 M p2) lp ?_
   refine JR (fun M' hx => ?_) _ _ _ _ ((ih _ hS').1 _ _ M hSM' (hd.add hr) p4)
   exact ⟨fun s hs => hx s (List.mem_cons_of_mem _ hs), p1 M' (hx p (List.mem_cons_self ..))⟩
  have no : bQ ops o env = false → sG C ops eY K Kp t ([] ++ Ss) (L ||| 2 ^ i) 0 (bl env o.dst undef) M →
    dH C ops (kN Ss) K (vC Kp) (xQ ops.size (L ||| 2 ^ i) + 1) L env M := fun hw hp =>
   BJ ho hsel ha _ L env M lp hd hf hr hw ((ih Ss hS).1 _ _ M lp (hd.add hr) hp)
  unfold Sk at h2
  cases hg : o.guard with
  | none => rw [hg] at h2; exact yes (tV hg) h2
  | some jw =>
   obtain ⟨j, want⟩ := jw
   rw [hg] at h2
   simp only at h2
   cases hs : mD ops j with
   | none => rw [hs] at h2; exact no (yB hg hs) h2
   | some s =>
    rw [hs] at h2
    simp only at h2
    cases he : env s <;> rw [he] at h2 <;> simp only at h2
    case bool e =>
     have hw := tW hg hs he
     cases e
     ·rw [mF he] at h2
      cases want <;> simp only [aO] at h2
      ·exact yes hw h2
      ·exact no hw h2
     ·rw [mF he] at h2
      cases want <;> simp only [aO] at h2
      ·exact no hw h2
      ·exact yes hw h2
    all_goals exact no (sg hg hs (by simp [he])) h2
 | late i t ih =>
  intro Ss hS
  refine both _ _ fun L tZ env M lp hd h => ?_
  obtain ⟨h1, h2⟩ := cond_true h
  simp only [Bool.and_eq_true] at h1
  obtain ⟨hr, hl⟩ := h1
  obtain ⟨hL, o, ho, gS⟩ := bM.1 hr
  rw [ho] at h2; simp only at h2
  obtain ⟨he, h2⟩ := cond_true h2
  have hce : cls C.P o = .JE := by unfold Ee at he; cases hc : cls C.P o <;> rw [hc] at he <;> simp at he
  obtain ⟨h3, h4⟩ := jZ h2
  have hc := lH (n := ops.size) (Array.getElem?_eq_some_iff.1 ho).1 hL
  rw [hc]
  refine JO hS (Qd Kp) ho hce hsel ha _ L env M hc lp hd hl hr (fun j oj hj jg jC => h4 j (List.mem_range.2 (Array.getElem?_eq_some_iff.1 jg).1) jC hj oj jg) ?_
  unfold gm; rw [ho]; simp only
  exact jf (xR (iH hC h3) kp) fun env' M' hx => ⟨(kA.1 hx).1, (ih Ss hS).1 _ env' M' (kA.1 hx).1 (hd.add hr) (kA.1 hx).2⟩
 | fork i a b iha ihb =>
  intro Ss hS
  refine ⟨fun L env M lp hd h => ?_, fun L tZ env M f lp Mk fh hd h XC j hj DM => ?_⟩
  ·obtain ⟨hr, h2⟩ := cond_true h
   obtain ⟨hL, o, ho, gS⟩ := bM.1 hr
   rw [ho] at h2; simp only at h2
   have hc := lH (n := ops.size) (Array.getElem?_eq_some_iff.1 ho).1 hL
   rw [hc]
   refine fun fh => ⟨fun hno => (by rw [hno i] at hr; cases hr), fun j hj => ?_⟩
   by_cases jC : j = i
   ·subst jC
    unfold gm; rw [ho]; simp only
    exact jf (xR (pq hS lp (iH hC h2.1)) kp) fun env' M' hx => ⟨hx.1, (iha Ss hS).1 _ env' M' hx.1 (hd.add hr) hx.2⟩
   ·exact (ihb Ss hS).2 L (0 ||| 2 ^ i) env M (xQ ops.size (L ||| 2 ^ i)) lp hc fh hd h2.2 (by simp) j hj (by rw [dV]; simp [Ne.symm jC])
  ·obtain ⟨hr, h2⟩ := cond_true h
   obtain ⟨hL, o, ho, gS⟩ := bM.1 hr
   rw [ho] at h2; simp only at h2
   have hc := lH (n := ops.size) (Array.getElem?_eq_some_iff.1 ho).1 hL
   by_cases jC : j = i
   ·subst jC
    unfold gm; rw [ho]; simp only
    have hf : f = xQ ops.size (L ||| 2 ^ j) := by omega
    subst hf
    exact jf (xR (pq hS lp (iH hC h2.1)) kp) fun env' M' hx => ⟨hx.1, (iha Ss hS).1 _ env' M' hx.1 (hd.add hr) hx.2⟩
   ·exact (ihb Ss hS).2 L (tZ ||| 2 ^ i) env M f lp Mk fh hd h2.2 (by intro h0; have := dV tZ i i; rw [h0] at this; simp at this) j hj (by rw [dV, DM]; simp [Ne.symm jC])
 | dead =>
  intro Ss hS
  refine ⟨fun L env M lp hd h => ?_, fun L tZ env M f _ _ _ hd h XC i hi WY => ?_⟩
  ·obtain ⟨h1, _⟩ := cond_true h
   simp at h1
  ·obtain ⟨h1, _⟩ := cond_true h
   simp only [Bool.and_eq_true] at h1
   have := kO h1.1 i hi; rw [WY] at this; cases this
theorem wQ {P : Program} {a : Act} {o : Oper} {M F : Mem} {w : World} {K : Value → Mem → Prop} {Kp : List PanicEntry → Mem → Prop} {next : Act → World → Prop} {Q : Exit → Act → World → Prop}
  (h : dy P (execOp a.eval o) M (mC P K Kp) (fun v M' => Kp [{ v, recovered := false }] M')) (hd : M.dj F) (hi : (M.union F).In E w)
  (hn : ∀ v w', fU E F (K v) w' → next (a.put o.dst v) w') (hp : ∀ c w', fU E F (Kp c) w' → Q (.panic c) a w') : o.wp P a w next Q := by
 have hr := Jw P _ h hd hi
 unfold jd at hr
 unfold Oper.wp
 split at hr
 ·rename_i n w' hrun
  rw [hrun]
  obtain ⟨M', hk, hd', hi'⟩ := hr
  cases n <;> first | exact hk.elim | skip
  ·exact hn _ _ ⟨M', hk, hd', hi'⟩
  ·exact hn _ _ ⟨M', hk, hd', hi'⟩
  ·rename_i f args
   refine (hk E F w' hd' hi').mono fun e w'' he => ?_
   cases e with
   | returned v => exact hn _ _ he
   | panicked c => exact hp _ _ he
   | outgrown => exact he.elim
 ·rename_i v w' hrun
  rw [hrun]
  exact hp _ _ hr
 ·exact hr.elim
theorem ua {N : Nat} {env : Nat → Value} {a : Act} (eX : dS N env a.tmps) (hfit : ∀ o ∈ ops.toList, nx N o = true) (o : Oper) :
  Region.wanted o (yielded ops a.tmps) = bQ ops o env := by
 unfold Region.wanted bQ
 cases hg : o.guard with
 | none => rfl
 | some jw =>
  obtain ⟨j, want⟩ := jw
  simp only
  have hy : yielded ops a.tmps j = match (mD ops j).map env with | some (.bool b) => some b | _ => none := by
   unfold yielded mD
   cases hj : ops[j]? with
   | none => rfl
   | some oj =>
    simp only [Option.bind_some]
    cases hd : oj.dst with
    | none => rfl
    | some s =>
     have hm : oj ∈ ops.toList := by have := Array.mem_of_getElem? hj; simpa using this
     have hs := (gv (hfit oj hm)).2.1 s hd
     simp only [Option.bind_some, eX.2 s hs, Option.map_some]
     cases env s <;> rfl
  rw [hy]
  cases (mD ops j).map env with
  | none => rfl
  | some v => cases v <;> first | rfl | (cases want <;> rename_i b <;> cases b <;> rfl)
structure Post (E : sB) (N : Nat) (Z : Act → Prop) (F : Mem) (K : (Nat → Value) → Mem → Prop) (Kp : List PanicEntry → Mem → Prop) (Q : Exit → Act → World → Prop) : Prop where
 normal : ∀ env M a w, dS N env a.tmps → Z a → M.dj F → (M.union F).In E w → K env M → Q .normal a w
 panic : ∀ c a w, Z a → fU E F (Kp c) w → Q (.panic c) a w
theorem put_defers {a : Act} {dst : Option Tmp} {v : Value} : (a.put dst v).defers = a.defers := by cases dst <;> rfl
theorem CS {N : Nat} {Z : Act → Prop} {F : Mem} {Q : Exit → Act → World → Prop} (hz : ∀ o ∈ ops.toList, ∀ (a : Act) (v : Value), Z a → Z (a.put o.dst v)) (hfit : ∀ o ∈ ops.toList, nx N o = true)
  (hp : ∀ c a w, Z a → fU E F (Kp c) w → Q (.panic c) a w) {i : Nat} {env : Nat → Value} {M : Mem} {a : Act} {w : World} {K' : (Nat → Value) → Mem → Prop} {next : Act → World → Prop}
  (eX : dS N env a.tmps) (hds : Z a) (hd : M.dj F) (hi : (M.union F).In E w)
  (hn : ∀ env' M' a' w', dS N env' a'.tmps → Z a' → M'.dj F → (M'.union F).In E w' → K' env' M' → next a' w') (h : gm C ops Kp i env M K') : wpOp C.P ops Q i next a w := by
 unfold wpOp
 unfold gm at h
 cases ho : ops[i]? with
 | none => rw [ho] at h; exact hn _ _ _ _ eX hds hd hi h
 | some o =>
  rw [ho] at h
  simp only at h
  have hm : o ∈ ops.toList := by have := Array.mem_of_getElem? ho; simpa using this
  have hf := hfit o hm
  simp only
  rw [ua eX hfit]
  unfold ei at h
  split
  ·rename_i hw
   rw [if_pos hw] at h
   refine .inl (wQ (K := fun v M' => K' (bl env o.dst v) M') (Kp := Kp) (F := F) (by rw [← eX.execOp hf]; exact yA h) hd hi (fun v w' hv => ?_) (fun c w' hc => hp _ _ _ hds hc))
   obtain ⟨M', hk, hd', hi'⟩ := hv
   exact hn _ _ _ _ (eX.put (gv hf).2.1 v) (hz o hm _ _ hds) hd' hi' hk
  ·rename_i hw
   rw [if_neg hw] at h
   exact hn _ _ _ _ (eX.put (gv hf).2.1 undef) (hz o hm _ _ hds) hd hi h
def pz (ops : Array Oper) (arr : Array Bool) (L : Nat) : Prop := arr.size = ops.size ∧ ∀ i, i < ops.size → arr[i]? = some (L.testBit i)
theorem pz.add {arr : Array Bool} {L i : Nat} (h : pz ops arr L) (hi : i < ops.size) : pz ops (arr.setIfInBounds i true) (L ||| 2 ^ i) := by
 refine ⟨by simp [h.1], fun k hk => ?_⟩
 by_cases FO : i = k
 ·subst FO; simp [h.1, hi]
 ·rw [Array.getElem?_setIfInBounds_ne FO, h.2 k hk, dV]; simp [FO]
theorem vD {arr : Array Bool} {L : Nat} (h : pz ops arr L) (wR : ∀ (j : Nat) (o : Oper), ops[j]? = some o → ∀ e ∈ o.after, Region.binds .any e = true → e.on < ops.size) (i : Nat) :
  i ∈ Region.ready .any ops arr ↔ fD ops L i = true := by
 rw [mem_ready, bM]
 constructor
 ·rintro ⟨h0, o, ho, gS⟩
  have hlt := (Array.getElem?_eq_some_iff.1 ho).1
  refine ⟨?_, o, ho, fun e he hb => ?_⟩
  ·have := h.2 i hlt; simp [Array.getD_eq_getD_getElem?, this] at h0; exact h0
  ·have h1 := gS e he hb
   have := h.2 e.on (wR i o ho e he hb)
   simpa [Array.getD_eq_getD_getElem?, this] using h1
 ·rintro ⟨h0, o, ho, gS⟩
  have hlt := (Array.getElem?_eq_some_iff.1 ho).1
  refine ⟨by simp [Array.getD_eq_getD_getElem?, h.2 i hlt, h0], o, ho, fun e he hb => ?_⟩
  have := h.2 e.on (wR i o ho e he hb)
  simp [Array.getD_eq_getD_getElem?, this, gS e he hb]
theorem AK {S : Mem → Prop} {N : Nat} {Z : Act → Prop} {F : Mem} {Q : Exit → Act → World → Prop} (hz : ∀ o ∈ ops.toList, ∀ (a : Act) (v : Value), Z a → Z (a.put o.dst v)) (hfit : ∀ o ∈ ops.toList, nx N o = true)
  (wR : ∀ (j : Nat) (o : Oper), ops[j]? = some o → ∀ e ∈ o.after, Region.binds .any e = true → e.on < ops.size) (hpost : Post E N Z F K Kp Q) :
  ∀ (f L : Nat) (arr : Array Bool) (env : Nat → Value) (M : Mem) (a : Act) (w : World), pz ops arr L → dS N env a.tmps → Z a → M.dj F → (M.union F).In E w →
   dH C ops S K (vC Kp) f L env M → wpAny C.P .any ops Q f arr a w := by
 intro f
 induction f with
 | zero =>
  intro L arr env M a w hl eX hds hd hi h
  have fh : tX M := ⟨w.heap.size, fun b hb => by
   cases hm : M b with
   | none => rfl
   | some o => have := hi.lt (Mem.union_left (F := F) hm); omega⟩
  obtain ⟨h1, h2⟩ := h fh
  refine ⟨?_, hpost.normal _ _ _ _ eX hds hd hi h2⟩
  rw [List.eq_nil_iff_forall_not_mem]
  intro i hmem
  have := (vD hl wR i).1 hmem
  rw [h1 i] at this; cases this
 | succ f ih =>
  intro L arr env M a w hl eX hds hd hi h
  have fh : tX M := ⟨w.heap.size, fun b hb => by
   cases hm : M b with
   | none => rfl
   | some o => have := hi.lt (Mem.union_left (F := F) hm); omega⟩
  obtain ⟨h1, h2⟩ := h fh
  refine ⟨fun Qe => ?_, fun i hmem => ?_⟩
  ·refine hpost.normal _ _ _ _ eX hds hd hi (h1 fun i => ?_)
   cases hr : fD ops L i with
   | false => rfl
   | true => have := (vD hl wR i).2 hr; rw [Qe] at this; cases this
  ·have hr := (vD hl wR i).1 hmem
   obtain ⟨_, o, ho, _⟩ := bM.1 hr
   exact CS hz hfit (fun c a w h1 h2 => hpost.panic c a w h1 h2.up) eX hds hd hi (fun env' M' a' w' g1 g2 g3 g4 g5 => ih _ _ _ _ _ _ (hl.add (Array.getElem?_eq_some_iff.1 ho).1) g1 g2 g3 g4 g5.2) (h2 i hr)
def TJ (C : Ctx) (ops : Array Oper) (K : (Nat → Value) → Mem → Prop) (Kp : List PanicEntry → Mem → Prop) : List Oper → (Nat → Value) → Mem → Prop
 | [], env, M => K env M
 | o :: rest, env, M => JJ C ops o env M (fun env' M' => TJ C ops K Kp rest env' M') Kp
end
end Go.AF
