/- A part of proofs about one program. -/
import Derived.Test.YtnnlgknlialpmaaGreatZTaperSumsRegL
set_option linter.unusedVariables false
namespace Go.AF
variable {E : tX}
inductive Ex where
 | done
 | step (i : Nat) (t : Ex)
 | cE (i : Nat) (t : Ex)
 | late (i : Nat) (t : Ex)
 | fork (i : Nat) (a b : Ex)
 | dead
def w6 (ops : Array Oper) (L vu : Nat) : Bool := (List.range ops.size).all fun i => !fT ops L i || vu.testBit i
def CY : List (Mem → Prop) → Mem → Prop → Prop
 | [], _, X => X
 | s :: l, M, X => s M ∧ CY l M X
def lB (l : List (Mem → Prop)) (M : Mem) : Prop := ∀ s ∈ l, s M
theorem kV : ∀ {l : List (Mem → Prop)} {M : Mem} {X : Prop}, CY l M X ↔ lB l M ∧ X
 | [], M, X => by simp [CY, lB]
 | s :: l, M, X => by
  simp only [CY, kV (l := l), lB, List.mem_cons, forall_eq_or_imp]
  constructor
  ·rintro ⟨a, b, c⟩; exact ⟨⟨a, b⟩, c⟩
  ·rintro ⟨⟨a, b⟩, c⟩; exact ⟨a, b, c⟩
def Ip (P : Program) (t : TypeId) (x : Value) (M : Mem) (K : Value → (Mem → Prop) → Prop) : Prop :=
 match x with
 | .pointer p => aE p fun b o =>
  match P.underlying t with
  | some (.struct _) | some (.array _ _) =>
   if (flat P 8 t).length = P.cellsOf t then
    H8 M ⟨b, o, none⟩ (flat P 8 t) 0 fun vs => K (.agg vs.toArray) (fun M' => M'.gd ⟨b, o, none⟩ 0 (P.cellsOf t) = some vs)
   else False
  | some d => Fp (Y6 d) (M.ld ⟨b, o, none⟩) fun v => K v (fun M' => M'.ld ⟨b, o, none⟩ = some v)
  | none => False
 | _ => False
def CZ (P : Program) (ρ : Operand → Value) (o : Oper) (M : Mem) (K : Value → (Mem → Prop) → Prop) : Prop :=
 match o.op with
 | .load t a => Ip P t (ρ a) M K
 | _ => False
def UX (C : Ctx) (ops : Array Oper) (o : Oper) (env : Nat → Value) (M : Mem) (K : (Nat → Value) → List (Mem → Prop) → Prop) : Prop :=
 match o.guard with
 | none => CZ C.P (pL env) o M (fun v p => K (bx env o.dst v) [p])
 | some (j, want) => match m5 ops j with
  | some s => match env s with
   | .bool e => match want with
    | true => aQ e (CZ C.P (pL (bx env (some s) (.bool true))) o M (fun v p => K (bx (bx env (some s) (.bool true)) o.dst v) [p])) (K (bx (bx env (some s) (.bool false)) o.dst undef) [])
    | false => aQ e (K (bx (bx env (some s) (.bool true)) o.dst undef) []) (CZ C.P (pL (bx env (some s) (.bool false))) o M (fun v p => K (bx (bx env (some s) (.bool false)) o.dst v) [p]))
   | _ => K (bx env o.dst undef) []
  | none => K (bx env o.dst undef) []
def Iq (P : Program) (ρ : Operand → Value) (o : Oper) : Prop :=
 match o.op with
 | .buildSlice t len parts => match P.underlying t with
  | some (.slice e) => match P.info? e with
   | some i => match i.zero with
    | some z => if z.cells.toList.length = i.size ∧ len * i.size ≤ 16777216 then
      (match Ad (fun k => some (k * i.size, i.size)) (List.replicate len z.cells.toList).flatten (parts.toList.map fun p => (p.1, ρ p.2)) with
      | some _ => True
      | none => False) else False
    | none => False
   | none => False
  | _ => False
 | .alloc e => match zeroOf P e with
  | some _ => True
  | none => False
 | .box _ _ => True
 | _ => False
def rF (C : Ctx) (ops : Array Oper) (env : Nat → Value) (L i : Nat) : List Nat → Prop → Prop
 | [], X => X
 | j :: l, X => bif Nat.beq j i || !fT ops L j then rF C ops env L i l X else
   (match ops[j]? with
   | some o => Iq C.P (pL env) o ∧ rF C ops env L i l X
   | none => rF C ops env L i l X)
def FK (P : Program) (o : Oper) : Bool := match cls P o with
 | .LU => true
 | _ => false
def behind (C : Ctx) (o : Oper) (Ss : List (Mem → Prop)) (M : Mem) (X : Prop) : Prop := bif FK C.P o then CY Ss M X else X
def ud (C : Ctx) (ops : Array Oper) (fE : List Nat) (K : (Nat → Value) → Mem → Prop) (Kp : List PanicEntry → Mem → Prop) : Ex → List (Mem → Prop) → Nat → Nat → (Nat → Value) → Mem → Prop
 | .done, _, L, _, env, M => bif w6 ops L 0 then K env M else False
 | .step i t, Ss, L, _, env, M => bif fT ops L i && Ak C.P ops fE L i then
   (match ops[i]? with
   | some o => LZ C ops o env M (fun env' M' => behind C o Ss M' (ud C ops fE K Kp t Ss (L ||| 2 ^ i) 0 env' M')) Kp
   | none => False) else False
 | .cE i t, Ss, L, _, env, M => bif fT ops L i && pV ops fE L i then
   (match ops[i]? with
   | some o => UX C ops o env M (fun env' p => ud C ops fE K Kp t (p ++ Ss) (L ||| 2 ^ i) 0 env' M)
   | none => False) else False
 | .late i t, Ss, L, _, env, M => bif fT ops L i && yy C.P ops fE L i then
   (match ops[i]? with
   | some o => bif FK C.P o then rF C ops env L i (List.range ops.size) (LZ C ops o env M (fun env' M' => CY Ss M' (ud C ops fE K Kp t Ss (L ||| 2 ^ i) 0 env' M')) Kp) else False
   | none => False) else False
 | .fork i a b, Ss, L, vu, env, M => bif fT ops L i then
   (match ops[i]? with
   | some o => LZ C ops o env M (fun env' M' => behind C o Ss M' (ud C ops fE K Kp a Ss (L ||| 2 ^ i) 0 env' M')) Kp ∧ ud C ops fE K Kp b Ss L (vu ||| 2 ^ i) env M
   | none => False) else False
 | .dead, _, L, vu, _, _ => bif w6 ops L vu && !Nat.beq vu 0 then True else False
def w7 (Kp : List PanicEntry → Mem → Prop) : List PanicEntry → Mem → Prop := fun c M => ∃ M1, M1.le M ∧ Kp c M1
theorem Sy (Kp : List PanicEntry → Mem → Prop) : V3 (w7 Kp) := fun _ _ _ hle ⟨M1, h1, h2⟩ => ⟨M1, fun b o h => hle b o (h1 b o h), h2⟩
theorem gq.up {F : Mem} {Kp : List PanicEntry → Mem → Prop} {c : List PanicEntry} {w : World} (h : gq E F (w7 Kp c) w) : gq E F (Kp c) w := by
 obtain ⟨M, ⟨M1, hle, hk⟩, hd, hi⟩ := h
 refine ⟨M1, hk, fun b => ?_, ⟨fun b o hb => ?_, hi.2⟩⟩
 ·rcases hd b with h | h
  ·left; cases hm : M1 b with
   | none => rfl
   | some o => rw [hle b o hm] at h; cases h
  ·exact .inr h
 ·unfold Mem.union at hb
  cases hm : M1 b with
  | some o' => rw [hm] at hb; cases hb; exact hi.1 b o (Mem.union_left (hle b o hm))
  | none =>
   rw [hm] at hb
   refine hi.1 b o ?_
   unfold Mem.union
   rcases hd b with h | h
   ·rw [h]; exact hb
   ·rw [h] at hb; cases hb
section
variable {C : Ctx} {ops : Array Oper} {K : (Nat → Value) → Mem → Prop} {Kp : List PanicEntry → Mem → Prop}
theorem lC {L vu : Nat} (h : w6 ops L vu = true) (i : Nat) (hi : fT ops L i = true) : vu.testBit i = true := by
 obtain ⟨_, o, ho, _⟩ := bP.1 hi
 have := List.all_eq_true.1 h i (List.mem_range.2 (Array.getElem?_eq_some_iff.1 ho).1)
 simpa [hi] using this
theorem Mg {S : Mem → Prop} {L : Nat} {env : Nat → Value} {M : Mem} (h : ∀ i, fT ops L i = false) (hk : K env M) : ∀ f, dX C ops S K Kp f L env M
 | 0 => fun _ => ⟨h, hk⟩
 | f + 1 => fun _ => ⟨fun _ => hk, fun i hi => by rw [h i] at hi; cases hi⟩
theorem cond_true {b : Bool} {X : Prop} (h : bif b then X else False) : b = true ∧ X := by cases b; exact h.elim; exact ⟨rfl, h⟩
theorem V5 {ρ : Operand → Value} {o : Oper} {M : Mem} {K : Value → Mem → Prop} {wX : List PanicEntry → Mem → Prop} (h : tN C ρ o M K Kp) (hp : ∀ c M', Kp c M' → wX c M') : tN C ρ o M K wX := by
 unfold tN at h ⊢
 split at h
 ·exact h
 ·exact h
 ·exact h
 ·refine hU C.P _ h (fun n M' hn => ?_) (fun _ _ h => hp _ _ h)
  cases n <;> first | exact hn.elim | exact hn | exact aa.mono hn (fun _ _ h => h) hp
theorem zJ {o : Oper} {env : Nat → Value} {M : Mem} {wX : List PanicEntry → Mem → Prop} (h : eT C ops o env M K Kp) (hp : ∀ c M', Kp c M' → wX c M') : eT C ops o env M K wX := by
 unfold eT at h ⊢
 split
 ·rename_i hw; rw [if_pos hw] at h; exact V5 h hp
 ·rename_i hw; rw [if_neg hw] at h; exact h
theorem Mh {S S' : Mem → Prop} (hs : ∀ M, S M → S' M) : ∀ (f L : Nat) (env : Nat → Value) (M : Mem), dX C ops S K Kp f L env M → dX C ops S' K Kp f L env M := by
 intro f
 induction f with
 | zero => intro L env M h; exact h
 | succ f ih => intro L env M h fI; exact ⟨(h fI).1, fun j hj => CW ((h fI).2 j hj) fun env' M' hx => ⟨hs _ hx.1, ih _ _ _ hx.2⟩⟩
theorem pW {o : Oper} {env : Nat → Value} {M : Mem} {Ss : List (Mem → Prop)} {X : (Nat → Value) → Mem → Prop} (hS : yx (lB Ss)) (lU : lB Ss M)
  (h : eT C ops o env M (fun env' M' => behind C o Ss M' (X env' M')) Kp) : eT C ops o env M (fun env' M' => lB Ss M' ∧ X env' M') Kp := by
 unfold eT at h ⊢
 cases he : FK C.P o with
 | true =>
  simp only [behind, he] at h
  split
  ·rename_i hw; rw [if_pos hw] at h; exact m6 h fun v M' hv => kV.1 hv
  ·rename_i hw; rw [if_neg hw] at h; exact kV.1 h
 | false =>
  simp only [behind, he, cond_false] at h
  split
  ·rename_i hw; rw [if_pos hw] at h
   unfold tN at h ⊢
   unfold FK at he
   cases hc : cls C.P o <;> rw [hc] at h he <;> simp only at h ⊢
   ·obtain ⟨v, hv, h⟩ := h; exact ⟨v, hv, lU, h⟩
   ·obtain ⟨v, hv, h⟩ := h; exact ⟨v, hv, lU, h⟩
   ·obtain ⟨ob, k, hn, h⟩ := h
    exact ⟨ob, k, hn, fun b hb => let ⟨v, hv, h⟩ := h b hb; ⟨v, hv, hS _ _ (pT hb) lU, h⟩⟩
   ·simp at he
  ·rename_i hw; rw [if_neg hw] at h; exact ⟨lU, h⟩
theorem FL {M M' : Mem} (h : M.le M') {a : Addr} : ∀ (n i : Nat) (vs : List Value), M.gd a i n = some vs → M'.gd a i n = some vs
 | 0, i, vs, hv => hv
 | n + 1, i, vs, hv => by
  simp only [Mem.gd] at hv ⊢
  cases hx : M.ld (a.add i) with
  | none => simp [hx] at hv
  | some v =>
   rw [Mem.Ol h hx]
   simp only [hx] at hv
   cases hr : M.gd a (i + 1) n with
   | none => simp [hr] at hv
   | some rest => rw [FL h n (i + 1) rest hr]; rw [hr] at hv; exact hv
theorem FM {P : Program} {t : TypeId} {x : Value} {M : Mem} {K : Value → (Mem → Prop) → Prop} (h : Ip P t x M K) :
  ∃ v p, (∀ M', p M' → bO P (Instr.loadAt t x) M' = some v) ∧ p M ∧ yx p ∧ K v p := by
 unfold Ip at h
 cases x <;> try exact h.elim
 rename_i p
 obtain ⟨b, o, hp, h2⟩ := ju h
 subst hp
 clear h
 cases hd : P.underlying t with
 | none => rw [hd] at h2; exact h2.elim
 | some d =>
  rw [hd] at h2
  have agg : wY d = true → (if (flat P 8 t).length = P.cellsOf t then H8 M ⟨b, o, none⟩ (flat P 8 t) 0 fun vs => K (.agg vs.toArray) (fun M' => M'.gd ⟨b, o, none⟩ 0 (P.cellsOf t) = some vs) else False) →
    ∃ v p, (∀ M', p M' → bO P (Instr.loadAt t (.pointer (some ⟨b, o, none⟩))) M' = some v) ∧ p M ∧ yx p ∧ K v p := by
   intro fD h
   split at h
   ·rename_i hl
    obtain ⟨vs, hvs, h⟩ := wZ h
    rw [hl] at hvs
    exact ⟨_, _, fun M' hm => pP hd fD rfl hm, hvs, fun M1 M2 hle h1 => FL hle _ _ _ h1, h⟩
   ·exact h.elim
  cases d with
  | struct fs => exact agg rfl h2
  | array m e => exact agg rfl h2
  | _ => (obtain ⟨v, hv, h⟩ := pO h2; exact ⟨v, _, fun M' hm => yq hd rfl hm, hv, fun M1 M2 hle h1 => Mem.Ol hle h1, h⟩)
theorem Ir {P : Program} {ρ : Operand → Value} {o : Oper} {M : Mem} {K : Value → (Mem → Prop) → Prop} (h : CZ P ρ o M K) :
  cls P o = .read ∧ ∃ v p, (∀ M', p M' → bO P (execOp ρ o) M' = some (.value v)) ∧ p M ∧ yx p ∧ K v p := by
 unfold CZ at h
 split at h
 ·rename_i t a ho
  obtain ⟨v, p, h1, h2, h3, h4⟩ := FM h
  obtain ⟨dst, op, type, pos, after, guard⟩ := o
  simp only at ho; subst ho
  exact ⟨rfl, v, p, fun M' hp => gB (h1 M' hp), h2, h3, h4⟩
 ·exact h.elim
theorem FN {o : Oper} {env : Nat → Value} (h : Iq C.P (pL env) o) : Kt C.P ops env o := by
 intro _
 unfold Iq at h
 split at h
 ·rename_i t len parts ho
  split at h
  ·rename_i e hu
   split at h
   ·rename_i i hi
    split at h
    ·rename_i z hz
     split at h
     ·rename_i hc
      split at h
      ·rename_i cs hcs
       have hb : OB C.P (pL env) o Mem.empty (fun _ _ => True) := by
        unfold OB; rw [ho]; simp only
        unfold Sn; rw [hu]; simp only
        rw [hi]; simp only
        rw [hz]; simp only
        rw [if_pos hc, hcs]
        exact fun _ _ => trivial
       obtain ⟨ob, k, hn, hk⟩ := Ks hb
       exact ⟨ob, k, hn, fun b => let ⟨v, hv, _⟩ := hk b rfl; ⟨v, hv⟩⟩
      ·exact h.elim
     ·exact h.elim
    ·exact h.elim
   ·exact h.elim
  ·exact h.elim
 ·rename_i e ho
  obtain ⟨dst, op, type, pos, after, guard⟩ := o
  simp only at ho; subst ho
  split at h
  ·rename_i z hz
   unfold zeroOf at hz
   cases hi : C.P.info? e with
   | none => simp [hi] at hz
   | some i =>
    simp only [hi, Option.bind_some] at hz
    refine ⟨.cells z.cells e, fun b => pure (Next.value (.pointer (some ⟨b, 0, none⟩))), ?_, fun b => ⟨_, rfl⟩⟩
    simp only [execOp]
    rw [FC C.P (Instr.alloc e true (.tuple #[])) _ (ob := .cells z.cells e) (k := fun b => pure (.pointer (some ⟨b, 0, none⟩))) (by
     unfold Instr.alloc
     rw [D0 C.P _ _ (Kr hi hz)]
     rfl)]
    rfl
  ·exact h.elim
 ·rename_i e x ho
  obtain ⟨dst, op, type, pos, after, guard⟩ := o
  simp only at ho; subst ho
  exact ⟨.cells (pL env x).cells e, fun b => pure (Next.value (.pointer (some ⟨b, 0, none⟩))), rfl, fun b => ⟨_, rfl⟩⟩
 ·exact h.elim
theorem kI {env : Nat → Value} {L i : Nat} : ∀ {l : List Nat} {X : Prop}, rF C ops env L i l X → X ∧ ∀ j ∈ l, j ≠ i → fT ops L j = true → ∀ oj, ops[j]? = some oj → Kt C.P ops env oj
 | [], X, h => ⟨h, fun j hj => by cases hj⟩
 | j :: l, X, h => by
  unfold rF at h
  cases hb : (Nat.beq j i || !fT ops L j) with
  | true =>
   rw [hb] at h
   obtain ⟨h1, h2⟩ := kI (l := l) h
   refine ⟨h1, fun k hk HL hr oj jx => ?_⟩
   rcases List.mem_cons.1 hk with rfl | hk
   ·simp only [Bool.or_eq_true, Bool.not_eq_true', hr] at hb
    rcases hb with hb | hb
    ·exact absurd (Nat.eq_of_beq_eq_true hb) HL
    ·cases hb
   ·exact h2 k hk HL hr oj jx
  | false =>
   rw [hb] at h
   simp only [cond_false] at h
   cases ho : ops[j]? with
   | none =>
    rw [ho] at h
    obtain ⟨h1, h2⟩ := kI (l := l) h
    refine ⟨h1, fun k hk HL hr oj jx => ?_⟩
    rcases List.mem_cons.1 hk with rfl | hk
    ·rw [ho] at jx; cases jx
    ·exact h2 k hk HL hr oj jx
   | some o =>
    rw [ho] at h
    obtain ⟨h0, h⟩ := h
    obtain ⟨h1, h2⟩ := kI (l := l) h
    refine ⟨h1, fun k hk HL hr oj jx => ?_⟩
    rcases List.mem_cons.1 hk with rfl | hk
    ·rw [ho] at jx; cases jx; exact FN h0
    ·exact h2 k hk HL hr oj jx
theorem C0 {i : Nat} {o : Oper} (ho : ops[i]? = some o) (hsel : ∀ (j : Nat) (o : Oper) cs b, ops[j]? = some o → o.op ≠ .select cs b) {fE : List Nat} (ha : oQ ops fE = true) {S : Mem → Prop} {Kp : List PanicEntry → Mem → Prop} :
  ∀ (f L : Nat) (env : Nat → Value) (M : Mem), S M → Dn ops L → pV ops fE L i = true → fT ops L i = true → bU ops o env = false →
   dX C ops S K Kp f (L ||| 2 ^ i) (bx env o.dst undef) M → dX C ops S K Kp (f + 1) L env M
 | 0, L, env, M, lU, hd, hf, hr, hw, hx => fun fI => by
  refine ⟨fun hno => (by rw [hno i] at hr; cases hr), fun j hj => ?_⟩
  by_cases jZ : j = i
  ·subst jZ; unfold gx; rw [ho]; exact mq hw ⟨lU, hx⟩
  ·have hj' := gh (i := i) hj jZ
   have := (hx fI).1 j; rw [this] at hj'; cases hj'
 | f + 1, L, env, M, lU, hd, hf, hr, hw, hx => fun fI => by
  obtain ⟨hL, o1, ho1, iL⟩ := bP.1 hr
  rw [ho] at ho1; cases ho1
  refine ⟨fun hno => (by rw [hno i] at hr; cases hr), fun j hj => ?_⟩
  by_cases jZ : j = i
  ·subst jZ; unfold gx; rw [ho]; exact mq hw ⟨lU, hx⟩
  ·obtain ⟨Mb, oj, jx, hallj⟩ := bP.1 hj
   have hap := FI ho ha hd hf hr hj jx jZ
   obtain ⟨a1, a2, a3⟩ := Oper.apart_spec hap
   have hj' := gh (i := i) hj jZ
   have jm := (hx fI).2 j hj'
   unfold gx at jm ⊢; rw [jx] at jm ⊢; simp only at jm ⊢
   rw [vt L i j] at jm
   have h2 := pU hap (fun cs b => hsel j oj cs b jx) jm
   have fin : ∀ u M1, S M1 ∧ dX C ops S K Kp f (L ||| 2 ^ j ||| 2 ^ i) (bx (bx env oj.dst u) o.dst undef) M1 →
     S M1 ∧ dX C ops S K Kp (f + 1) (L ||| 2 ^ j) (bx env oj.dst u) M1 := fun u M1 hy =>
    ⟨hy.1, C0 ho hsel ha f (L ||| 2 ^ j) (bx env oj.dst u) M1 hy.1 (hd.add hj) (Al ho hf) (gh hr (Ne.symm jZ)) ((eZ o env oj.dst u a3).trans hw) hy.2⟩
   unfold eT at h2 ⊢
   split
   ·rename_i OF; rw [if_pos OF] at h2; exact m6 h2 fun u M1 hy => fin u M1 hy
   ·rename_i OF; rw [if_neg OF] at h2; exact fin _ _ h2
theorem Is (hC : C.Good) (hsel : ∀ (j : Nat) (o : Oper) cs b, ops[j]? = some o → o.op ≠ .select cs b) {fE : List Nat} (ha : oQ ops fE = true) (t : Ex) :
  ∀ (Ss : List (Mem → Prop)), yx (lB Ss) →
  (∀ (L : Nat) (env : Nat → Value) (M : Mem), lB Ss M → Dn ops L → ud C ops fE K Kp t Ss L 0 env M → dX C ops (lB Ss) K (w7 Kp) (zI ops.size L) L env M) ∧
  (∀ (L vu : Nat) (env : Nat → Value) (M : Mem) (f : Nat), lB Ss M → zI ops.size L = f + 1 → vr M → Dn ops L → ud C ops fE K Kp t Ss L vu env M → vu ≠ 0 →
   ∀ i, fT ops L i = true → vu.testBit i = false → gx C ops (w7 Kp) i env M fun env' M' => lB Ss M' ∧ dX C ops (lB Ss) K (w7 Kp) f (L ||| 2 ^ i) env' M') := by
 have kp : ∀ c M', Kp c M' → w7 Kp c M' := fun c M' h => ⟨M', fun _ _ h => h, h⟩
 have both : ∀ (t : Ex) (Ss : List (Mem → Prop)), (∀ (L : Nat) (vu : Nat) (env : Nat → Value) (M : Mem), lB Ss M → Dn ops L → ud C ops fE K Kp t Ss L vu env M → dX C ops (lB Ss) K (w7 Kp) (zI ops.size L) L env M) →
   (∀ (L : Nat) (env : Nat → Value) (M : Mem), lB Ss M → Dn ops L → ud C ops fE K Kp t Ss L 0 env M → dX C ops (lB Ss) K (w7 Kp) (zI ops.size L) L env M) ∧
   (∀ (L vu : Nat) (env : Nat → Value) (M : Mem) (f : Nat), lB Ss M → zI ops.size L = f + 1 → vr M → Dn ops L → ud C ops fE K Kp t Ss L vu env M → vu ≠ 0 →
    ∀ i, fT ops L i = true → vu.testBit i = false → gx C ops (w7 Kp) i env M fun env' M' => lB Ss M' ∧ dX C ops (lB Ss) K (w7 Kp) f (L ||| 2 ^ i) env' M') := fun t Ss h =>
  ⟨fun L env M => h L 0 env M, fun L vu env M f lU OJ fI hd ht _ j hj _ => by
   have hh := h L vu env M lU hd ht
   rw [OJ] at hh
   exact (hh fI).2 j hj⟩
 induction t with
 | done =>
  intro Ss hS
  refine ⟨fun L env M lU hd h => ?_, fun L vu env M f _ _ _ hd h ZT i hi Zb => ?_⟩
  ·obtain ⟨h1, h2⟩ := cond_true h
   refine Mg (fun i => ?_) h2 _
   cases hr : fT ops L i with
   | false => rfl
   | true => have := lC h1 i hr; simp at this
  ·obtain ⟨h1, h2⟩ := cond_true h
   have := lC h1 i hi; simp at this
 | step i t ih =>
  intro Ss hS
  refine both _ _ fun L vu env M lU hd h => ?_
  obtain ⟨h1, h2⟩ := cond_true h
  simp only [Bool.and_eq_true] at h1
  obtain ⟨hr, hf⟩ := h1
  obtain ⟨hL, o, ho, iL⟩ := bP.1 hr
  rw [ho] at h2; simp only at h2
  rw [mu (Array.getElem?_eq_some_iff.1 ho).1 hL]
  refine Io hS ho hsel ha _ L env M lU hd hf hr ?_
  unfold gx; rw [ho]; simp only
  exact jv (zJ (pW hS lU (iS hC h2)) kp) fun env' M' hx => ⟨hx.1, (ih Ss hS).1 _ env' M' hx.1 (hd.add hr) hx.2⟩
 | cE i t ih =>
  intro Ss hS
  refine both _ _ fun L vu env M lU hd h => ?_
  obtain ⟨h1, h2⟩ := cond_true h
  simp only [Bool.and_eq_true] at h1
  obtain ⟨hr, hf⟩ := h1
  obtain ⟨hL, o, ho, iL⟩ := bP.1 hr
  rw [ho] at h2; simp only at h2
  rw [mu (Array.getElem?_eq_some_iff.1 ho).1 hL]
  have yes : bU ops o env = true → CZ C.P (pL env) o M (fun v p => ud C ops fE K Kp t ([p] ++ Ss) (L ||| 2 ^ i) 0 (bx env o.dst v) M) →
    dX C ops (lB Ss) K (w7 Kp) (zI ops.size (L ||| 2 ^ i) + 1) L env M := fun hw hp => by
   obtain ⟨hc, v, p, p1, p2, p3, p4⟩ := Ir hp
   have hS' : yx (lB ([p] ++ Ss)) := fun M1 M2 hle hx s hs => by
    rcases List.mem_cons.1 hs with rfl | hs
    ·exact p3 _ _ hle (hx _ (List.mem_cons_self ..))
    ·exact hS M1 M2 hle (fun s hs => hx s (List.mem_cons_of_mem _ hs)) s hs
   have hSM' : lB ([p] ++ Ss) M := fun s hs => by
    rcases List.mem_cons.1 hs with rfl | hs
    ·exact p2
    ·exact lU s hs
   refine Mc ho hsel ha hc (s := execOp (pL env) o) (v := v) _ L env M hd hf hr hw rfl (p1 M p2) lU ?_
   refine Mh (fun M' hx => ?_) _ _ _ _ ((ih _ hS').1 _ _ M hSM' (hd.add hr) p4)
   exact ⟨fun s hs => hx s (List.mem_cons_of_mem _ hs), p1 M' (hx p (List.mem_cons_self ..))⟩
  have no : bU ops o env = false → ud C ops fE K Kp t ([] ++ Ss) (L ||| 2 ^ i) 0 (bx env o.dst undef) M →
    dX C ops (lB Ss) K (w7 Kp) (zI ops.size (L ||| 2 ^ i) + 1) L env M := fun hw hp =>
   C0 ho hsel ha _ L env M lU hd hf hr hw ((ih Ss hS).1 _ _ M lU (hd.add hr) hp)
  unfold UX at h2
  cases hg : o.guard with
  | none => rw [hg] at h2; exact yes (vp hg) h2
  | some jw =>
   obtain ⟨j, want⟩ := jw
   rw [hg] at h2
   simp only at h2
   cases hs : m5 ops j with
   | none => rw [hs] at h2; exact no (Aj hg hs) h2
   | some s =>
    rw [hs] at h2
    simp only at h2
    cases he : env s <;> rw [he] at h2 <;> simp only at h2
    case bool e =>
     have hw := vq hg hs he
     cases e
     ·rw [m7 he] at h2
      cases want <;> simp only [aQ] at h2
      ·exact yes hw h2
      ·exact no hw h2
     ·rw [m7 he] at h2
      cases want <;> simp only [aQ] at h2
      ·exact no hw h2
      ·exact yes hw h2
    all_goals exact no (tO hg hs (by simp [he])) h2
 | late i t ih =>
  intro Ss hS
  refine both _ _ fun L vu env M lU hd h => ?_
  obtain ⟨h1, h2⟩ := cond_true h
  simp only [Bool.and_eq_true] at h1
  obtain ⟨hr, hl⟩ := h1
  obtain ⟨hL, o, ho, iL⟩ := bP.1 hr
  rw [ho] at h2; simp only at h2
  obtain ⟨he, h2⟩ := cond_true h2
  have hce : cls C.P o = .LU := by unfold FK at he; cases hc : cls C.P o <;> rw [hc] at he <;> simp at he
  obtain ⟨h3, h4⟩ := kI h2
  have hc := mu (n := ops.size) (Array.getElem?_eq_some_iff.1 ho).1 hL
  rw [hc]
  refine Me hS (Sy Kp) ho hce hsel ha _ L env M hc lU hd hl hr (fun j oj hj jx jZ => h4 j (List.mem_range.2 (Array.getElem?_eq_some_iff.1 jx).1) jZ hj oj jx) ?_
  unfold gx; rw [ho]; simp only
  exact jv (zJ (iS hC h3) kp) fun env' M' hx => ⟨(kV.1 hx).1, (ih Ss hS).1 _ env' M' (kV.1 hx).1 (hd.add hr) (kV.1 hx).2⟩
 | fork i a b iha ihb =>
  intro Ss hS
  refine ⟨fun L env M lU hd h => ?_, fun L vu env M f lU OJ fI hd h ZT j hj Fb => ?_⟩
  ·obtain ⟨hr, h2⟩ := cond_true h
   obtain ⟨hL, o, ho, iL⟩ := bP.1 hr
   rw [ho] at h2; simp only at h2
   have hc := mu (n := ops.size) (Array.getElem?_eq_some_iff.1 ho).1 hL
   rw [hc]
   refine fun fI => ⟨fun hno => (by rw [hno i] at hr; cases hr), fun j hj => ?_⟩
   by_cases jZ : j = i
   ·subst jZ
    unfold gx; rw [ho]; simp only
    exact jv (zJ (pW hS lU (iS hC h2.1)) kp) fun env' M' hx => ⟨hx.1, (iha Ss hS).1 _ env' M' hx.1 (hd.add hr) hx.2⟩
   ·exact (ihb Ss hS).2 L (0 ||| 2 ^ i) env M (zI ops.size (L ||| 2 ^ i)) lU hc fI hd h2.2 (by simp) j hj (by rw [eL]; simp [Ne.symm jZ])
  ·obtain ⟨hr, h2⟩ := cond_true h
   obtain ⟨hL, o, ho, iL⟩ := bP.1 hr
   rw [ho] at h2; simp only at h2
   have hc := mu (n := ops.size) (Array.getElem?_eq_some_iff.1 ho).1 hL
   by_cases jZ : j = i
   ·subst jZ
    unfold gx; rw [ho]; simp only
    have hf : f = zI ops.size (L ||| 2 ^ j) := by omega
    subst hf
    exact jv (zJ (pW hS lU (iS hC h2.1)) kp) fun env' M' hx => ⟨hx.1, (iha Ss hS).1 _ env' M' hx.1 (hd.add hr) hx.2⟩
   ·exact (ihb Ss hS).2 L (vu ||| 2 ^ i) env M f lU OJ fI hd h2.2 (by intro h0; have := eL vu i i; rw [h0] at this; simp at this) j hj (by rw [eL, Fb]; simp [Ne.symm jZ])
 | dead =>
  intro Ss hS
  refine ⟨fun L env M lU hd h => ?_, fun L vu env M f _ _ _ hd h ZT i hi Zb => ?_⟩
  ·obtain ⟨h1, _⟩ := cond_true h
   simp at h1
  ·obtain ⟨h1, _⟩ := cond_true h
   simp only [Bool.and_eq_true] at h1
   have := lC h1.1 i hi; rw [Zb] at this; cases this
theorem yz {P : Program} {a : Act} {o : Oper} {M F : Mem} {w : World} {K : Value → Mem → Prop} {Kp : List PanicEntry → Mem → Prop} {next : Act → World → Prop} {Q : Exit → Act → World → Prop}
  (h : dV P (execOp a.eval o) M (mZ P K Kp) (fun v M' => Kp [{ v, recovered := false }] M')) (hd : M.dj F) (hi : (M.union F).In E w)
  (hn : ∀ v w', gq E F (K v) w' → next (a.put o.dst v) w') (hp : ∀ c w', gq E F (Kp c) w' → Q (.panic c) a w') : o.wp P a w next Q := by
 have hr := LK P _ h hd hi
 unfold jt at hr
 unfold Oper.wp
 split at hr
 ·rename_i n w' hrun
  rw [hrun]
  obtain ⟨M', hk, hd', hi'⟩ := hr
  cases n <;> first | exact hk.elim | skip
  ·exact hn _ _ ⟨M', hk, hd', hi'⟩
  ·exact hn _ _ ⟨M', hk, hd', hi'⟩
  ·rename_i f args
   refine (hk E F w' hd' hi').mono fun e w'' he => ?_
   cases e with
   | returned v => exact hn _ _ he
   | panicked c => exact hp _ _ he
   | outgrown => exact he.elim
 ·rename_i v w' hrun
  rw [hrun]
  exact hp _ _ hr
 ·exact hr.elim
theorem vv {N : Nat} {env : Nat → Value} {a : Act} (fD : eF N env a.tmps) (hfit : ∀ o ∈ ops.toList, od N o = true) (o : Oper) :
  Region.wanted o (yielded ops a.tmps) = bU ops o env := by
 unfold Region.wanted bU
 cases hg : o.guard with
 | none => rfl
 | some jw =>
  obtain ⟨j, want⟩ := jw
  simp only
  have hy : yielded ops a.tmps j = match (m5 ops j).map env with | some (.bool b) => some b | _ => none := by
   unfold yielded m5
   cases hj : ops[j]? with
   | none => rfl
   | some oj =>
    simp only [Option.bind_some]
    cases hd : oj.dst with
    | none => rfl
    | some s =>
     have hm : oj ∈ ops.toList := by have := Array.mem_of_getElem? hj; simpa using this
     have hs := (gE (hfit oj hm)).2.1 s hd
     simp only [Option.bind_some, fD.2 s hs, Option.map_some]
     cases env s <;> rfl
  rw [hy]
  cases (m5 ops j).map env with
  | none => rfl
  | some v => cases v <;> first | rfl | (cases want <;> rename_i b <;> cases b <;> rfl)
structure Post (E : tX) (N : Nat) (Z : Act → Prop) (F : Mem) (K : (Nat → Value) → Mem → Prop) (Kp : List PanicEntry → Mem → Prop) (Q : Exit → Act → World → Prop) : Prop where
 normal : ∀ env M a w, eF N env a.tmps → Z a → M.dj F → (M.union F).In E w → K env M → Q .normal a w
 panic : ∀ c a w, Z a → gq E F (Kp c) w → Q (.panic c) a w
theorem put_defers {a : Act} {dst : Option Tmp} {v : Value} : (a.put dst v).defers = a.defers := by cases dst <;> rfl
theorem D4 {N : Nat} {Z : Act → Prop} {F : Mem} {Q : Exit → Act → World → Prop} (hz : ∀ o ∈ ops.toList, ∀ (a : Act) (v : Value), Z a → Z (a.put o.dst v)) (hfit : ∀ o ∈ ops.toList, od N o = true)
  (hp : ∀ c a w, Z a → gq E F (Kp c) w → Q (.panic c) a w) {i : Nat} {env : Nat → Value} {M : Mem} {a : Act} {w : World} {K' : (Nat → Value) → Mem → Prop} {next : Act → World → Prop}
  (fD : eF N env a.tmps) (hds : Z a) (hd : M.dj F) (hi : (M.union F).In E w)
  (hn : ∀ env' M' a' w', eF N env' a'.tmps → Z a' → M'.dj F → (M'.union F).In E w' → K' env' M' → next a' w') (h : gx C ops Kp i env M K') : wpOp C.P ops Q i next a w := by
 unfold wpOp
 unfold gx at h
 cases ho : ops[i]? with
 | none => rw [ho] at h; exact hn _ _ _ _ fD hds hd hi h
 | some o =>
  rw [ho] at h
  simp only at h
  have hm : o ∈ ops.toList := by have := Array.mem_of_getElem? ho; simpa using this
  have hf := hfit o hm
  simp only
  rw [vv fD hfit]
  unfold eT at h
  split
  ·rename_i hw
   rw [if_pos hw] at h
   refine .inl (yz (K := fun v M' => K' (bx env o.dst v) M') (Kp := Kp) (F := F) (by rw [← fD.execOp hf]; exact Ai h) hd hi (fun v w' hv => ?_) (fun c w' hc => hp _ _ _ hds hc))
   obtain ⟨M', hk, hd', hi'⟩ := hv
   exact hn _ _ _ _ (fD.put (gE hf).2.1 v) (hz o hm _ _ hds) hd' hi' hk
  ·rename_i hw
   rw [if_neg hw] at h
   exact hn _ _ _ _ (fD.put (gE hf).2.1 undef) (hz o hm _ _ hds) hd hi h
def pX (ops : Array Oper) (arr : Array Bool) (L : Nat) : Prop := arr.size = ops.size ∧ ∀ i, i < ops.size → arr[i]? = some (L.testBit i)
theorem pX.add {arr : Array Bool} {L i : Nat} (h : pX ops arr L) (hi : i < ops.size) : pX ops (arr.setIfInBounds i true) (L ||| 2 ^ i) := by
 refine ⟨by simp [h.1], fun k hk => ?_⟩
 by_cases HL : i = k
 ·subst HL; simp [h.1, hi]
 ·rw [Array.getElem?_setIfInBounds_ne HL, h.2 k hk, eL]; simp [HL]
theorem w9 {arr : Array Bool} {L : Nat} (h : pX ops arr L) (yA : ∀ (j : Nat) (o : Oper), ops[j]? = some o → ∀ e ∈ o.after, Region.binds .any e = true → e.on < ops.size) (i : Nat) :
  i ∈ Region.ready .any ops arr ↔ fT ops L i = true := by
 rw [mem_ready, bP]
 constructor
 ·rintro ⟨h0, o, ho, iL⟩
  have hlt := (Array.getElem?_eq_some_iff.1 ho).1
  refine ⟨?_, o, ho, fun e he hb => ?_⟩
  ·have := h.2 i hlt; simp [Array.getD_eq_getD_getElem?, this] at h0; exact h0
  ·have h1 := iL e he hb
   have := h.2 e.on (yA i o ho e he hb)
   simpa [Array.getD_eq_getD_getElem?, this] using h1
 ·rintro ⟨h0, o, ho, iL⟩
  have hlt := (Array.getElem?_eq_some_iff.1 ho).1
  refine ⟨by simp [Array.getD_eq_getD_getElem?, h.2 i hlt, h0], o, ho, fun e he hb => ?_⟩
  have := h.2 e.on (yA i o ho e he hb)
  simp [Array.getD_eq_getD_getElem?, this, iL e he hb]
theorem Ca {S : Mem → Prop} {N : Nat} {Z : Act → Prop} {F : Mem} {Q : Exit → Act → World → Prop} (hz : ∀ o ∈ ops.toList, ∀ (a : Act) (v : Value), Z a → Z (a.put o.dst v)) (hfit : ∀ o ∈ ops.toList, od N o = true)
  (yA : ∀ (j : Nat) (o : Oper), ops[j]? = some o → ∀ e ∈ o.after, Region.binds .any e = true → e.on < ops.size) (hpost : Post E N Z F K Kp Q) :
  ∀ (f L : Nat) (arr : Array Bool) (env : Nat → Value) (M : Mem) (a : Act) (w : World), pX ops arr L → eF N env a.tmps → Z a → M.dj F → (M.union F).In E w →
   dX C ops S K (w7 Kp) f L env M → wpAny C.P .any ops Q f arr a w := by
 intro f
 induction f with
 | zero =>
  intro L arr env M a w hl fD hds hd hi h
  have fI : vr M := ⟨w.heap.size, fun b hb => by
   cases hm : M b with
   | none => rfl
   | some o => have := hi.lt (Mem.union_left (F := F) hm); omega⟩
  obtain ⟨h1, h2⟩ := h fI
  refine ⟨?_, hpost.normal _ _ _ _ fD hds hd hi h2⟩
  rw [List.eq_nil_iff_forall_not_mem]
  intro i hmem
  have := (w9 hl yA i).1 hmem
  rw [h1 i] at this; cases this
 | succ f ih =>
  intro L arr env M a w hl fD hds hd hi h
  have fI : vr M := ⟨w.heap.size, fun b hb => by
   cases hm : M b with
   | none => rfl
   | some o => have := hi.lt (Mem.union_left (F := F) hm); omega⟩
  obtain ⟨h1, h2⟩ := h fI
  refine ⟨fun Sz => ?_, fun i hmem => ?_⟩
  ·refine hpost.normal _ _ _ _ fD hds hd hi (h1 fun i => ?_)
   cases hr : fT ops L i with
   | false => rfl
   | true => have := (w9 hl yA i).2 hr; rw [Sz] at this; cases this
  ·have hr := (w9 hl yA i).1 hmem
   obtain ⟨_, o, ho, _⟩ := bP.1 hr
   exact D4 hz hfit (fun c a w h1 h2 => hpost.panic c a w h1 h2.up) fD hds hd hi (fun env' M' a' w' g1 g2 g3 g4 g5 => ih _ _ _ _ _ _ (hl.add (Array.getElem?_eq_some_iff.1 ho).1) g1 g2 g3 g4 g5.2) (h2 i hr)
def V6 (C : Ctx) (ops : Array Oper) (K : (Nat → Value) → Mem → Prop) (Kp : List PanicEntry → Mem → Prop) : List Oper → (Nat → Value) → Mem → Prop
 | [], env, M => K env M
 | o :: rest, env, M => LZ C ops o env M (fun env' M' => V6 C ops K Kp rest env' M') Kp
end
end Go.AF
