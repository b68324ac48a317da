/- A part of proofs about one program. -/
import Derived.Test.YtnnlgknlialpmaaGreatZFairAnyRegL
set_option linter.unusedVariables false
namespace Go.AF
variable {E : sA}
inductive Ex where
 | done
 | step (i : Nat) (t : Ex)
 | dD (i : Nat) (t : Ex)
 | late (i : Nat) (t : Ex)
 | fork (i : Nat) (a b : Ex)
 | dead
def vt (ops : Array Oper) (L tU : Nat) : Bool := (List.range ops.size).all fun i => !fz ops L i || tU.testBit i
def By : List (Mem → Prop) → Mem → Prop → Prop
 | [], _, X => X
 | s :: l, M, X => s M ∧ By l M X
def kM (l : List (Mem → Prop)) (M : Mem) : Prop := ∀ s ∈ l, s M
theorem ku : ∀ {l : List (Mem → Prop)} {M : Mem} {X : Prop}, By l M X ↔ kM l M ∧ X
 | [], M, X => by simp [By, kM]
 | s :: l, M, X => by
  simp only [By, ku (l := l), kM, List.mem_cons, forall_eq_or_imp]
  constructor
  ·rintro ⟨a, b, c⟩; exact ⟨⟨a, b⟩, c⟩
  ·rintro ⟨⟨a, b⟩, c⟩; exact ⟨a, b, c⟩
def F6 (P : Program) (t : TypeId) (x : Value) (M : Mem) (K : Value → (Mem → Prop) → Prop) : Prop :=
 match x with
 | .pointer p => aF p fun b o =>
  match P.underlying t with
  | some (.struct _) | some (.array _ _) =>
   if (flat P 8 t).length = P.cellsOf t then
    FQ M ⟨b, o, none⟩ (flat P 8 t) 0 fun vs => K (.agg vs.toArray) (fun M' => M'.iS ⟨b, o, none⟩ 0 (P.cellsOf t) = some vs)
   else False
  | some d => DL (WD d) (M.ld ⟨b, o, none⟩) fun v => K v (fun M' => M'.ld ⟨b, o, none⟩ = some v)
  | none => False
 | _ => False
def Bz (P : Program) (ρ : Operand → Value) (o : Oper) (M : Mem) (K : Value → (Mem → Prop) → Prop) : Prop :=
 match o.op with
 | .load t a => F6 P t (ρ a) M K
 | _ => False
def R9 (C : Ctx) (ops : Array Oper) (o : Oper) (env : Nat → Value) (M : Mem) (K : (Nat → Value) → List (Mem → Prop) → Prop) : Prop :=
 match o.guard with
 | none => Bz C.P (oQ env) o M (fun v p => K (bl env o.dst v) [p])
 | some (j, want) => match my ops j with
  | some s => match env s with
   | .bool e => match want with
    | true => aO e (Bz C.P (oQ (bl env (some s) (.bool true))) o M (fun v p => K (bl (bl env (some s) (.bool true)) o.dst v) [p])) (K (bl (bl env (some s) (.bool false)) o.dst undef) [])
    | false => aO e (K (bl (bl env (some s) (.bool true)) o.dst undef) []) (Bz C.P (oQ (bl env (some s) (.bool false))) o M (fun v p => K (bl (bl env (some s) (.bool false)) o.dst v) [p]))
   | _ => K (bl env o.dst undef) []
  | none => K (bl env o.dst undef) []
def F7 (P : Program) (ρ : Operand → Value) (o : Oper) : Prop :=
 match o.op with
 | .buildSlice t len parts => match P.underlying t with
  | some (.slice e) => match P.info? e with
   | some i => match i.zero with
    | some z => if z.cells.toList.length = i.size ∧ len * i.size ≤ 16777216 then
      (match yn (fun k => some (k * i.size, i.size)) (List.replicate len z.cells.toList).flatten (parts.toList.map fun p => (p.1, ρ p.2)) with
      | some _ => True
      | none => False) else False
    | none => False
   | none => False
  | _ => False
 | .alloc e => match zeroOf P e with
  | some _ => True
  | none => False
 | .box _ _ => True
 | _ => False
def qx (C : Ctx) (ops : Array Oper) (env : Nat → Value) (L i : Nat) : List Nat → Prop → Prop
 | [], X => X
 | j :: l, X => bif Nat.beq j i || !fz ops L j then qx C ops env L i l X else
   (match ops[j]? with
   | some o => F7 C.P (oQ env) o ∧ qx C ops env L i l X
   | none => qx C ops env L i l X)
def D5 (P : Program) (o : Oper) : Bool := match cls P o with
 | .Jx => true
 | _ => false
def behind (C : Ctx) (o : Oper) (Ss : List (Mem → Prop)) (M : Mem) (X : Prop) : Prop := bif D5 C.P o then By Ss M X else X
def sF (C : Ctx) (ops : Array Oper) (eP : List Nat) (K : (Nat → Value) → Mem → Prop) (Kp : List PanicEntry → Mem → Prop) : Ex → List (Mem → Prop) → Nat → Nat → (Nat → Value) → Mem → Prop
 | .done, _, L, _, env, M => bif vt ops L 0 then K env M else False
 | .step i t, Ss, L, _, env, M => bif fz ops L i && yy C.P ops eP L i then
   (match ops[i]? with
   | some o => JC C ops o env M (fun env' M' => behind C o Ss M' (sF C ops eP K Kp t Ss (L ||| 2 ^ i) 0 env' M')) Kp
   | none => False) else False
 | .dD i t, Ss, L, _, env, M => bif fz ops L i && pb ops eP L i then
   (match ops[i]? with
   | some o => R9 C ops o env M (fun env' p => sF C ops eP K Kp t (p ++ Ss) (L ||| 2 ^ i) 0 env' M)
   | none => False) else False
 | .late i t, Ss, L, _, env, M => bif fz ops L i && wK C.P ops eP L i then
   (match ops[i]? with
   | some o => bif D5 C.P o then qx C ops env L i (List.range ops.size) (JC C ops o env M (fun env' M' => By Ss M' (sF C ops eP K Kp t Ss (L ||| 2 ^ i) 0 env' M')) Kp) else False
   | none => False) else False
 | .fork i a b, Ss, L, tU, env, M => bif fz ops L i then
   (match ops[i]? with
   | some o => JC C ops o env M (fun env' M' => behind C o Ss M' (sF C ops eP K Kp a Ss (L ||| 2 ^ i) 0 env' M')) Kp ∧ sF C ops eP K Kp b Ss L (tU ||| 2 ^ i) env M
   | none => False) else False
 | .dead, _, L, tU, _, _ => bif vt ops L tU && !Nat.beq tU 0 then True else False
def vu (Kp : List PanicEntry → Mem → Prop) : List PanicEntry → Mem → Prop := fun c M => ∃ M1, M1.le M ∧ Kp c M1
theorem P6 (Kp : List PanicEntry → Mem → Prop) : Tv (vu Kp) := fun _ _ _ hle ⟨M1, h1, h2⟩ => ⟨M1, fun b o h => hle b o (h1 b o h), h2⟩
theorem fR.up {F : Mem} {Kp : List PanicEntry → Mem → Prop} {c : List PanicEntry} {w : World} (h : fR E F (vu Kp c) w) : fR E F (Kp c) w := by
 obtain ⟨M, ⟨M1, hle, hk⟩, hd, hi⟩ := h
 refine ⟨M1, hk, fun b => ?_, ⟨fun b o hb => ?_, hi.2⟩⟩
 ·rcases hd b with h | h
  ·left; cases hm : M1 b with
   | none => rfl
   | some o => rw [hle b o hm] at h; cases h
  ·exact .inr h
 ·unfold Mem.union at hb
  cases hm : M1 b with
  | some o' => rw [hm] at hb; cases hb; exact hi.1 b o (Mem.union_left (hle b o hm))
  | none =>
   rw [hm] at hb
   refine hi.1 b o ?_
   unfold Mem.union
   rcases hd b with h | h
   ·rw [h]; exact hb
   ·rw [h] at hb; cases hb
section
variable {C : Ctx} {ops : Array Oper} {K : (Nat → Value) → Mem → Prop} {Kp : List PanicEntry → Mem → Prop}
theorem kN {L tU : Nat} (h : vt ops L tU = true) (i : Nat) (hi : fz ops L i = true) : tU.testBit i = true := by
 obtain ⟨_, o, ho, _⟩ := bL.1 hi
 have := List.all_eq_true.1 h i (List.mem_range.2 (Array.getElem?_eq_some_iff.1 ho).1)
 simpa [hi] using this
theorem JJ {S : Mem → Prop} {L : Nat} {env : Nat → Value} {M : Mem} (h : ∀ i, fz ops L i = false) (hk : K env M) : ∀ f, dH C ops S K Kp f L env M
 | 0 => fun _ => ⟨h, hk⟩
 | f + 1 => fun _ => ⟨fun _ => hk, fun i hi => by rw [h i] at hi; cases hi⟩
theorem cond_true {b : Bool} {X : Prop} (h : bif b then X else False) : b = true ∧ X := by cases b; exact h.elim; exact ⟨rfl, h⟩
theorem Tx {ρ : Operand → Value} {o : Oper} {M : Mem} {K : Value → Mem → Prop} {vn : List PanicEntry → Mem → Prop} (h : r8 C ρ o M K Kp) (hp : ∀ c M', Kp c M' → vn c M') : r8 C ρ o M K vn := by
 unfold r8 at h ⊢
 split at h
 ·exact h
 ·exact h
 ·exact h
 ·refine iA C.P _ h (fun n M' hn => ?_) (fun _ _ h => hp _ _ h)
  cases n <;> first | exact hn.elim | exact hn | exact aa.mono hn (fun _ _ h => h) hp
theorem xN {o : Oper} {env : Nat → Value} {M : Mem} {vn : List PanicEntry → Mem → Prop} (h : ei C ops o env M K Kp) (hp : ∀ c M', Kp c M' → vn c M') : ei C ops o env M K vn := by
 unfold ei at h ⊢
 split
 ·rename_i hw; rw [if_pos hw] at h; exact Tx h hp
 ·rename_i hw; rw [if_neg hw] at h; exact h
theorem JK {S S' : Mem → Prop} (hs : ∀ M, S M → S' M) : ∀ (f L : Nat) (env : Nat → Value) (M : Mem), dH C ops S K Kp f L env M → dH C ops S' K Kp f L env M := by
 intro f
 induction f with
 | zero => intro L env M h; exact h
 | succ f ih => intro L env M h eV; exact ⟨(h eV).1, fun j hj => Bw ((h eV).2 j hj) fun env' M' hx => ⟨hs _ hx.1, ih _ _ _ hx.2⟩⟩
theorem pe {o : Oper} {env : Nat → Value} {M : Mem} {Ss : List (Mem → Prop)} {X : (Nat → Value) → Mem → Prop} (hS : wJ (kM Ss)) (kY : kM Ss M)
  (h : ei C ops o env M (fun env' M' => behind C o Ss M' (X env' M')) Kp) : ei C ops o env M (fun env' M' => kM Ss M' ∧ X env' M') Kp := by
 unfold ei at h ⊢
 cases he : D5 C.P o with
 | true =>
  simp only [behind, he] at h
  split
  ·rename_i hw; rw [if_pos hw] at h; exact mz h fun v M' hv => ku.1 hv
  ·rename_i hw; rw [if_neg hw] at h; exact ku.1 h
 | false =>
  simp only [behind, he, cond_false] at h
  split
  ·rename_i hw; rw [if_pos hw] at h
   unfold r8 at h ⊢
   unfold D5 at he
   cases hc : cls C.P o <;> rw [hc] at h he <;> simp only at h ⊢
   ·obtain ⟨v, hv, h⟩ := h; exact ⟨v, hv, kY, h⟩
   ·obtain ⟨v, hv, h⟩ := h; exact ⟨v, hv, kY, h⟩
   ·obtain ⟨ob, k, hn, h⟩ := h
    exact ⟨ob, k, hn, fun b hb => let ⟨v, hv, h⟩ := h b hb; ⟨v, hv, hS _ _ (o5 hb) kY, h⟩⟩
   ·simp at he
  ·rename_i hw; rw [if_neg hw] at h; exact ⟨kY, h⟩
theorem D6 {M M' : Mem} (h : M.le M') {a : Addr} : ∀ (n i : Nat) (vs : List Value), M.iS a i n = some vs → M'.iS a i n = some vs
 | 0, i, vs, hv => hv
 | n + 1, i, vs, hv => by
  simp only [Mem.iS] at hv ⊢
  cases hx : M.ld (a.add i) with
  | none => simp [hx] at hv
  | some v =>
   rw [Mem.LI h hx]
   simp only [hx] at hv
   cases hr : M.iS a (i + 1) n with
   | none => simp [hr] at hv
   | some rest => rw [D6 h n (i + 1) rest hr]; rw [hr] at hv; exact hv
theorem D7 {P : Program} {t : TypeId} {x : Value} {M : Mem} {K : Value → (Mem → Prop) → Prop} (h : F6 P t x M K) :
  ∃ v p, (∀ M', p M' → bK P (Instr.loadAt t x) M' = some v) ∧ p M ∧ wJ p ∧ K v p := by
 unfold F6 at h
 cases x <;> try exact h.elim
 rename_i p
 obtain ⟨b, o, hp, h2⟩ := jb h
 subst hp
 clear h
 cases hd : P.underlying t with
 | none => rw [hd] at h2; exact h2.elim
 | some d =>
  rw [hd] at h2
  have agg : vo d = true → (if (flat P 8 t).length = P.cellsOf t then FQ M ⟨b, o, none⟩ (flat P 8 t) 0 fun vs => K (.agg vs.toArray) (fun M' => M'.iS ⟨b, o, none⟩ 0 (P.cellsOf t) = some vs) else False) →
    ∃ v p, (∀ M', p M' → bK P (Instr.loadAt t (.pointer (some ⟨b, o, none⟩))) M' = some v) ∧ p M ∧ wJ p ∧ K v p := by
   intro eO h
   split at h
   ·rename_i hl
    obtain ⟨vs, hvs, h⟩ := vp h
    rw [hl] at hvs
    exact ⟨_, _, fun M' hm => oW hd eO rfl hm, hvs, fun M1 M2 hle h1 => D6 hle _ _ _ h1, h⟩
   ·exact h.elim
  cases d with
  | struct fs => exact agg rfl h2
  | array m e => exact agg rfl h2
  | _ => (obtain ⟨v, hv, h⟩ := oV h2; exact ⟨v, _, fun M' hm => wG hd rfl hm, hv, fun M1 M2 hle h1 => Mem.LI hle h1, h⟩)
theorem F8 {P : Program} {ρ : Operand → Value} {o : Oper} {M : Mem} {K : Value → (Mem → Prop) → Prop} (h : Bz P ρ o M K) :
  cls P o = .read ∧ ∃ v p, (∀ M', p M' → bK P (execOp ρ o) M' = some (.value v)) ∧ p M ∧ wJ p ∧ K v p := by
 unfold Bz at h
 split at h
 ·rename_i t a ho
  obtain ⟨v, p, h1, h2, h3, h4⟩ := D7 h
  obtain ⟨dst, op, type, pos, after, guard⟩ := o
  simp only at ho; subst ho
  exact ⟨rfl, v, p, fun M' hp => gm (h1 M' hp), h2, h3, h4⟩
 ·exact h.elim
theorem D8 {o : Oper} {env : Nat → Value} (h : F7 C.P (oQ env) o) : Ia C.P ops env o := by
 intro _
 unfold F7 at h
 split at h
 ·rename_i t len parts ho
  split at h
  ·rename_i e hu
   split at h
   ·rename_i i hi
    split at h
    ·rename_i z hz
     split at h
     ·rename_i hc
      split at h
      ·rename_i cs hcs
       have hb : LX C.P (oQ env) o Mem.empty (fun _ _ => True) := by
        unfold LX; rw [ho]; simp only
        unfold PW; rw [hu]; simp only
        rw [hi]; simp only
        rw [hz]; simp only
        rw [if_pos hc, hcs]
        exact fun _ _ => trivial
       obtain ⟨ob, k, hn, hk⟩ := H9 hb
       exact ⟨ob, k, hn, fun b => let ⟨v, hv, _⟩ := hk b rfl; ⟨v, hv⟩⟩
      ·exact h.elim
     ·exact h.elim
    ·exact h.elim
   ·exact h.elim
  ·exact h.elim
 ·rename_i e ho
  obtain ⟨dst, op, type, pos, after, guard⟩ := o
  simp only at ho; subst ho
  split at h
  ·rename_i z hz
   unfold zeroOf at hz
   cases hi : C.P.info? e with
   | none => simp [hi] at hz
   | some i =>
    simp only [hi, Option.bind_some] at hz
    refine ⟨.cells z.cells e, fun b => pure (Next.value (.pointer (some ⟨b, 0, none⟩))), ?_, fun b => ⟨_, rfl⟩⟩
    simp only [execOp]
    rw [DX C.P (Instr.alloc e true (.tuple #[])) _ (ob := .cells z.cells e) (k := fun b => pure (.pointer (some ⟨b, 0, none⟩))) (by
     unfold Instr.alloc
     rw [CF C.P _ _ (H8 hi hz)]
     rfl)]
    rfl
  ·exact h.elim
 ·rename_i e x ho
  obtain ⟨dst, op, type, pos, after, guard⟩ := o
  simp only at ho; subst ho
  exact ⟨.cells (oQ env x).cells e, fun b => pure (Next.value (.pointer (some ⟨b, 0, none⟩))), rfl, fun b => ⟨_, rfl⟩⟩
 ·exact h.elim
theorem jX {env : Nat → Value} {L i : Nat} : ∀ {l : List Nat} {X : Prop}, qx C ops env L i l X → X ∧ ∀ j ∈ l, j ≠ i → fz ops L j = true → ∀ oj, ops[j]? = some oj → Ia C.P ops env oj
 | [], X, h => ⟨h, fun j hj => by cases hj⟩
 | j :: l, X, h => by
  unfold qx at h
  cases hb : (Nat.beq j i || !fz ops L j) with
  | true =>
   rw [hb] at h
   obtain ⟨h1, h2⟩ := jX (l := l) h
   refine ⟨h1, fun k hk FE hr oj jd => ?_⟩
   rcases List.mem_cons.1 hk with rfl | hk
   ·simp only [Bool.or_eq_true, Bool.not_eq_true', hr] at hb
    rcases hb with hb | hb
    ·exact absurd (Nat.eq_of_beq_eq_true hb) FE
    ·cases hb
   ·exact h2 k hk FE hr oj jd
  | false =>
   rw [hb] at h
   simp only [cond_false] at h
   cases ho : ops[j]? with
   | none =>
    rw [ho] at h
    obtain ⟨h1, h2⟩ := jX (l := l) h
    refine ⟨h1, fun k hk FE hr oj jd => ?_⟩
    rcases List.mem_cons.1 hk with rfl | hk
    ·rw [ho] at jd; cases jd
    ·exact h2 k hk FE hr oj jd
   | some o =>
    rw [ho] at h
    obtain ⟨h0, h⟩ := h
    obtain ⟨h1, h2⟩ := jX (l := l) h
    refine ⟨h1, fun k hk FE hr oj jd => ?_⟩
    rcases List.mem_cons.1 hk with rfl | hk
    ·rw [ho] at jd; cases jd; exact D8 h0
    ·exact h2 k hk FE hr oj jd
theorem BA {i : Nat} {o : Oper} (ho : ops[i]? = some o) (hsel : ∀ (j : Nat) (o : Oper) cs b, ops[j]? = some o → o.op ≠ .select cs b) {eP : List Nat} (ha : oa ops eP = true) {S : Mem → Prop} {Kp : List PanicEntry → Mem → Prop} :
  ∀ (f L : Nat) (env : Nat → Value) (M : Mem), S M → Dn ops L → pb ops eP L i = true → fz ops L i = true → bP ops o env = false →
   dH C ops S K Kp f (L ||| 2 ^ i) (bl env o.dst undef) M → dH C ops S K Kp (f + 1) L env M
 | 0, L, env, M, kY, hd, hf, hr, hw, hx => fun eV => by
  refine ⟨fun hno => (by rw [hno i] at hr; cases hr), fun j hj => ?_⟩
  by_cases jA : j = i
  ·subst jA; unfold gf; rw [ho]; exact lB hw ⟨kY, hx⟩
  ·have hj' := fJ (i := i) hj jA
   have := (hx eV).1 j; rw [this] at hj'; cases hj'
 | f + 1, L, env, M, kY, hd, hf, hr, hw, hx => fun eV => by
  obtain ⟨hL, o1, ho1, gP⟩ := bL.1 hr
  rw [ho] at ho1; cases ho1
  refine ⟨fun hno => (by rw [hno i] at hr; cases hr), fun j hj => ?_⟩
  by_cases jA : j = i
  ·subst jA; unfold gf; rw [ho]; exact lB hw ⟨kY, hx⟩
  ·obtain ⟨JE, oj, jd, hallj⟩ := bL.1 hj
   have hap := D3 ho ha hd hf hr hj jd jA
   obtain ⟨a1, a2, a3⟩ := Oper.apart_spec hap
   have hj' := fJ (i := i) hj jA
   have iT := (hx eV).2 j hj'
   unfold gf at iT ⊢; rw [jd] at iT ⊢; simp only at iT ⊢
   rw [tT L i j] at iT
   have h2 := o6 hap (fun cs b => hsel j oj cs b jd) iT
   have fin : ∀ u M1, S M1 ∧ dH C ops S K Kp f (L ||| 2 ^ j ||| 2 ^ i) (bl (bl env oj.dst u) o.dst undef) M1 →
     S M1 ∧ dH C ops S K Kp (f + 1) (L ||| 2 ^ j) (bl env oj.dst u) M1 := fun u M1 hy =>
    ⟨hy.1, BA ho hsel ha f (L ||| 2 ^ j) (bl env oj.dst u) M1 hy.1 (hd.add hj) (yz ho hf) (fJ hr (Ne.symm jA)) ((eu o env oj.dst u a3).trans hw) hy.2⟩
   unfold ei at h2 ⊢
   split
   ·rename_i Mc; rw [if_pos Mc] at h2; exact mz h2 fun u M1 hy => fin u M1 hy
   ·rename_i Mc; rw [if_neg Mc] at h2; exact fin _ _ h2
theorem F9 (hC : C.Good) (hsel : ∀ (j : Nat) (o : Oper) cs b, ops[j]? = some o → o.op ≠ .select cs b) {eP : List Nat} (ha : oa ops eP = true) (t : Ex) :
  ∀ (Ss : List (Mem → Prop)), wJ (kM Ss) →
  (∀ (L : Nat) (env : Nat → Value) (M : Mem), kM Ss M → Dn ops L → sF C ops eP K Kp t Ss L 0 env M → dH C ops (kM Ss) K (vu Kp) (xM ops.size L) L env M) ∧
  (∀ (L tU : Nat) (env : Nat → Value) (M : Mem) (f : Nat), kM Ss M → xM ops.size L = f + 1 → tS M → Dn ops L → sF C ops eP K Kp t Ss L tU env M → tU ≠ 0 →
   ∀ i, fz ops L i = true → tU.testBit i = false → gf C ops (vu Kp) i env M fun env' M' => kM Ss M' ∧ dH C ops (kM Ss) K (vu Kp) f (L ||| 2 ^ i) env' M') := by
 have kp : ∀ c M', Kp c M' → vu Kp c M' := fun c M' h => ⟨M', fun _ _ h => h, h⟩
 have both : ∀ (t : Ex) (Ss : List (Mem → Prop)), (∀ (L : Nat) (tU : Nat) (env : Nat → Value) (M : Mem), kM Ss M → Dn ops L → sF C ops eP K Kp t Ss L tU env M → dH C ops (kM Ss) K (vu Kp) (xM ops.size L) L env M) →
   (∀ (L : Nat) (env : Nat → Value) (M : Mem), kM Ss M → Dn ops L → sF C ops eP K Kp t Ss L 0 env M → dH C ops (kM Ss) K (vu Kp) (xM ops.size L) L env M) ∧
   (∀ (L tU : Nat) (env : Nat → Value) (M : Mem) (f : Nat), kM Ss M → xM ops.size L = f + 1 → tS M → Dn ops L → sF C ops eP K Kp t Ss L tU env M → tU ≠ 0 →
    ∀ i, fz ops L i = true → tU.testBit i = false → gf C ops (vu Kp) i env M fun env' M' => kM Ss M' ∧ dH C ops (kM Ss) K (vu Kp) f (L ||| 2 ^ i) env' M') := fun t Ss h =>
  ⟨fun L env M => h L 0 env M, fun L tU env M f kY Mg eV hd ht _ j hj _ => by
   have hh := h L tU env M kY hd ht
   rw [Mg] at hh
   exact (hh eV).2 j hj⟩
 induction t with
 | done =>
  intro Ss hS
  refine ⟨fun L env M kY hd h => ?_, fun L tU env M f _ _ _ hd h Xo i hi WJ => ?_⟩
  ·obtain ⟨h1, h2⟩ := cond_true h
   refine JJ (fun i => ?_) h2 _
   cases hr : fz ops L i with
   | false => rfl
   | true => have := kN h1 i hr; simp at this
  ·obtain ⟨h1, h2⟩ := cond_true h
   have := kN h1 i hi; simp at this
 | step i t ih =>
  intro Ss hS
  refine both _ _ fun L tU env M kY hd h => ?_
  obtain ⟨h1, h2⟩ := cond_true h
  simp only [Bool.and_eq_true] at h1
  obtain ⟨hr, hf⟩ := h1
  obtain ⟨hL, o, ho, gP⟩ := bL.1 hr
  rw [ho] at h2; simp only at h2
  rw [lC (Array.getElem?_eq_some_iff.1 ho).1 hL]
  refine F5 hS ho hsel ha _ L env M kY hd hf hr ?_
  unfold gf; rw [ho]; simp only
  exact jc (xN (pe hS kY (iD hC h2)) kp) fun env' M' hx => ⟨hx.1, (ih Ss hS).1 _ env' M' hx.1 (hd.add hr) hx.2⟩
 | dD i t ih =>
  intro Ss hS
  refine both _ _ fun L tU env M kY hd h => ?_
  obtain ⟨h1, h2⟩ := cond_true h
  simp only [Bool.and_eq_true] at h1
  obtain ⟨hr, hf⟩ := h1
  obtain ⟨hL, o, ho, gP⟩ := bL.1 hr
  rw [ho] at h2; simp only at h2
  rw [lC (Array.getElem?_eq_some_iff.1 ho).1 hL]
  have yes : bP ops o env = true → Bz C.P (oQ env) o M (fun v p => sF C ops eP K Kp t ([p] ++ Ss) (L ||| 2 ^ i) 0 (bl env o.dst v) M) →
    dH C ops (kM Ss) K (vu Kp) (xM ops.size (L ||| 2 ^ i) + 1) L env M := fun hw hp => by
   obtain ⟨hc, v, p, p1, p2, p3, p4⟩ := F8 hp
   have hS' : wJ (kM ([p] ++ Ss)) := fun M1 M2 hle hx s hs => by
    rcases List.mem_cons.1 hs with rfl | hs
    ·exact p3 _ _ hle (hx _ (List.mem_cons_self ..))
    ·exact hS M1 M2 hle (fun s hs => hx s (List.mem_cons_of_mem _ hs)) s hs
   have hSM' : kM ([p] ++ Ss) M := fun s hs => by
    rcases List.mem_cons.1 hs with rfl | hs
    ·exact p2
    ·exact kY s hs
   refine JF ho hsel ha hc (s := execOp (oQ env) o) (v := v) _ L env M hd hf hr hw rfl (p1 M p2) kY ?_
   refine JK (fun M' hx => ?_) _ _ _ _ ((ih _ hS').1 _ _ M hSM' (hd.add hr) p4)
   exact ⟨fun s hs => hx s (List.mem_cons_of_mem _ hs), p1 M' (hx p (List.mem_cons_self ..))⟩
  have no : bP ops o env = false → sF C ops eP K Kp t ([] ++ Ss) (L ||| 2 ^ i) 0 (bl env o.dst undef) M →
    dH C ops (kM Ss) K (vu Kp) (xM ops.size (L ||| 2 ^ i) + 1) L env M := fun hw hp =>
   BA ho hsel ha _ L env M kY hd hf hr hw ((ih Ss hS).1 _ _ M kY (hd.add hr) hp)
  unfold R9 at h2
  cases hg : o.guard with
  | none => rw [hg] at h2; exact yes (tQ hg) h2
  | some jw =>
   obtain ⟨j, want⟩ := jw
   rw [hg] at h2
   simp only at h2
   cases hs : my ops j with
   | none => rw [hs] at h2; exact no (yx hg hs) h2
   | some s =>
    rw [hs] at h2
    simp only at h2
    cases he : env s <;> rw [he] at h2 <;> simp only at h2
    case bool e =>
     have hw := tR hg hs he
     cases e
     ·rw [mA he] at h2
      cases want <;> simp only [aO] at h2
      ·exact yes hw h2
      ·exact no hw h2
     ·rw [mA he] at h2
      cases want <;> simp only [aO] at h2
      ·exact no hw h2
      ·exact yes hw h2
    all_goals exact no (r9 hg hs (by simp [he])) h2
 | late i t ih =>
  intro Ss hS
  refine both _ _ fun L tU env M kY hd h => ?_
  obtain ⟨h1, h2⟩ := cond_true h
  simp only [Bool.and_eq_true] at h1
  obtain ⟨hr, hl⟩ := h1
  obtain ⟨hL, o, ho, gP⟩ := bL.1 hr
  rw [ho] at h2; simp only at h2
  obtain ⟨he, h2⟩ := cond_true h2
  have hce : cls C.P o = .Jx := by unfold D5 at he; cases hc : cls C.P o <;> rw [hc] at he <;> simp at he
  obtain ⟨h3, h4⟩ := jX h2
  have hc := lC (n := ops.size) (Array.getElem?_eq_some_iff.1 ho).1 hL
  rw [hc]
  refine JH hS (P6 Kp) ho hce hsel ha _ L env M hc kY hd hl hr (fun j oj hj jd jA => h4 j (List.mem_range.2 (Array.getElem?_eq_some_iff.1 jd).1) jA hj oj jd) ?_
  unfold gf; rw [ho]; simp only
  exact jc (xN (iD hC h3) kp) fun env' M' hx => ⟨(ku.1 hx).1, (ih Ss hS).1 _ env' M' (ku.1 hx).1 (hd.add hr) (ku.1 hx).2⟩
 | fork i a b iha ihb =>
  intro Ss hS
  refine ⟨fun L env M kY hd h => ?_, fun L tU env M f kY Mg eV hd h Xo j hj DD => ?_⟩
  ·obtain ⟨hr, h2⟩ := cond_true h
   obtain ⟨hL, o, ho, gP⟩ := bL.1 hr
   rw [ho] at h2; simp only at h2
   have hc := lC (n := ops.size) (Array.getElem?_eq_some_iff.1 ho).1 hL
   rw [hc]
   refine fun eV => ⟨fun hno => (by rw [hno i] at hr; cases hr), fun j hj => ?_⟩
   by_cases jA : j = i
   ·subst jA
    unfold gf; rw [ho]; simp only
    exact jc (xN (pe hS kY (iD hC h2.1)) kp) fun env' M' hx => ⟨hx.1, (iha Ss hS).1 _ env' M' hx.1 (hd.add hr) hx.2⟩
   ·exact (ihb Ss hS).2 L (0 ||| 2 ^ i) env M (xM ops.size (L ||| 2 ^ i)) kY hc eV hd h2.2 (by simp) j hj (by rw [dV]; simp [Ne.symm jA])
  ·obtain ⟨hr, h2⟩ := cond_true h
   obtain ⟨hL, o, ho, gP⟩ := bL.1 hr
   rw [ho] at h2; simp only at h2
   have hc := lC (n := ops.size) (Array.getElem?_eq_some_iff.1 ho).1 hL
   by_cases jA : j = i
   ·subst jA
    unfold gf; rw [ho]; simp only
    have hf : f = xM ops.size (L ||| 2 ^ j) := by omega
    subst hf
    exact jc (xN (pe hS kY (iD hC h2.1)) kp) fun env' M' hx => ⟨hx.1, (iha Ss hS).1 _ env' M' hx.1 (hd.add hr) hx.2⟩
   ·exact (ihb Ss hS).2 L (tU ||| 2 ^ i) env M f kY Mg eV hd h2.2 (by intro h0; have := dV tU i i; rw [h0] at this; simp at this) j hj (by rw [dV, DD]; simp [Ne.symm jA])
 | dead =>
  intro Ss hS
  refine ⟨fun L env M kY hd h => ?_, fun L tU env M f _ _ _ hd h Xo i hi WJ => ?_⟩
  ·obtain ⟨h1, _⟩ := cond_true h
   simp at h1
  ·obtain ⟨h1, _⟩ := cond_true h
   simp only [Bool.and_eq_true] at h1
   have := kN h1.1 i hi; rw [WJ] at this; cases this
theorem wM {P : Program} {a : Act} {o : Oper} {M F : Mem} {w : World} {K : Value → Mem → Prop} {Kp : List PanicEntry → Mem → Prop} {next : Act → World → Prop} {Q : Exit → Act → World → Prop}
  (h : dx P (execOp a.eval o) M (mw P K Kp) (fun v M' => Kp [{ v, recovered := false }] M')) (hd : M.dj F) (hi : (M.union F).In E w)
  (hn : ∀ v w', fR E F (K v) w' → next (a.put o.dst v) w') (hp : ∀ c w', fR E F (Kp c) w' → Q (.panic c) a w') : o.wp P a w next Q := by
 have hr := Jp P _ h hd hi
 unfold ja at hr
 unfold Oper.wp
 split at hr
 ·rename_i n w' hrun
  rw [hrun]
  obtain ⟨M', hk, hd', hi'⟩ := hr
  cases n <;> first | exact hk.elim | skip
  ·exact hn _ _ ⟨M', hk, hd', hi'⟩
  ·exact hn _ _ ⟨M', hk, hd', hi'⟩
  ·rename_i f args
   refine (hk E F w' hd' hi').mono fun e w'' he => ?_
   cases e with
   | returned v => exact hn _ _ he
   | panicked c => exact hp _ _ he
   | outgrown => exact he.elim
 ·rename_i v w' hrun
  rw [hrun]
  exact hp _ _ hr
 ·exact hr.elim
theorem tV {N : Nat} {env : Nat → Value} {a : Act} (eO : dS N env a.tmps) (hfit : ∀ o ∈ ops.toList, nt N o = true) (o : Oper) :
  Region.wanted o (yielded ops a.tmps) = bP ops o env := by
 unfold Region.wanted bP
 cases hg : o.guard with
 | none => rfl
 | some jw =>
  obtain ⟨j, want⟩ := jw
  simp only
  have hy : yielded ops a.tmps j = match (my ops j).map env with | some (.bool b) => some b | _ => none := by
   unfold yielded my
   cases hj : ops[j]? with
   | none => rfl
   | some oj =>
    simp only [Option.bind_some]
    cases hd : oj.dst with
    | none => rfl
    | some s =>
     have hm : oj ∈ ops.toList := by have := Array.mem_of_getElem? hj; simpa using this
     have hs := (gq (hfit oj hm)).2.1 s hd
     simp only [Option.bind_some, eO.2 s hs, Option.map_some]
     cases env s <;> rfl
  rw [hy]
  cases (my ops j).map env with
  | none => rfl
  | some v => cases v <;> first | rfl | (cases want <;> rename_i b <;> cases b <;> rfl)
structure Post (E : sA) (N : Nat) (Z : Act → Prop) (F : Mem) (K : (Nat → Value) → Mem → Prop) (Kp : List PanicEntry → Mem → Prop) (Q : Exit → Act → World → Prop) : Prop where
 normal : ∀ env M a w, dS N env a.tmps → Z a → M.dj F → (M.union F).In E w → K env M → Q .normal a w
 panic : ∀ c a w, Z a → fR E F (Kp c) w → Q (.panic c) a w
theorem put_defers {a : Act} {dst : Option Tmp} {v : Value} : (a.put dst v).defers = a.defers := by cases dst <;> rfl
theorem CJ {N : Nat} {Z : Act → Prop} {F : Mem} {Q : Exit → Act → World → Prop} (hz : ∀ o ∈ ops.toList, ∀ (a : Act) (v : Value), Z a → Z (a.put o.dst v)) (hfit : ∀ o ∈ ops.toList, nt N o = true)
  (hp : ∀ c a w, Z a → fR E F (Kp c) w → Q (.panic c) a w) {i : Nat} {env : Nat → Value} {M : Mem} {a : Act} {w : World} {K' : (Nat → Value) → Mem → Prop} {next : Act → World → Prop}
  (eO : dS N env a.tmps) (hds : Z a) (hd : M.dj F) (hi : (M.union F).In E w)
  (hn : ∀ env' M' a' w', dS N env' a'.tmps → Z a' → M'.dj F → (M'.union F).In E w' → K' env' M' → next a' w') (h : gf C ops Kp i env M K') : wpOp C.P ops Q i next a w := by
 unfold wpOp
 unfold gf at h
 cases ho : ops[i]? with
 | none => rw [ho] at h; exact hn _ _ _ _ eO hds hd hi h
 | some o =>
  rw [ho] at h
  simp only at h
  have hm : o ∈ ops.toList := by have := Array.mem_of_getElem? ho; simpa using this
  have hf := hfit o hm
  simp only
  rw [tV eO hfit]
  unfold ei at h
  split
  ·rename_i hw
   rw [if_pos hw] at h
   refine .inl (wM (K := fun v M' => K' (bl env o.dst v) M') (Kp := Kp) (F := F) (by rw [← eO.execOp hf]; exact yw h) hd hi (fun v w' hv => ?_) (fun c w' hc => hp _ _ _ hds hc))
   obtain ⟨M', hk, hd', hi'⟩ := hv
   exact hn _ _ _ _ (eO.put (gq hf).2.1 v) (hz o hm _ _ hds) hd' hi' hk
  ·rename_i hw
   rw [if_neg hw] at h
   exact hn _ _ _ _ (eO.put (gq hf).2.1 undef) (hz o hm _ _ hds) hd hi h
def pg (ops : Array Oper) (arr : Array Bool) (L : Nat) : Prop := arr.size = ops.size ∧ ∀ i, i < ops.size → arr[i]? = some (L.testBit i)
theorem pg.add {arr : Array Bool} {L i : Nat} (h : pg ops arr L) (hi : i < ops.size) : pg ops (arr.setIfInBounds i true) (L ||| 2 ^ i) := by
 refine ⟨by simp [h.1], fun k hk => ?_⟩
 by_cases FE : i = k
 ·subst FE; simp [h.1, hi]
 ·rw [Array.getElem?_setIfInBounds_ne FE, h.2 k hk, dV]; simp [FE]
theorem vv {arr : Array Bool} {L : Nat} (h : pg ops arr L) (wN : ∀ (j : Nat) (o : Oper), ops[j]? = some o → ∀ e ∈ o.after, Region.binds .any e = true → e.on < ops.size) (i : Nat) :
  i ∈ Region.ready .any ops arr ↔ fz ops L i = true := by
 rw [mem_ready, bL]
 constructor
 ·rintro ⟨h0, o, ho, gP⟩
  have hlt := (Array.getElem?_eq_some_iff.1 ho).1
  refine ⟨?_, o, ho, fun e he hb => ?_⟩
  ·have := h.2 i hlt; simp [Array.getD_eq_getD_getElem?, this] at h0; exact h0
  ·have h1 := gP e he hb
   have := h.2 e.on (wN i o ho e he hb)
   simpa [Array.getD_eq_getD_getElem?, this] using h1
 ·rintro ⟨h0, o, ho, gP⟩
  have hlt := (Array.getElem?_eq_some_iff.1 ho).1
  refine ⟨by simp [Array.getD_eq_getD_getElem?, h.2 i hlt, h0], o, ho, fun e he hb => ?_⟩
  have := h.2 e.on (wN i o ho e he hb)
  simp [Array.getD_eq_getD_getElem?, this, gP e he hb]
theorem AD {S : Mem → Prop} {N : Nat} {Z : Act → Prop} {F : Mem} {Q : Exit → Act → World → Prop} (hz : ∀ o ∈ ops.toList, ∀ (a : Act) (v : Value), Z a → Z (a.put o.dst v)) (hfit : ∀ o ∈ ops.toList, nt N o = true)
  (wN : ∀ (j : Nat) (o : Oper), ops[j]? = some o → ∀ e ∈ o.after, Region.binds .any e = true → e.on < ops.size) (hpost : Post E N Z F K Kp Q) :
  ∀ (f L : Nat) (arr : Array Bool) (env : Nat → Value) (M : Mem) (a : Act) (w : World), pg ops arr L → dS N env a.tmps → Z a → M.dj F → (M.union F).In E w →
   dH C ops S K (vu Kp) f L env M → wpAny C.P .any ops Q f arr a w := by
 intro f
 induction f with
 | zero =>
  intro L arr env M a w hl eO hds hd hi h
  have eV : tS M := ⟨w.heap.size, fun b hb => by
   cases hm : M b with
   | none => rfl
   | some o => have := hi.lt (Mem.union_left (F := F) hm); omega⟩
  obtain ⟨h1, h2⟩ := h eV
  refine ⟨?_, hpost.normal _ _ _ _ eO hds hd hi h2⟩
  rw [List.eq_nil_iff_forall_not_mem]
  intro i hmem
  have := (vv hl wN i).1 hmem
  rw [h1 i] at this; cases this
 | succ f ih =>
  intro L arr env M a w hl eO hds hd hi h
  have eV : tS M := ⟨w.heap.size, fun b hb => by
   cases hm : M b with
   | none => rfl
   | some o => have := hi.lt (Mem.union_left (F := F) hm); omega⟩
  obtain ⟨h1, h2⟩ := h eV
  refine ⟨fun P7 => ?_, fun i hmem => ?_⟩
  ·refine hpost.normal _ _ _ _ eO hds hd hi (h1 fun i => ?_)
   cases hr : fz ops L i with
   | false => rfl
   | true => have := (vv hl wN i).2 hr; rw [P7] at this; cases this
  ·have hr := (vv hl wN i).1 hmem
   obtain ⟨_, o, ho, _⟩ := bL.1 hr
   exact CJ hz hfit (fun c a w h1 h2 => hpost.panic c a w h1 h2.up) eO hds hd hi (fun env' M' a' w' g1 g2 g3 g4 g5 => ih _ _ _ _ _ _ (hl.add (Array.getElem?_eq_some_iff.1 ho).1) g1 g2 g3 g4 g5.2) (h2 i hr)
def Ty (C : Ctx) (ops : Array Oper) (K : (Nat → Value) → Mem → Prop) (Kp : List PanicEntry → Mem → Prop) : List Oper → (Nat → Value) → Mem → Prop
 | [], env, M => K env M
 | o :: rest, env, M => JC C ops o env M (fun env' M' => Ty C ops K Kp rest env' M') Kp
end
end Go.AF
