/- A part of proofs about one program. -/
import Derived.Test.YtfjgcljdnhkmaaaGreatZSchedLostRegL
set_option linter.unusedVariables false
namespace Go.AF
variable {E : si}
inductive Ex where
 | done
 | step (i : Nat) (t : Ex)
 | dx (i : Nat) (t : Ex)
 | late (i : Nat) (t : Ex)
 | fork (i : Nat) (a b : Ex)
 | dead
def uV (ops : Array Oper) (L tH : Nat) : Bool := (List.range ops.size).all fun i => !fA ops L i || tH.testBit i
def AJ : List (Mem → Prop) → Mem → Prop → Prop
 | [], _, X => X
 | s :: l, M, X => s M ∧ AJ l M X
def kH (l : List (Mem → Prop)) (M : Mem) : Prop := ∀ s ∈ l, s M
theorem ke : ∀ {l : List (Mem → Prop)} {M : Mem} {X : Prop}, AJ l M X ↔ kH l M ∧ X
 | [], M, X => by simp [AJ, kH]
 | s :: l, M, X => by
  simp only [AJ, ke (l := l), kH, List.mem_cons, forall_eq_or_imp]
  constructor
  ·rintro ⟨a, b, c⟩; exact ⟨⟨a, b⟩, c⟩
  ·rintro ⟨⟨a, b⟩, c⟩; exact ⟨a, b, c⟩
def FH (P : Program) (t : TypeId) (x : Value) (M : Mem) (K : Value → (Mem → Prop) → Prop) : Prop :=
 match x with
 | .pointer p => aI p fun b o =>
  match P.underlying t with
  | some (.struct _) | some (.array _ _) =>
   if (flat P 8 t).length = P.cellsOf t then
    Fs M ⟨b, o, none⟩ (flat P 8 t) 0 fun vs => K (.agg vs.toArray) (fun M' => M'.fy ⟨b, o, none⟩ 0 (P.cellsOf t) = some vs)
   else False
  | some d => Dk (VQ d) (M.ld ⟨b, o, none⟩) fun v => K v (fun M' => M'.ld ⟨b, o, none⟩ = some v)
  | none => False
 | _ => False
def AK (P : Program) (ρ : Operand → Value) (o : Oper) (M : Mem) (K : Value → (Mem → Prop) → Prop) : Prop :=
 match o.op with
 | .load t a => FH P t (ρ a) M K
 | _ => False
def Re (C : Ctx) (ops : Array Oper) (o : Oper) (env : Nat → Value) (M : Mem) (K : (Nat → Value) → List (Mem → Prop) → Prop) : Prop :=
 match o.guard with
 | none => AK C.P (oO env) o M (fun v p => K (bt env o.dst v) [p])
 | some (j, want) => match me ops j with
  | some s => match env s with
   | .bool e => match want with
    | true => aV e (AK C.P (oO (bt env (some s) (.bool true))) o M (fun v p => K (bt (bt env (some s) (.bool true)) o.dst v) [p])) (K (bt (bt env (some s) (.bool false)) o.dst undef) [])
    | false => aV e (K (bt (bt env (some s) (.bool true)) o.dst undef) []) (AK C.P (oO (bt env (some s) (.bool false))) o M (fun v p => K (bt (bt env (some s) (.bool false)) o.dst v) [p]))
   | _ => K (bt env o.dst undef) []
  | none => K (bt env o.dst undef) []
def FI (P : Program) (ρ : Operand → Value) (o : Oper) : Prop :=
 match o.op with
 | .buildSlice t len parts => match P.underlying t with
  | some (.slice e) => match P.info? e with
   | some i => match i.zero with
    | some z => if z.cells.toList.length = i.size ∧ len * i.size ≤ 16777216 then
      (match xP (fun k => some (k * i.size, i.size)) (List.replicate len z.cells.toList).flatten (parts.toList.map fun p => (p.1, ρ p.2)) with
      | some _ => True
      | none => False) else False
    | none => False
   | none => False
  | _ => False
 | .alloc e => match zeroOf P e with
  | some _ => True
  | none => False
 | .box _ _ => True
 | _ => False
def qo (C : Ctx) (ops : Array Oper) (env : Nat → Value) (L i : Nat) : List Nat → Prop → Prop
 | [], X => X
 | j :: l, X => bif Nat.beq j i || !fA ops L j then qo C ops env L i l X else
   (match ops[j]? with
   | some o => FI C.P (oO env) o ∧ qo C ops env L i l X
   | none => qo C ops env L i l X)
def DG (P : Program) (o : Oper) : Bool := match cls P o with
 | .I9 => true
 | _ => false
def behind (C : Ctx) (o : Oper) (Ss : List (Mem → Prop)) (M : Mem) (X : Prop) : Prop := bif DG C.P o then AJ Ss M X else X
def sr (C : Ctx) (ops : Array Oper) (eX : List Nat) (K : (Nat → Value) → Mem → Prop) (Kp : List PanicEntry → Mem → Prop) : Ex → List (Mem → Prop) → Nat → Nat → (Nat → Value) → Mem → Prop
 | .done, _, L, _, env, M => bif uV ops L 0 then K env M else False
 | .step i t, Ss, L, _, env, M => bif fA ops L i && xW C.P ops eX L i then
   (match ops[i]? with
   | some o => Je C ops o env M (fun env' M' => behind C o Ss M' (sr C ops eX K Kp t Ss (L ||| 2 ^ i) 0 env' M')) Kp
   | none => False) else False
 | .dx i t, Ss, L, _, env, M => bif fA ops L i && oY ops eX L i then
   (match ops[i]? with
   | some o => Re C ops o env M (fun env' p => sr C ops eX K Kp t (p ++ Ss) (L ||| 2 ^ i) 0 env' M)
   | none => False) else False
 | .late i t, Ss, L, _, env, M => bif fA ops L i && vX C.P ops eX L i then
   (match ops[i]? with
   | some o => bif DG C.P o then qo C ops env L i (List.range ops.size) (Je C ops o env M (fun env' M' => AJ Ss M' (sr C ops eX K Kp t Ss (L ||| 2 ^ i) 0 env' M')) Kp) else False
   | none => False) else False
 | .fork i a b, Ss, L, tH, env, M => bif fA ops L i then
   (match ops[i]? with
   | some o => Je C ops o env M (fun env' M' => behind C o Ss M' (sr C ops eX K Kp a Ss (L ||| 2 ^ i) 0 env' M')) Kp ∧ sr C ops eX K Kp b Ss L (tH ||| 2 ^ i) env M
   | none => False) else False
 | .dead, _, L, tH, _, _ => bif uV ops L tH && !Nat.beq tH 0 then True else False
def uW (Kp : List PanicEntry → Mem → Prop) : List PanicEntry → Mem → Prop := fun c M => ∃ M1, M1.le M ∧ Kp c M1
theorem O8 (Kp : List PanicEntry → Mem → Prop) : Sy (uW Kp) := fun _ _ _ hle ⟨M1, h1, h2⟩ => ⟨M1, fun b o h => hle b o (h1 b o h), h2⟩
theorem fP.up {F : Mem} {Kp : List PanicEntry → Mem → Prop} {c : List PanicEntry} {w : World} (h : fP E F (uW Kp c) w) : fP E F (Kp c) w := by
 obtain ⟨M, ⟨M1, hle, hk⟩, hd, hi⟩ := h
 refine ⟨M1, hk, fun b => ?_, ⟨fun b o hb => ?_, hi.2⟩⟩
 ·rcases hd b with h | h
  ·left; cases hm : M1 b with
   | none => rfl
   | some o => rw [hle b o hm] at h; cases h
  ·exact .inr h
 ·unfold Mem.union at hb
  cases hm : M1 b with
  | some o' => rw [hm] at hb; cases hb; exact hi.1 b o (Mem.union_left (hle b o hm))
  | none =>
   rw [hm] at hb
   refine hi.1 b o ?_
   unfold Mem.union
   rcases hd b with h | h
   ·rw [h]; exact hb
   ·rw [h] at hb; cases hb
section
variable {C : Ctx} {ops : Array Oper} {K : (Nat → Value) → Mem → Prop} {Kp : List PanicEntry → Mem → Prop}
theorem kI {L tH : Nat} (h : uV ops L tH = true) (i : Nat) (hi : fA ops L i = true) : tH.testBit i = true := by
 obtain ⟨_, o, ho, _⟩ := bM.1 hi
 have := List.all_eq_true.1 h i (List.mem_range.2 (Array.getElem?_eq_some_iff.1 ho).1)
 simpa [hi] using this
theorem Jl {S : Mem → Prop} {L : Nat} {env : Nat → Value} {M : Mem} (h : ∀ i, fA ops L i = false) (hk : K env M) : ∀ f, dK C ops S K Kp f L env M
 | 0 => fun _ => ⟨h, hk⟩
 | f + 1 => fun _ => ⟨fun _ => hk, fun i hi => by rw [h i] at hi; cases hi⟩
theorem cond_true {b : Bool} {X : Prop} (h : bif b then X else False) : b = true ∧ X := by cases b; exact h.elim; exact ⟨rfl, h⟩
theorem SB {ρ : Operand → Value} {o : Oper} {M : Mem} {K : Value → Mem → Prop} {uQ : List PanicEntry → Mem → Prop} (h : rR C ρ o M K Kp) (hp : ∀ c M', Kp c M' → uQ c M') : rR C ρ o M K uQ := by
 unfold rR at h ⊢
 split at h
 ·exact h
 ·exact h
 ·exact h
 ·refine ir C.P _ h (fun n M' hn => ?_) (fun _ _ h => hp _ _ h)
  cases n <;> first | exact hn.elim | exact hn | exact ae.mono hn (fun _ _ h => h) hp
theorem xq {o : Oper} {env : Nat → Value} {M : Mem} {uQ : List PanicEntry → Mem → Prop} (h : eD C ops o env M K Kp) (hp : ∀ c M', Kp c M' → uQ c M') : eD C ops o env M K uQ := by
 unfold eD at h ⊢
 split
 ·rename_i hw; rw [if_pos hw] at h; exact SB h hp
 ·rename_i hw; rw [if_neg hw] at h; exact h
theorem Jm {S S' : Mem → Prop} (hs : ∀ M, S M → S' M) : ∀ (f L : Nat) (env : Nat → Value) (M : Mem), dK C ops S K Kp f L env M → dK C ops S' K Kp f L env M := by
 intro f
 induction f with
 | zero => intro L env M h; exact h
 | succ f ih => intro L env M h eS; exact ⟨(h eS).1, fun j hj => AH ((h eS).2 j hj) fun env' M' hx => ⟨hs _ hx.1, ih _ _ _ hx.2⟩⟩
theorem oZ {o : Oper} {env : Nat → Value} {M : Mem} {Ss : List (Mem → Prop)} {X : (Nat → Value) → Mem → Prop} (hS : vW (kH Ss)) (kX : kH Ss M)
  (h : eD C ops o env M (fun env' M' => behind C o Ss M' (X env' M')) Kp) : eD C ops o env M (fun env' M' => kH Ss M' ∧ X env' M') Kp := by
 unfold eD at h ⊢
 cases he : DG C.P o with
 | true =>
  simp only [behind, he] at h
  split
  ·rename_i hw; rw [if_pos hw] at h; exact mh h fun v M' hv => ke.1 hv
  ·rename_i hw; rw [if_neg hw] at h; exact ke.1 h
 | false =>
  simp only [behind, he, cond_false] at h
  split
  ·rename_i hw; rw [if_pos hw] at h
   unfold rR at h ⊢
   unfold DG at he
   cases hc : cls C.P o <;> rw [hc] at h he <;> simp only at h ⊢
   ·obtain ⟨v, hv, h⟩ := h; exact ⟨v, hv, kX, h⟩
   ·obtain ⟨v, hv, h⟩ := h; exact ⟨v, hv, kX, h⟩
   ·obtain ⟨ob, k, hn, h⟩ := h
    exact ⟨ob, k, hn, fun b hb => let ⟨v, hv, h⟩ := h b hb; ⟨v, hv, hS _ _ (oW hb) kX, h⟩⟩
   ·simp at he
  ·rename_i hw; rw [if_neg hw] at h; exact ⟨kX, h⟩
theorem DH {M M' : Mem} (h : M.le M') {a : Addr} : ∀ (n i : Nat) (vs : List Value), M.fy a i n = some vs → M'.fy a i n = some vs
 | 0, i, vs, hv => hv
 | n + 1, i, vs, hv => by
  simp only [Mem.fy] at hv ⊢
  cases hx : M.ld (a.add i) with
  | none => simp [hx] at hv
  | some v =>
   rw [Mem.K9 h hx]
   simp only [hx] at hv
   cases hr : M.fy a (i + 1) n with
   | none => simp [hr] at hv
   | some rest => rw [DH h n (i + 1) rest hr]; rw [hr] at hv; exact hv
theorem DI {P : Program} {t : TypeId} {x : Value} {M : Mem} {K : Value → (Mem → Prop) → Prop} (h : FH P t x M K) :
  ∃ v p, (∀ M', p M' → bN P (Instr.loadAt t x) M' = some v) ∧ p M ∧ vW p ∧ K v p := by
 unfold FH at h
 cases x <;> try exact h.elim
 rename_i p
 obtain ⟨b, o, hp, h2⟩ := iS h
 subst hp
 clear h
 cases hd : P.underlying t with
 | none => rw [hd] at h2; exact h2.elim
 | some d =>
  rw [hd] at h2
  have agg : uR d = true → (if (flat P 8 t).length = P.cellsOf t then Fs M ⟨b, o, none⟩ (flat P 8 t) 0 fun vs => K (.agg vs.toArray) (fun M' => M'.fy ⟨b, o, none⟩ 0 (P.cellsOf t) = some vs) else False) →
    ∃ v p, (∀ M', p M' → bN P (Instr.loadAt t (.pointer (some ⟨b, o, none⟩))) M' = some v) ∧ p M ∧ vW p ∧ K v p := by
   intro eW h
   split at h
   ·rename_i hl
    obtain ⟨vs, hvs, h⟩ := uS h
    rw [hl] at hvs
    exact ⟨_, _, fun M' hm => oS hd eW rfl hm, hvs, fun M1 M2 hle h1 => DH hle _ _ _ h1, h⟩
   ·exact h.elim
  cases d with
  | struct fs => exact agg rfl h2
  | array m e => exact agg rfl h2
  | _ => (obtain ⟨v, hv, h⟩ := oR h2; exact ⟨v, _, fun M' hm => vT hd rfl hm, hv, fun M1 M2 hle h1 => Mem.K9 hle h1, h⟩)
theorem FJ {P : Program} {ρ : Operand → Value} {o : Oper} {M : Mem} {K : Value → (Mem → Prop) → Prop} (h : AK P ρ o M K) :
  cls P o = .read ∧ ∃ v p, (∀ M', p M' → bN P (execOp ρ o) M' = some (.value v)) ∧ p M ∧ vW p ∧ K v p := by
 unfold AK at h
 split at h
 ·rename_i t a ho
  obtain ⟨v, p, h1, h2, h3, h4⟩ := DI h
  obtain ⟨dst, op, type, pos, after, guard⟩ := o
  simp only at ho; subst ho
  exact ⟨rfl, v, p, fun M' hp => fZ (h1 M' hp), h2, h3, h4⟩
 ·exact h.elim
theorem DJ {o : Oper} {env : Nat → Value} (h : FI C.P (oO env) o) : HG C.P ops env o := by
 intro _
 unfold FI at h
 split at h
 ·rename_i t len parts ho
  split at h
  ·rename_i e hu
   split at h
   ·rename_i i hi
    split at h
    ·rename_i z hz
     split at h
     ·rename_i hc
      split at h
      ·rename_i cs hcs
       have hb : Ln C.P (oO env) o Mem.empty (fun _ _ => True) := by
        unfold Ln; rw [ho]; simp only
        unfold OZ; rw [hu]; simp only
        rw [hi]; simp only
        rw [hz]; simp only
        rw [if_pos hc, hcs]
        exact fun _ _ => trivial
       obtain ⟨ob, k, hn, hk⟩ := HF hb
       exact ⟨ob, k, hn, fun b => let ⟨v, hv, _⟩ := hk b rfl; ⟨v, hv⟩⟩
      ·exact h.elim
     ·exact h.elim
    ·exact h.elim
   ·exact h.elim
  ·exact h.elim
 ·rename_i e ho
  obtain ⟨dst, op, type, pos, after, guard⟩ := o
  simp only at ho; subst ho
  split at h
  ·rename_i z hz
   unfold zeroOf at hz
   cases hi : C.P.info? e with
   | none => simp [hi] at hz
   | some i =>
    simp only [hi, Option.bind_some] at hz
    refine ⟨.cells z.cells e, fun b => pure (Next.value (.pointer (some ⟨b, 0, none⟩))), ?_, fun b => ⟨_, rfl⟩⟩
    simp only [execOp]
    rw [Dy C.P (Instr.alloc e true (.tuple #[])) _ (ob := .cells z.cells e) (k := fun b => pure (.pointer (some ⟨b, 0, none⟩))) (by
     unfold Instr.alloc
     rw [B5 C.P _ _ (HE hi hz)]
     rfl)]
    rfl
  ·exact h.elim
 ·rename_i e x ho
  obtain ⟨dst, op, type, pos, after, guard⟩ := o
  simp only at ho; subst ho
  exact ⟨.cells (oO env x).cells e, fun b => pure (Next.value (.pointer (some ⟨b, 0, none⟩))), rfl, fun b => ⟨_, rfl⟩⟩
 ·exact h.elim
theorem jU {env : Nat → Value} {L i : Nat} : ∀ {l : List Nat} {X : Prop}, qo C ops env L i l X → X ∧ ∀ j ∈ l, j ≠ i → fA ops L j = true → ∀ oj, ops[j]? = some oj → HG C.P ops env oj
 | [], X, h => ⟨h, fun j hj => by cases hj⟩
 | j :: l, X, h => by
  unfold qo at h
  cases hb : (Nat.beq j i || !fA ops L j) with
  | true =>
   rw [hb] at h
   obtain ⟨h1, h2⟩ := jU (l := l) h
   refine ⟨h1, fun k hk Fe hr oj iU => ?_⟩
   rcases List.mem_cons.1 hk with rfl | hk
   ·simp only [Bool.or_eq_true, Bool.not_eq_true', hr] at hb
    rcases hb with hb | hb
    ·exact absurd (Nat.eq_of_beq_eq_true hb) Fe
    ·cases hb
   ·exact h2 k hk Fe hr oj iU
  | false =>
   rw [hb] at h
   simp only [cond_false] at h
   cases ho : ops[j]? with
   | none =>
    rw [ho] at h
    obtain ⟨h1, h2⟩ := jU (l := l) h
    refine ⟨h1, fun k hk Fe hr oj iU => ?_⟩
    rcases List.mem_cons.1 hk with rfl | hk
    ·rw [ho] at iU; cases iU
    ·exact h2 k hk Fe hr oj iU
   | some o =>
    rw [ho] at h
    obtain ⟨h0, h⟩ := h
    obtain ⟨h1, h2⟩ := jU (l := l) h
    refine ⟨h1, fun k hk Fe hr oj iU => ?_⟩
    rcases List.mem_cons.1 hk with rfl | hk
    ·rw [ho] at iU; cases iU; exact DJ h0
    ·exact h2 k hk Fe hr oj iU
theorem AM {i : Nat} {o : Oper} (ho : ops[i]? = some o) (hsel : ∀ (j : Nat) (o : Oper) cs b, ops[j]? = some o → o.op ≠ .select cs b) {eX : List Nat} (ha : nU ops eX = true) {S : Mem → Prop} {Kp : List PanicEntry → Mem → Prop} :
  ∀ (f L : Nat) (env : Nat → Value) (M : Mem), S M → Dn ops L → oY ops eX L i = true → fA ops L i = true → bR ops o env = false →
   dK C ops S K Kp f (L ||| 2 ^ i) (bt env o.dst undef) M → dK C ops S K Kp (f + 1) L env M
 | 0, L, env, M, kX, hd, hf, hr, hw, hx => fun eS => by
  refine ⟨fun hno => (by rw [hno i] at hr; cases hr), fun j hj => ?_⟩
  by_cases jD : j = i
  ·subst jD; unfold fU; rw [ho]; exact lz hw ⟨kX, hx⟩
  ·have hj' := fI (i := i) hj jD
   have := (hx eS).1 j; rw [this] at hj'; cases hj'
 | f + 1, L, env, M, kX, hd, hf, hr, hw, hx => fun eS => by
  obtain ⟨hL, o1, ho1, gJ⟩ := bM.1 hr
  rw [ho] at ho1; cases ho1
  refine ⟨fun hno => (by rw [hno i] at hr; cases hr), fun j hj => ?_⟩
  by_cases jD : j = i
  ·subst jD; unfold fU; rw [ho]; exact lz hw ⟨kX, hx⟩
  ·obtain ⟨Jg, oj, iU, hallj⟩ := bM.1 hj
   have hap := DE ho ha hd hf hr hj iU jD
   obtain ⟨a1, a2, a3⟩ := Oper.apart_spec hap
   have hj' := fI (i := i) hj jD
   have iM := (hx eS).2 j hj'
   unfold fU at iM ⊢; rw [iU] at iM ⊢; simp only at iM ⊢
   rw [tG L i j] at iM
   have h2 := oX hap (fun cs b => hsel j oj cs b iU) iM
   have fin : ∀ u M1, S M1 ∧ dK C ops S K Kp f (L ||| 2 ^ j ||| 2 ^ i) (bt (bt env oj.dst u) o.dst undef) M1 →
     S M1 ∧ dK C ops S K Kp (f + 1) (L ||| 2 ^ j) (bt env oj.dst u) M1 := fun u M1 hy =>
    ⟨hy.1, AM ho hsel ha f (L ||| 2 ^ j) (bt env oj.dst u) M1 hy.1 (hd.add hj) (xY ho hf) (fI hr (Ne.symm jD)) ((eH o env oj.dst u a3).trans hw) hy.2⟩
   unfold eD at h2 ⊢
   split
   ·rename_i Lr; rw [if_pos Lr] at h2; exact mh h2 fun u M1 hy => fin u M1 hy
   ·rename_i Lr; rw [if_neg Lr] at h2; exact fin _ _ h2
theorem FK (hC : C.Good) (hsel : ∀ (j : Nat) (o : Oper) cs b, ops[j]? = some o → o.op ≠ .select cs b) {eX : List Nat} (ha : nU ops eX = true) (t : Ex) :
  ∀ (Ss : List (Mem → Prop)), vW (kH Ss) →
  (∀ (L : Nat) (env : Nat → Value) (M : Mem), kH Ss M → Dn ops L → sr C ops eX K Kp t Ss L 0 env M → dK C ops (kH Ss) K (uW Kp) (xp ops.size L) L env M) ∧
  (∀ (L tH : Nat) (env : Nat → Value) (M : Mem) (f : Nat), kH Ss M → xp ops.size L = f + 1 → tF M → Dn ops L → sr C ops eX K Kp t Ss L tH env M → tH ≠ 0 →
   ∀ i, fA ops L i = true → tH.testBit i = false → fU C ops (uW Kp) i env M fun env' M' => kH Ss M' ∧ dK C ops (kH Ss) K (uW Kp) f (L ||| 2 ^ i) env' M') := by
 have kp : ∀ c M', Kp c M' → uW Kp c M' := fun c M' h => ⟨M', fun _ _ h => h, h⟩
 have both : ∀ (t : Ex) (Ss : List (Mem → Prop)), (∀ (L : Nat) (tH : Nat) (env : Nat → Value) (M : Mem), kH Ss M → Dn ops L → sr C ops eX K Kp t Ss L tH env M → dK C ops (kH Ss) K (uW Kp) (xp ops.size L) L env M) →
   (∀ (L : Nat) (env : Nat → Value) (M : Mem), kH Ss M → Dn ops L → sr C ops eX K Kp t Ss L 0 env M → dK C ops (kH Ss) K (uW Kp) (xp ops.size L) L env M) ∧
   (∀ (L tH : Nat) (env : Nat → Value) (M : Mem) (f : Nat), kH Ss M → xp ops.size L = f + 1 → tF M → Dn ops L → sr C ops eX K Kp t Ss L tH env M → tH ≠ 0 →
    ∀ i, fA ops L i = true → tH.testBit i = false → fU C ops (uW Kp) i env M fun env' M' => kH Ss M' ∧ dK C ops (kH Ss) K (uW Kp) f (L ||| 2 ^ i) env' M') := fun t Ss h =>
  ⟨fun L env M => h L 0 env M, fun L tH env M f kX FG eS hd ht _ j hj _ => by
   have hh := h L tH env M kX hd ht
   rw [FG] at hh
   exact (hh eS).2 j hj⟩
 induction t with
 | done =>
  intro Ss hS
  refine ⟨fun L env M kX hd h => ?_, fun L tH env M f _ _ _ hd h WK i hi VV => ?_⟩
  ·obtain ⟨h1, h2⟩ := cond_true h
   refine Jl (fun i => ?_) h2 _
   cases hr : fA ops L i with
   | false => rfl
   | true => have := kI h1 i hr; simp at this
  ·obtain ⟨h1, h2⟩ := cond_true h
   have := kI h1 i hi; simp at this
 | step i t ih =>
  intro Ss hS
  refine both _ _ fun L tH env M kX hd h => ?_
  obtain ⟨h1, h2⟩ := cond_true h
  simp only [Bool.and_eq_true] at h1
  obtain ⟨hr, hf⟩ := h1
  obtain ⟨hL, o, ho, gJ⟩ := bM.1 hr
  rw [ho] at h2; simp only at h2
  rw [lA (Array.getElem?_eq_some_iff.1 ho).1 hL]
  refine FF hS ho hsel ha _ L env M kX hd hf hr ?_
  unfold fU; rw [ho]; simp only
  exact iT (xq (oZ hS kX (iy hC h2)) kp) fun env' M' hx => ⟨hx.1, (ih Ss hS).1 _ env' M' hx.1 (hd.add hr) hx.2⟩
 | dx i t ih =>
  intro Ss hS
  refine both _ _ fun L tH env M kX hd h => ?_
  obtain ⟨h1, h2⟩ := cond_true h
  simp only [Bool.and_eq_true] at h1
  obtain ⟨hr, hf⟩ := h1
  obtain ⟨hL, o, ho, gJ⟩ := bM.1 hr
  rw [ho] at h2; simp only at h2
  rw [lA (Array.getElem?_eq_some_iff.1 ho).1 hL]
  have yes : bR ops o env = true → AK C.P (oO env) o M (fun v p => sr C ops eX K Kp t ([p] ++ Ss) (L ||| 2 ^ i) 0 (bt env o.dst v) M) →
    dK C ops (kH Ss) K (uW Kp) (xp ops.size (L ||| 2 ^ i) + 1) L env M := fun hw hp => by
   obtain ⟨hc, v, p, p1, p2, p3, p4⟩ := FJ hp
   have hS' : vW (kH ([p] ++ Ss)) := fun M1 M2 hle hx s hs => by
    rcases List.mem_cons.1 hs with rfl | hs
    ·exact p3 _ _ hle (hx _ (List.mem_cons_self ..))
    ·exact hS M1 M2 hle (fun s hs => hx s (List.mem_cons_of_mem _ hs)) s hs
   have aaa : kH ([p] ++ Ss) M := fun s hs => by
    rcases List.mem_cons.1 hs with rfl | hs
    ·exact p2
    ·exact kX s hs
   refine Jh ho hsel ha hc (s := execOp (oO env) o) (v := v) _ L env M hd hf hr hw rfl (p1 M p2) kX ?_
   refine Jm (fun M' hx => ?_) _ _ _ _ ((ih _ hS').1 _ _ M aaa (hd.add hr) p4)
   exact ⟨fun s hs => hx s (List.mem_cons_of_mem _ hs), p1 M' (hx p (List.mem_cons_self ..))⟩
  have no : bR ops o env = false → sr C ops eX K Kp t ([] ++ Ss) (L ||| 2 ^ i) 0 (bt env o.dst undef) M →
    dK C ops (kH Ss) K (uW Kp) (xp ops.size (L ||| 2 ^ i) + 1) L env M := fun hw hp =>
   AM ho hsel ha _ L env M kX hd hf hr hw ((ih Ss hS).1 _ _ M kX (hd.add hr) hp)
  unfold Re at h2
  cases hg : o.guard with
  | none => rw [hg] at h2; exact yes (tD hg) h2
  | some jw =>
   obtain ⟨j, want⟩ := jw
   rw [hg] at h2
   simp only at h2
   cases hs : me ops j with
   | none => rw [hs] at h2; exact no (xV hg hs) h2
   | some s =>
    rw [hs] at h2
    simp only at h2
    cases he : env s <;> rw [he] at h2 <;> simp only at h2
    case bool e =>
     have hw := tE hg hs he
     cases e
     ·rw [mj he] at h2
      cases want <;> simp only [aV] at h2
      ·exact yes hw h2
      ·exact no hw h2
     ·rw [mj he] at h2
      cases want <;> simp only [aV] at h2
      ·exact no hw h2
      ·exact yes hw h2
    all_goals exact no (rT hg hs (by simp [he])) h2
 | late i t ih =>
  intro Ss hS
  refine both _ _ fun L tH env M kX hd h => ?_
  obtain ⟨h1, h2⟩ := cond_true h
  simp only [Bool.and_eq_true] at h1
  obtain ⟨hr, hl⟩ := h1
  obtain ⟨hL, o, ho, gJ⟩ := bM.1 hr
  rw [ho] at h2; simp only at h2
  obtain ⟨he, h2⟩ := cond_true h2
  have hce : cls C.P o = .I9 := by unfold DG at he; cases hc : cls C.P o <;> rw [hc] at he <;> simp at he
  obtain ⟨h3, h4⟩ := jU h2
  have hc := lA (n := ops.size) (Array.getElem?_eq_some_iff.1 ho).1 hL
  rw [hc]
  refine Jj hS (O8 Kp) ho hce hsel ha _ L env M hc kX hd hl hr (fun j oj hj iU jD => h4 j (List.mem_range.2 (Array.getElem?_eq_some_iff.1 iU).1) jD hj oj iU) ?_
  unfold fU; rw [ho]; simp only
  exact iT (xq (iy hC h3) kp) fun env' M' hx => ⟨(ke.1 hx).1, (ih Ss hS).1 _ env' M' (ke.1 hx).1 (hd.add hr) (ke.1 hx).2⟩
 | fork i a b iha ihb =>
  intro Ss hS
  refine ⟨fun L env M kX hd h => ?_, fun L tH env M f kX FG eS hd h WK j hj Da => ?_⟩
  ·obtain ⟨hr, h2⟩ := cond_true h
   obtain ⟨hL, o, ho, gJ⟩ := bM.1 hr
   rw [ho] at h2; simp only at h2
   have hc := lA (n := ops.size) (Array.getElem?_eq_some_iff.1 ho).1 hL
   rw [hc]
   refine fun eS => ⟨fun hno => (by rw [hno i] at hr; cases hr), fun j hj => ?_⟩
   by_cases jD : j = i
   ·subst jD
    unfold fU; rw [ho]; simp only
    exact iT (xq (oZ hS kX (iy hC h2.1)) kp) fun env' M' hx => ⟨hx.1, (iha Ss hS).1 _ env' M' hx.1 (hd.add hr) hx.2⟩
   ·exact (ihb Ss hS).2 L (0 ||| 2 ^ i) env M (xp ops.size (L ||| 2 ^ i)) kX hc eS hd h2.2 (by simp) j hj (by rw [ej]; simp [Ne.symm jD])
  ·obtain ⟨hr, h2⟩ := cond_true h
   obtain ⟨hL, o, ho, gJ⟩ := bM.1 hr
   rw [ho] at h2; simp only at h2
   have hc := lA (n := ops.size) (Array.getElem?_eq_some_iff.1 ho).1 hL
   by_cases jD : j = i
   ·subst jD
    unfold fU; rw [ho]; simp only
    have hf : f = xp ops.size (L ||| 2 ^ j) := by omega
    subst hf
    exact iT (xq (oZ hS kX (iy hC h2.1)) kp) fun env' M' hx => ⟨hx.1, (iha Ss hS).1 _ env' M' hx.1 (hd.add hr) hx.2⟩
   ·exact (ihb Ss hS).2 L (tH ||| 2 ^ i) env M f kX FG eS hd h2.2 (by intro h0; have := ej tH i i; rw [h0] at this; simp at this) j hj (by rw [ej, Da]; simp [Ne.symm jD])
 | dead =>
  intro Ss hS
  refine ⟨fun L env M kX hd h => ?_, fun L tH env M f _ _ _ hd h WK i hi VV => ?_⟩
  ·obtain ⟨h1, _⟩ := cond_true h
   simp at h1
  ·obtain ⟨h1, _⟩ := cond_true h
   simp only [Bool.and_eq_true] at h1
   have := kI h1.1 i hi; rw [VV] at this; cases this
theorem vY {P : Program} {a : Act} {o : Oper} {M F : Mem} {w : World} {K : Value → Mem → Prop} {Kp : List PanicEntry → Mem → Prop} {next : Act → World → Prop} {Q : Exit → Act → World → Prop}
  (h : dP P (execOp a.eval o) M (mb P K Kp) (fun v M' => Kp [{ v, recovered := false }] M')) (hd : M.dj F) (hi : (M.union F).In E w)
  (hn : ∀ v w', fP E F (K v) w' → next (a.put o.dst v) w') (hp : ∀ c w', fP E F (Kp c) w' → Q (.panic c) a w') : o.wp P a w next Q := by
 have hr := IV P _ h hd hi
 unfold iR at hr
 unfold Oper.wp
 split at hr
 ·rename_i n w' hrun
  rw [hrun]
  obtain ⟨M', hk, hd', hi'⟩ := hr
  cases n <;> first | exact hk.elim | skip
  ·exact hn _ _ ⟨M', hk, hd', hi'⟩
  ·exact hn _ _ ⟨M', hk, hd', hi'⟩
  ·rename_i f args
   refine (hk E F w' hd' hi').mono fun e w'' he => ?_
   cases e with
   | returned v => exact hn _ _ he
   | panicked c => exact hp _ _ he
   | outgrown => exact he.elim
 ·rename_i v w' hrun
  rw [hrun]
  exact hp _ _ hr
 ·exact hr.elim
theorem tI {N : Nat} {env : Nat → Value} {a : Act} (eW : dY N env a.tmps) (hfit : ∀ o ∈ ops.toList, m9 N o = true) (o : Oper) :
  Region.wanted o (yielded ops a.tmps) = bR ops o env := by
 unfold Region.wanted bR
 cases hg : o.guard with
 | none => rfl
 | some jw =>
  obtain ⟨j, want⟩ := jw
  simp only
  have hy : yielded ops a.tmps j = match (me ops j).map env with | some (.bool b) => some b | _ => none := by
   unfold yielded me
   cases hj : ops[j]? with
   | none => rfl
   | some oj =>
    simp only [Option.bind_some]
    cases hd : oj.dst with
    | none => rfl
    | some s =>
     have hm : oj ∈ ops.toList := by have := Array.mem_of_getElem? hj; simpa using this
     have hs := (gh (hfit oj hm)).2.1 s hd
     simp only [Option.bind_some, eW.2 s hs, Option.map_some]
     cases env s <;> rfl
  rw [hy]
  cases (me ops j).map env with
  | none => rfl
  | some v => cases v <;> first | rfl | (cases want <;> rename_i b <;> cases b <;> rfl)
structure Post (E : si) (N : Nat) (Z : Act → Prop) (F : Mem) (K : (Nat → Value) → Mem → Prop) (Kp : List PanicEntry → Mem → Prop) (Q : Exit → Act → World → Prop) : Prop where
 normal : ∀ env M a w, dY N env a.tmps → Z a → M.dj F → (M.union F).In E w → K env M → Q .normal a w
 panic : ∀ c a w, Z a → fP E F (Kp c) w → Q (.panic c) a w
theorem put_defers {a : Act} {dst : Option Tmp} {v : Value} : (a.put dst v).defers = a.defers := by cases dst <;> rfl
theorem B9 {N : Nat} {Z : Act → Prop} {F : Mem} {Q : Exit → Act → World → Prop} (hz : ∀ o ∈ ops.toList, ∀ (a : Act) (v : Value), Z a → Z (a.put o.dst v)) (hfit : ∀ o ∈ ops.toList, m9 N o = true)
  (hp : ∀ c a w, Z a → fP E F (Kp c) w → Q (.panic c) a w) {i : Nat} {env : Nat → Value} {M : Mem} {a : Act} {w : World} {K' : (Nat → Value) → Mem → Prop} {next : Act → World → Prop}
  (eW : dY N env a.tmps) (hds : Z a) (hd : M.dj F) (hi : (M.union F).In E w)
  (hn : ∀ env' M' a' w', dY N env' a'.tmps → Z a' → M'.dj F → (M'.union F).In E w' → K' env' M' → next a' w') (h : fU C ops Kp i env M K') : wpOp C.P ops Q i next a w := by
 unfold wpOp
 unfold fU at h
 cases ho : ops[i]? with
 | none => rw [ho] at h; exact hn _ _ _ _ eW hds hd hi h
 | some o =>
  rw [ho] at h
  simp only at h
  have hm : o ∈ ops.toList := by have := Array.mem_of_getElem? ho; simpa using this
  have hf := hfit o hm
  simp only
  rw [tI eW hfit]
  unfold eD at h
  split
  ·rename_i hw
   rw [if_pos hw] at h
   refine .inl (vY (K := fun v M' => K' (bt env o.dst v) M') (Kp := Kp) (F := F) (by rw [← eW.execOp hf]; exact xU h) hd hi (fun v w' hv => ?_) (fun c w' hc => hp _ _ _ hds hc))
   obtain ⟨M', hk, hd', hi'⟩ := hv
   exact hn _ _ _ _ (eW.put (gh hf).2.1 v) (hz o hm _ _ hds) hd' hi' hk
  ·rename_i hw
   rw [if_neg hw] at h
   exact hn _ _ _ _ (eW.put (gh hf).2.1 undef) (hz o hm _ _ hds) hd hi h
def o5 (ops : Array Oper) (arr : Array Bool) (L : Nat) : Prop := arr.size = ops.size ∧ ∀ i, i < ops.size → arr[i]? = some (L.testBit i)
theorem o5.add {arr : Array Bool} {L i : Nat} (h : o5 ops arr L) (hi : i < ops.size) : o5 ops (arr.setIfInBounds i true) (L ||| 2 ^ i) := by
 refine ⟨by simp [h.1], fun k hk => ?_⟩
 by_cases Fe : i = k
 ·subst Fe; simp [h.1, hi]
 ·rw [Array.getElem?_setIfInBounds_ne Fe, h.2 k hk, ej]; simp [Fe]
theorem uX {arr : Array Bool} {L : Nat} (h : o5 ops arr L) (vZ : ∀ (j : Nat) (o : Oper), ops[j]? = some o → ∀ e ∈ o.after, Region.binds .any e = true → e.on < ops.size) (i : Nat) :
  i ∈ Region.ready .any ops arr ↔ fA ops L i = true := by
 rw [mem_ready, bM]
 constructor
 ·rintro ⟨h0, o, ho, gJ⟩
  have hlt := (Array.getElem?_eq_some_iff.1 ho).1
  refine ⟨?_, o, ho, fun e he hb => ?_⟩
  ·have := h.2 i hlt; simp [Array.getD_eq_getD_getElem?, this] at h0; exact h0
  ·have h1 := gJ e he hb
   have := h.2 e.on (vZ i o ho e he hb)
   simpa [Array.getD_eq_getD_getElem?, this] using h1
 ·rintro ⟨h0, o, ho, gJ⟩
  have hlt := (Array.getElem?_eq_some_iff.1 ho).1
  refine ⟨by simp [Array.getD_eq_getD_getElem?, h.2 i hlt, h0], o, ho, fun e he hb => ?_⟩
  have := h.2 e.on (vZ i o ho e he hb)
  simp [Array.getD_eq_getD_getElem?, this, gJ e he hb]
theorem zN {S : Mem → Prop} {N : Nat} {Z : Act → Prop} {F : Mem} {Q : Exit → Act → World → Prop} (hz : ∀ o ∈ ops.toList, ∀ (a : Act) (v : Value), Z a → Z (a.put o.dst v)) (hfit : ∀ o ∈ ops.toList, m9 N o = true)
  (vZ : ∀ (j : Nat) (o : Oper), ops[j]? = some o → ∀ e ∈ o.after, Region.binds .any e = true → e.on < ops.size) (hpost : Post E N Z F K Kp Q) :
  ∀ (f L : Nat) (arr : Array Bool) (env : Nat → Value) (M : Mem) (a : Act) (w : World), o5 ops arr L → dY N env a.tmps → Z a → M.dj F → (M.union F).In E w →
   dK C ops S K (uW Kp) f L env M → wpAny C.P .any ops Q f arr a w := by
 intro f
 induction f with
 | zero =>
  intro L arr env M a w hl eW hds hd hi h
  have eS : tF M := ⟨w.heap.size, fun b hb => by
   cases hm : M b with
   | none => rfl
   | some o => have := hi.lt (Mem.union_left (F := F) hm); omega⟩
  obtain ⟨h1, h2⟩ := h eS
  refine ⟨?_, hpost.normal _ _ _ _ eW hds hd hi h2⟩
  rw [List.eq_nil_iff_forall_not_mem]
  intro i hmem
  have := (uX hl vZ i).1 hmem
  rw [h1 i] at this; cases this
 | succ f ih =>
  intro L arr env M a w hl eW hds hd hi h
  have eS : tF M := ⟨w.heap.size, fun b hb => by
   cases hm : M b with
   | none => rfl
   | some o => have := hi.lt (Mem.union_left (F := F) hm); omega⟩
  obtain ⟨h1, h2⟩ := h eS
  refine ⟨fun O9 => ?_, fun i hmem => ?_⟩
  ·refine hpost.normal _ _ _ _ eW hds hd hi (h1 fun i => ?_)
   cases hr : fA ops L i with
   | false => rfl
   | true => have := (uX hl vZ i).2 hr; rw [O9] at this; cases this
  ·have hr := (uX hl vZ i).1 hmem
   obtain ⟨_, o, ho, _⟩ := bM.1 hr
   exact B9 hz hfit (fun c a w h1 h2 => hpost.panic c a w h1 h2.up) eW hds hd hi (fun env' M' a' w' g1 g2 g3 g4 g5 => ih _ _ _ _ _ _ (hl.add (Array.getElem?_eq_some_iff.1 ho).1) g1 g2 g3 g4 g5.2) (h2 i hr)
def SC (C : Ctx) (ops : Array Oper) (K : (Nat → Value) → Mem → Prop) (Kp : List PanicEntry → Mem → Prop) : List Oper → (Nat → Value) → Mem → Prop
 | [], env, M => K env M
 | o :: rest, env, M => Je C ops o env M (fun env' M' => SC C ops K Kp rest env' M') Kp
end
end Go.AF
