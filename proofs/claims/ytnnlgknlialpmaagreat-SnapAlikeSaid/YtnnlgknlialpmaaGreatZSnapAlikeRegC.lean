/- A part of proofs about one program. -/
import Derived.Test.YtnnlgknlialpmaaGreatZSnapAlikeRegL
set_option linter.unusedVariables false
namespace Go.AF
variable {E : ud}
inductive Ex where
 | done
 | step (i : Nat) (t : Ex)
 | cY (i : Nat) (t : Ex)
 | late (i : Nat) (t : Ex)
 | fork (i : Nat) (a b : Ex)
 | dead
def xl (ops : Array Oper) (L vE : Nat) : Bool := (List.range ops.size).all fun i => !gh ops L i || vE.testBit i
def C3 : List (Mem → Prop) → Mem → Prop → Prop
 | [], _, X => X
 | s :: l, M, X => s M ∧ C3 l M X
def lQ (l : List (Mem → Prop)) (M : Mem) : Prop := ∀ s ∈ l, s M
theorem lF : ∀ {l : List (Mem → Prop)} {M : Mem} {X : Prop}, C3 l M X ↔ lQ l M ∧ X
 | [], M, X => by simp [C3, lQ]
 | s :: l, M, X => by
  simp only [C3, lF (l := l), lQ, List.mem_cons, forall_eq_or_imp]
  constructor
  ·rintro ⟨a, b, c⟩; exact ⟨⟨a, b⟩, c⟩
  ·rintro ⟨⟨a, b⟩, c⟩; exact ⟨a, b, c⟩
def Iy (P : Program) (t : TypeId) (x : Value) (M : Mem) (K : Value → (Mem → Prop) → Prop) : Prop :=
 match x with
 | .pointer p => aE p fun b o =>
  match P.underlying t with
  | some (.struct _) | some (.array _ _) =>
   if (flat P 8 t).length = P.cellsOf t then
    Ii M ⟨b, o, none⟩ (flat P 8 t) 0 fun vs => K (.agg vs.toArray) (fun M' => M'.fN ⟨b, o, none⟩ 0 (P.cellsOf t) = some vs)
   else False
  | some d => Fx (Zn d) (M.ld ⟨b, o, none⟩) fun v => K v (fun M' => M'.ld ⟨b, o, none⟩ = some v)
  | none => False
 | _ => False
def C4 (P : Program) (ρ : Operand → Value) (o : Oper) (M : Mem) (K : Value → (Mem → Prop) → Prop) : Prop :=
 match o.op with
 | .load t a => Iy P t (ρ a) M K
 | _ => False
def UA (C : Ctx) (ops : Array Oper) (o : Oper) (env : Nat → Value) (M : Mem) (K : (Nat → Value) → List (Mem → Prop) → Prop) : Prop :=
 match o.guard with
 | none => C4 C.P (pW env) o M (fun v p => K (bz env o.dst v) [p])
 | some (j, want) => match nh ops j with
  | some s => match env s with
   | .bool e => match want with
    | true => aS e (C4 C.P (pW (bz env (some s) (.bool true))) o M (fun v p => K (bz (bz env (some s) (.bool true)) o.dst v) [p])) (K (bz (bz env (some s) (.bool false)) o.dst undef) [])
    | false => aS e (K (bz (bz env (some s) (.bool true)) o.dst undef) []) (C4 C.P (pW (bz env (some s) (.bool false))) o M (fun v p => K (bz (bz env (some s) (.bool false)) o.dst v) [p]))
   | _ => K (bz env o.dst undef) []
  | none => K (bz env o.dst undef) []
def Iz (P : Program) (ρ : Operand → Value) (o : Oper) : Prop :=
 match o.op with
 | .buildSlice t len parts => match P.underlying t with
  | some (.slice e) => match P.info? e with
   | some i => match i.zero with
    | some z => if z.cells.toList.length = i.size ∧ len * i.size ≤ 16777216 then
      (match Ad (fun k => some (k * i.size, i.size)) (List.replicate len z.cells.toList).flatten (parts.toList.map fun p => (p.1, ρ p.2)) with
      | some _ => True
      | none => False) else False
    | none => False
   | none => False
  | _ => False
 | .alloc e => match zeroOf P e with
  | some _ => True
  | none => False
 | .box _ _ => True
 | _ => False
def rQ (C : Ctx) (ops : Array Oper) (env : Nat → Value) (L i : Nat) : List Nat → Prop → Prop
 | [], X => X
 | j :: l, X => bif Nat.beq j i || !gh ops L j then rQ C ops env L i l X else
   (match ops[j]? with
   | some o => Iz C.P (pW env) o ∧ rQ C ops env L i l X
   | none => rQ C ops env L i l X)
def FT (P : Program) (o : Oper) : Bool := match cls P o with
 | .LQ => true
 | _ => false
def behind (C : Ctx) (o : Oper) (Ss : List (Mem → Prop)) (M : Mem) (X : Prop) : Prop := bif FT C.P o then C3 Ss M X else X
def uj (C : Ctx) (ops : Array Oper) (fJ : List Nat) (K : (Nat → Value) → Mem → Prop) (Kp : List PanicEntry → Mem → Prop) : Ex → List (Mem → Prop) → Nat → Nat → (Nat → Value) → Mem → Prop
 | .done, _, L, _, env, M => bif xl ops L 0 then K env M else False
 | .step i t, Ss, L, _, env, M => bif gh ops L i && Ak C.P ops fJ L i then
   (match ops[i]? with
   | some o => LW C ops o env M (fun env' M' => behind C o Ss M' (uj C ops fJ K Kp t Ss (L ||| 2 ^ i) 0 env' M')) Kp
   | none => False) else False
 | .cY i t, Ss, L, _, env, M => bif gh ops L i && qg ops fJ L i then
   (match ops[i]? with
   | some o => UA C ops o env M (fun env' p => uj C ops fJ K Kp t (p ++ Ss) (L ||| 2 ^ i) 0 env' M)
   | none => False) else False
 | .late i t, Ss, L, _, env, M => bif gh ops L i && yw C.P ops fJ L i then
   (match ops[i]? with
   | some o => bif FT C.P o then rQ C ops env L i (List.range ops.size) (LW C ops o env M (fun env' M' => C3 Ss M' (uj C ops fJ K Kp t Ss (L ||| 2 ^ i) 0 env' M')) Kp) else False
   | none => False) else False
 | .fork i a b, Ss, L, vE, env, M => bif gh ops L i then
   (match ops[i]? with
   | some o => LW C ops o env M (fun env' M' => behind C o Ss M' (uj C ops fJ K Kp a Ss (L ||| 2 ^ i) 0 env' M')) Kp ∧ uj C ops fJ K Kp b Ss L (vE ||| 2 ^ i) env M
   | none => False) else False
 | .dead, _, L, vE, _, _ => bif xl ops L vE && !Nat.beq vE 0 then True else False
def xm (Kp : List PanicEntry → Mem → Prop) : List PanicEntry → Mem → Prop := fun c M => ∃ M1, M1.le M ∧ Kp c M1
theorem So (Kp : List PanicEntry → Mem → Prop) : VP (xm Kp) := fun _ _ _ hle ⟨M1, h1, h2⟩ => ⟨M1, fun b o h => hle b o (h1 b o h), h2⟩
theorem gz.up {F : Mem} {Kp : List PanicEntry → Mem → Prop} {c : List PanicEntry} {w : World} (h : gz E F (xm Kp c) w) : gz E F (Kp c) w := by
 obtain ⟨M, ⟨M1, hle, hk⟩, hd, hi⟩ := h
 refine ⟨M1, hk, fun b => ?_, ⟨fun b o hb => ?_, hi.2⟩⟩
 ·rcases hd b with h | h
  ·left; cases hm : M1 b with
   | none => rfl
   | some o => rw [hle b o hm] at h; cases h
  ·exact .inr h
 ·unfold Mem.union at hb
  cases hm : M1 b with
  | some o' => rw [hm] at hb; cases hb; exact hi.1 b o (Mem.union_left (hle b o hm))
  | none =>
   rw [hm] at hb
   refine hi.1 b o ?_
   unfold Mem.union
   rcases hd b with h | h
   ·rw [h]; exact hb
   ·rw [h] at hb; cases hb
section
variable {C : Ctx} {ops : Array Oper} {K : (Nat → Value) → Mem → Prop} {Kp : List PanicEntry → Mem → Prop}
theorem lR {L vE : Nat} (h : xl ops L vE = true) (i : Nat) (hi : gh ops L i = true) : vE.testBit i = true := by
 obtain ⟨_, o, ho, _⟩ := bR.1 hi
 have := List.all_eq_true.1 h i (List.mem_range.2 (Array.getElem?_eq_some_iff.1 ho).1)
 simpa [hi] using this
theorem Md {S : Mem → Prop} {L : Nat} {env : Nat → Value} {M : Mem} (h : ∀ i, gh ops L i = false) (hk : K env M) : ∀ f, en C ops S K Kp f L env M
 | 0 => fun _ => ⟨h, hk⟩
 | f + 1 => fun _ => ⟨fun _ => hk, fun i hi => by rw [h i] at hi; cases hi⟩
theorem cond_true {b : Bool} {X : Prop} (h : bif b then X else False) : b = true ∧ X := by cases b; exact h.elim; exact ⟨rfl, h⟩
theorem VR {ρ : Operand → Value} {o : Oper} {M : Mem} {K : Value → Mem → Prop} {xg : List PanicEntry → Mem → Prop} (h : tV C ρ o M K Kp) (hp : ∀ c M', Kp c M' → xg c M') : tV C ρ o M K xg := by
 unfold tV at h ⊢
 split at h
 ·exact h
 ·exact h
 ·exact h
 ·refine ir C.P _ h (fun n M' hn => ?_) (fun _ _ h => hp _ _ h)
  cases n <;> first | exact hn.elim | exact hn | exact aa.mono hn (fun _ _ h => h) hp
theorem zI {o : Oper} {env : Nat → Value} {M : Mem} {xg : List PanicEntry → Mem → Prop} (h : fh C ops o env M K Kp) (hp : ∀ c M', Kp c M' → xg c M') : fh C ops o env M K xg := by
 unfold fh at h ⊢
 split
 ·rename_i hw; rw [if_pos hw] at h; exact VR h hp
 ·rename_i hw; rw [if_neg hw] at h; exact h
theorem Me {S S' : Mem → Prop} (hs : ∀ M, S M → S' M) : ∀ (f L : Nat) (env : Nat → Value) (M : Mem), en C ops S K Kp f L env M → en C ops S' K Kp f L env M := by
 intro f
 induction f with
 | zero => intro L env M h; exact h
 | succ f ih => intro L env M h fP; exact ⟨(h fP).1, fun j hj => C1 ((h fP).2 j hj) fun env' M' hx => ⟨hs _ hx.1, ih _ _ _ hx.2⟩⟩
theorem qh {o : Oper} {env : Nat → Value} {M : Mem} {Ss : List (Mem → Prop)} {X : (Nat → Value) → Mem → Prop} (hS : yu (lQ Ss)) (l9 : lQ Ss M)
  (h : fh C ops o env M (fun env' M' => behind C o Ss M' (X env' M')) Kp) : fh C ops o env M (fun env' M' => lQ Ss M' ∧ X env' M') Kp := by
 unfold fh at h ⊢
 cases he : FT C.P o with
 | true =>
  simp only [behind, he] at h
  split
  ·rename_i hw; rw [if_pos hw] at h; exact ni h fun v M' hv => lF.1 hv
  ·rename_i hw; rw [if_neg hw] at h; exact lF.1 h
 | false =>
  simp only [behind, he, cond_false] at h
  split
  ·rename_i hw; rw [if_pos hw] at h
   unfold tV at h ⊢
   unfold FT at he
   cases hc : cls C.P o <;> rw [hc] at h he <;> simp only at h ⊢
   ·obtain ⟨v, hv, h⟩ := h; exact ⟨v, hv, l9, h⟩
   ·obtain ⟨v, hv, h⟩ := h; exact ⟨v, hv, l9, h⟩
   ·obtain ⟨ob, k, hn, h⟩ := h
    exact ⟨ob, k, hn, fun b hb => let ⟨v, hv, h⟩ := h b hb; ⟨v, hv, hS _ _ (qe hb) l9, h⟩⟩
   ·simp at he
  ·rename_i hw; rw [if_neg hw] at h; exact ⟨l9, h⟩
theorem FU {M M' : Mem} (h : M.le M') {a : Addr} : ∀ (n i : Nat) (vs : List Value), M.fN a i n = some vs → M'.fN a i n = some vs
 | 0, i, vs, hv => hv
 | n + 1, i, vs, hv => by
  simp only [Mem.fN] at hv ⊢
  cases hx : M.ld (a.add i) with
  | none => simp [hx] at hv
  | some v =>
   rw [Mem.Oi h hx]
   simp only [hx] at hv
   cases hr : M.fN a (i + 1) n with
   | none => simp [hr] at hv
   | some rest => rw [FU h n (i + 1) rest hr]; rw [hr] at hv; exact hv
theorem FV {P : Program} {t : TypeId} {x : Value} {M : Mem} {K : Value → (Mem → Prop) → Prop} (h : Iy P t x M K) :
  ∃ v p, (∀ M', p M' → bQ P (Instr.loadAt t x) M' = some v) ∧ p M ∧ yu p ∧ K v p := by
 unfold Iy at h
 cases x <;> try exact h.elim
 rename_i p
 obtain ⟨b, o, hp, h2⟩ := jE h
 subst hp
 clear h
 cases hd : P.underlying t with
 | none => rw [hd] at h2; exact h2.elim
 | some d =>
  rw [hd] at h2
  have agg : xh d = true → (if (flat P 8 t).length = P.cellsOf t then Ii M ⟨b, o, none⟩ (flat P 8 t) 0 fun vs => K (.agg vs.toArray) (fun M' => M'.fN ⟨b, o, none⟩ 0 (P.cellsOf t) = some vs) else False) →
    ∃ v p, (∀ M', p M' → bQ P (Instr.loadAt t (.pointer (some ⟨b, o, none⟩))) M' = some v) ∧ p M ∧ yu p ∧ K v p := by
   intro fI h
   split at h
   ·rename_i hl
    obtain ⟨vs, hvs, h⟩ := xj h
    rw [hl] at hvs
    exact ⟨_, _, fun M' hm => pZ hd fI rfl hm, hvs, fun M1 M2 hle h1 => FU hle _ _ _ h1, h⟩
   ·exact h.elim
  cases d with
  | struct fs => exact agg rfl h2
  | array m e => exact agg rfl h2
  | _ => (obtain ⟨v, hv, h⟩ := pY h2; exact ⟨v, _, fun M' hm => yo hd rfl hm, hv, fun M1 M2 hle h1 => Mem.Oi hle h1, h⟩)
theorem IA {P : Program} {ρ : Operand → Value} {o : Oper} {M : Mem} {K : Value → (Mem → Prop) → Prop} (h : C4 P ρ o M K) :
  cls P o = .read ∧ ∃ v p, (∀ M', p M' → bQ P (execOp ρ o) M' = some (.value v)) ∧ p M ∧ yu p ∧ K v p := by
 unfold C4 at h
 split at h
 ·rename_i t a ho
  obtain ⟨v, p, h1, h2, h3, h4⟩ := FV h
  obtain ⟨dst, op, type, pos, after, guard⟩ := o
  simp only at ho; subst ho
  exact ⟨rfl, v, p, fun M' hp => gK (h1 M' hp), h2, h3, h4⟩
 ·exact h.elim
theorem FW {o : Oper} {env : Nat → Value} (h : Iz C.P (pW env) o) : KB C.P ops env o := by
 intro _
 unfold Iz at h
 split at h
 ·rename_i t len parts ho
  split at h
  ·rename_i e hu
   split at h
   ·rename_i i hi
    split at h
    ·rename_i z hz
     split at h
     ·rename_i hc
      split at h
      ·rename_i cs hcs
       have hb : Oz C.P (pW env) o Mem.empty (fun _ _ => True) := by
        unfold Oz; rw [ho]; simp only
        unfold Sd; rw [hu]; simp only
        rw [hi]; simp only
        rw [hz]; simp only
        rw [if_pos hc, hcs]
        exact fun _ _ => trivial
       obtain ⟨ob, k, hn, hk⟩ := KA hb
       exact ⟨ob, k, hn, fun b => let ⟨v, hv, _⟩ := hk b rfl; ⟨v, hv⟩⟩
      ·exact h.elim
     ·exact h.elim
    ·exact h.elim
   ·exact h.elim
  ·exact h.elim
 ·rename_i e ho
  obtain ⟨dst, op, type, pos, after, guard⟩ := o
  simp only at ho; subst ho
  split at h
  ·rename_i z hz
   unfold zeroOf at hz
   cases hi : C.P.info? e with
   | none => simp [hi] at hz
   | some i =>
    simp only [hi, Option.bind_some] at hz
    refine ⟨.cells z.cells e, fun b => pure (Next.value (.pointer (some ⟨b, 0, none⟩))), ?_, fun b => ⟨_, rfl⟩⟩
    simp only [execOp]
    rw [FK C.P (Instr.alloc e true (.tuple #[])) _ (ob := .cells z.cells e) (k := fun b => pure (.pointer (some ⟨b, 0, none⟩))) (by
     unfold Instr.alloc
     rw [D8 C.P _ _ (Kz hi hz)]
     rfl)]
    rfl
  ·exact h.elim
 ·rename_i e x ho
  obtain ⟨dst, op, type, pos, after, guard⟩ := o
  simp only at ho; subst ho
  exact ⟨.cells (pW env x).cells e, fun b => pure (Next.value (.pointer (some ⟨b, 0, none⟩))), rfl, fun b => ⟨_, rfl⟩⟩
 ·exact h.elim
theorem lg {env : Nat → Value} {L i : Nat} : ∀ {l : List Nat} {X : Prop}, rQ C ops env L i l X → X ∧ ∀ j ∈ l, j ≠ i → gh ops L j = true → ∀ oj, ops[j]? = some oj → KB C.P ops env oj
 | [], X, h => ⟨h, fun j hj => by cases hj⟩
 | j :: l, X, h => by
  unfold rQ at h
  cases hb : (Nat.beq j i || !gh ops L j) with
  | true =>
   rw [hb] at h
   obtain ⟨h1, h2⟩ := lg (l := l) h
   refine ⟨h1, fun k hk HV hr oj jG => ?_⟩
   rcases List.mem_cons.1 hk with rfl | hk
   ·simp only [Bool.or_eq_true, Bool.not_eq_true', hr] at hb
    rcases hb with hb | hb
    ·exact absurd (Nat.eq_of_beq_eq_true hb) HV
    ·cases hb
   ·exact h2 k hk HV hr oj jG
  | false =>
   rw [hb] at h
   simp only [cond_false] at h
   cases ho : ops[j]? with
   | none =>
    rw [ho] at h
    obtain ⟨h1, h2⟩ := lg (l := l) h
    refine ⟨h1, fun k hk HV hr oj jG => ?_⟩
    rcases List.mem_cons.1 hk with rfl | hk
    ·rw [ho] at jG; cases jG
    ·exact h2 k hk HV hr oj jG
   | some o =>
    rw [ho] at h
    obtain ⟨h0, h⟩ := h
    obtain ⟨h1, h2⟩ := lg (l := l) h
    refine ⟨h1, fun k hk HV hr oj jG => ?_⟩
    rcases List.mem_cons.1 hk with rfl | hk
    ·rw [ho] at jG; cases jG; exact FW h0
    ·exact h2 k hk HV hr oj jG
theorem C5 {i : Nat} {o : Oper} (ho : ops[i]? = some o) (hsel : ∀ (j : Nat) (o : Oper) cs b, ops[j]? = some o → o.op ≠ .select cs b) {fJ : List Nat} (ha : oZ ops fJ = true) {S : Mem → Prop} {Kp : List PanicEntry → Mem → Prop} :
  ∀ (f L : Nat) (env : Nat → Value) (M : Mem), S M → Dn ops L → qg ops fJ L i = true → gh ops L i = true → bX ops o env = false →
   en C ops S K Kp f (L ||| 2 ^ i) (bz env o.dst undef) M → en C ops S K Kp (f + 1) L env M
 | 0, L, env, M, l9, hd, hf, hr, hw, hx => fun fP => by
  refine ⟨fun hno => (by rw [hno i] at hr; cases hr), fun j hj => ?_⟩
  by_cases kC : j = i
  ·subst kC; unfold gG; rw [ho]; exact mC hw ⟨l9, hx⟩
  ·have hj' := gu (i := i) hj kC
   have := (hx fP).1 j; rw [this] at hj'; cases hj'
 | f + 1, L, env, M, l9, hd, hf, hr, hw, hx => fun fP => by
  obtain ⟨hL, o1, ho1, iR⟩ := bR.1 hr
  rw [ho] at ho1; cases ho1
  refine ⟨fun hno => (by rw [hno i] at hr; cases hr), fun j hj => ?_⟩
  by_cases kC : j = i
  ·subst kC; unfold gG; rw [ho]; exact mC hw ⟨l9, hx⟩
  ·obtain ⟨LY, oj, jG, hallj⟩ := bR.1 hj
   have hap := FQ ho ha hd hf hr hj jG kC
   obtain ⟨a1, a2, a3⟩ := Oper.apart_spec hap
   have hj' := gu (i := i) hj kC
   have ju := (hx fP).2 j hj'
   unfold gG at ju ⊢; rw [jG] at ju ⊢; simp only at ju ⊢
   rw [vD L i j] at ju
   have h2 := qf hap (fun cs b => hsel j oj cs b jG) ju
   have fin : ∀ u M1, S M1 ∧ en C ops S K Kp f (L ||| 2 ^ j ||| 2 ^ i) (bz (bz env oj.dst u) o.dst undef) M1 →
     S M1 ∧ en C ops S K Kp (f + 1) (L ||| 2 ^ j) (bz env oj.dst u) M1 := fun u M1 hy =>
    ⟨hy.1, C5 ho hsel ha f (L ||| 2 ^ j) (bz env oj.dst u) M1 hy.1 (hd.add hj) (Al ho hf) (gu hr (Ne.symm kC)) ((fq o env oj.dst u a3).trans hw) hy.2⟩
   unfold fh at h2 ⊢
   split
   ·rename_i OD; rw [if_pos OD] at h2; exact ni h2 fun u M1 hy => fin u M1 hy
   ·rename_i OD; rw [if_neg OD] at h2; exact fin _ _ h2
theorem IB (hC : C.Good) (hsel : ∀ (j : Nat) (o : Oper) cs b, ops[j]? = some o → o.op ≠ .select cs b) {fJ : List Nat} (ha : oZ ops fJ = true) (t : Ex) :
  ∀ (Ss : List (Mem → Prop)), yu (lQ Ss) →
  (∀ (L : Nat) (env : Nat → Value) (M : Mem), lQ Ss M → Dn ops L → uj C ops fJ K Kp t Ss L 0 env M → en C ops (lQ Ss) K (xm Kp) (zH ops.size L) L env M) ∧
  (∀ (L vE : Nat) (env : Nat → Value) (M : Mem) (f : Nat), lQ Ss M → zH ops.size L = f + 1 → vC M → Dn ops L → uj C ops fJ K Kp t Ss L vE env M → vE ≠ 0 →
   ∀ i, gh ops L i = true → vE.testBit i = false → gG C ops (xm Kp) i env M fun env' M' => lQ Ss M' ∧ en C ops (lQ Ss) K (xm Kp) f (L ||| 2 ^ i) env' M') := by
 have kp : ∀ c M', Kp c M' → xm Kp c M' := fun c M' h => ⟨M', fun _ _ h => h, h⟩
 have both : ∀ (t : Ex) (Ss : List (Mem → Prop)), (∀ (L : Nat) (vE : Nat) (env : Nat → Value) (M : Mem), lQ Ss M → Dn ops L → uj C ops fJ K Kp t Ss L vE env M → en C ops (lQ Ss) K (xm Kp) (zH ops.size L) L env M) →
   (∀ (L : Nat) (env : Nat → Value) (M : Mem), lQ Ss M → Dn ops L → uj C ops fJ K Kp t Ss L 0 env M → en C ops (lQ Ss) K (xm Kp) (zH ops.size L) L env M) ∧
   (∀ (L vE : Nat) (env : Nat → Value) (M : Mem) (f : Nat), lQ Ss M → zH ops.size L = f + 1 → vC M → Dn ops L → uj C ops fJ K Kp t Ss L vE env M → vE ≠ 0 →
    ∀ i, gh ops L i = true → vE.testBit i = false → gG C ops (xm Kp) i env M fun env' M' => lQ Ss M' ∧ en C ops (lQ Ss) K (xm Kp) f (L ||| 2 ^ i) env' M') := fun t Ss h =>
  ⟨fun L env M => h L 0 env M, fun L vE env M f l9 OH fP hd ht _ j hj _ => by
   have hh := h L vE env M l9 hd ht
   rw [OH] at hh
   exact (hh fP).2 j hj⟩
 induction t with
 | done =>
  intro Ss hS
  refine ⟨fun L env M l9 hd h => ?_, fun L vE env M f _ _ _ hd h Z9 i hi Zt => ?_⟩
  ·obtain ⟨h1, h2⟩ := cond_true h
   refine Md (fun i => ?_) h2 _
   cases hr : gh ops L i with
   | false => rfl
   | true => have := lR h1 i hr; simp at this
  ·obtain ⟨h1, h2⟩ := cond_true h
   have := lR h1 i hi; simp at this
 | step i t ih =>
  intro Ss hS
  refine both _ _ fun L vE env M l9 hd h => ?_
  obtain ⟨h1, h2⟩ := cond_true h
  simp only [Bool.and_eq_true] at h1
  obtain ⟨hr, hf⟩ := h1
  obtain ⟨hL, o, ho, iR⟩ := bR.1 hr
  rw [ho] at h2; simp only at h2
  rw [mD (Array.getElem?_eq_some_iff.1 ho).1 hL]
  refine Iw hS ho hsel ha _ L env M l9 hd hf hr ?_
  unfold gG; rw [ho]; simp only
  exact jF (zI (qh hS l9 (iW hC h2)) kp) fun env' M' hx => ⟨hx.1, (ih Ss hS).1 _ env' M' hx.1 (hd.add hr) hx.2⟩
 | cY i t ih =>
  intro Ss hS
  refine both _ _ fun L vE env M l9 hd h => ?_
  obtain ⟨h1, h2⟩ := cond_true h
  simp only [Bool.and_eq_true] at h1
  obtain ⟨hr, hf⟩ := h1
  obtain ⟨hL, o, ho, iR⟩ := bR.1 hr
  rw [ho] at h2; simp only at h2
  rw [mD (Array.getElem?_eq_some_iff.1 ho).1 hL]
  have yes : bX ops o env = true → C4 C.P (pW env) o M (fun v p => uj C ops fJ K Kp t ([p] ++ Ss) (L ||| 2 ^ i) 0 (bz env o.dst v) M) →
    en C ops (lQ Ss) K (xm Kp) (zH ops.size (L ||| 2 ^ i) + 1) L env M := fun hw hp => by
   obtain ⟨hc, v, p, p1, p2, p3, p4⟩ := IA hp
   have hS' : yu (lQ ([p] ++ Ss)) := fun M1 M2 hle hx s hs => by
    rcases List.mem_cons.1 hs with rfl | hs
    ·exact p3 _ _ hle (hx _ (List.mem_cons_self ..))
    ·exact hS M1 M2 hle (fun s hs => hx s (List.mem_cons_of_mem _ hs)) s hs
   have hSM' : lQ ([p] ++ Ss) M := fun s hs => by
    rcases List.mem_cons.1 hs with rfl | hs
    ·exact p2
    ·exact l9 s hs
   refine LZ ho hsel ha hc (s := execOp (pW env) o) (v := v) _ L env M hd hf hr hw rfl (p1 M p2) l9 ?_
   refine Me (fun M' hx => ?_) _ _ _ _ ((ih _ hS').1 _ _ M hSM' (hd.add hr) p4)
   exact ⟨fun s hs => hx s (List.mem_cons_of_mem _ hs), p1 M' (hx p (List.mem_cons_self ..))⟩
  have no : bX ops o env = false → uj C ops fJ K Kp t ([] ++ Ss) (L ||| 2 ^ i) 0 (bz env o.dst undef) M →
    en C ops (lQ Ss) K (xm Kp) (zH ops.size (L ||| 2 ^ i) + 1) L env M := fun hw hp =>
   C5 ho hsel ha _ L env M l9 hd hf hr hw ((ih Ss hS).1 _ _ M l9 (hd.add hr) hp)
  unfold UA at h2
  cases hg : o.guard with
  | none => rw [hg] at h2; exact yes (vA hg) h2
  | some jw =>
   obtain ⟨j, want⟩ := jw
   rw [hg] at h2
   simp only at h2
   cases hs : nh ops j with
   | none => rw [hs] at h2; exact no (Aj hg hs) h2
   | some s =>
    rw [hs] at h2
    simp only at h2
    cases he : env s <;> rw [he] at h2 <;> simp only at h2
    case bool e =>
     have hw := vB hg hs he
     cases e
     ·rw [nj he] at h2
      cases want <;> simp only [aS] at h2
      ·exact yes hw h2
      ·exact no hw h2
     ·rw [nj he] at h2
      cases want <;> simp only [aS] at h2
      ·exact no hw h2
      ·exact yes hw h2
    all_goals exact no (tW hg hs (by simp [he])) h2
 | late i t ih =>
  intro Ss hS
  refine both _ _ fun L vE env M l9 hd h => ?_
  obtain ⟨h1, h2⟩ := cond_true h
  simp only [Bool.and_eq_true] at h1
  obtain ⟨hr, hl⟩ := h1
  obtain ⟨hL, o, ho, iR⟩ := bR.1 hr
  rw [ho] at h2; simp only at h2
  obtain ⟨he, h2⟩ := cond_true h2
  have hce : cls C.P o = .LQ := by unfold FT at he; cases hc : cls C.P o <;> rw [hc] at he <;> simp at he
  obtain ⟨h3, h4⟩ := lg h2
  have hc := mD (n := ops.size) (Array.getElem?_eq_some_iff.1 ho).1 hL
  rw [hc]
  refine Mb hS (So Kp) ho hce hsel ha _ L env M hc l9 hd hl hr (fun j oj hj jG kC => h4 j (List.mem_range.2 (Array.getElem?_eq_some_iff.1 jG).1) kC hj oj jG) ?_
  unfold gG; rw [ho]; simp only
  exact jF (zI (iW hC h3) kp) fun env' M' hx => ⟨(lF.1 hx).1, (ih Ss hS).1 _ env' M' (lF.1 hx).1 (hd.add hr) (lF.1 hx).2⟩
 | fork i a b iha ihb =>
  intro Ss hS
  refine ⟨fun L env M l9 hd h => ?_, fun L vE env M f l9 OH fP hd h Z9 j hj Fk => ?_⟩
  ·obtain ⟨hr, h2⟩ := cond_true h
   obtain ⟨hL, o, ho, iR⟩ := bR.1 hr
   rw [ho] at h2; simp only at h2
   have hc := mD (n := ops.size) (Array.getElem?_eq_some_iff.1 ho).1 hL
   rw [hc]
   refine fun fP => ⟨fun hno => (by rw [hno i] at hr; cases hr), fun j hj => ?_⟩
   by_cases kC : j = i
   ·subst kC
    unfold gG; rw [ho]; simp only
    exact jF (zI (qh hS l9 (iW hC h2.1)) kp) fun env' M' hx => ⟨hx.1, (iha Ss hS).1 _ env' M' hx.1 (hd.add hr) hx.2⟩
   ·exact (ihb Ss hS).2 L (0 ||| 2 ^ i) env M (zH ops.size (L ||| 2 ^ i)) l9 hc fP hd h2.2 (by simp) j hj (by rw [eV]; simp [Ne.symm kC])
  ·obtain ⟨hr, h2⟩ := cond_true h
   obtain ⟨hL, o, ho, iR⟩ := bR.1 hr
   rw [ho] at h2; simp only at h2
   have hc := mD (n := ops.size) (Array.getElem?_eq_some_iff.1 ho).1 hL
   by_cases kC : j = i
   ·subst kC
    unfold gG; rw [ho]; simp only
    have hf : f = zH ops.size (L ||| 2 ^ j) := by omega
    subst hf
    exact jF (zI (qh hS l9 (iW hC h2.1)) kp) fun env' M' hx => ⟨hx.1, (iha Ss hS).1 _ env' M' hx.1 (hd.add hr) hx.2⟩
   ·exact (ihb Ss hS).2 L (vE ||| 2 ^ i) env M f l9 OH fP hd h2.2 (by intro h0; have := eV vE i i; rw [h0] at this; simp at this) j hj (by rw [eV, Fk]; simp [Ne.symm kC])
 | dead =>
  intro Ss hS
  refine ⟨fun L env M l9 hd h => ?_, fun L vE env M f _ _ _ hd h Z9 i hi Zt => ?_⟩
  ·obtain ⟨h1, _⟩ := cond_true h
   simp at h1
  ·obtain ⟨h1, _⟩ := cond_true h
   simp only [Bool.and_eq_true] at h1
   have := lR h1.1 i hi; rw [Zt] at this; cases this
theorem yx {P : Program} {a : Act} {o : Oper} {M F : Mem} {w : World} {K : Value → Mem → Prop} {Kp : List PanicEntry → Mem → Prop} {next : Act → World → Prop} {Q : Exit → Act → World → Prop}
  (h : ee P (execOp a.eval o) M (ng P K Kp) (fun v M' => Kp [{ v, recovered := false }] M')) (hd : M.dj F) (hi : (M.union F).In E w)
  (hn : ∀ v w', gz E F (K v) w' → next (a.put o.dst v) w') (hp : ∀ c w', gz E F (Kp c) w' → Q (.panic c) a w') : o.wp P a w next Q := by
 have hr := LH P _ h hd hi
 unfold jD at hr
 unfold Oper.wp
 split at hr
 ·rename_i n w' hrun
  rw [hrun]
  obtain ⟨M', hk, hd', hi'⟩ := hr
  cases n <;> first | exact hk.elim | skip
  ·exact hn _ _ ⟨M', hk, hd', hi'⟩
  ·exact hn _ _ ⟨M', hk, hd', hi'⟩
  ·rename_i f args
   refine (hk E F w' hd' hi').mono fun e w'' he => ?_
   cases e with
   | returned v => exact hn _ _ he
   | panicked c => exact hp _ _ he
   | outgrown => exact he.elim
 ·rename_i v w' hrun
  rw [hrun]
  exact hp _ _ hr
 ·exact hr.elim
theorem vF {N : Nat} {env : Nat → Value} {a : Act} (fI : eL N env a.tmps) (hfit : ∀ o ∈ ops.toList, oq N o = true) (o : Oper) :
  Region.wanted o (yielded ops a.tmps) = bX ops o env := by
 unfold Region.wanted bX
 cases hg : o.guard with
 | none => rfl
 | some jw =>
  obtain ⟨j, want⟩ := jw
  simp only
  have hy : yielded ops a.tmps j = match (nh ops j).map env with | some (.bool b) => some b | _ => none := by
   unfold yielded nh
   cases hj : ops[j]? with
   | none => rfl
   | some oj =>
    simp only [Option.bind_some]
    cases hd : oj.dst with
    | none => rfl
    | some s =>
     have hm : oj ∈ ops.toList := by have := Array.mem_of_getElem? hj; simpa using this
     have hs := (gN (hfit oj hm)).2.1 s hd
     simp only [Option.bind_some, fI.2 s hs, Option.map_some]
     cases env s <;> rfl
  rw [hy]
  cases (nh ops j).map env with
  | none => rfl
  | some v => cases v <;> first | rfl | (cases want <;> rename_i b <;> cases b <;> rfl)
structure Post (E : ud) (N : Nat) (Z : Act → Prop) (F : Mem) (K : (Nat → Value) → Mem → Prop) (Kp : List PanicEntry → Mem → Prop) (Q : Exit → Act → World → Prop) : Prop where
 normal : ∀ env M a w, eL N env a.tmps → Z a → M.dj F → (M.union F).In E w → K env M → Q .normal a w
 panic : ∀ c a w, Z a → gz E F (Kp c) w → Q (.panic c) a w
theorem put_defers {a : Act} {dst : Option Tmp} {v : Value} : (a.put dst v).defers = a.defers := by cases dst <;> rfl
theorem Ec {N : Nat} {Z : Act → Prop} {F : Mem} {Q : Exit → Act → World → Prop} (hz : ∀ o ∈ ops.toList, ∀ (a : Act) (v : Value), Z a → Z (a.put o.dst v)) (hfit : ∀ o ∈ ops.toList, oq N o = true)
  (hp : ∀ c a w, Z a → gz E F (Kp c) w → Q (.panic c) a w) {i : Nat} {env : Nat → Value} {M : Mem} {a : Act} {w : World} {K' : (Nat → Value) → Mem → Prop} {next : Act → World → Prop}
  (fI : eL N env a.tmps) (hds : Z a) (hd : M.dj F) (hi : (M.union F).In E w)
  (hn : ∀ env' M' a' w', eL N env' a'.tmps → Z a' → M'.dj F → (M'.union F).In E w' → K' env' M' → next a' w') (h : gG C ops Kp i env M K') : wpOp C.P ops Q i next a w := by
 unfold wpOp
 unfold gG at h
 cases ho : ops[i]? with
 | none => rw [ho] at h; exact hn _ _ _ _ fI hds hd hi h
 | some o =>
  rw [ho] at h
  simp only at h
  have hm : o ∈ ops.toList := by have := Array.mem_of_getElem? ho; simpa using this
  have hf := hfit o hm
  simp only
  rw [vF fI hfit]
  unfold fh at h
  split
  ·rename_i hw
   rw [if_pos hw] at h
   refine .inl (yx (K := fun v M' => K' (bz env o.dst v) M') (Kp := Kp) (F := F) (by rw [← fI.execOp hf]; exact Ai h) hd hi (fun v w' hv => ?_) (fun c w' hc => hp _ _ _ hds hc))
   obtain ⟨M', hk, hd', hi'⟩ := hv
   exact hn _ _ _ _ (fI.put (gN hf).2.1 v) (hz o hm _ _ hds) hd' hi' hk
  ·rename_i hw
   rw [if_neg hw] at h
   exact hn _ _ _ _ (fI.put (gN hf).2.1 undef) (hz o hm _ _ hds) hd hi h
def qi (ops : Array Oper) (arr : Array Bool) (L : Nat) : Prop := arr.size = ops.size ∧ ∀ i, i < ops.size → arr[i]? = some (L.testBit i)
theorem qi.add {arr : Array Bool} {L i : Nat} (h : qi ops arr L) (hi : i < ops.size) : qi ops (arr.setIfInBounds i true) (L ||| 2 ^ i) := by
 refine ⟨by simp [h.1], fun k hk => ?_⟩
 by_cases HV : i = k
 ·subst HV; simp [h.1, hi]
 ·rw [Array.getElem?_setIfInBounds_ne HV, h.2 k hk, eV]; simp [HV]
theorem xn {arr : Array Bool} {L : Nat} (h : qi ops arr L) (yy : ∀ (j : Nat) (o : Oper), ops[j]? = some o → ∀ e ∈ o.after, Region.binds .any e = true → e.on < ops.size) (i : Nat) :
  i ∈ Region.ready .any ops arr ↔ gh ops L i = true := by
 rw [mem_ready, bR]
 constructor
 ·rintro ⟨h0, o, ho, iR⟩
  have hlt := (Array.getElem?_eq_some_iff.1 ho).1
  refine ⟨?_, o, ho, fun e he hb => ?_⟩
  ·have := h.2 i hlt; simp [Array.getD_eq_getD_getElem?, this] at h0; exact h0
  ·have h1 := iR e he hb
   have := h.2 e.on (yy i o ho e he hb)
   simpa [Array.getD_eq_getD_getElem?, this] using h1
 ·rintro ⟨h0, o, ho, iR⟩
  have hlt := (Array.getElem?_eq_some_iff.1 ho).1
  refine ⟨by simp [Array.getD_eq_getD_getElem?, h.2 i hlt, h0], o, ho, fun e he hb => ?_⟩
  have := h.2 e.on (yy i o ho e he hb)
  simp [Array.getD_eq_getD_getElem?, this, iR e he hb]
theorem Cc {S : Mem → Prop} {N : Nat} {Z : Act → Prop} {F : Mem} {Q : Exit → Act → World → Prop} (hz : ∀ o ∈ ops.toList, ∀ (a : Act) (v : Value), Z a → Z (a.put o.dst v)) (hfit : ∀ o ∈ ops.toList, oq N o = true)
  (yy : ∀ (j : Nat) (o : Oper), ops[j]? = some o → ∀ e ∈ o.after, Region.binds .any e = true → e.on < ops.size) (hpost : Post E N Z F K Kp Q) :
  ∀ (f L : Nat) (arr : Array Bool) (env : Nat → Value) (M : Mem) (a : Act) (w : World), qi ops arr L → eL N env a.tmps → Z a → M.dj F → (M.union F).In E w →
   en C ops S K (xm Kp) f L env M → wpAny C.P .any ops Q f arr a w := by
 intro f
 induction f with
 | zero =>
  intro L arr env M a w hl fI hds hd hi h
  have fP : vC M := ⟨w.heap.size, fun b hb => by
   cases hm : M b with
   | none => rfl
   | some o => have := hi.lt (Mem.union_left (F := F) hm); omega⟩
  obtain ⟨h1, h2⟩ := h fP
  refine ⟨?_, hpost.normal _ _ _ _ fI hds hd hi h2⟩
  rw [List.eq_nil_iff_forall_not_mem]
  intro i hmem
  have := (xn hl yy i).1 hmem
  rw [h1 i] at this; cases this
 | succ f ih =>
  intro L arr env M a w hl fI hds hd hi h
  have fP : vC M := ⟨w.heap.size, fun b hb => by
   cases hm : M b with
   | none => rfl
   | some o => have := hi.lt (Mem.union_left (F := F) hm); omega⟩
  obtain ⟨h1, h2⟩ := h fP
  refine ⟨fun Sp => ?_, fun i hmem => ?_⟩
  ·refine hpost.normal _ _ _ _ fI hds hd hi (h1 fun i => ?_)
   cases hr : gh ops L i with
   | false => rfl
   | true => have := (xn hl yy i).2 hr; rw [Sp] at this; cases this
  ·have hr := (xn hl yy i).1 hmem
   obtain ⟨_, o, ho, _⟩ := bR.1 hr
   exact Ec hz hfit (fun c a w h1 h2 => hpost.panic c a w h1 h2.up) fI hds hd hi (fun env' M' a' w' g1 g2 g3 g4 g5 => ih _ _ _ _ _ _ (hl.add (Array.getElem?_eq_some_iff.1 ho).1) g1 g2 g3 g4 g5.2) (h2 i hr)
def VS (C : Ctx) (ops : Array Oper) (K : (Nat → Value) → Mem → Prop) (Kp : List PanicEntry → Mem → Prop) : List Oper → (Nat → Value) → Mem → Prop
 | [], env, M => K env M
 | o :: rest, env, M => LW C ops o env M (fun env' M' => VS C ops K Kp rest env' M') Kp
end
end Go.AF
