/- A part of proofs about one program. -/
import Derived.Test.YtfjgcljdnhkmaaaGreatZWorldDryRegL
set_option linter.unusedVariables false
namespace Go.AF
variable {E : qP}
inductive Ex where
 | done
 | step (i : Nat) (t : Ex)
 | cS (i : Nat) (t : Ex)
 | late (i : Nat) (t : Ex)
 | fork (i : Nat) (a b : Ex)
 | dead
def yh (ops : Array Oper) (L wR : Nat) : Bool := (List.range ops.size).all fun i => !gv ops L i || wR.testBit i
def Ed : List (Mem → Prop) → Mem → Prop → Prop
 | [], _, X => X
 | s :: l, M, X => s M ∧ Ed l M X
def my (l : List (Mem → Prop)) (M : Mem) : Prop := ∀ s ∈ l, s M
theorem lZ : ∀ {l : List (Mem → Prop)} {M : Mem} {X : Prop}, Ed l M X ↔ my l M ∧ X
 | [], M, X => by simp [Ed, my]
 | s :: l, M, X => by
  simp only [Ed, lZ (l := l), my, List.mem_cons, forall_eq_or_imp]
  constructor
  ·rintro ⟨a, b, c⟩; exact ⟨⟨a, b⟩, c⟩
  ·rintro ⟨⟨a, b⟩, c⟩; exact ⟨a, b, c⟩
def KT (P : Program) (t : TypeId) (x : Value) (M : Mem) (K : Value → (Mem → Prop) → Prop) : Prop :=
 match x with
 | .pointer p => aE p fun b o =>
  match P.underlying t with
  | some (.struct _) | some (.array _ _) =>
   if (flat P 8 t).length = P.cellsOf t then
    KE M ⟨b, o, none⟩ (flat P 8 t) 0 fun vs => K (.agg vs.toArray) (fun M' => M'.fX ⟨b, o, none⟩ 0 (P.cellsOf t) = some vs)
   else False
  | some d => HE (csh d) (M.ld ⟨b, o, none⟩) fun v => K v (fun M' => M'.ld ⟨b, o, none⟩ = some v)
  | none => False
 | _ => False
def Ee (P : Program) (ρ : Operand → Value) (o : Oper) (M : Mem) (K : Value → (Mem → Prop) → Prop) : Prop :=
 match o.op with
 | .load t a => KT P t (ρ a) M K
 | _ => False
def ZD (C : Ctx) (ops : Array Oper) (o : Oper) (env : Nat → Value) (M : Mem) (K : (Nat → Value) → List (Mem → Prop) → Prop) : Prop :=
 match o.guard with
 | none => Ee C.P (qL env) o M (fun v p => K (bD env o.dst v) [p])
 | some (j, want) => match od ops j with
  | some s => match env s with
   | .bool e => match want with
    | true => aM e (Ee C.P (qL (bD env (some s) (.bool true))) o M (fun v p => K (bD (bD env (some s) (.bool true)) o.dst v) [p])) (K (bD (bD env (some s) (.bool false)) o.dst undef) [])
    | false => aM e (K (bD (bD env (some s) (.bool true)) o.dst undef) []) (Ee C.P (qL (bD env (some s) (.bool false))) o M (fun v p => K (bD (bD env (some s) (.bool false)) o.dst v) [p]))
   | _ => K (bD env o.dst undef) []
  | none => K (bD env o.dst undef) []
def KU (P : Program) (ρ : Operand → Value) (o : Oper) : Prop :=
 match o.op with
 | .buildSlice t len parts => match P.underlying t with
  | some (.slice e) => match P.info? e with
   | some i => match i.zero with
    | some z => if z.cells.toList.length = i.size ∧ len * i.size ≤ 16777216 then
      (match AZ (fun k => some (k * i.size, i.size)) (List.replicate len z.cells.toList).flatten (parts.toList.map fun p => (p.1, ρ p.2)) with
      | some _ => True
      | none => False) else False
    | none => False
   | none => False
  | _ => False
 | .alloc e => match zeroOf P e with
  | some _ => True
  | none => False
 | .box _ _ => True
 | _ => False
def tj (C : Ctx) (ops : Array Oper) (env : Nat → Value) (L i : Nat) : List Nat → Prop → Prop
 | [], X => X
 | j :: l, X => bif Nat.beq j i || !gv ops L j then tj C ops env L i l X else
   (match ops[j]? with
   | some o => KU C.P (qL env) o ∧ tj C ops env L i l X
   | none => tj C ops env L i l X)
def H6 (P : Program) (o : Oper) : Bool := match cls P o with
 | .Pe => true
 | _ => false
def behind (C : Ctx) (o : Oper) (Ss : List (Mem → Prop)) (M : Mem) (X : Prop) : Prop := bif H6 C.P o then Ed Ss M X else X
def vt (C : Ctx) (ops : Array Oper) (fY : List Nat) (K : (Nat → Value) → Mem → Prop) (Kp : List PanicEntry → Mem → Prop) : Ex → List (Mem → Prop) → Nat → Nat → (Nat → Value) → Mem → Prop
 | .done, _, L, _, env, M => bif yh ops L 0 then K env M else False
 | .step i t, Ss, L, _, env, M => bif gv ops L i && Bf C.P ops fY L i then
   (match ops[i]? with
   | some o => Pk C ops o env M (fun env' M' => behind C o Ss M' (vt C ops fY K Kp t Ss (L ||| 2 ^ i) 0 env' M')) Kp
   | none => False) else False
 | .cS i t, Ss, L, _, env, M => bif gv ops L i && q6 ops fY L i then
   (match ops[i]? with
   | some o => ZD C ops o env M (fun env' p => vt C ops fY K Kp t (p ++ Ss) (L ||| 2 ^ i) 0 env' M)
   | none => False) else False
 | .late i t, Ss, L, _, env, M => bif gv ops L i && zq C.P ops fY L i then
   (match ops[i]? with
   | some o => bif H6 C.P o then tj C ops env L i (List.range ops.size) (Pk C ops o env M (fun env' M' => Ed Ss M' (vt C ops fY K Kp t Ss (L ||| 2 ^ i) 0 env' M')) Kp) else False
   | none => False) else False
 | .fork i a b, Ss, L, wR, env, M => bif gv ops L i then
   (match ops[i]? with
   | some o => Pk C ops o env M (fun env' M' => behind C o Ss M' (vt C ops fY K Kp a Ss (L ||| 2 ^ i) 0 env' M')) Kp ∧ vt C ops fY K Kp b Ss L (wR ||| 2 ^ i) env M
   | none => False) else False
 | .dead, _, L, wR, _, _ => bif yh ops L wR && !Nat.beq wR 0 then True else False
def yj (Kp : List PanicEntry → Mem → Prop) : List PanicEntry → Mem → Prop := fun c M => ∃ M1, M1.le M ∧ Kp c M1
theorem W0 (Kp : List PanicEntry → Mem → Prop) : UpKp (yj Kp) := fun _ _ _ hle ⟨M1, h1, h2⟩ => ⟨M1, fun b o h => hle b o (h1 b o h), h2⟩
theorem gr.up {F : Mem} {Kp : List PanicEntry → Mem → Prop} {c : List PanicEntry} {w : World} (h : gr E F (yj Kp c) w) : gr E F (Kp c) w := by
 obtain ⟨M, ⟨M1, hle, hk⟩, hd, hi⟩ := h
 refine ⟨M1, hk, fun b => ?_, ⟨fun b o hb => ?_, hi.2⟩⟩
 ·rcases hd b with h | h
  ·left; cases hm : M1 b with
   | none => rfl
   | some o => rw [hle b o hm] at h; cases h
  ·exact .inr h
 ·unfold Mem.union at hb
  cases hm : M1 b with
  | some o' => rw [hm] at hb; cases hb; exact hi.1 b o (Mem.union_left (hle b o hm))
  | none =>
   rw [hm] at hb
   refine hi.1 b o ?_
   unfold Mem.union
   rcases hd b with h | h
   ·rw [h]; exact hb
   ·rw [h] at hb; cases hb
section
variable {C : Ctx} {ops : Array Oper} {K : (Nat → Value) → Mem → Prop} {Kp : List PanicEntry → Mem → Prop}
theorem mz {L wR : Nat} (h : yh ops L wR = true) (i : Nat) (hi : gv ops L i = true) : wR.testBit i = true := by
 obtain ⟨_, o, ho, _⟩ := bX.1 hi
 have := List.all_eq_true.1 h i (List.mem_range.2 (Array.getElem?_eq_some_iff.1 ho).1)
 simpa [hi] using this
theorem Pt {S : Mem → Prop} {L : Nat} {env : Nat → Value} {M : Mem} (h : ∀ i, gv ops L i = false) (hk : K env M) : ∀ f, eP C ops S K Kp f L env M
 | 0 => fun _ => ⟨h, hk⟩
 | f + 1 => fun _ => ⟨fun _ => hk, fun i hi => by rw [h i] at hi; cases hi⟩
theorem cond_true {b : Bool} {X : Prop} (h : bif b then X else False) : b = true ∧ X := by cases b; exact h.elim; exact ⟨rfl, h⟩
theorem bop_kp {ρ : Operand → Value} {o : Oper} {M : Mem} {K : Value → Mem → Prop} {yd : List PanicEntry → Mem → Prop} (h : u6 C ρ o M K Kp) (hp : ∀ c M', Kp c M' → yd c M') : u6 C ρ o M K yd := by
 unfold u6 at h ⊢
 split at h
 ·exact h
 ·exact h
 ·exact h
 ·refine jM C.P _ h (fun n M' hn => ?_) (fun _ _ h => hp _ _ h)
  cases n <;> first | exact hn.elim | exact hn | exact ae.mono hn (fun _ _ h => h) hp
theorem AD {o : Oper} {env : Nat → Value} {M : Mem} {yd : List PanicEntry → Mem → Prop} (h : fz C ops o env M K Kp) (hp : ∀ c M', Kp c M' → yd c M') : fz C ops o env M K yd := by
 unfold fz at h ⊢
 split
 ·rename_i hw; rw [if_pos hw] at h; exact bop_kp h hp
 ·rename_i hw; rw [if_neg hw] at h; exact h
theorem Pu {S S' : Mem → Prop} (hs : ∀ M, S M → S' M) : ∀ (f L : Nat) (env : Nat → Value) (M : Mem), eP C ops S K Kp f L env M → eP C ops S' K Kp f L env M := by
 intro f
 induction f with
 | zero => intro L env M h; exact h
 | succ f ih => intro L env M h gd; exact ⟨(h gd).1, fun j hj => Eb ((h gd).2 j hj) fun env' M' hx => ⟨hs _ hx.1, ih _ _ _ hx.2⟩⟩
theorem q7 {o : Oper} {env : Nat → Value} {M : Mem} {Ss : List (Mem → Prop)} {X : (Nat → Value) → Mem → Prop} (hS : zp (my Ss)) (mQ : my Ss M)
  (h : fz C ops o env M (fun env' M' => behind C o Ss M' (X env' M')) Kp) : fz C ops o env M (fun env' M' => my Ss M' ∧ X env' M') Kp := by
 unfold fz at h ⊢
 cases he : H6 C.P o with
 | true =>
  simp only [behind, he] at h
  split
  ·rename_i hw; rw [if_pos hw] at h; exact oe h fun v M' hv => lZ.1 hv
  ·rename_i hw; rw [if_neg hw] at h; exact lZ.1 h
 | false =>
  simp only [behind, he, cond_false] at h
  split
  ·rename_i hw; rw [if_pos hw] at h
   unfold u6 at h ⊢
   unfold H6 at he
   cases hc : cls C.P o <;> rw [hc] at h he <;> simp only at h ⊢
   ·obtain ⟨v, hv, h⟩ := h; exact ⟨v, hv, mQ, h⟩
   ·obtain ⟨v, hv, h⟩ := h; exact ⟨v, hv, mQ, h⟩
   ·obtain ⟨ob, k, hn, h⟩ := h
    exact ⟨ob, k, hn, fun b hb => let ⟨v, hv, h⟩ := h b hb; ⟨v, hv, hS _ _ (qX hb) mQ, h⟩⟩
   ·simp at he
  ·rename_i hw; rw [if_neg hw] at h; exact ⟨mQ, h⟩
theorem H7 {M M' : Mem} (h : M.le M') {a : Addr} : ∀ (n i : Nat) (vs : List Value), M.fX a i n = some vs → M'.fX a i n = some vs
 | 0, i, vs, hv => hv
 | n + 1, i, vs, hv => by
  simp only [Mem.fX] at hv ⊢
  cases hx : M.ld (a.add i) with
  | none => simp [hx] at hv
  | some v =>
   rw [Mem.RM h hx]
   simp only [hx] at hv
   cases hr : M.fX a (i + 1) n with
   | none => simp [hr] at hv
   | some rest => rw [H7 h n (i + 1) rest hr]; rw [hr] at hv; exact hv
theorem H8 {P : Program} {t : TypeId} {x : Value} {M : Mem} {K : Value → (Mem → Prop) → Prop} (h : KT P t x M K) :
  ∃ v p, (∀ M', p M' → bV P (Instr.loadAt t x) M' = some v) ∧ p M ∧ zp p ∧ K v p := by
 unfold KT at h
 cases x <;> try exact h.elim
 rename_i p
 obtain ⟨b, o, hp, h2⟩ := kx h
 subst hp
 clear h
 cases hd : P.underlying t with
 | none => rw [hd] at h2; exact h2.elim
 | some d =>
  rw [hd] at h2
  have agg : ye d = true → (if (flat P 8 t).length = P.cellsOf t then KE M ⟨b, o, none⟩ (flat P 8 t) 0 fun vs => K (.agg vs.toArray) (fun M' => M'.fX ⟨b, o, none⟩ 0 (P.cellsOf t) = some vs) else False) →
    ∃ v p, (∀ M', p M' → bV P (Instr.loadAt t (.pointer (some ⟨b, o, none⟩))) M' = some v) ∧ p M ∧ zp p ∧ K v p := by
   intro fk h
   split at h
   ·rename_i hl
    obtain ⟨vs, hvs, h⟩ := yf h
    rw [hl] at hvs
    exact ⟨_, _, fun M' hm => qR hd fk rfl hm, hvs, fun M1 M2 hle h1 => H7 hle _ _ _ h1, h⟩
   ·exact h.elim
  cases d with
  | struct fs => exact agg rfl h2
  | array m e => exact agg rfl h2
  | _ => (obtain ⟨v, hv, h⟩ := qQ h2; exact ⟨v, _, fun M' hm => qS hd rfl hm, hv, fun M1 M2 hle h1 => Mem.RM hle h1, h⟩)
theorem KV {P : Program} {ρ : Operand → Value} {o : Oper} {M : Mem} {K : Value → (Mem → Prop) → Prop} (h : Ee P ρ o M K) :
  cls P o = .read ∧ ∃ v p, (∀ M', p M' → bV P (execOp ρ o) M' = some (.value v)) ∧ p M ∧ zp p ∧ K v p := by
 unfold Ee at h
 split at h
 ·rename_i t a ho
  obtain ⟨v, p, h1, h2, h3, h4⟩ := H8 h
  obtain ⟨dst, op, type, pos, after, guard⟩ := o
  simp only at ho; subst ho
  exact ⟨rfl, v, p, fun M' hp => gX (h1 M' hp), h2, h3, h4⟩
 ·exact h.elim
theorem H9 {o : Oper} {env : Nat → Value} (h : KU C.P (qL env) o) : N8 C.P ops env o := by
 intro _
 unfold KU at h
 split at h
 ·rename_i t len parts ho
  split at h
  ·rename_i e hu
   split at h
   ·rename_i i hi
    split at h
    ·rename_i z hz
     split at h
     ·rename_i hc
      split at h
      ·rename_i cs hcs
       have hb : RZ C.P (qL env) o Mem.empty (fun _ _ => True) := by
        unfold RZ; rw [ho]; simp only
        unfold WQ; rw [hu]; simp only
        rw [hi]; simp only
        rw [hz]; simp only
        rw [if_pos hc, hcs]
        exact fun _ _ => trivial
       obtain ⟨ob, k, hn, hk⟩ := N7 hb
       exact ⟨ob, k, hn, fun b => let ⟨v, hv, _⟩ := hk b rfl; ⟨v, hv⟩⟩
      ·exact h.elim
     ·exact h.elim
    ·exact h.elim
   ·exact h.elim
  ·exact h.elim
 ·rename_i e ho
  obtain ⟨dst, op, type, pos, after, guard⟩ := o
  simp only at ho; subst ho
  split at h
  ·rename_i z hz
   unfold zeroOf at hz
   cases hi : C.P.info? e with
   | none => simp [hi] at hz
   | some i =>
    simp only [hi, Option.bind_some] at hz
    refine ⟨.cells z.cells e, fun b => pure (Next.value (.pointer (some ⟨b, 0, none⟩))), ?_, fun b => ⟨_, rfl⟩⟩
    simp only [execOp]
    rw [HS C.P (Instr.alloc e true (.tuple #[])) _ (ob := .cells z.cells e) (k := fun b => pure (.pointer (some ⟨b, 0, none⟩))) (by
     unfold Instr.alloc
     rw [Fo C.P _ _ (N6 hi hz)]
     rfl)]
    rfl
  ·exact h.elim
 ·rename_i e x ho
  obtain ⟨dst, op, type, pos, after, guard⟩ := o
  simp only at ho; subst ho
  exact ⟨.cells (qL env x).cells e, fun b => pure (Next.value (.pointer (some ⟨b, 0, none⟩))), rfl, fun b => ⟨_, rfl⟩⟩
 ·exact h.elim
theorem lO {env : Nat → Value} {L i : Nat} : ∀ {l : List Nat} {X : Prop}, tj C ops env L i l X → X ∧ ∀ j ∈ l, j ≠ i → gv ops L j = true → ∀ oj, ops[j]? = some oj → N8 C.P ops env oj
 | [], X, h => ⟨h, fun j hj => by cases hj⟩
 | j :: l, X, h => by
  unfold tj at h
  cases hb : (Nat.beq j i || !gv ops L j) with
  | true =>
   rw [hb] at h
   obtain ⟨h1, h2⟩ := lO (l := l) h
   refine ⟨h1, fun k hk Km hr oj kB => ?_⟩
   rcases List.mem_cons.1 hk with rfl | hk
   ·simp only [Bool.or_eq_true, Bool.not_eq_true', hr] at hb
    rcases hb with hb | hb
    ·exact absurd (Nat.eq_of_beq_eq_true hb) Km
    ·cases hb
   ·exact h2 k hk Km hr oj kB
  | false =>
   rw [hb] at h
   simp only [cond_false] at h
   cases ho : ops[j]? with
   | none =>
    rw [ho] at h
    obtain ⟨h1, h2⟩ := lO (l := l) h
    refine ⟨h1, fun k hk Km hr oj kB => ?_⟩
    rcases List.mem_cons.1 hk with rfl | hk
    ·rw [ho] at kB; cases kB
    ·exact h2 k hk Km hr oj kB
   | some o =>
    rw [ho] at h
    obtain ⟨h0, h⟩ := h
    obtain ⟨h1, h2⟩ := lO (l := l) h
    refine ⟨h1, fun k hk Km hr oj kB => ?_⟩
    rcases List.mem_cons.1 hk with rfl | hk
    ·rw [ho] at kB; cases kB; exact H9 h0
    ·exact h2 k hk Km hr oj kB
theorem Ef {i : Nat} {o : Oper} (ho : ops[i]? = some o) (hsel : ∀ (j : Nat) (o : Oper) cs b, ops[j]? = some o → o.op ≠ .select cs b) {fY : List Nat} (ha : qd ops fY = true) {S : Mem → Prop} {Kp : List PanicEntry → Mem → Prop} :
  ∀ (f L : Nat) (env : Nat → Value) (M : Mem), S M → Dn ops L → q6 ops fY L i = true → gv ops L i = true → ck ops o env = false →
   eP C ops S K Kp f (L ||| 2 ^ i) (bD env o.dst undef) M → eP C ops S K Kp (f + 1) L env M
 | 0, L, env, M, mQ, hd, hf, hr, hw, hx => fun gd => by
  refine ⟨fun hno => (by rw [hno i] at hr; cases hr), fun j hj => ?_⟩
  by_cases kC : j = i
  ·subst kC; unfold gR; rw [ho]; exact mZ hw ⟨mQ, hx⟩
  ·have hj' := gH (i := i) hj kC
   have := (hx gd).1 j; rw [this] at hj'; cases hj'
 | f + 1, L, env, M, mQ, hd, hf, hr, hw, hx => fun gd => by
  obtain ⟨hL, o1, ho1, iA⟩ := bX.1 hr
  rw [ho] at ho1; cases ho1
  refine ⟨fun hno => (by rw [hno i] at hr; cases hr), fun j hj => ?_⟩
  by_cases kC : j = i
  ·subst kC; unfold gR; rw [ho]; exact mZ hw ⟨mQ, hx⟩
  ·obtain ⟨Po, oj, kB, hallj⟩ := bX.1 hj
   have hap := HY ho ha hd hf hr hj kB kC
   obtain ⟨a1, a2, a3⟩ := Oper.apart_spec hap
   have hj' := gH (i := i) hj kC
   have j7 := (hx gd).2 j hj'
   unfold gR at j7 ⊢; rw [kB] at j7 ⊢; simp only at j7 ⊢
   rw [wP L i j] at j7
   have h2 := qY hap (fun cs b => hsel j oj cs b kB) j7
   have fin : ∀ u M1, S M1 ∧ eP C ops S K Kp f (L ||| 2 ^ j ||| 2 ^ i) (bD (bD env oj.dst u) o.dst undef) M1 →
     S M1 ∧ eP C ops S K Kp (f + 1) (L ||| 2 ^ j) (bD env oj.dst u) M1 := fun u M1 hy =>
    ⟨hy.1, Ef ho hsel ha f (L ||| 2 ^ j) (bD env oj.dst u) M1 hy.1 (hd.add hj) (Bg ho hf) (gH hr (Ne.symm kC)) ((fK o env oj.dst u a3).trans hw) hy.2⟩
   unfold fz at h2 ⊢
   split
   ·rename_i Sb; rw [if_pos Sb] at h2; exact oe h2 fun u M1 hy => fin u M1 hy
   ·rename_i Sb; rw [if_neg Sb] at h2; exact fin _ _ h2
theorem KW (hC : C.Good) (hsel : ∀ (j : Nat) (o : Oper) cs b, ops[j]? = some o → o.op ≠ .select cs b) {fY : List Nat} (ha : qd ops fY = true) (t : Ex) :
  ∀ (Ss : List (Mem → Prop)), zp (my Ss) →
  (∀ (L : Nat) (env : Nat → Value) (M : Mem), my Ss M → Dn ops L → vt C ops fY K Kp t Ss L 0 env M → eP C ops (my Ss) K (yj Kp) (AB ops.size L) L env M) ∧
  (∀ (L wR : Nat) (env : Nat → Value) (M : Mem) (f : Nat), my Ss M → AB ops.size L = f + 1 → wO M → Dn ops L → vt C ops fY K Kp t Ss L wR env M → wR ≠ 0 →
   ∀ i, gv ops L i = true → wR.testBit i = false → gR C ops (yj Kp) i env M fun env' M' => my Ss M' ∧ eP C ops (my Ss) K (yj Kp) f (L ||| 2 ^ i) env' M') := by
 have kp : ∀ c M', Kp c M' → yj Kp c M' := fun c M' h => ⟨M', fun _ _ h => h, h⟩
 have both : ∀ (t : Ex) (Ss : List (Mem → Prop)), (∀ (L : Nat) (wR : Nat) (env : Nat → Value) (M : Mem), my Ss M → Dn ops L → vt C ops fY K Kp t Ss L wR env M → eP C ops (my Ss) K (yj Kp) (AB ops.size L) L env M) →
   (∀ (L : Nat) (env : Nat → Value) (M : Mem), my Ss M → Dn ops L → vt C ops fY K Kp t Ss L 0 env M → eP C ops (my Ss) K (yj Kp) (AB ops.size L) L env M) ∧
   (∀ (L wR : Nat) (env : Nat → Value) (M : Mem) (f : Nat), my Ss M → AB ops.size L = f + 1 → wO M → Dn ops L → vt C ops fY K Kp t Ss L wR env M → wR ≠ 0 →
    ∀ i, gv ops L i = true → wR.testBit i = false → gR C ops (yj Kp) i env M fun env' M' => my Ss M' ∧ eP C ops (my Ss) K (yj Kp) f (L ||| 2 ^ i) env' M') := fun t Ss h =>
  ⟨fun L env M => h L 0 env M, fun L wR env M f mQ Sh gd hd ht _ j hj _ => by
   have hh := h L wR env M mQ hd ht
   rw [Sh] at hh
   exact (hh gd).2 j hj⟩
 induction t with
 | done =>
  intro Ss hS
  refine ⟨fun L env M mQ hd h => ?_, fun L wR env M f _ _ _ hd h hcov i hi hci => ?_⟩
  ·obtain ⟨h1, h2⟩ := cond_true h
   refine Pt (fun i => ?_) h2 _
   cases hr : gv ops L i with
   | false => rfl
   | true => have := mz h1 i hr; simp at this
  ·obtain ⟨h1, h2⟩ := cond_true h
   have := mz h1 i hi; simp at this
 | step i t ih =>
  intro Ss hS
  refine both _ _ fun L wR env M mQ hd h => ?_
  obtain ⟨h1, h2⟩ := cond_true h
  simp only [Bool.and_eq_true] at h1
  obtain ⟨hr, hf⟩ := h1
  obtain ⟨hL, o, ho, iA⟩ := bX.1 hr
  rw [ho] at h2; simp only at h2
  rw [m5 (Array.getElem?_eq_some_iff.1 ho).1 hL]
  refine KS hS ho hsel ha _ L env M mQ hd hf hr ?_
  unfold gR; rw [ho]; simp only
  exact kA (AD (q7 hS mQ (iz hC h2)) kp) fun env' M' hx => ⟨hx.1, (ih Ss hS).1 _ env' M' hx.1 (hd.add hr) hx.2⟩
 | cS i t ih =>
  intro Ss hS
  refine both _ _ fun L wR env M mQ hd h => ?_
  obtain ⟨h1, h2⟩ := cond_true h
  simp only [Bool.and_eq_true] at h1
  obtain ⟨hr, hf⟩ := h1
  obtain ⟨hL, o, ho, iA⟩ := bX.1 hr
  rw [ho] at h2; simp only at h2
  rw [m5 (Array.getElem?_eq_some_iff.1 ho).1 hL]
  have yes : ck ops o env = true → Ee C.P (qL env) o M (fun v p => vt C ops fY K Kp t ([p] ++ Ss) (L ||| 2 ^ i) 0 (bD env o.dst v) M) →
    eP C ops (my Ss) K (yj Kp) (AB ops.size (L ||| 2 ^ i) + 1) L env M := fun hw hp => by
   obtain ⟨hc, v, p, p1, p2, p3, p4⟩ := KV hp
   have hS' : zp (my ([p] ++ Ss)) := fun M1 M2 hle hx s hs => by
    rcases List.mem_cons.1 hs with rfl | hs
    ·exact p3 _ _ hle (hx _ (List.mem_cons_self ..))
    ·exact hS M1 M2 hle (fun s hs => hx s (List.mem_cons_of_mem _ hs)) s hs
   have hSM' : my ([p] ++ Ss) M := fun s hs => by
    rcases List.mem_cons.1 hs with rfl | hs
    ·exact p2
    ·exact mQ s hs
   refine Pp ho hsel ha hc (s := execOp (qL env) o) (v := v) _ L env M hd hf hr hw rfl (p1 M p2) mQ ?_
   refine Pu (fun M' hx => ?_) _ _ _ _ ((ih _ hS').1 _ _ M hSM' (hd.add hr) p4)
   exact ⟨fun s hs => hx s (List.mem_cons_of_mem _ hs), p1 M' (hx p (List.mem_cons_self ..))⟩
  have no : ck ops o env = false → vt C ops fY K Kp t ([] ++ Ss) (L ||| 2 ^ i) 0 (bD env o.dst undef) M →
    eP C ops (my Ss) K (yj Kp) (AB ops.size (L ||| 2 ^ i) + 1) L env M := fun hw hp =>
   Ef ho hsel ha _ L env M mQ hd hf hr hw ((ih Ss hS).1 _ _ M mQ (hd.add hr) hp)
  unfold ZD at h2
  cases hg : o.guard with
  | none => rw [hg] at h2; exact yes (wM hg) h2
  | some jw =>
   obtain ⟨j, want⟩ := jw
   rw [hg] at h2
   simp only at h2
   cases hs : od ops j with
   | none => rw [hs] at h2; exact no (Be hg hs) h2
   | some s =>
    rw [hs] at h2
    simp only at h2
    cases he : env s <;> rw [he] at h2 <;> simp only at h2
    case bool e =>
     have hw := wN hg hs he
     cases e
     ·rw [og he] at h2
      cases want <;> simp only [aM] at h2
      ·exact yes hw h2
      ·exact no hw h2
     ·rw [og he] at h2
      cases want <;> simp only [aM] at h2
      ·exact no hw h2
      ·exact yes hw h2
    all_goals exact no (u7 hg hs (by simp [he])) h2
 | late i t ih =>
  intro Ss hS
  refine both _ _ fun L wR env M mQ hd h => ?_
  obtain ⟨h1, h2⟩ := cond_true h
  simp only [Bool.and_eq_true] at h1
  obtain ⟨hr, hl⟩ := h1
  obtain ⟨hL, o, ho, iA⟩ := bX.1 hr
  rw [ho] at h2; simp only at h2
  obtain ⟨he, h2⟩ := cond_true h2
  have hce : cls C.P o = .Pe := by unfold H6 at he; cases hc : cls C.P o <;> rw [hc] at he <;> simp at he
  obtain ⟨h3, h4⟩ := lO h2
  have hc := m5 (n := ops.size) (Array.getElem?_eq_some_iff.1 ho).1 hL
  rw [hc]
  refine Pr hS (W0 Kp) ho hce hsel ha _ L env M hc mQ hd hl hr (fun j oj hj kB kC => h4 j (List.mem_range.2 (Array.getElem?_eq_some_iff.1 kB).1) kC hj oj kB) ?_
  unfold gR; rw [ho]; simp only
  exact kA (AD (iz hC h3) kp) fun env' M' hx => ⟨(lZ.1 hx).1, (ih Ss hS).1 _ env' M' (lZ.1 hx).1 (hd.add hr) (lZ.1 hx).2⟩
 | fork i a b iha ihb =>
  intro Ss hS
  refine ⟨fun L env M mQ hd h => ?_, fun L wR env M f mQ Sh gd hd h hcov j hj wQ => ?_⟩
  ·obtain ⟨hr, h2⟩ := cond_true h
   obtain ⟨hL, o, ho, iA⟩ := bX.1 hr
   rw [ho] at h2; simp only at h2
   have hc := m5 (n := ops.size) (Array.getElem?_eq_some_iff.1 ho).1 hL
   rw [hc]
   refine fun gd => ⟨fun hno => (by rw [hno i] at hr; cases hr), fun j hj => ?_⟩
   by_cases kC : j = i
   ·subst kC
    unfold gR; rw [ho]; simp only
    exact kA (AD (q7 hS mQ (iz hC h2.1)) kp) fun env' M' hx => ⟨hx.1, (iha Ss hS).1 _ env' M' hx.1 (hd.add hr) hx.2⟩
   ·exact (ihb Ss hS).2 L (0 ||| 2 ^ i) env M (AB ops.size (L ||| 2 ^ i)) mQ hc gd hd h2.2 (by simp) j hj (by rw [fm]; simp [Ne.symm kC])
  ·obtain ⟨hr, h2⟩ := cond_true h
   obtain ⟨hL, o, ho, iA⟩ := bX.1 hr
   rw [ho] at h2; simp only at h2
   have hc := m5 (n := ops.size) (Array.getElem?_eq_some_iff.1 ho).1 hL
   by_cases kC : j = i
   ·subst kC
    unfold gR; rw [ho]; simp only
    have hf : f = AB ops.size (L ||| 2 ^ j) := by omega
    subst hf
    exact kA (AD (q7 hS mQ (iz hC h2.1)) kp) fun env' M' hx => ⟨hx.1, (iha Ss hS).1 _ env' M' hx.1 (hd.add hr) hx.2⟩
   ·exact (ihb Ss hS).2 L (wR ||| 2 ^ i) env M f mQ Sh gd hd h2.2 (by intro h0; have := fm wR i i; rw [h0] at this; simp at this) j hj (by rw [fm, wQ]; simp [Ne.symm kC])
 | dead =>
  intro Ss hS
  refine ⟨fun L env M mQ hd h => ?_, fun L wR env M f _ _ _ hd h hcov i hi hci => ?_⟩
  ·obtain ⟨h1, _⟩ := cond_true h
   simp at h1
  ·obtain ⟨h1, _⟩ := cond_true h
   simp only [Bool.and_eq_true] at h1
   have := mz h1.1 i hi; rw [hci] at this; cases this
theorem q9 {P : Program} {a : Act} {o : Oper} {M F : Mem} {w : World} {K : Value → Mem → Prop} {Kp : List PanicEntry → Mem → Prop} {next : Act → World → Prop} {Q : Exit → Act → World → Prop}
  (h : eU P (execOp a.eval o) M (oa P K Kp) (fun v M' => Kp [{ v, recovered := false }] M')) (hd : M.dj F) (hi : (M.union F).In E w)
  (hn : ∀ v w', gr E F (K v) w' → next (a.put o.dst v) w') (hp : ∀ c w', gr E F (Kp c) w' → Q (.panic c) a w') : o.wp P a w next Q := by
 have hr := O6 P _ h hd hi
 unfold ku at hr
 unfold Oper.wp
 split at hr
 ·rename_i n w' hrun
  rw [hrun]
  obtain ⟨M', hk, hd', hi'⟩ := hr
  cases n <;> first | exact hk.elim | skip
  ·exact hn _ _ ⟨M', hk, hd', hi'⟩
  ·exact hn _ _ ⟨M', hk, hd', hi'⟩
  ·rename_i f args
   refine (hk E F w' hd' hi').mono fun e w'' he => ?_
   cases e with
   | returned v => exact hn _ _ he
   | panicked c => exact hp _ _ he
   | outgrown => exact he.elim
 ·rename_i v w' hrun
  rw [hrun]
  exact hp _ _ hr
 ·exact hr.elim
theorem pg {N : Nat} {env : Nat → Value} {a : Act} (fk : eO N env a.tmps) (hfit : ∀ o ∈ ops.toList, lq N o = true) (o : Oper) :
  Region.wanted o (yielded ops a.tmps) = ck ops o env := by
 unfold Region.wanted ck
 cases hg : o.guard with
 | none => rfl
 | some jw =>
  obtain ⟨j, want⟩ := jw
  simp only
  have hy : yielded ops a.tmps j = match (od ops j).map env with | some (.bool b) => some b | _ => none := by
   unfold yielded od
   cases hj : ops[j]? with
   | none => rfl
   | some oj =>
    simp only [Option.bind_some]
    cases hd : oj.dst with
    | none => rfl
    | some s =>
     have hm : oj ∈ ops.toList := by have := Array.mem_of_getElem? hj; simpa using this
     have hs := (fJ (hfit oj hm)).2.1 s hd
     simp only [Option.bind_some, fk.2 s hs, Option.map_some]
     cases env s <;> rfl
  rw [hy]
  cases (od ops j).map env with
  | none => rfl
  | some v => cases v <;> first | rfl | (cases want <;> rename_i b <;> cases b <;> rfl)
structure Post (E : qP) (N : Nat) (Z : Act → Prop) (F : Mem) (K : (Nat → Value) → Mem → Prop) (Kp : List PanicEntry → Mem → Prop) (Q : Exit → Act → World → Prop) : Prop where
 normal : ∀ env M a w, eO N env a.tmps → Z a → M.dj F → (M.union F).In E w → K env M → Q .normal a w
 panic : ∀ c a w, Z a → gr E F (Kp c) w → Q (.panic c) a w
theorem put_defers {a : Act} {dst : Option Tmp} {v : Value} : (a.put dst v).defers = a.defers := by cases dst <;> rfl
theorem Ft {N : Nat} {Z : Act → Prop} {F : Mem} {Q : Exit → Act → World → Prop} (hz : ∀ o ∈ ops.toList, ∀ (a : Act) (v : Value), Z a → Z (a.put o.dst v)) (hfit : ∀ o ∈ ops.toList, lq N o = true)
  (hp : ∀ c a w, Z a → gr E F (Kp c) w → Q (.panic c) a w) {i : Nat} {env : Nat → Value} {M : Mem} {a : Act} {w : World} {K' : (Nat → Value) → Mem → Prop} {next : Act → World → Prop}
  (fk : eO N env a.tmps) (hds : Z a) (hd : M.dj F) (hi : (M.union F).In E w)
  (hn : ∀ env' M' a' w', eO N env' a'.tmps → Z a' → M'.dj F → (M'.union F).In E w' → K' env' M' → next a' w') (h : gR C ops Kp i env M K') : wpOp C.P ops Q i next a w := by
 unfold wpOp
 unfold gR at h
 cases ho : ops[i]? with
 | none => rw [ho] at h; exact hn _ _ _ _ fk hds hd hi h
 | some o =>
  rw [ho] at h
  simp only at h
  have hm : o ∈ ops.toList := by have := Array.mem_of_getElem? ho; simpa using this
  have hf := hfit o hm
  simp only
  rw [pg fk hfit]
  unfold fz at h
  split
  ·rename_i hw
   rw [if_pos hw] at h
   refine .inl (q9 (K := fun v M' => K' (bD env o.dst v) M') (Kp := Kp) (F := F) (by rw [← fk.execOp hf]; exact vq h) hd hi (fun v w' hv => ?_) (fun c w' hc => hp _ _ _ hds hc))
   obtain ⟨M', hk, hd', hi'⟩ := hv
   exact hn _ _ _ _ (fk.put (fJ hf).2.1 v) (hz o hm _ _ hds) hd' hi' hk
  ·rename_i hw
   rw [if_neg hw] at h
   exact hn _ _ _ _ (fk.put (fJ hf).2.1 undef) (hz o hm _ _ hds) hd hi h
def rf (ops : Array Oper) (arr : Array Bool) (L : Nat) : Prop := arr.size = ops.size ∧ ∀ i, i < ops.size → arr[i]? = some (L.testBit i)
theorem rf.add {arr : Array Bool} {L i : Nat} (h : rf ops arr L) (hi : i < ops.size) : rf ops (arr.setIfInBounds i true) (L ||| 2 ^ i) := by
 refine ⟨by simp [h.1], fun k hk => ?_⟩
 by_cases Km : i = k
 ·subst Km; simp [h.1, hi]
 ·rw [Array.getElem?_setIfInBounds_ne Km, h.2 k hk, fm]; simp [Km]
theorem yl {arr : Array Bool} {L : Nat} (h : rf ops arr L) (zu : ∀ (j : Nat) (o : Oper), ops[j]? = some o → ∀ e ∈ o.after, Region.binds .any e = true → e.on < ops.size) (i : Nat) :
  i ∈ Region.ready .any ops arr ↔ gv ops L i = true := by
 rw [mem_ready, bX]
 constructor
 ·rintro ⟨h0, o, ho, iA⟩
  have hlt := (Array.getElem?_eq_some_iff.1 ho).1
  refine ⟨?_, o, ho, fun e he hb => ?_⟩
  ·have := h.2 i hlt; simp [Array.getD_eq_getD_getElem?, this] at h0; exact h0
  ·have h1 := iA e he hb
   have := h.2 e.on (zu i o ho e he hb)
   simpa [Array.getD_eq_getD_getElem?, this] using h1
 ·rintro ⟨h0, o, ho, iA⟩
  have hlt := (Array.getElem?_eq_some_iff.1 ho).1
  refine ⟨by simp [Array.getD_eq_getD_getElem?, h.2 i hlt, h0], o, ho, fun e he hb => ?_⟩
  have := h.2 e.on (zu i o ho e he hb)
  simp [Array.getD_eq_getD_getElem?, this, iA e he hb]
theorem Dc {S : Mem → Prop} {N : Nat} {Z : Act → Prop} {F : Mem} {Q : Exit → Act → World → Prop} (hz : ∀ o ∈ ops.toList, ∀ (a : Act) (v : Value), Z a → Z (a.put o.dst v)) (hfit : ∀ o ∈ ops.toList, lq N o = true)
  (zu : ∀ (j : Nat) (o : Oper), ops[j]? = some o → ∀ e ∈ o.after, Region.binds .any e = true → e.on < ops.size) (hpost : Post E N Z F K Kp Q) :
  ∀ (f L : Nat) (arr : Array Bool) (env : Nat → Value) (M : Mem) (a : Act) (w : World), rf ops arr L → eO N env a.tmps → Z a → M.dj F → (M.union F).In E w →
   eP C ops S K (yj Kp) f L env M → wpAny C.P .any ops Q f arr a w := by
 intro f
 induction f with
 | zero =>
  intro L arr env M a w hl fk hds hd hi h
  have gd : wO M := ⟨w.heap.size, fun b hb => by
   cases hm : M b with
   | none => rfl
   | some o => have := hi.lt (Mem.union_left (F := F) hm); omega⟩
  obtain ⟨h1, h2⟩ := h gd
  refine ⟨?_, hpost.normal _ _ _ _ fk hds hd hi h2⟩
  rw [List.eq_nil_iff_forall_not_mem]
  intro i hmem
  have := (yl hl zu i).1 hmem
  rw [h1 i] at this; cases this
 | succ f ih =>
  intro L arr env M a w hl fk hds hd hi h
  have gd : wO M := ⟨w.heap.size, fun b hb => by
   cases hm : M b with
   | none => rfl
   | some o => have := hi.lt (Mem.union_left (F := F) hm); omega⟩
  obtain ⟨h1, h2⟩ := h gd
  refine ⟨fun W1 => ?_, fun i hmem => ?_⟩
  ·refine hpost.normal _ _ _ _ fk hds hd hi (h1 fun i => ?_)
   cases hr : gv ops L i with
   | false => rfl
   | true => have := (yl hl zu i).2 hr; rw [W1] at this; cases this
  ·have hr := (yl hl zu i).1 hmem
   obtain ⟨_, o, ho, _⟩ := bX.1 hr
   exact Ft hz hfit (fun c a w h1 h2 => hpost.panic c a w h1 h2.up) fk hds hd hi (fun env' M' a' w' g1 g2 g3 g4 g5 => ih _ _ _ _ _ _ (hl.add (Array.getElem?_eq_some_iff.1 ho).1) g1 g2 g3 g4 g5.2) (h2 i hr)
def KX (C : Ctx) (ops : Array Oper) (K : (Nat → Value) → Mem → Prop) (Kp : List PanicEntry → Mem → Prop) : List Oper → (Nat → Value) → Mem → Prop
 | [], env, M => K env M
 | o :: rest, env, M => Pk C ops o env M (fun env' M' => KX C ops K Kp rest env' M') Kp
theorem Bi {N : Nat} {Z : Act → Prop} {F : Mem} {Q : Exit → Act → World → Prop} (hC : C.Good) (hz : ∀ o ∈ ops.toList, ∀ (a : Act) (v : Value), Z a → Z (a.put o.dst v)) (hfit : ∀ o ∈ ops.toList, lq N o = true) (hpost : Post E N Z F K Kp Q) :
  ∀ (l : List Oper) (env : Nat → Value) (M : Mem) (a : Act) (w : World), (∀ o ∈ l, o ∈ ops.toList) → eO N env a.tmps → Z a → M.dj F → (M.union F).In E w →
   KX C ops K Kp l env M → wpList C.P ops Q l a w := by
 intro l
 induction l with
 | nil => intro env M a w _ fk hds hd hi h; exact hpost.normal _ _ _ _ fk hds hd hi h
 | cons o rest ih =>
  intro env M a w hm fk hds hd hi h
  have hf := hfit o (hm o (List.mem_cons_self ..))
  have hb := iz hC h
  unfold wpList
  rw [pg fk hfit]
  unfold fz at hb
  split
  ·rename_i hw
   rw [if_pos hw] at hb
   refine .inl (q9 (K := fun v M' => KX C ops K Kp rest (bD env o.dst v) M') (Kp := Kp) (F := F) (by rw [← fk.execOp hf]; exact vq hb) hd hi (fun v w' hv => ?_) (fun c w' hc => hpost.panic _ _ _ hds hc))
   obtain ⟨M', hk, hd', hi'⟩ := hv
   exact ih _ _ _ _ (fun o' W2 => hm o' (List.mem_cons_of_mem _ W2)) (fk.put (fJ hf).2.1 v) (hz o (hm o (List.mem_cons_self ..)) _ _ hds) hd' hi' hk
  ·rename_i hw
   rw [if_neg hw] at hb
   exact ih _ _ _ _ (fun o' W2 => hm o' (List.mem_cons_of_mem _ W2)) (fk.put (fJ hf).2.1 undef) (hz o (hm o (List.mem_cons_self ..)) _ _ hds) hd hi hb
end
end Go.AF
