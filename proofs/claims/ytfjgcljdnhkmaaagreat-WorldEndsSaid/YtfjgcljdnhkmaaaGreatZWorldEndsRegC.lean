/- A part of proofs about one program. -/
import Derived.Test.YtfjgcljdnhkmaaaGreatZWorldEndsRegL
set_option linter.unusedVariables false
namespace Go.AF
variable {E : ve}
inductive Ex where
 | done
 | step (i : Nat) (t : Ex)
 | cQ (i : Nat) (t : Ex)
 | late (i : Nat) (t : Ex)
 | fork (i : Nat) (a b : Ex)
 | dead
def xX (ops : Array Oper) (L wI : Nat) : Bool := (List.range ops.size).all fun i => !gp ops L i || wI.testBit i
def DO : List (Mem → Prop) → Mem → Prop → Prop
 | [], _, X => X
 | s :: l, M, X => s M ∧ DO l M X
def mb (l : List (Mem → Prop)) (M : Mem) : Prop := ∀ s ∈ l, s M
theorem lR : ∀ {l : List (Mem → Prop)} {M : Mem} {X : Prop}, DO l M X ↔ mb l M ∧ X
 | [], M, X => by simp [DO, mb]
 | s :: l, M, X => by
  simp only [DO, lR (l := l), mb, List.mem_cons, forall_eq_or_imp]
  constructor
  ·rintro ⟨a, b, c⟩; exact ⟨⟨a, b⟩, c⟩
  ·rintro ⟨⟨a, b⟩, c⟩; exact ⟨a, b, c⟩
def Ks (P : Program) (t : TypeId) (x : Value) (M : Mem) (K : Value → (Mem → Prop) → Prop) : Prop :=
 match x with
 | .pointer p => aE p fun b o =>
  match P.underlying t with
  | some (.struct _) | some (.array _ _) =>
   if (flat P 8 t).length = P.cellsOf t then
    Kc M ⟨b, o, none⟩ (flat P 8 t) 0 fun vs => K (.agg vs.toArray) (fun M' => M'.fT ⟨b, o, none⟩ 0 (P.cellsOf t) = some vs)
   else False
  | some d => G9 (csh d) (M.ld ⟨b, o, none⟩) fun v => K v (fun M' => M'.ld ⟨b, o, none⟩ = some v)
  | none => False
 | _ => False
def DP (P : Program) (ρ : Operand → Value) (o : Oper) (M : Mem) (K : Value → (Mem → Prop) → Prop) : Prop :=
 match o.op with
 | .load t a => Ks P t (ρ a) M K
 | _ => False
def YZ (C : Ctx) (ops : Array Oper) (o : Oper) (env : Nat → Value) (M : Mem) (K : (Nat → Value) → List (Mem → Prop) → Prop) : Prop :=
 match o.guard with
 | none => DP C.P (qG env) o M (fun v p => K (bG env o.dst v) [p])
 | some (j, want) => match nT ops j with
  | some s => match env s with
   | .bool e => match want with
    | true => aM e (DP C.P (qG (bG env (some s) (.bool true))) o M (fun v p => K (bG (bG env (some s) (.bool true)) o.dst v) [p])) (K (bG (bG env (some s) (.bool false)) o.dst undef) [])
    | false => aM e (K (bG (bG env (some s) (.bool true)) o.dst undef) []) (DP C.P (qG (bG env (some s) (.bool false))) o M (fun v p => K (bG (bG env (some s) (.bool false)) o.dst v) [p]))
   | _ => K (bG env o.dst undef) []
  | none => K (bG env o.dst undef) []
def Kt (P : Program) (ρ : Operand → Value) (o : Oper) : Prop :=
 match o.op with
 | .buildSlice t len parts => match P.underlying t with
  | some (.slice e) => match P.info? e with
   | some i => match i.zero with
    | some z => if z.cells.toList.length = i.size ∧ len * i.size ≤ 16777216 then
      (match AT (fun k => some (k * i.size, i.size)) (List.replicate len z.cells.toList).flatten (parts.toList.map fun p => (p.1, ρ p.2)) with
      | some _ => True
      | none => False) else False
    | none => False
   | none => False
  | _ => False
 | .alloc e => match zeroOf P e with
  | some _ => True
  | none => False
 | .box _ _ => True
 | _ => False
def tf (C : Ctx) (ops : Array Oper) (env : Nat → Value) (L i : Nat) : List Nat → Prop → Prop
 | [], X => X
 | j :: l, X => bif Nat.beq j i || !gp ops L j then tf C ops env L i l X else
   (match ops[j]? with
   | some o => Kt C.P (qG env) o ∧ tf C ops env L i l X
   | none => tf C ops env L i l X)
def HD (P : Program) (o : Oper) : Bool := match cls P o with
 | .OE => true
 | _ => false
def behind (C : Ctx) (o : Oper) (Ss : List (Mem → Prop)) (M : Mem) (X : Prop) : Prop := bif HD C.P o then DO Ss M X else X
def vn (C : Ctx) (ops : Array Oper) (fU : List Nat) (K : (Nat → Value) → Mem → Prop) (Kp : List PanicEntry → Mem → Prop) : Ex → List (Mem → Prop) → Nat → Nat → (Nat → Value) → Mem → Prop
 | .done, _, L, _, env, M => bif xX ops L 0 then K env M else False
 | .step i t, Ss, L, _, env, M => bif gp ops L i && Bb C.P ops fU L i then
   (match ops[i]? with
   | some o => OJ C ops o env M (fun env' M' => behind C o Ss M' (vn C ops fU K Kp t Ss (L ||| 2 ^ i) 0 env' M')) Kp
   | none => False) else False
 | .cQ i t, Ss, L, _, env, M => bif gp ops L i && qR ops fU L i then
   (match ops[i]? with
   | some o => YZ C ops o env M (fun env' p => vn C ops fU K Kp t (p ++ Ss) (L ||| 2 ^ i) 0 env' M)
   | none => False) else False
 | .late i t, Ss, L, _, env, M => bif gp ops L i && zj C.P ops fU L i then
   (match ops[i]? with
   | some o => bif HD C.P o then tf C ops env L i (List.range ops.size) (OJ C ops o env M (fun env' M' => DO Ss M' (vn C ops fU K Kp t Ss (L ||| 2 ^ i) 0 env' M')) Kp) else False
   | none => False) else False
 | .fork i a b, Ss, L, wI, env, M => bif gp ops L i then
   (match ops[i]? with
   | some o => OJ C ops o env M (fun env' M' => behind C o Ss M' (vn C ops fU K Kp a Ss (L ||| 2 ^ i) 0 env' M')) Kp ∧ vn C ops fU K Kp b Ss L (wI ||| 2 ^ i) env M
   | none => False) else False
 | .dead, _, L, wI, _, _ => bif xX ops L wI && !Nat.beq wI 0 then True else False
def xY (Kp : List PanicEntry → Mem → Prop) : List PanicEntry → Mem → Prop := fun c M => ∃ M1, M1.le M ∧ Kp c M1
theorem Wf (Kp : List PanicEntry → Mem → Prop) : ZV (xY Kp) := fun _ _ _ hle ⟨M1, h1, h2⟩ => ⟨M1, fun b o h => hle b o (h1 b o h), h2⟩
theorem iI.up {F : Mem} {Kp : List PanicEntry → Mem → Prop} {c : List PanicEntry} {w : World} (h : iI E F (xY Kp c) w) : iI E F (Kp c) w := by
 obtain ⟨M, ⟨M1, hle, hk⟩, hd, hi⟩ := h
 refine ⟨M1, hk, fun b => ?_, ⟨fun b o hb => ?_, hi.2⟩⟩
 ·rcases hd b with h | h
  ·left; cases hm : M1 b with
   | none => rfl
   | some o => rw [hle b o hm] at h; cases h
  ·exact .inr h
 ·unfold Mem.union at hb
  cases hm : M1 b with
  | some o' => rw [hm] at hb; cases hb; exact hi.1 b o (Mem.union_left (hle b o hm))
  | none =>
   rw [hm] at hb
   refine hi.1 b o ?_
   unfold Mem.union
   rcases hd b with h | h
   ·rw [h]; exact hb
   ·rw [h] at hb; cases hb
section
variable {C : Ctx} {ops : Array Oper} {K : (Nat → Value) → Mem → Prop} {Kp : List PanicEntry → Mem → Prop}
theorem mc {L wI : Nat} (h : xX ops L wI = true) (i : Nat) (hi : gp ops L i = true) : wI.testBit i = true := by
 obtain ⟨_, o, ho, _⟩ := bX.1 hi
 have := List.all_eq_true.1 h i (List.mem_range.2 (Array.getElem?_eq_some_iff.1 ho).1)
 simpa [hi] using this
theorem OQ {S : Mem → Prop} {L : Nat} {env : Nat → Value} {M : Mem} (h : ∀ i, gp ops L i = false) (hk : K env M) : ∀ f, eP C ops S K Kp f L env M
 | 0 => fun _ => ⟨h, hk⟩
 | f + 1 => fun _ => ⟨fun _ => hk, fun i hi => by rw [h i] at hi; cases hi⟩
theorem cond_true {b : Bool} {X : Prop} (h : bif b then X else False) : b = true ∧ X := by cases b; exact h.elim; exact ⟨rfl, h⟩
theorem ZX {ρ : Operand → Value} {o : Oper} {M : Mem} {K : Value → Mem → Prop} {xS : List PanicEntry → Mem → Prop} (h : uX C ρ o M K Kp) (hp : ∀ c M', Kp c M' → xS c M') : uX C ρ o M K xS := by
 unfold uX at h ⊢
 split at h
 ·exact h
 ·exact h
 ·exact h
 ·refine jH C.P _ h (fun n M' hn => ?_) (fun _ _ h => hp _ _ h)
  cases n <;> first | exact hn.elim | exact hn | exact ae.mono hn (fun _ _ h => h) hp
theorem Au {o : Oper} {env : Nat → Value} {M : Mem} {xS : List PanicEntry → Mem → Prop} (h : fA C ops o env M K Kp) (hp : ∀ c M', Kp c M' → xS c M') : fA C ops o env M K xS := by
 unfold fA at h ⊢
 split
 ·rename_i hw; rw [if_pos hw] at h; exact ZX h hp
 ·rename_i hw; rw [if_neg hw] at h; exact h
theorem OR {S S' : Mem → Prop} (hs : ∀ M, S M → S' M) : ∀ (f L : Nat) (env : Nat → Value) (M : Mem), eP C ops S K Kp f L env M → eP C ops S' K Kp f L env M := by
 intro f
 induction f with
 | zero => intro L env M h; exact h
 | succ f ih => intro L env M h fX; exact ⟨(h fX).1, fun j hj => DM ((h fX).2 j hj) fun env' M' hx => ⟨hs _ hx.1, ih _ _ _ hx.2⟩⟩
theorem qS {o : Oper} {env : Nat → Value} {M : Mem} {Ss : List (Mem → Prop)} {X : (Nat → Value) → Mem → Prop} (hS : zi (mb Ss)) (mI : mb Ss M)
  (h : fA C ops o env M (fun env' M' => behind C o Ss M' (X env' M')) Kp) : fA C ops o env M (fun env' M' => mb Ss M' ∧ X env' M') Kp := by
 unfold fA at h ⊢
 cases he : HD C.P o with
 | true =>
  simp only [behind, he] at h
  split
  ·rename_i hw; rw [if_pos hw] at h; exact nU h fun v M' hv => lR.1 hv
  ·rename_i hw; rw [if_neg hw] at h; exact lR.1 h
 | false =>
  simp only [behind, he, cond_false] at h
  split
  ·rename_i hw; rw [if_pos hw] at h
   unfold uX at h ⊢
   unfold HD at he
   cases hc : cls C.P o <;> rw [hc] at h he <;> simp only at h ⊢
   ·obtain ⟨v, hv, h⟩ := h; exact ⟨v, hv, mI, h⟩
   ·obtain ⟨v, hv, h⟩ := h; exact ⟨v, hv, mI, h⟩
   ·obtain ⟨ob, k, hn, h⟩ := h
    exact ⟨ob, k, hn, fun b hb => let ⟨v, hv, h⟩ := h b hb; ⟨v, hv, hS _ _ (qP hb) mI, h⟩⟩
   ·simp at he
  ·rename_i hw; rw [if_neg hw] at h; exact ⟨mI, h⟩
theorem HE {M M' : Mem} (h : M.le M') {a : Addr} : ∀ (n i : Nat) (vs : List Value), M.fT a i n = some vs → M'.fT a i n = some vs
 | 0, i, vs, hv => hv
 | n + 1, i, vs, hv => by
  simp only [Mem.fT] at hv ⊢
  cases hx : M.ld (a.add i) with
  | none => simp [hx] at hv
  | some v =>
   rw [Mem.Q5 h hx]
   simp only [hx] at hv
   cases hr : M.fT a (i + 1) n with
   | none => simp [hr] at hv
   | some rest => rw [HE h n (i + 1) rest hr]; rw [hr] at hv; exact hv
theorem HF {P : Program} {t : TypeId} {x : Value} {M : Mem} {K : Value → (Mem → Prop) → Prop} (h : Ks P t x M K) :
  ∃ v p, (∀ M', p M' → bZ P (Instr.loadAt t x) M' = some v) ∧ p M ∧ zi p ∧ K v p := by
 unfold Ks at h
 cases x <;> try exact h.elim
 rename_i p
 obtain ⟨b, o, hp, h2⟩ := kf h
 subst hp
 clear h
 cases hd : P.underlying t with
 | none => rw [hd] at h2; exact h2.elim
 | some d =>
  rw [hd] at h2
  have agg : xT d = true → (if (flat P 8 t).length = P.cellsOf t then Kc M ⟨b, o, none⟩ (flat P 8 t) 0 fun vs => K (.agg vs.toArray) (fun M' => M'.fT ⟨b, o, none⟩ 0 (P.cellsOf t) = some vs) else False) →
    ∃ v p, (∀ M', p M' → bZ P (Instr.loadAt t (.pointer (some ⟨b, o, none⟩))) M' = some v) ∧ p M ∧ zi p ∧ K v p := by
   intro fW h
   split at h
   ·rename_i hl
    obtain ⟨vs, hvs, h⟩ := xU h
    rw [hl] at hvs
    exact ⟨_, _, fun M' hm => qM hd fW rfl hm, hvs, fun M1 M2 hle h1 => HE hle _ _ _ h1, h⟩
   ·exact h.elim
  cases d with
  | struct fs => exact agg rfl h2
  | array m e => exact agg rfl h2
  | _ => (obtain ⟨v, hv, h⟩ := qL h2; exact ⟨v, _, fun M' hm => ze hd rfl hm, hv, fun M1 M2 hle h1 => Mem.Q5 hle h1, h⟩)
theorem Ku {P : Program} {ρ : Operand → Value} {o : Oper} {M : Mem} {K : Value → (Mem → Prop) → Prop} (h : DP P ρ o M K) :
  cls P o = .read ∧ ∃ v p, (∀ M', p M' → bZ P (execOp ρ o) M' = some (.value v)) ∧ p M ∧ zi p ∧ K v p := by
 unfold DP at h
 split at h
 ·rename_i t a ho
  obtain ⟨v, p, h1, h2, h3, h4⟩ := HF h
  obtain ⟨dst, op, type, pos, after, guard⟩ := o
  simp only at ho; subst ho
  exact ⟨rfl, v, p, fun M' hp => gU (h1 M' hp), h2, h3, h4⟩
 ·exact h.elim
theorem HG {o : Oper} {env : Nat → Value} (h : Kt C.P (qG env) o) : NA C.P ops env o := by
 intro _
 unfold Kt at h
 split at h
 ·rename_i t len parts ho
  split at h
  ·rename_i e hu
   split at h
   ·rename_i i hi
    split at h
    ·rename_i z hz
     split at h
     ·rename_i hc
      split at h
      ·rename_i cs hcs
       have hb : Rj C.P (qG env) o Mem.empty (fun _ _ => True) := by
        unfold Rj; rw [ho]; simp only
        unfold V4; rw [hu]; simp only
        rw [hi]; simp only
        rw [hz]; simp only
        rw [if_pos hc, hcs]
        exact fun _ _ => trivial
       obtain ⟨ob, k, hn, hk⟩ := Nz hb
       exact ⟨ob, k, hn, fun b => let ⟨v, hv, _⟩ := hk b rfl; ⟨v, hv⟩⟩
      ·exact h.elim
     ·exact h.elim
    ·exact h.elim
   ·exact h.elim
  ·exact h.elim
 ·rename_i e ho
  obtain ⟨dst, op, type, pos, after, guard⟩ := o
  simp only at ho; subst ho
  split at h
  ·rename_i z hz
   unfold zeroOf at hz
   cases hi : C.P.info? e with
   | none => simp [hi] at hz
   | some i =>
    simp only [hi, Option.bind_some] at hz
    refine ⟨.cells z.cells e, fun b => pure (Next.value (.pointer (some ⟨b, 0, none⟩))), ?_, fun b => ⟨_, rfl⟩⟩
    simp only [execOp]
    rw [Hu C.P (Instr.alloc e true (.tuple #[])) _ (ob := .cells z.cells e) (k := fun b => pure (.pointer (some ⟨b, 0, none⟩))) (by
     unfold Instr.alloc
     rw [E0 C.P _ _ (Ny hi hz)]
     rfl)]
    rfl
  ·exact h.elim
 ·rename_i e x ho
  obtain ⟨dst, op, type, pos, after, guard⟩ := o
  simp only at ho; subst ho
  exact ⟨.cells (qG env x).cells e, fun b => pure (Next.value (.pointer (some ⟨b, 0, none⟩))), rfl, fun b => ⟨_, rfl⟩⟩
 ·exact h.elim
theorem lE {env : Nat → Value} {L i : Nat} : ∀ {l : List Nat} {X : Prop}, tf C ops env L i l X → X ∧ ∀ j ∈ l, j ≠ i → gp ops L j = true → ∀ oj, ops[j]? = some oj → NA C.P ops env oj
 | [], X, h => ⟨h, fun j hj => by cases hj⟩
 | j :: l, X, h => by
  unfold tf at h
  cases hb : (Nat.beq j i || !gp ops L j) with
  | true =>
   rw [hb] at h
   obtain ⟨h1, h2⟩ := lE (l := l) h
   refine ⟨h1, fun k hk JS hr oj kn => ?_⟩
   rcases List.mem_cons.1 hk with rfl | hk
   ·simp only [Bool.or_eq_true, Bool.not_eq_true', hr] at hb
    rcases hb with hb | hb
    ·exact absurd (Nat.eq_of_beq_eq_true hb) JS
    ·cases hb
   ·exact h2 k hk JS hr oj kn
  | false =>
   rw [hb] at h
   simp only [cond_false] at h
   cases ho : ops[j]? with
   | none =>
    rw [ho] at h
    obtain ⟨h1, h2⟩ := lE (l := l) h
    refine ⟨h1, fun k hk JS hr oj kn => ?_⟩
    rcases List.mem_cons.1 hk with rfl | hk
    ·rw [ho] at kn; cases kn
    ·exact h2 k hk JS hr oj kn
   | some o =>
    rw [ho] at h
    obtain ⟨h0, h⟩ := h
    obtain ⟨h1, h2⟩ := lE (l := l) h
    refine ⟨h1, fun k hk JS hr oj kn => ?_⟩
    rcases List.mem_cons.1 hk with rfl | hk
    ·rw [ho] at kn; cases kn; exact HG h0
    ·exact h2 k hk JS hr oj kn
theorem DQ {i : Nat} {o : Oper} (ho : ops[i]? = some o) (hsel : ∀ (j : Nat) (o : Oper) cs b, ops[j]? = some o → o.op ≠ .select cs b) {fU : List Nat} (ha : pV ops fU = true) {S : Mem → Prop} {Kp : List PanicEntry → Mem → Prop} :
  ∀ (f L : Nat) (env : Nat → Value) (M : Mem), S M → Dn ops L → qR ops fU L i = true → gp ops L i = true → ck ops o env = false →
   eP C ops S K Kp f (L ||| 2 ^ i) (bG env o.dst undef) M → eP C ops S K Kp (f + 1) L env M
 | 0, L, env, M, mI, hd, hf, hr, hw, hx => fun fX => by
  refine ⟨fun hno => (by rw [hno i] at hr; cases hr), fun j hj => ?_⟩
  by_cases kq : j = i
  ·subst kq; unfold gO; rw [ho]; exact mS hw ⟨mI, hx⟩
  ·have hj' := gE (i := i) hj kq
   have := (hx fX).1 j; rw [this] at hj'; cases hj'
 | f + 1, L, env, M, mI, hd, hf, hr, hw, hx => fun fX => by
  obtain ⟨hL, o1, ho1, ig⟩ := bX.1 hr
  rw [ho] at ho1; cases ho1
  refine ⟨fun hno => (by rw [hno i] at hr; cases hr), fun j hj => ?_⟩
  by_cases kq : j = i
  ·subst kq; unfold gO; rw [ho]; exact mS hw ⟨mI, hx⟩
  ·obtain ⟨OM, oj, kn, hallj⟩ := bX.1 hj
   have hap := HA ho ha hd hf hr hj kn kq
   obtain ⟨a1, a2, a3⟩ := Oper.apart_spec hap
   have hj' := gE (i := i) hj kq
   have j6 := (hx fX).2 j hj'
   unfold gO at j6 ⊢; rw [kn] at j6 ⊢; simp only at j6 ⊢
   rw [wG L i j] at j6
   have h2 := qQ hap (fun cs b => hsel j oj cs b kn) j6
   have fin : ∀ u M1, S M1 ∧ eP C ops S K Kp f (L ||| 2 ^ j ||| 2 ^ i) (bG (bG env oj.dst u) o.dst undef) M1 →
     S M1 ∧ eP C ops S K Kp (f + 1) (L ||| 2 ^ j) (bG env oj.dst u) M1 := fun u M1 hy =>
    ⟨hy.1, DQ ho hsel ha f (L ||| 2 ^ j) (bG env oj.dst u) M1 hy.1 (hd.add hj) (Bc ho hf) (gE hr (Ne.symm kq)) ((fG o env oj.dst u a3).trans hw) hy.2⟩
   unfold fA at h2 ⊢
   split
   ·rename_i Rm; rw [if_pos Rm] at h2; exact nU h2 fun u M1 hy => fin u M1 hy
   ·rename_i Rm; rw [if_neg Rm] at h2; exact fin _ _ h2
theorem Kv (hC : C.Good) (hsel : ∀ (j : Nat) (o : Oper) cs b, ops[j]? = some o → o.op ≠ .select cs b) {fU : List Nat} (ha : pV ops fU = true) (t : Ex) :
  ∀ (Ss : List (Mem → Prop)), zi (mb Ss) →
  (∀ (L : Nat) (env : Nat → Value) (M : Mem), mb Ss M → Dn ops L → vn C ops fU K Kp t Ss L 0 env M → eP C ops (mb Ss) K (xY Kp) (Aq ops.size L) L env M) ∧
  (∀ (L wI : Nat) (env : Nat → Value) (M : Mem) (f : Nat), mb Ss M → Aq ops.size L = f + 1 → wF M → Dn ops L → vn C ops fU K Kp t Ss L wI env M → wI ≠ 0 →
   ∀ i, gp ops L i = true → wI.testBit i = false → gO C ops (xY Kp) i env M fun env' M' => mb Ss M' ∧ eP C ops (mb Ss) K (xY Kp) f (L ||| 2 ^ i) env' M') := by
 have kp : ∀ c M', Kp c M' → xY Kp c M' := fun c M' h => ⟨M', fun _ _ h => h, h⟩
 have both : ∀ (t : Ex) (Ss : List (Mem → Prop)), (∀ (L : Nat) (wI : Nat) (env : Nat → Value) (M : Mem), mb Ss M → Dn ops L → vn C ops fU K Kp t Ss L wI env M → eP C ops (mb Ss) K (xY Kp) (Aq ops.size L) L env M) →
   (∀ (L : Nat) (env : Nat → Value) (M : Mem), mb Ss M → Dn ops L → vn C ops fU K Kp t Ss L 0 env M → eP C ops (mb Ss) K (xY Kp) (Aq ops.size L) L env M) ∧
   (∀ (L wI : Nat) (env : Nat → Value) (M : Mem) (f : Nat), mb Ss M → Aq ops.size L = f + 1 → wF M → Dn ops L → vn C ops fU K Kp t Ss L wI env M → wI ≠ 0 →
    ∀ i, gp ops L i = true → wI.testBit i = false → gO C ops (xY Kp) i env M fun env' M' => mb Ss M' ∧ eP C ops (mb Ss) K (xY Kp) f (L ||| 2 ^ i) env' M') := fun t Ss h =>
  ⟨fun L env M => h L 0 env M, fun L wI env M f mI Rr fX hd ht _ j hj _ => by
   have hh := h L wI env M mI hd ht
   rw [Rr] at hh
   exact (hh fX).2 j hj⟩
 induction t with
 | done =>
  intro Ss hS
  refine ⟨fun L env M mI hd h => ?_, fun L wI env M f _ _ _ hd h hcov i hi hci => ?_⟩
  ·obtain ⟨h1, h2⟩ := cond_true h
   refine OQ (fun i => ?_) h2 _
   cases hr : gp ops L i with
   | false => rfl
   | true => have := mc h1 i hr; simp at this
  ·obtain ⟨h1, h2⟩ := cond_true h
   have := mc h1 i hi; simp at this
 | step i t ih =>
  intro Ss hS
  refine both _ _ fun L wI env M mI hd h => ?_
  obtain ⟨h1, h2⟩ := cond_true h
  simp only [Bool.and_eq_true] at h1
  obtain ⟨hr, hf⟩ := h1
  obtain ⟨hL, o, ho, ig⟩ := bX.1 hr
  rw [ho] at h2; simp only at h2
  rw [mT (Array.getElem?_eq_some_iff.1 ho).1 hL]
  refine Kr hS ho hsel ha _ L env M mI hd hf hr ?_
  unfold gO; rw [ho]; simp only
  exact kj (Au (qS hS mI (jJ hC h2)) kp) fun env' M' hx => ⟨hx.1, (ih Ss hS).1 _ env' M' hx.1 (hd.add hr) hx.2⟩
 | cQ i t ih =>
  intro Ss hS
  refine both _ _ fun L wI env M mI hd h => ?_
  obtain ⟨h1, h2⟩ := cond_true h
  simp only [Bool.and_eq_true] at h1
  obtain ⟨hr, hf⟩ := h1
  obtain ⟨hL, o, ho, ig⟩ := bX.1 hr
  rw [ho] at h2; simp only at h2
  rw [mT (Array.getElem?_eq_some_iff.1 ho).1 hL]
  have yes : ck ops o env = true → DP C.P (qG env) o M (fun v p => vn C ops fU K Kp t ([p] ++ Ss) (L ||| 2 ^ i) 0 (bG env o.dst v) M) →
    eP C ops (mb Ss) K (xY Kp) (Aq ops.size (L ||| 2 ^ i) + 1) L env M := fun hw hp => by
   obtain ⟨hc, v, p, p1, p2, p3, p4⟩ := Ku hp
   have hS' : zi (mb ([p] ++ Ss)) := fun M1 M2 hle hx s hs => by
    rcases List.mem_cons.1 hs with rfl | hs
    ·exact p3 _ _ hle (hx _ (List.mem_cons_self ..))
    ·exact hS M1 M2 hle (fun s hs => hx s (List.mem_cons_of_mem _ hs)) s hs
   have hSM' : mb ([p] ++ Ss) M := fun s hs => by
    rcases List.mem_cons.1 hs with rfl | hs
    ·exact p2
    ·exact mI s hs
   refine ON ho hsel ha hc (s := execOp (qG env) o) (v := v) _ L env M hd hf hr hw rfl (p1 M p2) mI ?_
   refine OR (fun M' hx => ?_) _ _ _ _ ((ih _ hS').1 _ _ M hSM' (hd.add hr) p4)
   exact ⟨fun s hs => hx s (List.mem_cons_of_mem _ hs), p1 M' (hx p (List.mem_cons_self ..))⟩
  have no : ck ops o env = false → vn C ops fU K Kp t ([] ++ Ss) (L ||| 2 ^ i) 0 (bG env o.dst undef) M →
    eP C ops (mb Ss) K (xY Kp) (Aq ops.size (L ||| 2 ^ i) + 1) L env M := fun hw hp =>
   DQ ho hsel ha _ L env M mI hd hf hr hw ((ih Ss hS).1 _ _ M mI (hd.add hr) hp)
  unfold YZ at h2
  cases hg : o.guard with
  | none => rw [hg] at h2; exact yes (wD hg) h2
  | some jw =>
   obtain ⟨j, want⟩ := jw
   rw [hg] at h2
   simp only at h2
   cases hs : nT ops j with
   | none => rw [hs] at h2; exact no (Ba hg hs) h2
   | some s =>
    rw [hs] at h2
    simp only at h2
    cases he : env s <;> rw [he] at h2 <;> simp only at h2
    case bool e =>
     have hw := wE hg hs he
     cases e
     ·rw [nV he] at h2
      cases want <;> simp only [aM] at h2
      ·exact yes hw h2
      ·exact no hw h2
     ·rw [nV he] at h2
      cases want <;> simp only [aM] at h2
      ·exact no hw h2
      ·exact yes hw h2
    all_goals exact no (uY hg hs (by simp [he])) h2
 | late i t ih =>
  intro Ss hS
  refine both _ _ fun L wI env M mI hd h => ?_
  obtain ⟨h1, h2⟩ := cond_true h
  simp only [Bool.and_eq_true] at h1
  obtain ⟨hr, hl⟩ := h1
  obtain ⟨hL, o, ho, ig⟩ := bX.1 hr
  rw [ho] at h2; simp only at h2
  obtain ⟨he, h2⟩ := cond_true h2
  have hce : cls C.P o = .OE := by unfold HD at he; cases hc : cls C.P o <;> rw [hc] at he <;> simp at he
  obtain ⟨h3, h4⟩ := lE h2
  have hc := mT (n := ops.size) (Array.getElem?_eq_some_iff.1 ho).1 hL
  rw [hc]
  refine OP hS (Wf Kp) ho hce hsel ha _ L env M hc mI hd hl hr (fun j oj hj kn kq => h4 j (List.mem_range.2 (Array.getElem?_eq_some_iff.1 kn).1) kq hj oj kn) ?_
  unfold gO; rw [ho]; simp only
  exact kj (Au (jJ hC h3) kp) fun env' M' hx => ⟨(lR.1 hx).1, (ih Ss hS).1 _ env' M' (lR.1 hx).1 (hd.add hr) (lR.1 hx).2⟩
 | fork i a b iha ihb =>
  intro Ss hS
  refine ⟨fun L env M mI hd h => ?_, fun L wI env M f mI Rr fX hd h hcov j hj wH => ?_⟩
  ·obtain ⟨hr, h2⟩ := cond_true h
   obtain ⟨hL, o, ho, ig⟩ := bX.1 hr
   rw [ho] at h2; simp only at h2
   have hc := mT (n := ops.size) (Array.getElem?_eq_some_iff.1 ho).1 hL
   rw [hc]
   refine fun fX => ⟨fun hno => (by rw [hno i] at hr; cases hr), fun j hj => ?_⟩
   by_cases kq : j = i
   ·subst kq
    unfold gO; rw [ho]; simp only
    exact kj (Au (qS hS mI (jJ hC h2.1)) kp) fun env' M' hx => ⟨hx.1, (iha Ss hS).1 _ env' M' hx.1 (hd.add hr) hx.2⟩
   ·exact (ihb Ss hS).2 L (0 ||| 2 ^ i) env M (Aq ops.size (L ||| 2 ^ i)) mI hc fX hd h2.2 (by simp) j hj (by rw [fk]; simp [Ne.symm kq])
  ·obtain ⟨hr, h2⟩ := cond_true h
   obtain ⟨hL, o, ho, ig⟩ := bX.1 hr
   rw [ho] at h2; simp only at h2
   have hc := mT (n := ops.size) (Array.getElem?_eq_some_iff.1 ho).1 hL
   by_cases kq : j = i
   ·subst kq
    unfold gO; rw [ho]; simp only
    have hf : f = Aq ops.size (L ||| 2 ^ j) := by omega
    subst hf
    exact kj (Au (qS hS mI (jJ hC h2.1)) kp) fun env' M' hx => ⟨hx.1, (iha Ss hS).1 _ env' M' hx.1 (hd.add hr) hx.2⟩
   ·exact (ihb Ss hS).2 L (wI ||| 2 ^ i) env M f mI Rr fX hd h2.2 (by intro h0; have := fk wI i i; rw [h0] at this; simp at this) j hj (by rw [fk, wH]; simp [Ne.symm kq])
 | dead =>
  intro Ss hS
  refine ⟨fun L env M mI hd h => ?_, fun L wI env M f _ _ _ hd h hcov i hi hci => ?_⟩
  ·obtain ⟨h1, _⟩ := cond_true h
   simp at h1
  ·obtain ⟨h1, _⟩ := cond_true h
   simp only [Bool.and_eq_true] at h1
   have := mc h1.1 i hi; rw [hci] at this; cases this
theorem zk {P : Program} {a : Act} {o : Oper} {M F : Mem} {w : World} {K : Value → Mem → Prop} {Kp : List PanicEntry → Mem → Prop} {next : Act → World → Prop} {Q : Exit → Act → World → Prop}
  (h : eT P (execOp a.eval o) M (nS P K Kp) (fun v M' => Kp [{ v, recovered := false }] M')) (hd : M.dj F) (hi : (M.union F).In E w)
  (hn : ∀ v w', iI E F (K v) w' → next (a.put o.dst v) w') (hp : ∀ c w', iI E F (Kp c) w' → Q (.panic c) a w') : o.wp P a w next Q := by
 have hr := Ow P _ h hd hi
 unfold ke at hr
 unfold Oper.wp
 split at hr
 ·rename_i n w' hrun
  rw [hrun]
  obtain ⟨M', hk, hd', hi'⟩ := hr
  cases n <;> first | exact hk.elim | skip
  ·exact hn _ _ ⟨M', hk, hd', hi'⟩
  ·exact hn _ _ ⟨M', hk, hd', hi'⟩
  ·rename_i f args
   refine (hk E F w' hd' hi').mono fun e w'' he => ?_
   cases e with
   | returned v => exact hn _ _ he
   | panicked c => exact hp _ _ he
   | outgrown => exact he.elim
 ·rename_i v w' hrun
  rw [hrun]
  exact hp _ _ hr
 ·exact hr.elim
theorem wJ {N : Nat} {env : Nat → Value} {a : Act} (fW : fF N env a.tmps) (hfit : ∀ o ∈ ops.toList, oV N o = true) (o : Oper) :
  Region.wanted o (yielded ops a.tmps) = ck ops o env := by
 unfold Region.wanted ck
 cases hg : o.guard with
 | none => rfl
 | some jw =>
  obtain ⟨j, want⟩ := jw
  simp only
  have hy : yielded ops a.tmps j = match (nT ops j).map env with | some (.bool b) => some b | _ => none := by
   unfold yielded nT
   cases hj : ops[j]? with
   | none => rfl
   | some oj =>
    simp only [Option.bind_some]
    cases hd : oj.dst with
    | none => rfl
    | some s =>
     have hm : oj ∈ ops.toList := by have := Array.mem_of_getElem? hj; simpa using this
     have hs := (gX (hfit oj hm)).2.1 s hd
     simp only [Option.bind_some, fW.2 s hs, Option.map_some]
     cases env s <;> rfl
  rw [hy]
  cases (nT ops j).map env with
  | none => rfl
  | some v => cases v <;> first | rfl | (cases want <;> rename_i b <;> cases b <;> rfl)
structure Post (E : ve) (N : Nat) (Z : Act → Prop) (F : Mem) (K : (Nat → Value) → Mem → Prop) (Kp : List PanicEntry → Mem → Prop) (Q : Exit → Act → World → Prop) : Prop where
 normal : ∀ env M a w, fF N env a.tmps → Z a → M.dj F → (M.union F).In E w → K env M → Q .normal a w
 panic : ∀ c a w, Z a → iI E F (Kp c) w → Q (.panic c) a w
theorem put_defers {a : Act} {dst : Option Tmp} {v : Value} : (a.put dst v).defers = a.defers := by cases dst <;> rfl
theorem E4 {N : Nat} {Z : Act → Prop} {F : Mem} {Q : Exit → Act → World → Prop} (hz : ∀ o ∈ ops.toList, ∀ (a : Act) (v : Value), Z a → Z (a.put o.dst v)) (hfit : ∀ o ∈ ops.toList, oV N o = true)
  (hp : ∀ c a w, Z a → iI E F (Kp c) w → Q (.panic c) a w) {i : Nat} {env : Nat → Value} {M : Mem} {a : Act} {w : World} {K' : (Nat → Value) → Mem → Prop} {next : Act → World → Prop}
  (fW : fF N env a.tmps) (hds : Z a) (hd : M.dj F) (hi : (M.union F).In E w)
  (hn : ∀ env' M' a' w', fF N env' a'.tmps → Z a' → M'.dj F → (M'.union F).In E w' → K' env' M' → next a' w') (h : gO C ops Kp i env M K') : wpOp C.P ops Q i next a w := by
 unfold wpOp
 unfold gO at h
 cases ho : ops[i]? with
 | none => rw [ho] at h; exact hn _ _ _ _ fW hds hd hi h
 | some o =>
  rw [ho] at h
  simp only at h
  have hm : o ∈ ops.toList := by have := Array.mem_of_getElem? ho; simpa using this
  have hf := hfit o hm
  simp only
  rw [wJ fW hfit]
  unfold fA at h
  split
  ·rename_i hw
   rw [if_pos hw] at h
   refine .inl (zk (K := fun v M' => K' (bG env o.dst v) M') (Kp := Kp) (F := F) (by rw [← fW.execOp hf]; exact AZ h) hd hi (fun v w' hv => ?_) (fun c w' hc => hp _ _ _ hds hc))
   obtain ⟨M', hk, hd', hi'⟩ := hv
   exact hn _ _ _ _ (fW.put (gX hf).2.1 v) (hz o hm _ _ hds) hd' hi' hk
  ·rename_i hw
   rw [if_neg hw] at h
   exact hn _ _ _ _ (fW.put (gX hf).2.1 undef) (hz o hm _ _ hds) hd hi h
def qT (ops : Array Oper) (arr : Array Bool) (L : Nat) : Prop := arr.size = ops.size ∧ ∀ i, i < ops.size → arr[i]? = some (L.testBit i)
theorem qT.add {arr : Array Bool} {L i : Nat} (h : qT ops arr L) (hi : i < ops.size) : qT ops (arr.setIfInBounds i true) (L ||| 2 ^ i) := by
 refine ⟨by simp [h.1], fun k hk => ?_⟩
 by_cases JS : i = k
 ·subst JS; simp [h.1, hi]
 ·rw [Array.getElem?_setIfInBounds_ne JS, h.2 k hk, fk]; simp [JS]
theorem xZ {arr : Array Bool} {L : Nat} (h : qT ops arr L) (zl : ∀ (j : Nat) (o : Oper), ops[j]? = some o → ∀ e ∈ o.after, Region.binds .any e = true → e.on < ops.size) (i : Nat) :
  i ∈ Region.ready .any ops arr ↔ gp ops L i = true := by
 rw [mem_ready, bX]
 constructor
 ·rintro ⟨h0, o, ho, ig⟩
  have hlt := (Array.getElem?_eq_some_iff.1 ho).1
  refine ⟨?_, o, ho, fun e he hb => ?_⟩
  ·have := h.2 i hlt; simp [Array.getD_eq_getD_getElem?, this] at h0; exact h0
  ·have h1 := ig e he hb
   have := h.2 e.on (zl i o ho e he hb)
   simpa [Array.getD_eq_getD_getElem?, this] using h1
 ·rintro ⟨h0, o, ho, ig⟩
  have hlt := (Array.getElem?_eq_some_iff.1 ho).1
  refine ⟨by simp [Array.getD_eq_getD_getElem?, h.2 i hlt, h0], o, ho, fun e he hb => ?_⟩
  have := h.2 e.on (zl i o ho e he hb)
  simp [Array.getD_eq_getD_getElem?, this, ig e he hb]
theorem CT {S : Mem → Prop} {N : Nat} {Z : Act → Prop} {F : Mem} {Q : Exit → Act → World → Prop} (hz : ∀ o ∈ ops.toList, ∀ (a : Act) (v : Value), Z a → Z (a.put o.dst v)) (hfit : ∀ o ∈ ops.toList, oV N o = true)
  (zl : ∀ (j : Nat) (o : Oper), ops[j]? = some o → ∀ e ∈ o.after, Region.binds .any e = true → e.on < ops.size) (hpost : Post E N Z F K Kp Q) :
  ∀ (f L : Nat) (arr : Array Bool) (env : Nat → Value) (M : Mem) (a : Act) (w : World), qT ops arr L → fF N env a.tmps → Z a → M.dj F → (M.union F).In E w →
   eP C ops S K (xY Kp) f L env M → wpAny C.P .any ops Q f arr a w := by
 intro f
 induction f with
 | zero =>
  intro L arr env M a w hl fW hds hd hi h
  have fX : wF M := ⟨w.heap.size, fun b hb => by
   cases hm : M b with
   | none => rfl
   | some o => have := hi.lt (Mem.union_left (F := F) hm); omega⟩
  obtain ⟨h1, h2⟩ := h fX
  refine ⟨?_, hpost.normal _ _ _ _ fW hds hd hi h2⟩
  rw [List.eq_nil_iff_forall_not_mem]
  intro i hmem
  have := (xZ hl zl i).1 hmem
  rw [h1 i] at this; cases this
 | succ f ih =>
  intro L arr env M a w hl fW hds hd hi h
  have fX : wF M := ⟨w.heap.size, fun b hb => by
   cases hm : M b with
   | none => rfl
   | some o => have := hi.lt (Mem.union_left (F := F) hm); omega⟩
  obtain ⟨h1, h2⟩ := h fX
  refine ⟨fun Wg => ?_, fun i hmem => ?_⟩
  ·refine hpost.normal _ _ _ _ fW hds hd hi (h1 fun i => ?_)
   cases hr : gp ops L i with
   | false => rfl
   | true => have := (xZ hl zl i).2 hr; rw [Wg] at this; cases this
  ·have hr := (xZ hl zl i).1 hmem
   obtain ⟨_, o, ho, _⟩ := bX.1 hr
   exact E4 hz hfit (fun c a w h1 h2 => hpost.panic c a w h1 h2.up) fW hds hd hi (fun env' M' a' w' g1 g2 g3 g4 g5 => ih _ _ _ _ _ _ (hl.add (Array.getElem?_eq_some_iff.1 ho).1) g1 g2 g3 g4 g5.2) (h2 i hr)
def ZY (C : Ctx) (ops : Array Oper) (K : (Nat → Value) → Mem → Prop) (Kp : List PanicEntry → Mem → Prop) : List Oper → (Nat → Value) → Mem → Prop
 | [], env, M => K env M
 | o :: rest, env, M => OJ C ops o env M (fun env' M' => ZY C ops K Kp rest env' M') Kp
end
end Go.AF
