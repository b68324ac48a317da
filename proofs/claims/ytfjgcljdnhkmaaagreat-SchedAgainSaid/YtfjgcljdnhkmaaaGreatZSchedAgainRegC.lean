/- A part of proofs about one program. -/
import Derived.Test.YtfjgcljdnhkmaaaGreatZSchedAgainRegL
set_option linter.unusedVariables false
namespace Go.AF
variable {E : sL}
inductive Ex where
 | done
 | step (i : Nat) (t : Ex)
 | dJ (i : Nat) (t : Ex)
 | late (i : Nat) (t : Ex)
 | fork (i : Nat) (a b : Ex)
 | dead
def vI (ops : Array Oper) (L ug : Nat) : Bool := (List.range ops.size).all fun i => !fM ops L i || ug.testBit i
def BN : List (Mem → Prop) → Mem → Prop → Prop
 | [], _, X => X
 | s :: l, M, X => s M ∧ BN l M X
def kV (l : List (Mem → Prop)) (M : Mem) : Prop := ∀ s ∈ l, s M
theorem kJ : ∀ {l : List (Mem → Prop)} {M : Mem} {X : Prop}, BN l M X ↔ kV l M ∧ X
 | [], M, X => by simp [BN, kV]
 | s :: l, M, X => by
  simp only [BN, kJ (l := l), kV, List.mem_cons, forall_eq_or_imp]
  constructor
  ·rintro ⟨a, b, c⟩; exact ⟨⟨a, b⟩, c⟩
  ·rintro ⟨⟨a, b⟩, c⟩; exact ⟨a, b, c⟩
def GK (P : Program) (t : TypeId) (x : Value) (M : Mem) (K : Value → (Mem → Prop) → Prop) : Prop :=
 match x with
 | .pointer p => aG p fun b o =>
  match P.underlying t with
  | some (.struct _) | some (.array _ _) =>
   if (flat P 8 t).length = P.cellsOf t then
    Gr M ⟨b, o, none⟩ (flat P 8 t) 0 fun vs => K (.agg vs.toArray) (fun M' => M'.fm ⟨b, o, none⟩ 0 (P.cellsOf t) = some vs)
   else False
  | some d => Ei (Xt d) (M.ld ⟨b, o, none⟩) fun v => K v (fun M' => M'.ld ⟨b, o, none⟩ = some v)
  | none => False
 | _ => False
def BO (P : Program) (ρ : Operand → Value) (o : Oper) (M : Mem) (K : Value → (Mem → Prop) → Prop) : Prop :=
 match o.op with
 | .load t a => GK P t (ρ a) M K
 | _ => False
def SH (C : Ctx) (ops : Array Oper) (o : Oper) (env : Nat → Value) (M : Mem) (K : (Nat → Value) → List (Mem → Prop) → Prop) : Prop :=
 match o.guard with
 | none => BO C.P (mw env) o M (fun v p => K (bu env o.dst v) [p])
 | some (j, want) => match mO ops j with
  | some s => match env s with
   | .bool e => match want with
    | true => aV e (BO C.P (mw (bu env (some s) (.bool true))) o M (fun v p => K (bu (bu env (some s) (.bool true)) o.dst v) [p])) (K (bu (bu env (some s) (.bool false)) o.dst undef) [])
    | false => aV e (K (bu (bu env (some s) (.bool true)) o.dst undef) []) (BO C.P (mw (bu env (some s) (.bool false))) o M (fun v p => K (bu (bu env (some s) (.bool false)) o.dst v) [p]))
   | _ => K (bu env o.dst undef) []
  | none => K (bu env o.dst undef) []
def GL (P : Program) (ρ : Operand → Value) (o : Oper) : Prop :=
 match o.op with
 | .buildSlice t len parts => match P.underlying t with
  | some (.slice e) => match P.info? e with
   | some i => match i.zero with
    | some z => if z.cells.toList.length = i.size ∧ len * i.size ≤ 16777216 then
      (match yI (fun k => some (k * i.size, i.size)) (List.replicate len z.cells.toList).flatten (parts.toList.map fun p => (p.1, ρ p.2)) with
      | some _ => True
      | none => False) else False
    | none => False
   | none => False
  | _ => False
 | .alloc e => match zeroOf P e with
  | some _ => True
  | none => False
 | .box _ _ => True
 | _ => False
def qK (C : Ctx) (ops : Array Oper) (env : Nat → Value) (L i : Nat) : List Nat → Prop → Prop
 | [], X => X
 | j :: l, X => bif Nat.beq j i || !fM ops L j then qK C ops env L i l X else
   (match ops[j]? with
   | some o => GL C.P (mw env) o ∧ qK C ops env L i l X
   | none => qK C ops env L i l X)
def EG (P : Program) (o : Oper) : Bool := match cls P o with
 | .Kk => true
 | _ => false
def behind (C : Ctx) (o : Oper) (Ss : List (Mem → Prop)) (M : Mem) (X : Prop) : Prop := bif EG C.P o then BN Ss M X else X
def sQ (C : Ctx) (ops : Array Oper) (fu : List Nat) (K : (Nat → Value) → Mem → Prop) (Kp : List PanicEntry → Mem → Prop) : Ex → List (Mem → Prop) → Nat → Nat → (Nat → Value) → Mem → Prop
 | .done, _, L, _, env, M => bif vI ops L 0 then K env M else False
 | .step i t, Ss, L, _, env, M => bif fM ops L i && yP C.P ops fu L i then
   (match ops[i]? with
   | some o => Kr C ops o env M (fun env' M' => behind C o Ss M' (sQ C ops fu K Kp t Ss (L ||| 2 ^ i) 0 env' M')) Kp
   | none => False) else False
 | .dJ i t, Ss, L, _, env, M => bif fM ops L i && pI ops fu L i then
   (match ops[i]? with
   | some o => SH C ops o env M (fun env' p => sQ C ops fu K Kp t (p ++ Ss) (L ||| 2 ^ i) 0 env' M)
   | none => False) else False
 | .late i t, Ss, L, _, env, M => bif fM ops L i && w8 C.P ops fu L i then
   (match ops[i]? with
   | some o => bif EG C.P o then qK C ops env L i (List.range ops.size) (Kr C ops o env M (fun env' M' => BN Ss M' (sQ C ops fu K Kp t Ss (L ||| 2 ^ i) 0 env' M')) Kp) else False
   | none => False) else False
 | .fork i a b, Ss, L, ug, env, M => bif fM ops L i then
   (match ops[i]? with
   | some o => Kr C ops o env M (fun env' M' => behind C o Ss M' (sQ C ops fu K Kp a Ss (L ||| 2 ^ i) 0 env' M')) Kp ∧ sQ C ops fu K Kp b Ss L (ug ||| 2 ^ i) env M
   | none => False) else False
 | .dead, _, L, ug, _, _ => bif vI ops L ug && !Nat.beq ug 0 then True else False
def vJ (Kp : List PanicEntry → Mem → Prop) : List PanicEntry → Mem → Prop := fun c M => ∃ M1, M1.le M ∧ Kp c M1
theorem Qu (Kp : List PanicEntry → Mem → Prop) : TT (vJ Kp) := fun _ _ _ hle ⟨M1, h1, h2⟩ => ⟨M1, fun b o h => hle b o (h1 b o h), h2⟩
theorem fY.up {F : Mem} {Kp : List PanicEntry → Mem → Prop} {c : List PanicEntry} {w : World} (h : fY E F (vJ Kp c) w) : fY E F (Kp c) w := by
 obtain ⟨M, ⟨M1, hle, hk⟩, hd, hi⟩ := h
 refine ⟨M1, hk, fun b => ?_, ⟨fun b o hb => ?_, hi.2⟩⟩
 ·rcases hd b with h | h
  ·left; cases hm : M1 b with
   | none => rfl
   | some o => rw [hle b o hm] at h; cases h
  ·exact .inr h
 ·unfold Mem.union at hb
  cases hm : M1 b with
  | some o' => rw [hm] at hb; cases hb; exact hi.1 b o (Mem.union_left (hle b o hm))
  | none =>
   rw [hm] at hb
   refine hi.1 b o ?_
   unfold Mem.union
   rcases hd b with h | h
   ·rw [h]; exact hb
   ·rw [h] at hb; cases hb
section
variable {C : Ctx} {ops : Array Oper} {K : (Nat → Value) → Mem → Prop} {Kp : List PanicEntry → Mem → Prop}
theorem kW {L ug : Nat} (h : vI ops L ug = true) (i : Nat) (hi : fM ops L i = true) : ug.testBit i = true := by
 obtain ⟨_, o, ho, _⟩ := bP.1 hi
 have := List.all_eq_true.1 h i (List.mem_range.2 (Array.getElem?_eq_some_iff.1 ho).1)
 simpa [hi] using this
theorem Ky {S : Mem → Prop} {L : Nat} {env : Nat → Value} {M : Mem} (h : ∀ i, fM ops L i = false) (hk : K env M) : ∀ f, dW C ops S K Kp f L env M
 | 0 => fun _ => ⟨h, hk⟩
 | f + 1 => fun _ => ⟨fun _ => hk, fun i hi => by rw [h i] at hi; cases hi⟩
theorem cond_true {b : Bool} {X : Prop} (h : bif b then X else False) : b = true ∧ X := by cases b; exact h.elim; exact ⟨rfl, h⟩
theorem TV {ρ : Operand → Value} {o : Oper} {M : Mem} {K : Value → Mem → Prop} {vD : List PanicEntry → Mem → Prop} (h : sA C ρ o M K Kp) (hp : ∀ c M', Kp c M' → vD c M') : sA C ρ o M K vD := by
 unfold sA at h ⊢
 split at h
 ·exact h
 ·exact h
 ·exact h
 ·refine iE C.P _ h (fun n M' hn => ?_) (fun _ _ h => hp _ _ h)
  cases n <;> first | exact hn.elim | exact hn | exact aa.mono hn (fun _ _ h => h) hp
theorem yh {o : Oper} {env : Nat → Value} {M : Mem} {vD : List PanicEntry → Mem → Prop} (h : eO C ops o env M K Kp) (hp : ∀ c M', Kp c M' → vD c M') : eO C ops o env M K vD := by
 unfold eO at h ⊢
 split
 ·rename_i hw; rw [if_pos hw] at h; exact TV h hp
 ·rename_i hw; rw [if_neg hw] at h; exact h
theorem Kz {S S' : Mem → Prop} (hs : ∀ M, S M → S' M) : ∀ (f L : Nat) (env : Nat → Value) (M : Mem), dW C ops S K Kp f L env M → dW C ops S' K Kp f L env M := by
 intro f
 induction f with
 | zero => intro L env M h; exact h
 | succ f ih => intro L env M h fe; exact ⟨(h fe).1, fun j hj => BL ((h fe).2 j hj) fun env' M' hx => ⟨hs _ hx.1, ih _ _ _ hx.2⟩⟩
theorem pJ {o : Oper} {env : Nat → Value} {M : Mem} {Ss : List (Mem → Prop)} {X : (Nat → Value) → Mem → Prop} (hS : w7 (kV Ss)) (lH : kV Ss M)
  (h : eO C ops o env M (fun env' M' => behind C o Ss M' (X env' M')) Kp) : eO C ops o env M (fun env' M' => kV Ss M' ∧ X env' M') Kp := by
 unfold eO at h ⊢
 cases he : EG C.P o with
 | true =>
  simp only [behind, he] at h
  split
  ·rename_i hw; rw [if_pos hw] at h; exact mP h fun v M' hv => kJ.1 hv
  ·rename_i hw; rw [if_neg hw] at h; exact kJ.1 h
 | false =>
  simp only [behind, he, cond_false] at h
  split
  ·rename_i hw; rw [if_pos hw] at h
   unfold sA at h ⊢
   unfold EG at he
   cases hc : cls C.P o <;> rw [hc] at h he <;> simp only at h ⊢
   ·obtain ⟨v, hv, h⟩ := h; exact ⟨v, hv, lH, h⟩
   ·obtain ⟨v, hv, h⟩ := h; exact ⟨v, hv, lH, h⟩
   ·obtain ⟨ob, k, hn, h⟩ := h
    exact ⟨ob, k, hn, fun b hb => let ⟨v, hv, h⟩ := h b hb; ⟨v, hv, hS _ _ (pG hb) lH, h⟩⟩
   ·simp at he
  ·rename_i hw; rw [if_neg hw] at h; exact ⟨lH, h⟩
theorem EH {M M' : Mem} (h : M.le M') {a : Addr} : ∀ (n i : Nat) (vs : List Value), M.fm a i n = some vs → M'.fm a i n = some vs
 | 0, i, vs, hv => hv
 | n + 1, i, vs, hv => by
  simp only [Mem.fm] at hv ⊢
  cases hx : M.ld (a.add i) with
  | none => simp [hx] at hv
  | some v =>
   rw [Mem.MA h hx]
   simp only [hx] at hv
   cases hr : M.fm a (i + 1) n with
   | none => simp [hr] at hv
   | some rest => rw [EH h n (i + 1) rest hr]; rw [hr] at hv; exact hv
theorem EI {P : Program} {t : TypeId} {x : Value} {M : Mem} {K : Value → (Mem → Prop) → Prop} (h : GK P t x M K) :
  ∃ v p, (∀ M', p M' → bQ P (Instr.loadAt t x) M' = some v) ∧ p M ∧ w7 p ∧ K v p := by
 unfold GK at h
 cases x <;> try exact h.elim
 rename_i p
 obtain ⟨b, o, hp, h2⟩ := jj h
 subst hp
 clear h
 cases hd : P.underlying t with
 | none => rw [hd] at h2; exact h2.elim
 | some d =>
  rw [hd] at h2
  have agg : vE d = true → (if (flat P 8 t).length = P.cellsOf t then Gr M ⟨b, o, none⟩ (flat P 8 t) 0 fun vs => K (.agg vs.toArray) (fun M' => M'.fm ⟨b, o, none⟩ 0 (P.cellsOf t) = some vs) else False) →
    ∃ v p, (∀ M', p M' → bQ P (Instr.loadAt t (.pointer (some ⟨b, o, none⟩))) M' = some v) ∧ p M ∧ w7 p ∧ K v p := by
   intro fq h
   split at h
   ·rename_i hl
    obtain ⟨vs, hvs, h⟩ := vF h
    rw [hl] at hvs
    exact ⟨_, _, fun M' hm => pC hd fq rfl hm, hvs, fun M1 M2 hle h1 => EH hle _ _ _ h1, h⟩
   ·exact h.elim
  cases d with
  | struct fs => exact agg rfl h2
  | array m e => exact agg rfl h2
  | _ => (obtain ⟨v, hv, h⟩ := pB h2; exact ⟨v, _, fun M' hm => wY hd rfl hm, hv, fun M1 M2 hle h1 => Mem.MA hle h1, h⟩)
theorem GM {P : Program} {ρ : Operand → Value} {o : Oper} {M : Mem} {K : Value → (Mem → Prop) → Prop} (h : BO P ρ o M K) :
  cls P o = .read ∧ ∃ v p, (∀ M', p M' → bQ P (execOp ρ o) M' = some (.value v)) ∧ p M ∧ w7 p ∧ K v p := by
 unfold BO at h
 split at h
 ·rename_i t a ho
  obtain ⟨v, p, h1, h2, h3, h4⟩ := EI h
  obtain ⟨dst, op, type, pos, after, guard⟩ := o
  simp only at ho; subst ho
  exact ⟨rfl, v, p, fun M' hp => gu (h1 M' hp), h2, h3, h4⟩
 ·exact h.elim
theorem EJ {o : Oper} {env : Nat → Value} (h : GL C.P (mw env) o) : IZ C.P ops env o := by
 intro _
 unfold GL at h
 split at h
 ·rename_i t len parts ho
  split at h
  ·rename_i e hu
   split at h
   ·rename_i i hi
    split at h
    ·rename_i z hz
     split at h
     ·rename_i hc
      split at h
      ·rename_i cs hcs
       have hb : MN C.P (mw env) o Mem.empty (fun _ _ => True) := by
        unfold MN; rw [ho]; simp only
        unfold Ql; rw [hu]; simp only
        rw [hi]; simp only
        rw [hz]; simp only
        rw [if_pos hc, hcs]
        exact fun _ _ => trivial
       obtain ⟨ob, k, hn, hk⟩ := IY hb
       exact ⟨ob, k, hn, fun b => let ⟨v, hv, _⟩ := hk b rfl; ⟨v, hv⟩⟩
      ·exact h.elim
     ·exact h.elim
    ·exact h.elim
   ·exact h.elim
  ·exact h.elim
 ·rename_i e ho
  obtain ⟨dst, op, type, pos, after, guard⟩ := o
  simp only at ho; subst ho
  split at h
  ·rename_i z hz
   unfold zeroOf at hz
   cases hi : C.P.info? e with
   | none => simp [hi] at hz
   | some i =>
    simp only [hi, Option.bind_some] at hz
    refine ⟨.cells z.cells e, fun b => pure (Next.value (.pointer (some ⟨b, 0, none⟩))), ?_, fun b => ⟨_, rfl⟩⟩
    simp only [execOp]
    rw [Ey C.P (Instr.alloc e true (.tuple #[])) _ (ob := .cells z.cells e) (k := fun b => pure (.pointer (some ⟨b, 0, none⟩))) (by
     unfold Instr.alloc
     rw [C0 C.P _ _ (IX hi hz)]
     rfl)]
    rfl
  ·exact h.elim
 ·rename_i e x ho
  obtain ⟨dst, op, type, pos, after, guard⟩ := o
  simp only at ho; subst ho
  exact ⟨.cells (mw env x).cells e, fun b => pure (Next.value (.pointer (some ⟨b, 0, none⟩))), rfl, fun b => ⟨_, rfl⟩⟩
 ·exact h.elim
theorem kq {env : Nat → Value} {L i : Nat} : ∀ {l : List Nat} {X : Prop}, qK C ops env L i l X → X ∧ ∀ j ∈ l, j ≠ i → fM ops L j = true → ∀ oj, ops[j]? = some oj → IZ C.P ops env oj
 | [], X, h => ⟨h, fun j hj => by cases hj⟩
 | j :: l, X, h => by
  unfold qK at h
  cases hb : (Nat.beq j i || !fM ops L j) with
  | true =>
   rw [hb] at h
   obtain ⟨h1, h2⟩ := kq (l := l) h
   refine ⟨h1, fun k hk Ge hr oj jl => ?_⟩
   rcases List.mem_cons.1 hk with rfl | hk
   ·simp only [Bool.or_eq_true, Bool.not_eq_true', hr] at hb
    rcases hb with hb | hb
    ·exact absurd (Nat.eq_of_beq_eq_true hb) Ge
    ·cases hb
   ·exact h2 k hk Ge hr oj jl
  | false =>
   rw [hb] at h
   simp only [cond_false] at h
   cases ho : ops[j]? with
   | none =>
    rw [ho] at h
    obtain ⟨h1, h2⟩ := kq (l := l) h
    refine ⟨h1, fun k hk Ge hr oj jl => ?_⟩
    rcases List.mem_cons.1 hk with rfl | hk
    ·rw [ho] at jl; cases jl
    ·exact h2 k hk Ge hr oj jl
   | some o =>
    rw [ho] at h
    obtain ⟨h0, h⟩ := h
    obtain ⟨h1, h2⟩ := kq (l := l) h
    refine ⟨h1, fun k hk Ge hr oj jl => ?_⟩
    rcases List.mem_cons.1 hk with rfl | hk
    ·rw [ho] at jl; cases jl; exact EJ h0
    ·exact h2 k hk Ge hr oj jl
theorem BP {i : Nat} {o : Oper} (ho : ops[i]? = some o) (hsel : ∀ (j : Nat) (o : Oper) cs b, ops[j]? = some o → o.op ≠ .select cs b) {fu : List Nat} (ha : oB ops fu = true) {S : Mem → Prop} {Kp : List PanicEntry → Mem → Prop} :
  ∀ (f L : Nat) (env : Nat → Value) (M : Mem), S M → Dn ops L → pI ops fu L i = true → fM ops L i = true → bW ops o env = false →
   dW C ops S K Kp f (L ||| 2 ^ i) (bu env o.dst undef) M → dW C ops S K Kp (f + 1) L env M
 | 0, L, env, M, lH, hd, hf, hr, hw, hx => fun fe => by
  refine ⟨fun hno => (by rw [hno i] at hr; cases hr), fun j hj => ?_⟩
  by_cases jT : j = i
  ·subst jT; unfold gm; rw [ho]; exact lP hw ⟨lH, hx⟩
  ·have hj' := fS (i := i) hj jT
   have := (hx fe).1 j; rw [this] at hj'; cases hj'
 | f + 1, L, env, M, lH, hd, hf, hr, hw, hx => fun fe => by
  obtain ⟨hL, o1, ho1, gS⟩ := bP.1 hr
  rw [ho] at ho1; cases ho1
  refine ⟨fun hno => (by rw [hno i] at hr; cases hr), fun j hj => ?_⟩
  by_cases jT : j = i
  ·subst jT; unfold gm; rw [ho]; exact lP hw ⟨lH, hx⟩
  ·obtain ⟨Kt, oj, jl, hallj⟩ := bP.1 hj
   have hap := EE ho ha hd hf hr hj jl jT
   obtain ⟨a1, a2, a3⟩ := Oper.apart_spec hap
   have hj' := fS (i := i) hj jT
   have iZ := (hx fe).2 j hj'
   unfold gm at iZ ⊢; rw [jl] at iZ ⊢; simp only at iZ ⊢
   rw [uf L i j] at iZ
   have h2 := pH hap (fun cs b => hsel j oj cs b jl) iZ
   have fin : ∀ u M1, S M1 ∧ dW C ops S K Kp f (L ||| 2 ^ j ||| 2 ^ i) (bu (bu env oj.dst u) o.dst undef) M1 →
     S M1 ∧ dW C ops S K Kp (f + 1) (L ||| 2 ^ j) (bu env oj.dst u) M1 := fun u M1 hy =>
    ⟨hy.1, BP ho hsel ha f (L ||| 2 ^ j) (bu env oj.dst u) M1 hy.1 (hd.add hj) (yQ ho hf) (fS hr (Ne.symm jT)) ((eV o env oj.dst u a3).trans hw) hy.2⟩
   unfold eO at h2 ⊢
   split
   ·rename_i MQ; rw [if_pos MQ] at h2; exact mP h2 fun u M1 hy => fin u M1 hy
   ·rename_i MQ; rw [if_neg MQ] at h2; exact fin _ _ h2
theorem GN (hC : C.Good) (hsel : ∀ (j : Nat) (o : Oper) cs b, ops[j]? = some o → o.op ≠ .select cs b) {fu : List Nat} (ha : oB ops fu = true) (t : Ex) :
  ∀ (Ss : List (Mem → Prop)), w7 (kV Ss) →
  (∀ (L : Nat) (env : Nat → Value) (M : Mem), kV Ss M → Dn ops L → sQ C ops fu K Kp t Ss L 0 env M → dW C ops (kV Ss) K (vJ Kp) (yg ops.size L) L env M) ∧
  (∀ (L ug : Nat) (env : Nat → Value) (M : Mem) (f : Nat), kV Ss M → yg ops.size L = f + 1 → ue M → Dn ops L → sQ C ops fu K Kp t Ss L ug env M → ug ≠ 0 →
   ∀ i, fM ops L i = true → ug.testBit i = false → gm C ops (vJ Kp) i env M fun env' M' => kV Ss M' ∧ dW C ops (kV Ss) K (vJ Kp) f (L ||| 2 ^ i) env' M') := by
 have kp : ∀ c M', Kp c M' → vJ Kp c M' := fun c M' h => ⟨M', fun _ _ h => h, h⟩
 have both : ∀ (t : Ex) (Ss : List (Mem → Prop)), (∀ (L : Nat) (ug : Nat) (env : Nat → Value) (M : Mem), kV Ss M → Dn ops L → sQ C ops fu K Kp t Ss L ug env M → dW C ops (kV Ss) K (vJ Kp) (yg ops.size L) L env M) →
   (∀ (L : Nat) (env : Nat → Value) (M : Mem), kV Ss M → Dn ops L → sQ C ops fu K Kp t Ss L 0 env M → dW C ops (kV Ss) K (vJ Kp) (yg ops.size L) L env M) ∧
   (∀ (L ug : Nat) (env : Nat → Value) (M : Mem) (f : Nat), kV Ss M → yg ops.size L = f + 1 → ue M → Dn ops L → sQ C ops fu K Kp t Ss L ug env M → ug ≠ 0 →
    ∀ i, fM ops L i = true → ug.testBit i = false → gm C ops (vJ Kp) i env M fun env' M' => kV Ss M' ∧ dW C ops (kV Ss) K (vJ Kp) f (L ||| 2 ^ i) env' M') := fun t Ss h =>
  ⟨fun L env M => h L 0 env M, fun L ug env M f lH GI fe hd ht _ j hj _ => by
   have hh := h L ug env M lH hd ht
   rw [GI] at hh
   exact (hh fe).2 j hj⟩
 induction t with
 | done =>
  intro Ss hS
  refine ⟨fun L env M lH hd h => ?_, fun L ug env M f _ _ _ hd h Yk i hi Xy => ?_⟩
  ·obtain ⟨h1, h2⟩ := cond_true h
   refine Ky (fun i => ?_) h2 _
   cases hr : fM ops L i with
   | false => rfl
   | true => have := kW h1 i hr; simp at this
  ·obtain ⟨h1, h2⟩ := cond_true h
   have := kW h1 i hi; simp at this
 | step i t ih =>
  intro Ss hS
  refine both _ _ fun L ug env M lH hd h => ?_
  obtain ⟨h1, h2⟩ := cond_true h
  simp only [Bool.and_eq_true] at h1
  obtain ⟨hr, hf⟩ := h1
  obtain ⟨hL, o, ho, gS⟩ := bP.1 hr
  rw [ho] at h2; simp only at h2
  rw [lQ (Array.getElem?_eq_some_iff.1 ho).1 hL]
  refine GH hS ho hsel ha _ L env M lH hd hf hr ?_
  unfold gm; rw [ho]; simp only
  exact jk (yh (pJ hS lH (iH hC h2)) kp) fun env' M' hx => ⟨hx.1, (ih Ss hS).1 _ env' M' hx.1 (hd.add hr) hx.2⟩
 | dJ i t ih =>
  intro Ss hS
  refine both _ _ fun L ug env M lH hd h => ?_
  obtain ⟨h1, h2⟩ := cond_true h
  simp only [Bool.and_eq_true] at h1
  obtain ⟨hr, hf⟩ := h1
  obtain ⟨hL, o, ho, gS⟩ := bP.1 hr
  rw [ho] at h2; simp only at h2
  rw [lQ (Array.getElem?_eq_some_iff.1 ho).1 hL]
  have yes : bW ops o env = true → BO C.P (mw env) o M (fun v p => sQ C ops fu K Kp t ([p] ++ Ss) (L ||| 2 ^ i) 0 (bu env o.dst v) M) →
    dW C ops (kV Ss) K (vJ Kp) (yg ops.size (L ||| 2 ^ i) + 1) L env M := fun hw hp => by
   obtain ⟨hc, v, p, p1, p2, p3, p4⟩ := GM hp
   have hS' : w7 (kV ([p] ++ Ss)) := fun M1 M2 hle hx s hs => by
    rcases List.mem_cons.1 hs with rfl | hs
    ·exact p3 _ _ hle (hx _ (List.mem_cons_self ..))
    ·exact hS M1 M2 hle (fun s hs => hx s (List.mem_cons_of_mem _ hs)) s hs
   have hSM' : kV ([p] ++ Ss) M := fun s hs => by
    rcases List.mem_cons.1 hs with rfl | hs
    ·exact p2
    ·exact lH s hs
   refine Ku ho hsel ha hc (s := execOp (mw env) o) (v := v) _ L env M hd hf hr hw rfl (p1 M p2) lH ?_
   refine Kz (fun M' hx => ?_) _ _ _ _ ((ih _ hS').1 _ _ M hSM' (hd.add hr) p4)
   exact ⟨fun s hs => hx s (List.mem_cons_of_mem _ hs), p1 M' (hx p (List.mem_cons_self ..))⟩
  have no : bW ops o env = false → sQ C ops fu K Kp t ([] ++ Ss) (L ||| 2 ^ i) 0 (bu env o.dst undef) M →
    dW C ops (kV Ss) K (vJ Kp) (yg ops.size (L ||| 2 ^ i) + 1) L env M := fun hw hp =>
   BP ho hsel ha _ L env M lH hd hf hr hw ((ih Ss hS).1 _ _ M lH (hd.add hr) hp)
  unfold SH at h2
  cases hg : o.guard with
  | none => rw [hg] at h2; exact yes (uc hg) h2
  | some jw =>
   obtain ⟨j, want⟩ := jw
   rw [hg] at h2
   simp only at h2
   cases hs : mO ops j with
   | none => rw [hs] at h2; exact no (yO hg hs) h2
   | some s =>
    rw [hs] at h2
    simp only at h2
    cases he : env s <;> rw [he] at h2 <;> simp only at h2
    case bool e =>
     have hw := ud hg hs he
     cases e
     ·rw [mQ he] at h2
      cases want <;> simp only [aV] at h2
      ·exact yes hw h2
      ·exact no hw h2
     ·rw [mQ he] at h2
      cases want <;> simp only [aV] at h2
      ·exact no hw h2
      ·exact yes hw h2
    all_goals exact no (sB hg hs (by simp [he])) h2
 | late i t ih =>
  intro Ss hS
  refine both _ _ fun L ug env M lH hd h => ?_
  obtain ⟨h1, h2⟩ := cond_true h
  simp only [Bool.and_eq_true] at h1
  obtain ⟨hr, hl⟩ := h1
  obtain ⟨hL, o, ho, gS⟩ := bP.1 hr
  rw [ho] at h2; simp only at h2
  obtain ⟨he, h2⟩ := cond_true h2
  have hce : cls C.P o = .Kk := by unfold EG at he; cases hc : cls C.P o <;> rw [hc] at he <;> simp at he
  obtain ⟨h3, h4⟩ := kq h2
  have hc := lQ (n := ops.size) (Array.getElem?_eq_some_iff.1 ho).1 hL
  rw [hc]
  refine Kw hS (Qu Kp) ho hce hsel ha _ L env M hc lH hd hl hr (fun j oj hj jl jT => h4 j (List.mem_range.2 (Array.getElem?_eq_some_iff.1 jl).1) jT hj oj jl) ?_
  unfold gm; rw [ho]; simp only
  exact jk (yh (iH hC h3) kp) fun env' M' hx => ⟨(kJ.1 hx).1, (ih Ss hS).1 _ env' M' (kJ.1 hx).1 (hd.add hr) (kJ.1 hx).2⟩
 | fork i a b iha ihb =>
  intro Ss hS
  refine ⟨fun L env M lH hd h => ?_, fun L ug env M f lH GI fe hd h Yk j hj D8 => ?_⟩
  ·obtain ⟨hr, h2⟩ := cond_true h
   obtain ⟨hL, o, ho, gS⟩ := bP.1 hr
   rw [ho] at h2; simp only at h2
   have hc := lQ (n := ops.size) (Array.getElem?_eq_some_iff.1 ho).1 hL
   rw [hc]
   refine fun fe => ⟨fun hno => (by rw [hno i] at hr; cases hr), fun j hj => ?_⟩
   by_cases jT : j = i
   ·subst jT
    unfold gm; rw [ho]; simp only
    exact jk (yh (pJ hS lH (iH hC h2.1)) kp) fun env' M' hx => ⟨hx.1, (iha Ss hS).1 _ env' M' hx.1 (hd.add hr) hx.2⟩
   ·exact (ihb Ss hS).2 L (0 ||| 2 ^ i) env M (yg ops.size (L ||| 2 ^ i)) lH hc fe hd h2.2 (by simp) j hj (by rw [eH]; simp [Ne.symm jT])
  ·obtain ⟨hr, h2⟩ := cond_true h
   obtain ⟨hL, o, ho, gS⟩ := bP.1 hr
   rw [ho] at h2; simp only at h2
   have hc := lQ (n := ops.size) (Array.getElem?_eq_some_iff.1 ho).1 hL
   by_cases jT : j = i
   ·subst jT
    unfold gm; rw [ho]; simp only
    have hf : f = yg ops.size (L ||| 2 ^ j) := by omega
    subst hf
    exact jk (yh (pJ hS lH (iH hC h2.1)) kp) fun env' M' hx => ⟨hx.1, (iha Ss hS).1 _ env' M' hx.1 (hd.add hr) hx.2⟩
   ·exact (ihb Ss hS).2 L (ug ||| 2 ^ i) env M f lH GI fe hd h2.2 (by intro h0; have := eH ug i i; rw [h0] at this; simp at this) j hj (by rw [eH, D8]; simp [Ne.symm jT])
 | dead =>
  intro Ss hS
  refine ⟨fun L env M lH hd h => ?_, fun L ug env M f _ _ _ hd h Yk i hi Xy => ?_⟩
  ·obtain ⟨h1, _⟩ := cond_true h
   simp at h1
  ·obtain ⟨h1, _⟩ := cond_true h
   simp only [Bool.and_eq_true] at h1
   have := kW h1.1 i hi; rw [Xy] at this; cases this
theorem w9 {P : Program} {a : Act} {o : Oper} {M F : Mem} {w : World} {K : Value → Mem → Prop} {Kp : List PanicEntry → Mem → Prop} {next : Act → World → Prop} {Q : Exit → Act → World → Prop}
  (h : ej P (execOp a.eval o) M (mN P K Kp) (fun v M' => Kp [{ v, recovered := false }] M')) (hd : M.dj F) (hi : (M.union F).In E w)
  (hn : ∀ v w', fY E F (K v) w' → next (a.put o.dst v) w') (hp : ∀ c w', fY E F (Kp c) w' → Q (.panic c) a w') : o.wp P a w next Q := by
 have hr := Kb P _ h hd hi
 unfold ji at hr
 unfold Oper.wp
 split at hr
 ·rename_i n w' hrun
  rw [hrun]
  obtain ⟨M', hk, hd', hi'⟩ := hr
  cases n <;> first | exact hk.elim | skip
  ·exact hn _ _ ⟨M', hk, hd', hi'⟩
  ·exact hn _ _ ⟨M', hk, hd', hi'⟩
  ·rename_i f args
   refine (hk E F w' hd' hi').mono fun e w'' he => ?_
   cases e with
   | returned v => exact hn _ _ he
   | panicked c => exact hp _ _ he
   | outgrown => exact he.elim
 ·rename_i v w' hrun
  rw [hrun]
  exact hp _ _ hr
 ·exact hr.elim
theorem uh {N : Nat} {env : Nat → Value} {a : Act} (fq : eE N env a.tmps) (hfit : ∀ o ∈ ops.toList, nG N o = true) (o : Oper) :
  Region.wanted o (yielded ops a.tmps) = bW ops o env := by
 unfold Region.wanted bW
 cases hg : o.guard with
 | none => rfl
 | some jw =>
  obtain ⟨j, want⟩ := jw
  simp only
  have hy : yielded ops a.tmps j = match (mO ops j).map env with | some (.bool b) => some b | _ => none := by
   unfold yielded mO
   cases hj : ops[j]? with
   | none => rfl
   | some oj =>
    simp only [Option.bind_some]
    cases hd : oj.dst with
    | none => rfl
    | some s =>
     have hm : oj ∈ ops.toList := by have := Array.mem_of_getElem? hj; simpa using this
     have hs := (gy (hfit oj hm)).2.1 s hd
     simp only [Option.bind_some, fq.2 s hs, Option.map_some]
     cases env s <;> rfl
  rw [hy]
  cases (mO ops j).map env with
  | none => rfl
  | some v => cases v <;> first | rfl | (cases want <;> rename_i b <;> cases b <;> rfl)
structure Post (E : sL) (N : Nat) (Z : Act → Prop) (F : Mem) (K : (Nat → Value) → Mem → Prop) (Kp : List PanicEntry → Mem → Prop) (Q : Exit → Act → World → Prop) : Prop where
 normal : ∀ env M a w, eE N env a.tmps → Z a → M.dj F → (M.union F).In E w → K env M → Q .normal a w
 panic : ∀ c a w, Z a → fY E F (Kp c) w → Q (.panic c) a w
theorem put_defers {a : Act} {dst : Option Tmp} {v : Value} : (a.put dst v).defers = a.defers := by cases dst <;> rfl
theorem C4 {N : Nat} {Z : Act → Prop} {F : Mem} {Q : Exit → Act → World → Prop} (hz : ∀ o ∈ ops.toList, ∀ (a : Act) (v : Value), Z a → Z (a.put o.dst v)) (hfit : ∀ o ∈ ops.toList, nG N o = true)
  (hp : ∀ c a w, Z a → fY E F (Kp c) w → Q (.panic c) a w) {i : Nat} {env : Nat → Value} {M : Mem} {a : Act} {w : World} {K' : (Nat → Value) → Mem → Prop} {next : Act → World → Prop}
  (fq : eE N env a.tmps) (hds : Z a) (hd : M.dj F) (hi : (M.union F).In E w)
  (hn : ∀ env' M' a' w', eE N env' a'.tmps → Z a' → M'.dj F → (M'.union F).In E w' → K' env' M' → next a' w') (h : gm C ops Kp i env M K') : wpOp C.P ops Q i next a w := by
 unfold wpOp
 unfold gm at h
 cases ho : ops[i]? with
 | none => rw [ho] at h; exact hn _ _ _ _ fq hds hd hi h
 | some o =>
  rw [ho] at h
  simp only at h
  have hm : o ∈ ops.toList := by have := Array.mem_of_getElem? ho; simpa using this
  have hf := hfit o hm
  simp only
  rw [uh fq hfit]
  unfold eO at h
  split
  ·rename_i hw
   rw [if_pos hw] at h
   refine .inl (w9 (K := fun v M' => K' (bu env o.dst v) M') (Kp := Kp) (F := F) (by rw [← fq.execOp hf]; exact yN h) hd hi (fun v w' hv => ?_) (fun c w' hc => hp _ _ _ hds hc))
   obtain ⟨M', hk, hd', hi'⟩ := hv
   exact hn _ _ _ _ (fq.put (gy hf).2.1 v) (hz o hm _ _ hds) hd' hi' hk
  ·rename_i hw
   rw [if_neg hw] at h
   exact hn _ _ _ _ (fq.put (gy hf).2.1 undef) (hz o hm _ _ hds) hd hi h
def pK (ops : Array Oper) (arr : Array Bool) (L : Nat) : Prop := arr.size = ops.size ∧ ∀ i, i < ops.size → arr[i]? = some (L.testBit i)
theorem pK.add {arr : Array Bool} {L i : Nat} (h : pK ops arr L) (hi : i < ops.size) : pK ops (arr.setIfInBounds i true) (L ||| 2 ^ i) := by
 refine ⟨by simp [h.1], fun k hk => ?_⟩
 by_cases Ge : i = k
 ·subst Ge; simp [h.1, hi]
 ·rw [Array.getElem?_setIfInBounds_ne Ge, h.2 k hk, eH]; simp [Ge]
theorem vK {arr : Array Bool} {L : Nat} (h : pK ops arr L) (xd : ∀ (j : Nat) (o : Oper), ops[j]? = some o → ∀ e ∈ o.after, Region.binds .any e = true → e.on < ops.size) (i : Nat) :
  i ∈ Region.ready .any ops arr ↔ fM ops L i = true := by
 rw [mem_ready, bP]
 constructor
 ·rintro ⟨h0, o, ho, gS⟩
  have hlt := (Array.getElem?_eq_some_iff.1 ho).1
  refine ⟨?_, o, ho, fun e he hb => ?_⟩
  ·have := h.2 i hlt; simp [Array.getD_eq_getD_getElem?, this] at h0; exact h0
  ·have h1 := gS e he hb
   have := h.2 e.on (xd i o ho e he hb)
   simpa [Array.getD_eq_getD_getElem?, this] using h1
 ·rintro ⟨h0, o, ho, gS⟩
  have hlt := (Array.getElem?_eq_some_iff.1 ho).1
  refine ⟨by simp [Array.getD_eq_getD_getElem?, h.2 i hlt, h0], o, ho, fun e he hb => ?_⟩
  have := h.2 e.on (xd i o ho e he hb)
  simp [Array.getD_eq_getD_getElem?, this, gS e he hb]
theorem AT {S : Mem → Prop} {N : Nat} {Z : Act → Prop} {F : Mem} {Q : Exit → Act → World → Prop} (hz : ∀ o ∈ ops.toList, ∀ (a : Act) (v : Value), Z a → Z (a.put o.dst v)) (hfit : ∀ o ∈ ops.toList, nG N o = true)
  (xd : ∀ (j : Nat) (o : Oper), ops[j]? = some o → ∀ e ∈ o.after, Region.binds .any e = true → e.on < ops.size) (hpost : Post E N Z F K Kp Q) :
  ∀ (f L : Nat) (arr : Array Bool) (env : Nat → Value) (M : Mem) (a : Act) (w : World), pK ops arr L → eE N env a.tmps → Z a → M.dj F → (M.union F).In E w →
   dW C ops S K (vJ Kp) f L env M → wpAny C.P .any ops Q f arr a w := by
 intro f
 induction f with
 | zero =>
  intro L arr env M a w hl fq hds hd hi h
  have fe : ue M := ⟨w.heap.size, fun b hb => by
   cases hm : M b with
   | none => rfl
   | some o => have := hi.lt (Mem.union_left (F := F) hm); omega⟩
  obtain ⟨h1, h2⟩ := h fe
  refine ⟨?_, hpost.normal _ _ _ _ fq hds hd hi h2⟩
  rw [List.eq_nil_iff_forall_not_mem]
  intro i hmem
  have := (vK hl xd i).1 hmem
  rw [h1 i] at this; cases this
 | succ f ih =>
  intro L arr env M a w hl fq hds hd hi h
  have fe : ue M := ⟨w.heap.size, fun b hb => by
   cases hm : M b with
   | none => rfl
   | some o => have := hi.lt (Mem.union_left (F := F) hm); omega⟩
  obtain ⟨h1, h2⟩ := h fe
  refine ⟨fun Qv => ?_, fun i hmem => ?_⟩
  ·refine hpost.normal _ _ _ _ fq hds hd hi (h1 fun i => ?_)
   cases hr : fM ops L i with
   | false => rfl
   | true => have := (vK hl xd i).2 hr; rw [Qv] at this; cases this
  ·have hr := (vK hl xd i).1 hmem
   obtain ⟨_, o, ho, _⟩ := bP.1 hr
   exact C4 hz hfit (fun c a w h1 h2 => hpost.panic c a w h1 h2.up) fq hds hd hi (fun env' M' a' w' g1 g2 g3 g4 g5 => ih _ _ _ _ _ _ (hl.add (Array.getElem?_eq_some_iff.1 ho).1) g1 g2 g3 g4 g5.2) (h2 i hr)
def TW (C : Ctx) (ops : Array Oper) (K : (Nat → Value) → Mem → Prop) (Kp : List PanicEntry → Mem → Prop) : List Oper → (Nat → Value) → Mem → Prop
 | [], env, M => K env M
 | o :: rest, env, M => Kr C ops o env M (fun env' M' => TW C ops K Kp rest env' M') Kp
end
end Go.AF
