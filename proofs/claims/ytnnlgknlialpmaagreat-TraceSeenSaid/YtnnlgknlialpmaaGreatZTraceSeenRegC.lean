/- A part of proofs about one program. -/
import Derived.Test.YtnnlgknlialpmaaGreatZTraceSeenRegL
set_option linter.unusedVariables false
namespace Go.AF
variable {E : s9}
inductive Ex where
 | done
 | step (i : Nat) (t : Ex)
 | dD (i : Nat) (t : Ex)
 | late (i : Nat) (t : Ex)
 | fork (i : Nat) (a b : Ex)
 | dead
def vS (ops : Array Oper) (L uo : Nat) : Bool := (List.range ops.size).all fun i => !fO ops L i || uo.testBit i
def BE : List (Mem → Prop) → Mem → Prop → Prop
 | [], _, X => X
 | s :: l, M, X => s M ∧ BE l M X
def lj (l : List (Mem → Prop)) (M : Mem) : Prop := ∀ s ∈ l, s M
theorem kO : ∀ {l : List (Mem → Prop)} {M : Mem} {X : Prop}, BE l M X ↔ lj l M ∧ X
 | [], M, X => by simp [BE, lj]
 | s :: l, M, X => by
  simp only [BE, kO (l := l), lj, List.mem_cons, forall_eq_or_imp]
  constructor
  ·rintro ⟨a, b, c⟩; exact ⟨⟨a, b⟩, c⟩
  ·rintro ⟨⟨a, b⟩, c⟩; exact ⟨a, b, c⟩
def Gp (P : Program) (t : TypeId) (x : Value) (M : Mem) (K : Value → (Mem → Prop) → Prop) : Prop :=
 match x with
 | .pointer p => aE p fun b o =>
  match P.underlying t with
  | some (.struct _) | some (.array _ _) =>
   if (flat P 8 t).length = P.cellsOf t then
    Ga M ⟨b, o, none⟩ (flat P 8 t) 0 fun vs => K (.agg vs.toArray) (fun M' => M'.fK ⟨b, o, none⟩ 0 (P.cellsOf t) = some vs)
   else False
  | some d => D1 (WJ d) (M.ld ⟨b, o, none⟩) fun v => K v (fun M' => M'.ld ⟨b, o, none⟩ = some v)
  | none => False
 | _ => False
def BF (P : Program) (ρ : Operand → Value) (o : Oper) (M : Mem) (K : Value → (Mem → Prop) → Prop) : Prop :=
 match o.op with
 | .load t a => Gp P t (ρ a) M K
 | _ => False
def Sn (C : Ctx) (ops : Array Oper) (o : Oper) (env : Nat → Value) (M : Mem) (K : (Nat → Value) → List (Mem → Prop) → Prop) : Prop :=
 match o.guard with
 | none => BF C.P (pe env) o M (fun v p => K (bt env o.dst v) [p])
 | some (j, want) => match mP ops j with
  | some s => match env s with
   | .bool e => match want with
    | true => aP e (BF C.P (pe (bt env (some s) (.bool true))) o M (fun v p => K (bt (bt env (some s) (.bool true)) o.dst v) [p])) (K (bt (bt env (some s) (.bool false)) o.dst undef) [])
    | false => aP e (K (bt (bt env (some s) (.bool true)) o.dst undef) []) (BF C.P (pe (bt env (some s) (.bool false))) o M (fun v p => K (bt (bt env (some s) (.bool false)) o.dst v) [p]))
   | _ => K (bt env o.dst undef) []
  | none => K (bt env o.dst undef) []
def Gq (P : Program) (ρ : Operand → Value) (o : Oper) : Prop :=
 match o.op with
 | .buildSlice t len parts => match P.underlying t with
  | some (.slice e) => match P.info? e with
   | some i => match i.zero with
    | some z => if z.cells.toList.length = i.size ∧ len * i.size ≤ 16777216 then
      (match yX (fun k => some (k * i.size, i.size)) (List.replicate len z.cells.toList).flatten (parts.toList.map fun p => (p.1, ρ p.2)) with
      | some _ => True
      | none => False) else False
    | none => False
   | none => False
  | _ => False
 | .alloc e => match zeroOf P e with
  | some _ => True
  | none => False
 | .box _ _ => True
 | _ => False
def qM (C : Ctx) (ops : Array Oper) (env : Nat → Value) (L i : Nat) : List Nat → Prop → Prop
 | [], X => X
 | j :: l, X => bif Nat.beq j i || !fO ops L j then qM C ops env L i l X else
   (match ops[j]? with
   | some o => Gq C.P (pe env) o ∧ qM C ops env L i l X
   | none => qM C ops env L i l X)
def Em (P : Program) (o : Oper) : Bool := match cls P o with
 | .JC => true
 | _ => false
def behind (C : Ctx) (o : Oper) (Ss : List (Mem → Prop)) (M : Mem) (X : Prop) : Prop := bif Em C.P o then BE Ss M X else X
def th (C : Ctx) (ops : Array Oper) (fz : List Nat) (K : (Nat → Value) → Mem → Prop) (Kp : List PanicEntry → Mem → Prop) : Ex → List (Mem → Prop) → Nat → Nat → (Nat → Value) → Mem → Prop
 | .done, _, L, _, env, M => bif vS ops L 0 then K env M else False
 | .step i t, Ss, L, _, env, M => bif fO ops L i && y7 C.P ops fz L i then
   (match ops[i]? with
   | some o => JH C ops o env M (fun env' M' => behind C o Ss M' (th C ops fz K Kp t Ss (L ||| 2 ^ i) 0 env' M')) Kp
   | none => False) else False
 | .dD i t, Ss, L, _, env, M => bif fO ops L i && pD ops fz L i then
   (match ops[i]? with
   | some o => Sn C ops o env M (fun env' p => th C ops fz K Kp t (p ++ Ss) (L ||| 2 ^ i) 0 env' M)
   | none => False) else False
 | .late i t, Ss, L, _, env, M => bif fO ops L i && xq C.P ops fz L i then
   (match ops[i]? with
   | some o => bif Em C.P o then qM C ops env L i (List.range ops.size) (JH C ops o env M (fun env' M' => BE Ss M' (th C ops fz K Kp t Ss (L ||| 2 ^ i) 0 env' M')) Kp) else False
   | none => False) else False
 | .fork i a b, Ss, L, uo, env, M => bif fO ops L i then
   (match ops[i]? with
   | some o => JH C ops o env M (fun env' M' => behind C o Ss M' (th C ops fz K Kp a Ss (L ||| 2 ^ i) 0 env' M')) Kp ∧ th C ops fz K Kp b Ss L (uo ||| 2 ^ i) env M
   | none => False) else False
 | .dead, _, L, uo, _, _ => bif vS ops L uo && !Nat.beq uo 0 then True else False
def vT (Kp : List PanicEntry → Mem → Prop) : List PanicEntry → Mem → Prop := fun c M => ∃ M1, M1.le M ∧ Kp c M1
theorem PT (Kp : List PanicEntry → Mem → Prop) : TB (vT Kp) := fun _ _ _ hle ⟨M1, h1, h2⟩ => ⟨M1, fun b o h => hle b o (h1 b o h), h2⟩
theorem gi.up {F : Mem} {Kp : List PanicEntry → Mem → Prop} {c : List PanicEntry} {w : World} (h : gi E F (vT Kp c) w) : gi E F (Kp c) w := by
 obtain ⟨M, ⟨M1, hle, hk⟩, hd, hi⟩ := h
 refine ⟨M1, hk, fun b => ?_, ⟨fun b o hb => ?_, hi.2⟩⟩
 ·rcases hd b with h | h
  ·left; cases hm : M1 b with
   | none => rfl
   | some o => rw [hle b o hm] at h; cases h
  ·exact .inr h
 ·unfold Mem.union at hb
  cases hm : M1 b with
  | some o' => rw [hm] at hb; cases hb; exact hi.1 b o (Mem.union_left (hle b o hm))
  | none =>
   rw [hm] at hb
   refine hi.1 b o ?_
   unfold Mem.union
   rcases hd b with h | h
   ·rw [h]; exact hb
   ·rw [h] at hb; cases hb
section
variable {C : Ctx} {ops : Array Oper} {K : (Nat → Value) → Mem → Prop} {Kp : List PanicEntry → Mem → Prop}
theorem lp {L uo : Nat} (h : vS ops L uo = true) (i : Nat) (hi : fO ops L i = true) : uo.testBit i = true := by
 obtain ⟨_, o, ho, _⟩ := bQ.1 hi
 have := List.all_eq_true.1 h i (List.mem_range.2 (Array.getElem?_eq_some_iff.1 ho).1)
 simpa [hi] using this
theorem JO {S : Mem → Prop} {L : Nat} {env : Nat → Value} {M : Mem} (h : ∀ i, fO ops L i = false) (hk : K env M) : ∀ f, dM C ops S K Kp f L env M
 | 0 => fun _ => ⟨h, hk⟩
 | f + 1 => fun _ => ⟨fun _ => hk, fun i hi => by rw [h i] at hi; cases hi⟩
theorem cond_true {b : Bool} {X : Prop} (h : bif b then X else False) : b = true ∧ X := by cases b; exact h.elim; exact ⟨rfl, h⟩
theorem TD {ρ : Operand → Value} {o : Oper} {M : Mem} {K : Value → Mem → Prop} {vO : List PanicEntry → Mem → Prop} (h : sQ C ρ o M K Kp) (hp : ∀ c M', Kp c M' → vO c M') : sQ C ρ o M K vO := by
 unfold sQ at h ⊢
 split at h
 ·exact h
 ·exact h
 ·exact h
 ·refine iN C.P _ h (fun n M' hn => ?_) (fun _ _ h => hp _ _ h)
  cases n <;> first | exact hn.elim | exact hn | exact aa.mono hn (fun _ _ h => h) hp
theorem yF {o : Oper} {env : Nat → Value} {M : Mem} {vO : List PanicEntry → Mem → Prop} (h : eO C ops o env M K Kp) (hp : ∀ c M', Kp c M' → vO c M') : eO C ops o env M K vO := by
 unfold eO at h ⊢
 split
 ·rename_i hw; rw [if_pos hw] at h; exact TD h hp
 ·rename_i hw; rw [if_neg hw] at h; exact h
theorem JP {S S' : Mem → Prop} (hs : ∀ M, S M → S' M) : ∀ (f L : Nat) (env : Nat → Value) (M : Mem), dM C ops S K Kp f L env M → dM C ops S' K Kp f L env M := by
 intro f
 induction f with
 | zero => intro L env M h; exact h
 | succ f ih => intro L env M h fB; exact ⟨(h fB).1, fun j hj => BC ((h fB).2 j hj) fun env' M' hx => ⟨hs _ hx.1, ih _ _ _ hx.2⟩⟩
theorem pE {o : Oper} {env : Nat → Value} {M : Mem} {Ss : List (Mem → Prop)} {X : (Nat → Value) → Mem → Prop} (hS : xp (lj Ss)) (lM : lj Ss M)
  (h : eO C ops o env M (fun env' M' => behind C o Ss M' (X env' M')) Kp) : eO C ops o env M (fun env' M' => lj Ss M' ∧ X env' M') Kp := by
 unfold eO at h ⊢
 cases he : Em C.P o with
 | true =>
  simp only [behind, he] at h
  split
  ·rename_i hw; rw [if_pos hw] at h; exact mQ h fun v M' hv => kO.1 hv
  ·rename_i hw; rw [if_neg hw] at h; exact kO.1 h
 | false =>
  simp only [behind, he, cond_false] at h
  split
  ·rename_i hw; rw [if_pos hw] at h
   unfold sQ at h ⊢
   unfold Em at he
   cases hc : cls C.P o <;> rw [hc] at h he <;> simp only at h ⊢
   ·obtain ⟨v, hv, h⟩ := h; exact ⟨v, hv, lM, h⟩
   ·obtain ⟨v, hv, h⟩ := h; exact ⟨v, hv, lM, h⟩
   ·obtain ⟨ob, k, hn, h⟩ := h
    exact ⟨ob, k, hn, fun b hb => let ⟨v, hv, h⟩ := h b hb; ⟨v, hv, hS _ _ (pB hb) lM, h⟩⟩
   ·simp at he
  ·rename_i hw; rw [if_neg hw] at h; exact ⟨lM, h⟩
theorem En {M M' : Mem} (h : M.le M') {a : Addr} : ∀ (n i : Nat) (vs : List Value), M.fK a i n = some vs → M'.fK a i n = some vs
 | 0, i, vs, hv => hv
 | n + 1, i, vs, hv => by
  simp only [Mem.fK] at hv ⊢
  cases hx : M.ld (a.add i) with
  | none => simp [hx] at hv
  | some v =>
   rw [Mem.LD h hx]
   simp only [hx] at hv
   cases hr : M.fK a (i + 1) n with
   | none => simp [hr] at hv
   | some rest => rw [En h n (i + 1) rest hr]; rw [hr] at hv; exact hv
theorem Eo {P : Program} {t : TypeId} {x : Value} {M : Mem} {K : Value → (Mem → Prop) → Prop} (h : Gp P t x M K) :
  ∃ v p, (∀ M', p M' → bR P (Instr.loadAt t x) M' = some v) ∧ p M ∧ xp p ∧ K v p := by
 unfold Gp at h
 cases x <;> try exact h.elim
 rename_i p
 obtain ⟨b, o, hp, h2⟩ := jx h
 subst hp
 clear h
 cases hd : P.underlying t with
 | none => rw [hd] at h2; exact h2.elim
 | some d =>
  rw [hd] at h2
  have agg : vP d = true → (if (flat P 8 t).length = P.cellsOf t then Ga M ⟨b, o, none⟩ (flat P 8 t) 0 fun vs => K (.agg vs.toArray) (fun M' => M'.fK ⟨b, o, none⟩ 0 (P.cellsOf t) = some vs) else False) →
    ∃ v p, (∀ M', p M' → bR P (Instr.loadAt t (.pointer (some ⟨b, o, none⟩))) M' = some v) ∧ p M ∧ xp p ∧ K v p := by
   intro fy h
   split at h
   ·rename_i hl
    obtain ⟨vs, hvs, h⟩ := vQ h
    rw [hl] at hvs
    exact ⟨_, _, fun M' hm => po hd fy rfl hm, hvs, fun M1 M2 hle h1 => En hle _ _ _ h1, h⟩
   ·exact h.elim
  cases d with
  | struct fs => exact agg rfl h2
  | array m e => exact agg rfl h2
  | _ => (obtain ⟨v, hv, h⟩ := pn h2; exact ⟨v, _, fun M' hm => xl hd rfl hm, hv, fun M1 M2 hle h1 => Mem.LD hle h1, h⟩)
theorem Gr {P : Program} {ρ : Operand → Value} {o : Oper} {M : Mem} {K : Value → (Mem → Prop) → Prop} (h : BF P ρ o M K) :
  cls P o = .read ∧ ∃ v p, (∀ M', p M' → bR P (execOp ρ o) M' = some (.value v)) ∧ p M ∧ xp p ∧ K v p := by
 unfold BF at h
 split at h
 ·rename_i t a ho
  obtain ⟨v, p, h1, h2, h3, h4⟩ := Eo h
  obtain ⟨dst, op, type, pos, after, guard⟩ := o
  simp only at ho; subst ho
  exact ⟨rfl, v, p, fun M' hp => gr (h1 M' hp), h2, h3, h4⟩
 ·exact h.elim
theorem Ep {o : Oper} {env : Nat → Value} (h : Gq C.P (pe env) o) : Io C.P ops env o := by
 intro _
 unfold Gq at h
 split at h
 ·rename_i t len parts ho
  split at h
  ·rename_i e hu
   split at h
   ·rename_i i hi
    split at h
    ·rename_i z hz
     split at h
     ·rename_i hc
      split at h
      ·rename_i cs hcs
       have hb : LS C.P (pe env) o Mem.empty (fun _ _ => True) := by
        unfold LS; rw [ho]; simp only
        unfold PF; rw [hu]; simp only
        rw [hi]; simp only
        rw [hz]; simp only
        rw [if_pos hc, hcs]
        exact fun _ _ => trivial
       obtain ⟨ob, k, hn, hk⟩ := Im hb
       exact ⟨ob, k, hn, fun b => let ⟨v, hv, _⟩ := hk b rfl; ⟨v, hv⟩⟩
      ·exact h.elim
     ·exact h.elim
    ·exact h.elim
   ·exact h.elim
  ·exact h.elim
 ·rename_i e ho
  obtain ⟨dst, op, type, pos, after, guard⟩ := o
  simp only at ho; subst ho
  split at h
  ·rename_i z hz
   unfold zeroOf at hz
   cases hi : C.P.info? e with
   | none => simp [hi] at hz
   | some i =>
    simp only [hi, Option.bind_some] at hz
    refine ⟨.cells z.cells e, fun b => pure (Next.value (.pointer (some ⟨b, 0, none⟩))), ?_, fun b => ⟨_, rfl⟩⟩
    simp only [execOp]
    rw [Ed C.P (Instr.alloc e true (.tuple #[])) _ (ob := .cells z.cells e) (k := fun b => pure (.pointer (some ⟨b, 0, none⟩))) (by
     unfold Instr.alloc
     rw [CN C.P _ _ (Il hi hz)]
     rfl)]
    rfl
  ·exact h.elim
 ·rename_i e x ho
  obtain ⟨dst, op, type, pos, after, guard⟩ := o
  simp only at ho; subst ho
  exact ⟨.cells (pe env x).cells e, fun b => pure (Next.value (.pointer (some ⟨b, 0, none⟩))), rfl, fun b => ⟨_, rfl⟩⟩
 ·exact h.elim
theorem kA {env : Nat → Value} {L i : Nat} : ∀ {l : List Nat} {X : Prop}, qM C ops env L i l X → X ∧ ∀ j ∈ l, j ≠ i → fO ops L j = true → ∀ oj, ops[j]? = some oj → Io C.P ops env oj
 | [], X, h => ⟨h, fun j hj => by cases hj⟩
 | j :: l, X, h => by
  unfold qM at h
  cases hb : (Nat.beq j i || !fO ops L j) with
  | true =>
   rw [hb] at h
   obtain ⟨h1, h2⟩ := kA (l := l) h
   refine ⟨h1, fun k hk FZ hr oj jz => ?_⟩
   rcases List.mem_cons.1 hk with rfl | hk
   ·simp only [Bool.or_eq_true, Bool.not_eq_true', hr] at hb
    rcases hb with hb | hb
    ·exact absurd (Nat.eq_of_beq_eq_true hb) FZ
    ·cases hb
   ·exact h2 k hk FZ hr oj jz
  | false =>
   rw [hb] at h
   simp only [cond_false] at h
   cases ho : ops[j]? with
   | none =>
    rw [ho] at h
    obtain ⟨h1, h2⟩ := kA (l := l) h
    refine ⟨h1, fun k hk FZ hr oj jz => ?_⟩
    rcases List.mem_cons.1 hk with rfl | hk
    ·rw [ho] at jz; cases jz
    ·exact h2 k hk FZ hr oj jz
   | some o =>
    rw [ho] at h
    obtain ⟨h0, h⟩ := h
    obtain ⟨h1, h2⟩ := kA (l := l) h
    refine ⟨h1, fun k hk FZ hr oj jz => ?_⟩
    rcases List.mem_cons.1 hk with rfl | hk
    ·rw [ho] at jz; cases jz; exact Ep h0
    ·exact h2 k hk FZ hr oj jz
theorem BG {i : Nat} {o : Oper} (ho : ops[i]? = some o) (hsel : ∀ (j : Nat) (o : Oper) cs b, ops[j]? = some o → o.op ≠ .select cs b) {fz : List Nat} (ha : oq ops fz = true) {S : Mem → Prop} {Kp : List PanicEntry → Mem → Prop} :
  ∀ (f L : Nat) (env : Nat → Value) (M : Mem), S M → Dn ops L → pD ops fz L i = true → fO ops L i = true → bU ops o env = false →
   dM C ops S K Kp f (L ||| 2 ^ i) (bt env o.dst undef) M → dM C ops S K Kp (f + 1) L env M
 | 0, L, env, M, lM, hd, hf, hr, hw, hx => fun fB => by
  refine ⟨fun hno => (by rw [hno i] at hr; cases hr), fun j hj => ?_⟩
  by_cases jV : j = i
  ·subst jV; unfold gn; rw [ho]; exact lV hw ⟨lM, hx⟩
  ·have hj' := fY (i := i) hj jV
   have := (hx fB).1 j; rw [this] at hj'; cases hj'
 | f + 1, L, env, M, lM, hd, hf, hr, hw, hx => fun fB => by
  obtain ⟨hL, o1, ho1, iJ⟩ := bQ.1 hr
  rw [ho] at ho1; cases ho1
  refine ⟨fun hno => (by rw [hno i] at hr; cases hr), fun j hj => ?_⟩
  by_cases jV : j = i
  ·subst jV; unfold gn; rw [ho]; exact lV hw ⟨lM, hx⟩
  ·obtain ⟨JJ, oj, jz, hallj⟩ := bQ.1 hj
   have hap := Ej ho ha hd hf hr hj jz jV
   obtain ⟨a1, a2, a3⟩ := Oper.apart_spec hap
   have hj' := fY (i := i) hj jV
   have jl := (hx fB).2 j hj'
   unfold gn at jl ⊢; rw [jz] at jl ⊢; simp only at jl ⊢
   rw [um L i j] at jl
   have h2 := pC hap (fun cs b => hsel j oj cs b jz) jl
   have fin : ∀ u M1, S M1 ∧ dM C ops S K Kp f (L ||| 2 ^ j ||| 2 ^ i) (bt (bt env oj.dst u) o.dst undef) M1 →
     S M1 ∧ dM C ops S K Kp (f + 1) (L ||| 2 ^ j) (bt env oj.dst u) M1 := fun u M1 hy =>
    ⟨hy.1, BG ho hsel ha f (L ||| 2 ^ j) (bt env oj.dst u) M1 hy.1 (hd.add hj) (y8 ho hf) (fY hr (Ne.symm jV)) ((eU o env oj.dst u a3).trans hw) hy.2⟩
   unfold eO at h2 ⊢
   split
   ·rename_i LX; rw [if_pos LX] at h2; exact mQ h2 fun u M1 hy => fin u M1 hy
   ·rename_i LX; rw [if_neg LX] at h2; exact fin _ _ h2
theorem Gs (hC : C.Good) (hsel : ∀ (j : Nat) (o : Oper) cs b, ops[j]? = some o → o.op ≠ .select cs b) {fz : List Nat} (ha : oq ops fz = true) (t : Ex) :
  ∀ (Ss : List (Mem → Prop)), xp (lj Ss) →
  (∀ (L : Nat) (env : Nat → Value) (M : Mem), lj Ss M → Dn ops L → th C ops fz K Kp t Ss L 0 env M → dM C ops (lj Ss) K (vT Kp) (yE ops.size L) L env M) ∧
  (∀ (L uo : Nat) (env : Nat → Value) (M : Mem) (f : Nat), lj Ss M → yE ops.size L = f + 1 → uk M → Dn ops L → th C ops fz K Kp t Ss L uo env M → uo ≠ 0 →
   ∀ i, fO ops L i = true → uo.testBit i = false → gn C ops (vT Kp) i env M fun env' M' => lj Ss M' ∧ dM C ops (lj Ss) K (vT Kp) f (L ||| 2 ^ i) env' M') := by
 have kp : ∀ c M', Kp c M' → vT Kp c M' := fun c M' h => ⟨M', fun _ _ h => h, h⟩
 have both : ∀ (t : Ex) (Ss : List (Mem → Prop)), (∀ (L : Nat) (uo : Nat) (env : Nat → Value) (M : Mem), lj Ss M → Dn ops L → th C ops fz K Kp t Ss L uo env M → dM C ops (lj Ss) K (vT Kp) (yE ops.size L) L env M) →
   (∀ (L : Nat) (env : Nat → Value) (M : Mem), lj Ss M → Dn ops L → th C ops fz K Kp t Ss L 0 env M → dM C ops (lj Ss) K (vT Kp) (yE ops.size L) L env M) ∧
   (∀ (L uo : Nat) (env : Nat → Value) (M : Mem) (f : Nat), lj Ss M → yE ops.size L = f + 1 → uk M → Dn ops L → th C ops fz K Kp t Ss L uo env M → uo ≠ 0 →
    ∀ i, fO ops L i = true → uo.testBit i = false → gn C ops (vT Kp) i env M fun env' M' => lj Ss M' ∧ dM C ops (lj Ss) K (vT Kp) f (L ||| 2 ^ i) env' M') := fun t Ss h =>
  ⟨fun L env M => h L 0 env M, fun L uo env M f lM Mb fB hd ht _ j hj _ => by
   have hh := h L uo env M lM hd ht
   rw [Mb] at hh
   exact (hh fB).2 j hj⟩
 induction t with
 | done =>
  intro Ss hS
  refine ⟨fun L env M lM hd h => ?_, fun L uo env M f _ _ _ hd h Xx i hi WO => ?_⟩
  ·obtain ⟨h1, h2⟩ := cond_true h
   refine JO (fun i => ?_) h2 _
   cases hr : fO ops L i with
   | false => rfl
   | true => have := lp h1 i hr; simp at this
  ·obtain ⟨h1, h2⟩ := cond_true h
   have := lp h1 i hi; simp at this
 | step i t ih =>
  intro Ss hS
  refine both _ _ fun L uo env M lM hd h => ?_
  obtain ⟨h1, h2⟩ := cond_true h
  simp only [Bool.and_eq_true] at h1
  obtain ⟨hr, hf⟩ := h1
  obtain ⟨hL, o, ho, iJ⟩ := bQ.1 hr
  rw [ho] at h2; simp only at h2
  rw [lW (Array.getElem?_eq_some_iff.1 ho).1 hL]
  refine Gn hS ho hsel ha _ L env M lM hd hf hr ?_
  unfold gn; rw [ho]; simp only
  exact jy (yF (pE hS lM (iP hC h2)) kp) fun env' M' hx => ⟨hx.1, (ih Ss hS).1 _ env' M' hx.1 (hd.add hr) hx.2⟩
 | dD i t ih =>
  intro Ss hS
  refine both _ _ fun L uo env M lM hd h => ?_
  obtain ⟨h1, h2⟩ := cond_true h
  simp only [Bool.and_eq_true] at h1
  obtain ⟨hr, hf⟩ := h1
  obtain ⟨hL, o, ho, iJ⟩ := bQ.1 hr
  rw [ho] at h2; simp only at h2
  rw [lW (Array.getElem?_eq_some_iff.1 ho).1 hL]
  have yes : bU ops o env = true → BF C.P (pe env) o M (fun v p => th C ops fz K Kp t ([p] ++ Ss) (L ||| 2 ^ i) 0 (bt env o.dst v) M) →
    dM C ops (lj Ss) K (vT Kp) (yE ops.size (L ||| 2 ^ i) + 1) L env M := fun hw hp => by
   obtain ⟨hc, v, p, p1, p2, p3, p4⟩ := Gr hp
   have hS' : xp (lj ([p] ++ Ss)) := fun M1 M2 hle hx s hs => by
    rcases List.mem_cons.1 hs with rfl | hs
    ·exact p3 _ _ hle (hx _ (List.mem_cons_self ..))
    ·exact hS M1 M2 hle (fun s hs => hx s (List.mem_cons_of_mem _ hs)) s hs
   have hSM' : lj ([p] ++ Ss) M := fun s hs => by
    rcases List.mem_cons.1 hs with rfl | hs
    ·exact p2
    ·exact lM s hs
   refine JK ho hsel ha hc (s := execOp (pe env) o) (v := v) _ L env M hd hf hr hw rfl (p1 M p2) lM ?_
   refine JP (fun M' hx => ?_) _ _ _ _ ((ih _ hS').1 _ _ M hSM' (hd.add hr) p4)
   exact ⟨fun s hs => hx s (List.mem_cons_of_mem _ hs), p1 M' (hx p (List.mem_cons_self ..))⟩
  have no : bU ops o env = false → th C ops fz K Kp t ([] ++ Ss) (L ||| 2 ^ i) 0 (bt env o.dst undef) M →
    dM C ops (lj Ss) K (vT Kp) (yE ops.size (L ||| 2 ^ i) + 1) L env M := fun hw hp =>
   BG ho hsel ha _ L env M lM hd hf hr hw ((ih Ss hS).1 _ _ M lM (hd.add hr) hp)
  unfold Sn at h2
  cases hg : o.guard with
  | none => rw [hg] at h2; exact yes (uh hg) h2
  | some jw =>
   obtain ⟨j, want⟩ := jw
   rw [hg] at h2
   simp only at h2
   cases hs : mP ops j with
   | none => rw [hs] at h2; exact no (y6 hg hs) h2
   | some s =>
    rw [hs] at h2
    simp only at h2
    cases he : env s <;> rw [he] at h2 <;> simp only at h2
    case bool e =>
     have hw := uj hg hs he
     cases e
     ·rw [mR he] at h2
      cases want <;> simp only [aP] at h2
      ·exact yes hw h2
      ·exact no hw h2
     ·rw [mR he] at h2
      cases want <;> simp only [aP] at h2
      ·exact no hw h2
      ·exact yes hw h2
    all_goals exact no (sR hg hs (by simp [he])) h2
 | late i t ih =>
  intro Ss hS
  refine both _ _ fun L uo env M lM hd h => ?_
  obtain ⟨h1, h2⟩ := cond_true h
  simp only [Bool.and_eq_true] at h1
  obtain ⟨hr, hl⟩ := h1
  obtain ⟨hL, o, ho, iJ⟩ := bQ.1 hr
  rw [ho] at h2; simp only at h2
  obtain ⟨he, h2⟩ := cond_true h2
  have hce : cls C.P o = .JC := by unfold Em at he; cases hc : cls C.P o <;> rw [hc] at he <;> simp at he
  obtain ⟨h3, h4⟩ := kA h2
  have hc := lW (n := ops.size) (Array.getElem?_eq_some_iff.1 ho).1 hL
  rw [hc]
  refine JM hS (PT Kp) ho hce hsel ha _ L env M hc lM hd hl hr (fun j oj hj jz jV => h4 j (List.mem_range.2 (Array.getElem?_eq_some_iff.1 jz).1) jV hj oj jz) ?_
  unfold gn; rw [ho]; simp only
  exact jy (yF (iP hC h3) kp) fun env' M' hx => ⟨(kO.1 hx).1, (ih Ss hS).1 _ env' M' (kO.1 hx).1 (hd.add hr) (kO.1 hx).2⟩
 | fork i a b iha ihb =>
  intro Ss hS
  refine ⟨fun L env M lM hd h => ?_, fun L uo env M f lM Mb fB hd h Xx j hj DO => ?_⟩
  ·obtain ⟨hr, h2⟩ := cond_true h
   obtain ⟨hL, o, ho, iJ⟩ := bQ.1 hr
   rw [ho] at h2; simp only at h2
   have hc := lW (n := ops.size) (Array.getElem?_eq_some_iff.1 ho).1 hL
   rw [hc]
   refine fun fB => ⟨fun hno => (by rw [hno i] at hr; cases hr), fun j hj => ?_⟩
   by_cases jV : j = i
   ·subst jV
    unfold gn; rw [ho]; simp only
    exact jy (yF (pE hS lM (iP hC h2.1)) kp) fun env' M' hx => ⟨hx.1, (iha Ss hS).1 _ env' M' hx.1 (hd.add hr) hx.2⟩
   ·exact (ihb Ss hS).2 L (0 ||| 2 ^ i) env M (yE ops.size (L ||| 2 ^ i)) lM hc fB hd h2.2 (by simp) j hj (by rw [eG]; simp [Ne.symm jV])
  ·obtain ⟨hr, h2⟩ := cond_true h
   obtain ⟨hL, o, ho, iJ⟩ := bQ.1 hr
   rw [ho] at h2; simp only at h2
   have hc := lW (n := ops.size) (Array.getElem?_eq_some_iff.1 ho).1 hL
   by_cases jV : j = i
   ·subst jV
    unfold gn; rw [ho]; simp only
    have hf : f = yE ops.size (L ||| 2 ^ j) := by omega
    subst hf
    exact jy (yF (pE hS lM (iP hC h2.1)) kp) fun env' M' hx => ⟨hx.1, (iha Ss hS).1 _ env' M' hx.1 (hd.add hr) hx.2⟩
   ·exact (ihb Ss hS).2 L (uo ||| 2 ^ i) env M f lM Mb fB hd h2.2 (by intro h0; have := eG uo i i; rw [h0] at this; simp at this) j hj (by rw [eG, DO]; simp [Ne.symm jV])
 | dead =>
  intro Ss hS
  refine ⟨fun L env M lM hd h => ?_, fun L uo env M f _ _ _ hd h Xx i hi WO => ?_⟩
  ·obtain ⟨h1, _⟩ := cond_true h
   simp at h1
  ·obtain ⟨h1, _⟩ := cond_true h
   simp only [Bool.and_eq_true] at h1
   have := lp h1.1 i hi; rw [WO] at this; cases this
theorem xu {P : Program} {a : Act} {o : Oper} {M F : Mem} {w : World} {K : Value → Mem → Prop} {Kp : List PanicEntry → Mem → Prop} {next : Act → World → Prop} {Q : Exit → Act → World → Prop}
  (h : dV P (execOp a.eval o) M (mO P K Kp) (fun v M' => Kp [{ v, recovered := false }] M')) (hd : M.dj F) (hi : (M.union F).In E w)
  (hn : ∀ v w', gi E F (K v) w' → next (a.put o.dst v) w') (hp : ∀ c w', gi E F (Kp c) w' → Q (.panic c) a w') : o.wp P a w next Q := by
 have hr := Ju P _ h hd hi
 unfold jv at hr
 unfold Oper.wp
 split at hr
 ·rename_i n w' hrun
  rw [hrun]
  obtain ⟨M', hk, hd', hi'⟩ := hr
  cases n <;> first | exact hk.elim | skip
  ·exact hn _ _ ⟨M', hk, hd', hi'⟩
  ·exact hn _ _ ⟨M', hk, hd', hi'⟩
  ·rename_i f args
   refine (hk E F w' hd' hi').mono fun e w'' he => ?_
   cases e with
   | returned v => exact hn _ _ he
   | panicked c => exact hp _ _ he
   | outgrown => exact he.elim
 ·rename_i v w' hrun
  rw [hrun]
  exact hp _ _ hr
 ·exact hr.elim
theorem uq {N : Nat} {env : Nat → Value} {a : Act} (fy : eD N env a.tmps) (hfit : ∀ o ∈ ops.toList, nE N o = true) (o : Oper) :
  Region.wanted o (yielded ops a.tmps) = bU ops o env := by
 unfold Region.wanted bU
 cases hg : o.guard with
 | none => rfl
 | some jw =>
  obtain ⟨j, want⟩ := jw
  simp only
  have hy : yielded ops a.tmps j = match (mP ops j).map env with | some (.bool b) => some b | _ => none := by
   unfold yielded mP
   cases hj : ops[j]? with
   | none => rfl
   | some oj =>
    simp only [Option.bind_some]
    cases hd : oj.dst with
    | none => rfl
    | some s =>
     have hm : oj ∈ ops.toList := by have := Array.mem_of_getElem? hj; simpa using this
     have hs := (gx (hfit oj hm)).2.1 s hd
     simp only [Option.bind_some, fy.2 s hs, Option.map_some]
     cases env s <;> rfl
  rw [hy]
  cases (mP ops j).map env with
  | none => rfl
  | some v => cases v <;> first | rfl | (cases want <;> rename_i b <;> cases b <;> rfl)
structure Post (E : s9) (N : Nat) (Z : Act → Prop) (F : Mem) (K : (Nat → Value) → Mem → Prop) (Kp : List PanicEntry → Mem → Prop) (Q : Exit → Act → World → Prop) : Prop where
 normal : ∀ env M a w, eD N env a.tmps → Z a → M.dj F → (M.union F).In E w → K env M → Q .normal a w
 panic : ∀ c a w, Z a → gi E F (Kp c) w → Q (.panic c) a w
theorem put_defers {a : Act} {dst : Option Tmp} {v : Value} : (a.put dst v).defers = a.defers := by cases dst <;> rfl
theorem CR {N : Nat} {Z : Act → Prop} {F : Mem} {Q : Exit → Act → World → Prop} (hz : ∀ o ∈ ops.toList, ∀ (a : Act) (v : Value), Z a → Z (a.put o.dst v)) (hfit : ∀ o ∈ ops.toList, nE N o = true)
  (hp : ∀ c a w, Z a → gi E F (Kp c) w → Q (.panic c) a w) {i : Nat} {env : Nat → Value} {M : Mem} {a : Act} {w : World} {K' : (Nat → Value) → Mem → Prop} {next : Act → World → Prop}
  (fy : eD N env a.tmps) (hds : Z a) (hd : M.dj F) (hi : (M.union F).In E w)
  (hn : ∀ env' M' a' w', eD N env' a'.tmps → Z a' → M'.dj F → (M'.union F).In E w' → K' env' M' → next a' w') (h : gn C ops Kp i env M K') : wpOp C.P ops Q i next a w := by
 unfold wpOp
 unfold gn at h
 cases ho : ops[i]? with
 | none => rw [ho] at h; exact hn _ _ _ _ fy hds hd hi h
 | some o =>
  rw [ho] at h
  simp only at h
  have hm : o ∈ ops.toList := by have := Array.mem_of_getElem? ho; simpa using this
  have hf := hfit o hm
  simp only
  rw [uq fy hfit]
  unfold eO at h
  split
  ·rename_i hw
   rw [if_pos hw] at h
   refine .inl (xu (K := fun v M' => K' (bt env o.dst v) M') (Kp := Kp) (F := F) (by rw [← fy.execOp hf]; exact y5 h) hd hi (fun v w' hv => ?_) (fun c w' hc => hp _ _ _ hds hc))
   obtain ⟨M', hk, hd', hi'⟩ := hv
   exact hn _ _ _ _ (fy.put (gx hf).2.1 v) (hz o hm _ _ hds) hd' hi' hk
  ·rename_i hw
   rw [if_neg hw] at h
   exact hn _ _ _ _ (fy.put (gx hf).2.1 undef) (hz o hm _ _ hds) hd hi h
def pF (ops : Array Oper) (arr : Array Bool) (L : Nat) : Prop := arr.size = ops.size ∧ ∀ i, i < ops.size → arr[i]? = some (L.testBit i)
theorem pF.add {arr : Array Bool} {L i : Nat} (h : pF ops arr L) (hi : i < ops.size) : pF ops (arr.setIfInBounds i true) (L ||| 2 ^ i) := by
 refine ⟨by simp [h.1], fun k hk => ?_⟩
 by_cases FZ : i = k
 ·subst FZ; simp [h.1, hi]
 ·rw [Array.getElem?_setIfInBounds_ne FZ, h.2 k hk, eG]; simp [FZ]
theorem vU {arr : Array Bool} {L : Nat} (h : pF ops arr L) (xw : ∀ (j : Nat) (o : Oper), ops[j]? = some o → ∀ e ∈ o.after, Region.binds .any e = true → e.on < ops.size) (i : Nat) :
  i ∈ Region.ready .any ops arr ↔ fO ops L i = true := by
 rw [mem_ready, bQ]
 constructor
 ·rintro ⟨h0, o, ho, iJ⟩
  have hlt := (Array.getElem?_eq_some_iff.1 ho).1
  refine ⟨?_, o, ho, fun e he hb => ?_⟩
  ·have := h.2 i hlt; simp [Array.getD_eq_getD_getElem?, this] at h0; exact h0
  ·have h1 := iJ e he hb
   have := h.2 e.on (xw i o ho e he hb)
   simpa [Array.getD_eq_getD_getElem?, this] using h1
 ·rintro ⟨h0, o, ho, iJ⟩
  have hlt := (Array.getElem?_eq_some_iff.1 ho).1
  refine ⟨by simp [Array.getD_eq_getD_getElem?, h.2 i hlt, h0], o, ho, fun e he hb => ?_⟩
  have := h.2 e.on (xw i o ho e he hb)
  simp [Array.getD_eq_getD_getElem?, this, iJ e he hb]
theorem AP {S : Mem → Prop} {N : Nat} {Z : Act → Prop} {F : Mem} {Q : Exit → Act → World → Prop} (hz : ∀ o ∈ ops.toList, ∀ (a : Act) (v : Value), Z a → Z (a.put o.dst v)) (hfit : ∀ o ∈ ops.toList, nE N o = true)
  (xw : ∀ (j : Nat) (o : Oper), ops[j]? = some o → ∀ e ∈ o.after, Region.binds .any e = true → e.on < ops.size) (hpost : Post E N Z F K Kp Q) :
  ∀ (f L : Nat) (arr : Array Bool) (env : Nat → Value) (M : Mem) (a : Act) (w : World), pF ops arr L → eD N env a.tmps → Z a → M.dj F → (M.union F).In E w →
   dM C ops S K (vT Kp) f L env M → wpAny C.P .any ops Q f arr a w := by
 intro f
 induction f with
 | zero =>
  intro L arr env M a w hl fy hds hd hi h
  have fB : uk M := ⟨w.heap.size, fun b hb => by
   cases hm : M b with
   | none => rfl
   | some o => have := hi.lt (Mem.union_left (F := F) hm); omega⟩
  obtain ⟨h1, h2⟩ := h fB
  refine ⟨?_, hpost.normal _ _ _ _ fy hds hd hi h2⟩
  rw [List.eq_nil_iff_forall_not_mem]
  intro i hmem
  have := (vU hl xw i).1 hmem
  rw [h1 i] at this; cases this
 | succ f ih =>
  intro L arr env M a w hl fy hds hd hi h
  have fB : uk M := ⟨w.heap.size, fun b hb => by
   cases hm : M b with
   | none => rfl
   | some o => have := hi.lt (Mem.union_left (F := F) hm); omega⟩
  obtain ⟨h1, h2⟩ := h fB
  refine ⟨fun PU => ?_, fun i hmem => ?_⟩
  ·refine hpost.normal _ _ _ _ fy hds hd hi (h1 fun i => ?_)
   cases hr : fO ops L i with
   | false => rfl
   | true => have := (vU hl xw i).2 hr; rw [PU] at this; cases this
  ·have hr := (vU hl xw i).1 hmem
   obtain ⟨_, o, ho, _⟩ := bQ.1 hr
   exact CR hz hfit (fun c a w h1 h2 => hpost.panic c a w h1 h2.up) fy hds hd hi (fun env' M' a' w' g1 g2 g3 g4 g5 => ih _ _ _ _ _ _ (hl.add (Array.getElem?_eq_some_iff.1 ho).1) g1 g2 g3 g4 g5.2) (h2 i hr)
def TE (C : Ctx) (ops : Array Oper) (K : (Nat → Value) → Mem → Prop) (Kp : List PanicEntry → Mem → Prop) : List Oper → (Nat → Value) → Mem → Prop
 | [], env, M => K env M
 | o :: rest, env, M => JH C ops o env M (fun env' M' => TE C ops K Kp rest env' M') Kp
end
end Go.AF
