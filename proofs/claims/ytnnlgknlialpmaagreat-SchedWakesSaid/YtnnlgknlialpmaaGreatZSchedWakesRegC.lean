/- A part of proofs about one program. -/
import Derived.Test.YtnnlgknlialpmaaGreatZSchedWakesRegL
set_option linter.unusedVariables false
namespace Go.AF
variable {E : qi}
inductive Ex where
 | done
 | step (i : Nat) (t : Ex)
 | fT (i : Nat) (t : Ex)
 | late (i : Nat) (t : Ex)
 | fork (i : Nat) (a b : Ex)
 | dead
def tG (ops : Array Oper) (L rM : Nat) : Bool := (List.range ops.size).all fun i => !eP ops L i || rM.testBit i
def yH : List (Mem → Prop) → Mem → Prop → Prop
 | [], _, X => X
 | s :: l, M, X => s M ∧ yH l M X
def ju (l : List (Mem → Prop)) (M : Mem) : Prop := ∀ s ∈ l, s M
theorem jh : ∀ {l : List (Mem → Prop)} {M : Mem} {X : Prop}, yH l M X ↔ ju l M ∧ X
 | [], M, X => by simp [yH, ju]
 | s :: l, M, X => by
  simp only [yH, jh (l := l), ju, List.mem_cons, forall_eq_or_imp]
  constructor
  ·rintro ⟨a, b, c⟩; exact ⟨⟨a, b⟩, c⟩
  ·rintro ⟨⟨a, b⟩, c⟩; exact ⟨a, b, c⟩
def Dl (P : Program) (t : TypeId) (x : Value) (M : Mem) (K : Value → (Mem → Prop) → Prop) : Prop :=
 match x with
 | .pointer p => aD p fun b o =>
  match P.underlying t with
  | some (.struct _) | some (.array _ _) =>
   if (flat P 8 t).length = P.cellsOf t then
    C6 M ⟨b, o, none⟩ (flat P 8 t) 0 fun vs => K (.agg vs.toArray) (fun M' => M'.gp ⟨b, o, none⟩ 0 (P.cellsOf t) = some vs)
   else False
  | some d => Bd (RE d) (M.ld ⟨b, o, none⟩) fun v => K v (fun M' => M'.ld ⟨b, o, none⟩ = some v)
  | none => False
 | _ => False
def yI (P : Program) (ρ : Operand → Value) (o : Oper) (M : Mem) (K : Value → (Mem → Prop) → Prop) : Prop :=
 match o.op with
 | .load t a => Dl P t (ρ a) M K
 | _ => False
def NY (C : Ctx) (ops : Array Oper) (o : Oper) (env : Nat → Value) (M : Mem) (K : (Nat → Value) → List (Mem → Prop) → Prop) : Prop :=
 match o.guard with
 | none => yI C.P (nf env) o M (fun v p => K (aX env o.dst v) [p])
 | some (j, want) => match kO ops j with
  | some s => match env s with
   | .bool e => match want with
    | true => aO e (yI C.P (nf (aX env (some s) (.bool true))) o M (fun v p => K (aX (aX env (some s) (.bool true)) o.dst v) [p])) (K (aX (aX env (some s) (.bool false)) o.dst undef) [])
    | false => aO e (K (aX (aX env (some s) (.bool true)) o.dst undef) []) (yI C.P (nf (aX env (some s) (.bool false))) o M (fun v p => K (aX (aX env (some s) (.bool false)) o.dst v) [p]))
   | _ => K (aX env o.dst undef) []
  | none => K (aX env o.dst undef) []
def Dm (P : Program) (ρ : Operand → Value) (o : Oper) : Prop :=
 match o.op with
 | .buildSlice t len parts => match P.underlying t with
  | some (.slice e) => match P.info? e with
   | some i => match i.zero with
    | some z => if z.cells.toList.length = i.size ∧ len * i.size ≤ 16777216 then
      (match vT (fun k => some (k * i.size, i.size)) (List.replicate len z.cells.toList).flatten (parts.toList.map fun p => (p.1, ρ p.2)) with
      | some _ => True
      | none => False) else False
    | none => False
   | none => False
  | _ => False
 | .alloc e => match zeroOf P e with
  | some _ => True
  | none => False
 | .box _ _ => True
 | _ => False
def oQ (C : Ctx) (ops : Array Oper) (env : Nat → Value) (L i : Nat) : List Nat → Prop → Prop
 | [], X => X
 | j :: l, X => bif Nat.beq j i || !eP ops L j then oQ C ops env L i l X else
   (match ops[j]? with
   | some o => Dm C.P (nf env) o ∧ oQ C ops env L i l X
   | none => oQ C ops env L i l X)
def Bw (P : Program) (o : Oper) : Bool := match cls P o with
 | .FX => true
 | _ => false
def behind (C : Ctx) (o : Oper) (Ss : List (Mem → Prop)) (M : Mem) (X : Prop) : Prop := bif Bw C.P o then yH Ss M X else X
def qn (C : Ctx) (ops : Array Oper) (ej : List Nat) (K : (Nat → Value) → Mem → Prop) (Kp : List PanicEntry → Mem → Prop) : Ex → List (Mem → Prop) → Nat → Nat → (Nat → Value) → Mem → Prop
 | .done, _, L, _, env, M => bif tG ops L 0 then K env M else False
 | .step i t, Ss, L, _, env, M => bif eP ops L i && wc C.P ops ej L i then
   (match ops[i]? with
   | some o => F2 C ops o env M (fun env' M' => behind C o Ss M' (qn C ops ej K Kp t Ss (L ||| 2 ^ i) 0 env' M')) Kp
   | none => False) else False
 | .fT i t, Ss, L, _, env, M => bif eP ops L i && ny ops ej L i then
   (match ops[i]? with
   | some o => NY C ops o env M (fun env' p => qn C ops ej K Kp t (p ++ Ss) (L ||| 2 ^ i) 0 env' M)
   | none => False) else False
 | .late i t, Ss, L, _, env, M => bif eP ops L i && uD C.P ops ej L i then
   (match ops[i]? with
   | some o => bif Bw C.P o then oQ C ops env L i (List.range ops.size) (F2 C ops o env M (fun env' M' => yH Ss M' (qn C ops ej K Kp t Ss (L ||| 2 ^ i) 0 env' M')) Kp) else False
   | none => False) else False
 | .fork i a b, Ss, L, rM, env, M => bif eP ops L i then
   (match ops[i]? with
   | some o => F2 C ops o env M (fun env' M' => behind C o Ss M' (qn C ops ej K Kp a Ss (L ||| 2 ^ i) 0 env' M')) Kp ∧ qn C ops ej K Kp b Ss L (rM ||| 2 ^ i) env M
   | none => False) else False
 | .dead, _, L, rM, _, _ => bif tG ops L rM && !Nat.beq rM 0 then True else False
def tH (Kp : List PanicEntry → Mem → Prop) : List PanicEntry → Mem → Prop := fun c M => ∃ M1, M1.le M ∧ Kp c M1
theorem Lv (Kp : List PanicEntry → Mem → Prop) : O0 (tH Kp) := fun _ _ _ hle ⟨M1, h1, h2⟩ => ⟨M1, fun b o h => hle b o (h1 b o h), h2⟩
theorem fx.up {F : Mem} {Kp : List PanicEntry → Mem → Prop} {c : List PanicEntry} {w : World} (h : fx E F (tH Kp c) w) : fx E F (Kp c) w := by
 obtain ⟨M, ⟨M1, hle, hk⟩, hd, hi⟩ := h
 refine ⟨M1, hk, fun b => ?_, ⟨fun b o hb => ?_, hi.2⟩⟩
 ·rcases hd b with h | h
  ·left; cases hm : M1 b with
   | none => rfl
   | some o => rw [hle b o hm] at h; cases h
  ·exact .inr h
 ·unfold Mem.union at hb
  cases hm : M1 b with
  | some o' => rw [hm] at hb; cases hb; exact hi.1 b o (Mem.union_left (hle b o hm))
  | none =>
   rw [hm] at hb
   refine hi.1 b o ?_
   unfold Mem.union
   rcases hd b with h | h
   ·rw [h]; exact hb
   ·rw [h] at hb; cases hb
section
variable {C : Ctx} {ops : Array Oper} {K : (Nat → Value) → Mem → Prop} {Kp : List PanicEntry → Mem → Prop}
theorem jv {L rM : Nat} (h : tG ops L rM = true) (i : Nat) (hi : eP ops L i = true) : rM.testBit i = true := by
 obtain ⟨_, o, ho, _⟩ := bD.1 hi
 have := List.all_eq_true.1 h i (List.mem_range.2 (Array.getElem?_eq_some_iff.1 ho).1)
 simpa [hi] using this
theorem F8 {S : Mem → Prop} {L : Nat} {env : Nat → Value} {M : Mem} (h : ∀ i, eP ops L i = false) (hk : K env M) : ∀ f, cW C ops S K Kp f L env M
 | 0 => fun _ => ⟨h, hk⟩
 | f + 1 => fun _ => ⟨fun _ => hk, fun i hi => by rw [h i] at hi; cases hi⟩
theorem cond_true {b : Bool} {X : Prop} (h : bif b then X else False) : b = true ∧ X := by cases b; exact h.elim; exact ⟨rfl, h⟩
theorem O2 {ρ : Operand → Value} {o : Oper} {M : Mem} {K : Value → Mem → Prop} {tB : List PanicEntry → Mem → Prop} (h : qf C ρ o M K Kp) (hp : ∀ c M', Kp c M' → tB c M') : qf C ρ o M K tB := by
 unfold qf at h ⊢
 split at h
 ·exact h
 ·exact h
 ·exact h
 ·refine gJ C.P _ h (fun n M' hn => ?_) (fun _ _ h => hp _ _ h)
  cases n <;> first | exact hn.elim | exact hn | exact aa.mono hn (fun _ _ h => h) hp
theorem vA {o : Oper} {env : Nat → Value} {M : Mem} {tB : List PanicEntry → Mem → Prop} (h : dL C ops o env M K Kp) (hp : ∀ c M', Kp c M' → tB c M') : dL C ops o env M K tB := by
 unfold dL at h ⊢
 split
 ·rename_i hw; rw [if_pos hw] at h; exact O2 h hp
 ·rename_i hw; rw [if_neg hw] at h; exact h
theorem F9 {S S' : Mem → Prop} (hs : ∀ M, S M → S' M) : ∀ (f L : Nat) (env : Nat → Value) (M : Mem), cW C ops S K Kp f L env M → cW C ops S' K Kp f L env M := by
 intro f
 induction f with
 | zero => intro L env M h; exact h
 | succ f ih => intro L env M h eA; exact ⟨(h eA).1, fun j hj => yF ((h eA).2 j hj) fun env' M' hx => ⟨hs _ hx.1, ih _ _ _ hx.2⟩⟩
theorem nA {o : Oper} {env : Nat → Value} {M : Mem} {Ss : List (Mem → Prop)} {X : (Nat → Value) → Mem → Prop} (hS : uC (ju Ss)) (jK : ju Ss M)
  (h : dL C ops o env M (fun env' M' => behind C o Ss M' (X env' M')) Kp) : dL C ops o env M (fun env' M' => ju Ss M' ∧ X env' M') Kp := by
 unfold dL at h ⊢
 cases he : Bw C.P o with
 | true =>
  simp only [behind, he] at h
  split
  ·rename_i hw; rw [if_pos hw] at h; exact kP h fun v M' hv => jh.1 hv
  ·rename_i hw; rw [if_neg hw] at h; exact jh.1 h
 | false =>
  simp only [behind, he, cond_false] at h
  split
  ·rename_i hw; rw [if_pos hw] at h
   unfold qf at h ⊢
   unfold Bw at he
   cases hc : cls C.P o <;> rw [hc] at h he <;> simp only at h ⊢
   ·obtain ⟨v, hv, h⟩ := h; exact ⟨v, hv, jK, h⟩
   ·obtain ⟨v, hv, h⟩ := h; exact ⟨v, hv, jK, h⟩
   ·obtain ⟨ob, k, hn, h⟩ := h
    exact ⟨ob, k, hn, fun b hb => let ⟨v, hv, h⟩ := h b hb; ⟨v, hv, hS _ _ (nv hb) jK, h⟩⟩
   ·simp at he
  ·rename_i hw; rw [if_neg hw] at h; exact ⟨jK, h⟩
theorem Bx {M M' : Mem} (h : M.le M') {a : Addr} : ∀ (n i : Nat) (vs : List Value), M.gp a i n = some vs → M'.gp a i n = some vs
 | 0, i, vs, hv => hv
 | n + 1, i, vs, hv => by
  simp only [Mem.gp] at hv ⊢
  cases hx : M.ld (a.add i) with
  | none => simp [hx] at hv
  | some v =>
   rw [Mem.HO h hx]
   simp only [hx] at hv
   cases hr : M.gp a (i + 1) n with
   | none => simp [hr] at hv
   | some rest => rw [Bx h n (i + 1) rest hr]; rw [hr] at hv; exact hv
theorem By {P : Program} {t : TypeId} {x : Value} {M : Mem} {K : Value → (Mem → Prop) → Prop} (h : Dl P t x M K) :
  ∃ v p, (∀ M', p M' → bE P (Instr.loadAt t x) M' = some v) ∧ p M ∧ uC p ∧ K v p := by
 unfold Dl at h
 cases x <;> try exact h.elim
 rename_i p
 obtain ⟨b, o, hp, h2⟩ := ie h
 subst hp
 clear h
 cases hd : P.underlying t with
 | none => rw [hd] at h2; exact h2.elim
 | some d =>
  rw [hd] at h2
  have agg : tC d = true → (if (flat P 8 t).length = P.cellsOf t then C6 M ⟨b, o, none⟩ (flat P 8 t) 0 fun vs => K (.agg vs.toArray) (fun M' => M'.gp ⟨b, o, none⟩ 0 (P.cellsOf t) = some vs) else False) →
    ∃ v p, (∀ M', p M' → bE P (Instr.loadAt t (.pointer (some ⟨b, o, none⟩))) M' = some v) ∧ p M ∧ uC p ∧ K v p := by
   intro ei h
   split at h
   ·rename_i hl
    obtain ⟨vs, hvs, h⟩ := tD h
    rw [hl] at hvs
    exact ⟨_, _, fun M' hm => nm hd ei rfl hm, hvs, fun M1 M2 hle h1 => Bx hle _ _ _ h1, h⟩
   ·exact h.elim
  cases d with
  | struct fs => exact agg rfl h2
  | array m e => exact agg rfl h2
  | _ => (obtain ⟨v, hv, h⟩ := nk h2; exact ⟨v, _, fun M' hm => uz hd rfl hm, hv, fun M1 M2 hle h1 => Mem.HO hle h1, h⟩)
theorem Dp {P : Program} {ρ : Operand → Value} {o : Oper} {M : Mem} {K : Value → (Mem → Prop) → Prop} (h : yI P ρ o M K) :
  cls P o = .read ∧ ∃ v p, (∀ M', p M' → bE P (execOp ρ o) M' = some (.value v)) ∧ p M ∧ uC p ∧ K v p := by
 unfold yI at h
 split at h
 ·rename_i t a ho
  obtain ⟨v, p, h1, h2, h3, h4⟩ := By h
  obtain ⟨dst, op, type, pos, after, guard⟩ := o
  simp only at ho; subst ho
  exact ⟨rfl, v, p, fun M' hp => fF (h1 M' hp), h2, h3, h4⟩
 ·exact h.elim
theorem Bz {o : Oper} {env : Nat → Value} (h : Dm C.P (nf env) o) : EU C.P ops env o := by
 intro _
 unfold Dm at h
 split at h
 ·rename_i t len parts ho
  split at h
  ·rename_i e hu
   split at h
   ·rename_i i hi
    split at h
    ·rename_i z hz
     split at h
     ·rename_i hc
      split at h
      ·rename_i cs hcs
       have hb : H9 C.P (nf env) o Mem.empty (fun _ _ => True) := by
        unfold H9; rw [ho]; simp only
        unfold Lm; rw [hu]; simp only
        rw [hi]; simp only
        rw [hz]; simp only
        rw [if_pos hc, hcs]
        exact fun _ _ => trivial
       obtain ⟨ob, k, hn, hk⟩ := ET hb
       exact ⟨ob, k, hn, fun b => let ⟨v, hv, _⟩ := hk b rfl; ⟨v, hv⟩⟩
      ·exact h.elim
     ·exact h.elim
    ·exact h.elim
   ·exact h.elim
  ·exact h.elim
 ·rename_i e ho
  obtain ⟨dst, op, type, pos, after, guard⟩ := o
  simp only at ho; subst ho
  split at h
  ·rename_i z hz
   unfold zeroOf at hz
   cases hi : C.P.info? e with
   | none => simp [hi] at hz
   | some i =>
    simp only [hi, Option.bind_some] at hz
    refine ⟨.cells z.cells e, fun b => pure (Next.value (.pointer (some ⟨b, 0, none⟩))), ?_, fun b => ⟨_, rfl⟩⟩
    simp only [execOp]
    rw [Bp C.P (Instr.alloc e true (.tuple #[])) _ (ob := .cells z.cells e) (k := fun b => pure (.pointer (some ⟨b, 0, none⟩))) (by
     unfold Instr.alloc
     rw [zM C.P _ _ (ES hi hz)]
     rfl)]
    rfl
  ·exact h.elim
 ·rename_i e x ho
  obtain ⟨dst, op, type, pos, after, guard⟩ := o
  simp only at ho; subst ho
  exact ⟨.cells (nf env x).cells e, fun b => pure (Next.value (.pointer (some ⟨b, 0, none⟩))), rfl, fun b => ⟨_, rfl⟩⟩
 ·exact h.elim
theorem iU {env : Nat → Value} {L i : Nat} : ∀ {l : List Nat} {X : Prop}, oQ C ops env L i l X → X ∧ ∀ j ∈ l, j ≠ i → eP ops L j = true → ∀ oj, ops[j]? = some oj → EU C.P ops env oj
 | [], X, h => ⟨h, fun j hj => by cases hj⟩
 | j :: l, X, h => by
  unfold oQ at h
  cases hb : (Nat.beq j i || !eP ops L j) with
  | true =>
   rw [hb] at h
   obtain ⟨h1, h2⟩ := iU (l := l) h
   refine ⟨h1, fun k hk C2 hr oj ij => ?_⟩
   rcases List.mem_cons.1 hk with rfl | hk
   ·simp only [Bool.or_eq_true, Bool.not_eq_true', hr] at hb
    rcases hb with hb | hb
    ·exact absurd (Nat.eq_of_beq_eq_true hb) C2
    ·cases hb
   ·exact h2 k hk C2 hr oj ij
  | false =>
   rw [hb] at h
   simp only [cond_false] at h
   cases ho : ops[j]? with
   | none =>
    rw [ho] at h
    obtain ⟨h1, h2⟩ := iU (l := l) h
    refine ⟨h1, fun k hk C2 hr oj ij => ?_⟩
    rcases List.mem_cons.1 hk with rfl | hk
    ·rw [ho] at ij; cases ij
    ·exact h2 k hk C2 hr oj ij
   | some o =>
    rw [ho] at h
    obtain ⟨h0, h⟩ := h
    obtain ⟨h1, h2⟩ := iU (l := l) h
    refine ⟨h1, fun k hk C2 hr oj ij => ?_⟩
    rcases List.mem_cons.1 hk with rfl | hk
    ·rw [ho] at ij; cases ij; exact Bz h0
    ·exact h2 k hk C2 hr oj ij
theorem yJ {i : Nat} {o : Oper} (ho : ops[i]? = some o) (hsel : ∀ (j : Nat) (o : Oper) cs b, ops[j]? = some o → o.op ≠ .select cs b) {ej : List Nat} (ha : mA ops ej = true) {S : Mem → Prop} {Kp : List PanicEntry → Mem → Prop} :
  ∀ (f L : Nat) (env : Nat → Value) (M : Mem), S M → Dn ops L → ny ops ej L i = true → eP ops L i = true → bJ ops o env = false →
   cW C ops S K Kp f (L ||| 2 ^ i) (aX env o.dst undef) M → cW C ops S K Kp (f + 1) L env M
 | 0, L, env, M, jK, hd, hf, hr, hw, hx => fun eA => by
  refine ⟨fun hno => (by rw [hno i] at hr; cases hr), fun j hj => ?_⟩
  by_cases iH : j = i
  ·subst iH; unfold fD; rw [ho]; exact jV hw ⟨jK, hx⟩
  ·have hj' := e8 (i := i) hj iH
   have := (hx eA).1 j; rw [this] at hj'; cases hj'
 | f + 1, L, env, M, jK, hd, hf, hr, hw, hx => fun eA => by
  obtain ⟨hL, o1, ho1, fJ⟩ := bD.1 hr
  rw [ho] at ho1; cases ho1
  refine ⟨fun hno => (by rw [hno i] at hr; cases hr), fun j hj => ?_⟩
  by_cases iH : j = i
  ·subst iH; unfold fD; rw [ho]; exact jV hw ⟨jK, hx⟩
  ·obtain ⟨F4, oj, ij, hallj⟩ := bD.1 hj
   have hap := Bv ho ha hd hf hr hj ij iH
   obtain ⟨a1, a2, a3⟩ := Oper.apart_spec hap
   have hj' := e8 (i := i) hj iH
   have hH := (hx eA).2 j hj'
   unfold fD at hH ⊢; rw [ij] at hH ⊢; simp only at hH ⊢
   rw [rL L i j] at hH
   have h2 := nw hap (fun cs b => hsel j oj cs b ij) hH
   have fin : ∀ u M1, S M1 ∧ cW C ops S K Kp f (L ||| 2 ^ j ||| 2 ^ i) (aX (aX env oj.dst u) o.dst undef) M1 →
     S M1 ∧ cW C ops S K Kp (f + 1) (L ||| 2 ^ j) (aX env oj.dst u) M1 := fun u M1 hy =>
    ⟨hy.1, yJ ho hsel ha f (L ||| 2 ^ j) (aX env oj.dst u) M1 hy.1 (hd.add hj) (we ho hf) (e8 hr (Ne.symm iH)) ((dP o env oj.dst u a3).trans hw) hy.2⟩
   unfold dL at h2 ⊢
   split
   ·rename_i Ie; rw [if_pos Ie] at h2; exact kP h2 fun u M1 hy => fin u M1 hy
   ·rename_i Ie; rw [if_neg Ie] at h2; exact fin _ _ h2
theorem Dq (hC : C.Good) (hsel : ∀ (j : Nat) (o : Oper) cs b, ops[j]? = some o → o.op ≠ .select cs b) {ej : List Nat} (ha : mA ops ej = true) (t : Ex) :
  ∀ (Ss : List (Mem → Prop)), uC (ju Ss) →
  (∀ (L : Nat) (env : Nat → Value) (M : Mem), ju Ss M → Dn ops L → qn C ops ej K Kp t Ss L 0 env M → cW C ops (ju Ss) K (tH Kp) (vz ops.size L) L env M) ∧
  (∀ (L rM : Nat) (env : Nat → Value) (M : Mem) (f : Nat), ju Ss M → vz ops.size L = f + 1 → rK M → Dn ops L → qn C ops ej K Kp t Ss L rM env M → rM ≠ 0 →
   ∀ i, eP ops L i = true → rM.testBit i = false → fD C ops (tH Kp) i env M fun env' M' => ju Ss M' ∧ cW C ops (ju Ss) K (tH Kp) f (L ||| 2 ^ i) env' M') := by
 have kp : ∀ c M', Kp c M' → tH Kp c M' := fun c M' h => ⟨M', fun _ _ h => h, h⟩
 have both : ∀ (t : Ex) (Ss : List (Mem → Prop)), (∀ (L : Nat) (rM : Nat) (env : Nat → Value) (M : Mem), ju Ss M → Dn ops L → qn C ops ej K Kp t Ss L rM env M → cW C ops (ju Ss) K (tH Kp) (vz ops.size L) L env M) →
   (∀ (L : Nat) (env : Nat → Value) (M : Mem), ju Ss M → Dn ops L → qn C ops ej K Kp t Ss L 0 env M → cW C ops (ju Ss) K (tH Kp) (vz ops.size L) L env M) ∧
   (∀ (L rM : Nat) (env : Nat → Value) (M : Mem) (f : Nat), ju Ss M → vz ops.size L = f + 1 → rK M → Dn ops L → qn C ops ej K Kp t Ss L rM env M → rM ≠ 0 →
    ∀ i, eP ops L i = true → rM.testBit i = false → fD C ops (tH Kp) i env M fun env' M' => ju Ss M' ∧ cW C ops (ju Ss) K (tH Kp) f (L ||| 2 ^ i) env' M') := fun t Ss h =>
  ⟨fun L env M => h L 0 env M, fun L rM env M f jK Ij eA hd ht _ j hj _ => by
   have hh := h L rM env M jK hd ht
   rw [Ij] at hh
   exact (hh eA).2 j hj⟩
 induction t with
 | done =>
  intro Ss hS
  refine ⟨fun L env M jK hd h => ?_, fun L rM env M f _ _ _ hd h SC i hi RJ => ?_⟩
  ·obtain ⟨h1, h2⟩ := cond_true h
   refine F8 (fun i => ?_) h2 _
   cases hr : eP ops L i with
   | false => rfl
   | true => have := jv h1 i hr; simp at this
  ·obtain ⟨h1, h2⟩ := cond_true h
   have := jv h1 i hi; simp at this
 | step i t ih =>
  intro Ss hS
  refine both _ _ fun L rM env M jK hd h => ?_
  obtain ⟨h1, h2⟩ := cond_true h
  simp only [Bool.and_eq_true] at h1
  obtain ⟨hr, hf⟩ := h1
  obtain ⟨hL, o, ho, fJ⟩ := bD.1 hr
  rw [ho] at h2; simp only at h2
  rw [jW (Array.getElem?_eq_some_iff.1 ho).1 hL]
  refine Dj hS ho hsel ha _ L env M jK hd hf hr ?_
  unfold fD; rw [ho]; simp only
  exact ig (vA (nA hS jK (gM hC h2)) kp) fun env' M' hx => ⟨hx.1, (ih Ss hS).1 _ env' M' hx.1 (hd.add hr) hx.2⟩
 | fT i t ih =>
  intro Ss hS
  refine both _ _ fun L rM env M jK hd h => ?_
  obtain ⟨h1, h2⟩ := cond_true h
  simp only [Bool.and_eq_true] at h1
  obtain ⟨hr, hf⟩ := h1
  obtain ⟨hL, o, ho, fJ⟩ := bD.1 hr
  rw [ho] at h2; simp only at h2
  rw [jW (Array.getElem?_eq_some_iff.1 ho).1 hL]
  have yes : bJ ops o env = true → yI C.P (nf env) o M (fun v p => qn C ops ej K Kp t ([p] ++ Ss) (L ||| 2 ^ i) 0 (aX env o.dst v) M) →
    cW C ops (ju Ss) K (tH Kp) (vz ops.size (L ||| 2 ^ i) + 1) L env M := fun hw hp => by
   obtain ⟨hc, v, p, p1, p2, p3, p4⟩ := Dp hp
   have hS' : uC (ju ([p] ++ Ss)) := fun M1 M2 hle hx s hs => by
    rcases List.mem_cons.1 hs with rfl | hs
    ·exact p3 _ _ hle (hx _ (List.mem_cons_self ..))
    ·exact hS M1 M2 hle (fun s hs => hx s (List.mem_cons_of_mem _ hs)) s hs
   have VQ : ju ([p] ++ Ss) M := fun s hs => by
    rcases List.mem_cons.1 hs with rfl | hs
    ·exact p2
    ·exact jK s hs
   refine F5 ho hsel ha hc (s := execOp (nf env) o) (v := v) _ L env M hd hf hr hw rfl (p1 M p2) jK ?_
   refine F9 (fun M' hx => ?_) _ _ _ _ ((ih _ hS').1 _ _ M VQ (hd.add hr) p4)
   exact ⟨fun s hs => hx s (List.mem_cons_of_mem _ hs), p1 M' (hx p (List.mem_cons_self ..))⟩
  have no : bJ ops o env = false → qn C ops ej K Kp t ([] ++ Ss) (L ||| 2 ^ i) 0 (aX env o.dst undef) M →
    cW C ops (ju Ss) K (tH Kp) (vz ops.size (L ||| 2 ^ i) + 1) L env M := fun hw hp =>
   yJ ho hsel ha _ L env M jK hd hf hr hw ((ih Ss hS).1 _ _ M jK (hd.add hr) hp)
  unfold NY at h2
  cases hg : o.guard with
  | none => rw [hg] at h2; exact yes (rH hg) h2
  | some jw =>
   obtain ⟨j, want⟩ := jw
   rw [hg] at h2
   simp only at h2
   cases hs : kO ops j with
   | none => rw [hs] at h2; exact no (vZ hg hs) h2
   | some s =>
    rw [hs] at h2
    simp only at h2
    cases he : env s <;> rw [he] at h2 <;> simp only at h2
    case bool e =>
     have hw := rJ hg hs he
     cases e
     ·rw [kQ he] at h2
      cases want <;> simp only [aO] at h2
      ·exact yes hw h2
      ·exact no hw h2
     ·rw [kQ he] at h2
      cases want <;> simp only [aO] at h2
      ·exact no hw h2
      ·exact yes hw h2
    all_goals exact no (qg hg hs (by simp [he])) h2
 | late i t ih =>
  intro Ss hS
  refine both _ _ fun L rM env M jK hd h => ?_
  obtain ⟨h1, h2⟩ := cond_true h
  simp only [Bool.and_eq_true] at h1
  obtain ⟨hr, hl⟩ := h1
  obtain ⟨hL, o, ho, fJ⟩ := bD.1 hr
  rw [ho] at h2; simp only at h2
  obtain ⟨he, h2⟩ := cond_true h2
  have hce : cls C.P o = .FX := by unfold Bw at he; cases hc : cls C.P o <;> rw [hc] at he <;> simp at he
  obtain ⟨h3, h4⟩ := iU h2
  have hc := jW (n := ops.size) (Array.getElem?_eq_some_iff.1 ho).1 hL
  rw [hc]
  refine F7 hS (Lv Kp) ho hce hsel ha _ L env M hc jK hd hl hr (fun j oj hj ij iH => h4 j (List.mem_range.2 (Array.getElem?_eq_some_iff.1 ij).1) iH hj oj ij) ?_
  unfold fD; rw [ho]; simp only
  exact ig (vA (gM hC h3) kp) fun env' M' hx => ⟨(jh.1 hx).1, (ih Ss hS).1 _ env' M' (jh.1 hx).1 (hd.add hr) (jh.1 hx).2⟩
 | fork i a b iha ihb =>
  intro Ss hS
  refine ⟨fun L env M jK hd h => ?_, fun L rM env M f jK Ij eA hd h SC j hj AT => ?_⟩
  ·obtain ⟨hr, h2⟩ := cond_true h
   obtain ⟨hL, o, ho, fJ⟩ := bD.1 hr
   rw [ho] at h2; simp only at h2
   have hc := jW (n := ops.size) (Array.getElem?_eq_some_iff.1 ho).1 hL
   rw [hc]
   refine fun eA => ⟨fun hno => (by rw [hno i] at hr; cases hr), fun j hj => ?_⟩
   by_cases iH : j = i
   ·subst iH
    unfold fD; rw [ho]; simp only
    exact ig (vA (nA hS jK (gM hC h2.1)) kp) fun env' M' hx => ⟨hx.1, (iha Ss hS).1 _ env' M' hx.1 (hd.add hr) hx.2⟩
   ·exact (ihb Ss hS).2 L (0 ||| 2 ^ i) env M (vz ops.size (L ||| 2 ^ i)) jK hc eA hd h2.2 (by simp) j hj (by rw [dG]; simp [Ne.symm iH])
  ·obtain ⟨hr, h2⟩ := cond_true h
   obtain ⟨hL, o, ho, fJ⟩ := bD.1 hr
   rw [ho] at h2; simp only at h2
   have hc := jW (n := ops.size) (Array.getElem?_eq_some_iff.1 ho).1 hL
   by_cases iH : j = i
   ·subst iH
    unfold fD; rw [ho]; simp only
    have hf : f = vz ops.size (L ||| 2 ^ j) := by omega
    subst hf
    exact ig (vA (nA hS jK (gM hC h2.1)) kp) fun env' M' hx => ⟨hx.1, (iha Ss hS).1 _ env' M' hx.1 (hd.add hr) hx.2⟩
   ·exact (ihb Ss hS).2 L (rM ||| 2 ^ i) env M f jK Ij eA hd h2.2 (by intro h0; have := dG rM i i; rw [h0] at this; simp at this) j hj (by rw [dG, AT]; simp [Ne.symm iH])
 | dead =>
  intro Ss hS
  refine ⟨fun L env M jK hd h => ?_, fun L rM env M f _ _ _ hd h SC i hi RJ => ?_⟩
  ·obtain ⟨h1, _⟩ := cond_true h
   simp at h1
  ·obtain ⟨h1, _⟩ := cond_true h
   simp only [Bool.and_eq_true] at h1
   have := jv h1.1 i hi; rw [RJ] at this; cases this
theorem uE {P : Program} {a : Act} {o : Oper} {M F : Mem} {w : World} {K : Value → Mem → Prop} {Kp : List PanicEntry → Mem → Prop} {next : Act → World → Prop} {Q : Exit → Act → World → Prop}
  (h : dc P (execOp a.eval o) M (kN P K Kp) (fun v M' => Kp [{ v, recovered := false }] M')) (hd : M.dj F) (hi : (M.union F).In E w)
  (hn : ∀ v w', fx E F (K v) w' → next (a.put o.dst v) w') (hp : ∀ c w', fx E F (Kp c) w' → Q (.panic c) a w') : o.wp P a w next Q := by
 have hr := FO P _ h hd hi
 unfold ia at hr
 unfold Oper.wp
 split at hr
 ·rename_i n w' hrun
  rw [hrun]
  obtain ⟨M', hk, hd', hi'⟩ := hr
  cases n <;> first | exact hk.elim | skip
  ·exact hn _ _ ⟨M', hk, hd', hi'⟩
  ·exact hn _ _ ⟨M', hk, hd', hi'⟩
  ·rename_i f args
   refine (hk E F w' hd' hi').mono fun e w'' he => ?_
   cases e with
   | returned v => exact hn _ _ he
   | panicked c => exact hp _ _ he
   | outgrown => exact he.elim
 ·rename_i v w' hrun
  rw [hrun]
  exact hp _ _ hr
 ·exact hr.elim
theorem rN {N : Nat} {env : Nat → Value} {a : Act} (ei : dB N env a.tmps) (hfit : ∀ o ∈ ops.toList, lO N o = true) (o : Oper) :
  Region.wanted o (yielded ops a.tmps) = bJ ops o env := by
 unfold Region.wanted bJ
 cases hg : o.guard with
 | none => rfl
 | some jw =>
  obtain ⟨j, want⟩ := jw
  simp only
  have hy : yielded ops a.tmps j = match (kO ops j).map env with | some (.bool b) => some b | _ => none := by
   unfold yielded kO
   cases hj : ops[j]? with
   | none => rfl
   | some oj =>
    simp only [Option.bind_some]
    cases hd : oj.dst with
    | none => rfl
    | some s =>
     have hm : oj ∈ ops.toList := by have := Array.mem_of_getElem? hj; simpa using this
     have hs := (fI (hfit oj hm)).2.1 s hd
     simp only [Option.bind_some, ei.2 s hs, Option.map_some]
     cases env s <;> rfl
  rw [hy]
  cases (kO ops j).map env with
  | none => rfl
  | some v => cases v <;> first | rfl | (cases want <;> rename_i b <;> cases b <;> rfl)
structure Post (E : qi) (N : Nat) (Z : Act → Prop) (F : Mem) (K : (Nat → Value) → Mem → Prop) (Kp : List PanicEntry → Mem → Prop) (Q : Exit → Act → World → Prop) : Prop where
 normal : ∀ env M a w, dB N env a.tmps → Z a → M.dj F → (M.union F).In E w → K env M → Q .normal a w
 panic : ∀ c a w, Z a → fx E F (Kp c) w → Q (.panic c) a w
theorem put_defers {a : Act} {dst : Option Tmp} {v : Value} : (a.put dst v).defers = a.defers := by cases dst <;> rfl
theorem zQ {N : Nat} {Z : Act → Prop} {F : Mem} {Q : Exit → Act → World → Prop} (hz : ∀ o ∈ ops.toList, ∀ (a : Act) (v : Value), Z a → Z (a.put o.dst v)) (hfit : ∀ o ∈ ops.toList, lO N o = true)
  (hp : ∀ c a w, Z a → fx E F (Kp c) w → Q (.panic c) a w) {i : Nat} {env : Nat → Value} {M : Mem} {a : Act} {w : World} {K' : (Nat → Value) → Mem → Prop} {next : Act → World → Prop}
  (ei : dB N env a.tmps) (hds : Z a) (hd : M.dj F) (hi : (M.union F).In E w)
  (hn : ∀ env' M' a' w', dB N env' a'.tmps → Z a' → M'.dj F → (M'.union F).In E w' → K' env' M' → next a' w') (h : fD C ops Kp i env M K') : wpOp C.P ops Q i next a w := by
 unfold wpOp
 unfold fD at h
 cases ho : ops[i]? with
 | none => rw [ho] at h; exact hn _ _ _ _ ei hds hd hi h
 | some o =>
  rw [ho] at h
  simp only at h
  have hm : o ∈ ops.toList := by have := Array.mem_of_getElem? ho; simpa using this
  have hf := hfit o hm
  simp only
  rw [rN ei hfit]
  unfold dL at h
  split
  ·rename_i hw
   rw [if_pos hw] at h
   refine .inl (uE (K := fun v M' => K' (aX env o.dst v) M') (Kp := Kp) (F := F) (by rw [← ei.execOp hf]; exact vY h) hd hi (fun v w' hv => ?_) (fun c w' hc => hp _ _ _ hds hc))
   obtain ⟨M', hk, hd', hi'⟩ := hv
   exact hn _ _ _ _ (ei.put (fI hf).2.1 v) (hz o hm _ _ hds) hd' hi' hk
  ·rename_i hw
   rw [if_neg hw] at h
   exact hn _ _ _ _ (ei.put (fI hf).2.1 undef) (hz o hm _ _ hds) hd hi h
def nB (ops : Array Oper) (arr : Array Bool) (L : Nat) : Prop := arr.size = ops.size ∧ ∀ i, i < ops.size → arr[i]? = some (L.testBit i)
theorem nB.add {arr : Array Bool} {L i : Nat} (h : nB ops arr L) (hi : i < ops.size) : nB ops (arr.setIfInBounds i true) (L ||| 2 ^ i) := by
 refine ⟨by simp [h.1], fun k hk => ?_⟩
 by_cases C2 : i = k
 ·subst C2; simp [h.1, hi]
 ·rw [Array.getElem?_setIfInBounds_ne C2, h.2 k hk, dG]; simp [C2]
theorem tI {arr : Array Bool} {L : Nat} (h : nB ops arr L) (uF : ∀ (j : Nat) (o : Oper), ops[j]? = some o → ∀ e ∈ o.after, Region.binds .any e = true → e.on < ops.size) (i : Nat) :
  i ∈ Region.ready .any ops arr ↔ eP ops L i = true := by
 rw [mem_ready, bD]
 constructor
 ·rintro ⟨h0, o, ho, fJ⟩
  have hlt := (Array.getElem?_eq_some_iff.1 ho).1
  refine ⟨?_, o, ho, fun e he hb => ?_⟩
  ·have := h.2 i hlt; simp [Array.getD_eq_getD_getElem?, this] at h0; exact h0
  ·have h1 := fJ e he hb
   have := h.2 e.on (uF i o ho e he hb)
   simpa [Array.getD_eq_getD_getElem?, this] using h1
 ·rintro ⟨h0, o, ho, fJ⟩
  have hlt := (Array.getElem?_eq_some_iff.1 ho).1
  refine ⟨by simp [Array.getD_eq_getD_getElem?, h.2 i hlt, h0], o, ho, fun e he hb => ?_⟩
  have := h.2 e.on (uF i o ho e he hb)
  simp [Array.getD_eq_getD_getElem?, this, fJ e he hb]
theorem xV {S : Mem → Prop} {N : Nat} {Z : Act → Prop} {F : Mem} {Q : Exit → Act → World → Prop} (hz : ∀ o ∈ ops.toList, ∀ (a : Act) (v : Value), Z a → Z (a.put o.dst v)) (hfit : ∀ o ∈ ops.toList, lO N o = true)
  (uF : ∀ (j : Nat) (o : Oper), ops[j]? = some o → ∀ e ∈ o.after, Region.binds .any e = true → e.on < ops.size) (hpost : Post E N Z F K Kp Q) :
  ∀ (f L : Nat) (arr : Array Bool) (env : Nat → Value) (M : Mem) (a : Act) (w : World), nB ops arr L → dB N env a.tmps → Z a → M.dj F → (M.union F).In E w →
   cW C ops S K (tH Kp) f L env M → wpAny C.P .any ops Q f arr a w := by
 intro f
 induction f with
 | zero =>
  intro L arr env M a w hl ei hds hd hi h
  have eA : rK M := ⟨w.heap.size, fun b hb => by
   cases hm : M b with
   | none => rfl
   | some o => have := hi.lt (Mem.union_left (F := F) hm); omega⟩
  obtain ⟨h1, h2⟩ := h eA
  refine ⟨?_, hpost.normal _ _ _ _ ei hds hd hi h2⟩
  rw [List.eq_nil_iff_forall_not_mem]
  intro i hmem
  have := (tI hl uF i).1 hmem
  rw [h1 i] at this; cases this
 | succ f ih =>
  intro L arr env M a w hl ei hds hd hi h
  have eA : rK M := ⟨w.heap.size, fun b hb => by
   cases hm : M b with
   | none => rfl
   | some o => have := hi.lt (Mem.union_left (F := F) hm); omega⟩
  obtain ⟨h1, h2⟩ := h eA
  refine ⟨fun Lw => ?_, fun i hmem => ?_⟩
  ·refine hpost.normal _ _ _ _ ei hds hd hi (h1 fun i => ?_)
   cases hr : eP ops L i with
   | false => rfl
   | true => have := (tI hl uF i).2 hr; rw [Lw] at this; cases this
  ·have hr := (tI hl uF i).1 hmem
   obtain ⟨_, o, ho, _⟩ := bD.1 hr
   exact zQ hz hfit (fun c a w h1 h2 => hpost.panic c a w h1 h2.up) ei hds hd hi (fun env' M' a' w' g1 g2 g3 g4 g5 => ih _ _ _ _ _ _ (hl.add (Array.getElem?_eq_some_iff.1 ho).1) g1 g2 g3 g4 g5.2) (h2 i hr)
def O3 (C : Ctx) (ops : Array Oper) (K : (Nat → Value) → Mem → Prop) (Kp : List PanicEntry → Mem → Prop) : List Oper → (Nat → Value) → Mem → Prop
 | [], env, M => K env M
 | o :: rest, env, M => F2 C ops o env M (fun env' M' => O3 C ops K Kp rest env' M') Kp
end
end Go.AF
