/- A part of proofs about one program. -/
import Derived.Test.YtfjgcljdnhkmaaaZWorldSleepsRegL
set_option linter.unusedVariables false
namespace Go.AF
variable {E : mb}
inductive Ex where
 | done
 | step (i : Nat) (t : Ex)
 | lz (i : Nat) (t : Ex)
 | late (i : Nat) (t : Ex)
 | fork (i : Nat) (a b : Ex)
 | dead
def ox (ops : Array Oper) (L nm : Nat) : Bool := (List.range ops.size).all fun i => !dc ops L i || nm.testBit i
def sN : List (Mem → Prop) → Mem → Prop → Prop
 | [], _, X => X
 | s :: l, M, X => s M ∧ sN l M X
def gz (l : List (Mem → Prop)) (M : Mem) : Prop := ∀ s ∈ l, s M
theorem gl : ∀ {l : List (Mem → Prop)} {M : Mem} {X : Prop}, sN l M X ↔ gz l M ∧ X
 | [], M, X => by simp [sN, gz]
 | s :: l, M, X => by
  simp only [sN, gl (l := l), gz, List.mem_cons, forall_eq_or_imp]
  constructor
  ·rintro ⟨a, b, c⟩; exact ⟨⟨a, b⟩, c⟩
  ·rintro ⟨⟨a, b⟩, c⟩; exact ⟨a, b, c⟩
def w8 (P : Program) (t : TypeId) (x : Value) (M : Mem) (K : Value → (Mem → Prop) → Prop) : Prop :=
 match x with
 | .pointer p => aB p fun b o =>
  match P.underlying t with
  | some (.struct _) | some (.array _ _) =>
   if (flat P 8 t).length = P.cellsOf t then
    wL M ⟨b, o, none⟩ (flat P 8 t) 0 fun vs => K (.agg vs.toArray) (fun M' => M'.gr ⟨b, o, none⟩ 0 (P.cellsOf t) = some vs)
   else False
  | some d => uR (F9 d) (M.ld ⟨b, o, none⟩) fun v => K v (fun M' => M'.ld ⟨b, o, none⟩ = some v)
  | none => False
 | _ => False
def sO (P : Program) (ρ : Operand → Value) (o : Oper) (M : Mem) (K : Value → (Mem → Prop) → Prop) : Prop :=
 match o.op with
 | .load t a => w8 P t (ρ a) M K
 | _ => False
def DX (C : Ctx) (ops : Array Oper) (o : Oper) (env : Nat → Value) (M : Mem) (K : (Nat → Value) → List (Mem → Prop) → Prop) : Prop :=
 match o.guard with
 | none => sO C.P (jL env) o M (fun v p => K (aL env o.dst v) [p])
 | some (j, want) => match ig ops j with
  | some s => match env s with
   | .bool e => match want with
    | true => aX e (sO C.P (jL (aL env (some s) (.bool true))) o M (fun v p => K (aL (aL env (some s) (.bool true)) o.dst v) [p])) (K (aL (aL env (some s) (.bool false)) o.dst undef) [])
    | false => aX e (K (aL (aL env (some s) (.bool true)) o.dst undef) []) (sO C.P (jL (aL env (some s) (.bool false))) o M (fun v p => K (aL (aL env (some s) (.bool false)) o.dst v) [p]))
   | _ => K (aL env o.dst undef) []
  | none => K (aL env o.dst undef) []
def w9 (P : Program) (ρ : Operand → Value) (o : Oper) : Prop :=
 match o.op with
 | .buildSlice t len parts => match P.underlying t with
  | some (.slice e) => match P.info? e with
   | some i => match i.zero with
    | some z => if z.cells.toList.length = i.size ∧ len * i.size ≤ 16777216 then
      (match qp (fun k => some (k * i.size, i.size)) (List.replicate len z.cells.toList).flatten (parts.toList.map fun p => (p.1, ρ p.2)) with
      | some _ => True
      | none => False) else False
    | none => False
   | none => False
  | _ => False
 | .alloc e => match zeroOf P e with
  | some _ => True
  | none => False
 | .box _ _ => True
 | _ => False
def kT (C : Ctx) (ops : Array Oper) (env : Nat → Value) (L i : Nat) : List Nat → Prop → Prop
 | [], X => X
 | j :: l, X => bif Nat.beq j i || !dc ops L j then kT C ops env L i l X else
   (match ops[j]? with
   | some o => w9 C.P (jL env) o ∧ kT C ops env L i l X
   | none => kT C ops env L i l X)
def vf (P : Program) (o : Oper) : Bool := match cls P o with
 | .zd => true
 | _ => false
def behind (C : Ctx) (o : Oper) (Ss : List (Mem → Prop)) (M : Mem) (X : Prop) : Prop := bif vf C.P o then sN Ss M X else X
def mm (C : Ctx) (ops : Array Oper) (cV : List Nat) (K : (Nat → Value) → Mem → Prop) (Kp : List PanicEntry → Mem → Prop) : Ex → List (Mem → Prop) → Nat → Nat → (Nat → Value) → Mem → Prop
 | .done, _, L, _, env, M => bif ox ops L 0 then K env M else False
 | .step i t, Ss, L, _, env, M => bif dc ops L i && qy C.P ops cV L i then
   (match ops[i]? with
   | some o => zi C ops o env M (fun env' M' => behind C o Ss M' (mm C ops cV K Kp t Ss (L ||| 2 ^ i) 0 env' M')) Kp
   | none => False) else False
 | .lz i t, Ss, L, _, env, M => bif dc ops L i && jW ops cV L i then
   (match ops[i]? with
   | some o => DX C ops o env M (fun env' p => mm C ops cV K Kp t (p ++ Ss) (L ||| 2 ^ i) 0 env' M)
   | none => False) else False
 | .late i t, Ss, L, _, env, M => bif dc ops L i && o6 C.P ops cV L i then
   (match ops[i]? with
   | some o => bif vf C.P o then kT C ops env L i (List.range ops.size) (zi C ops o env M (fun env' M' => sN Ss M' (mm C ops cV K Kp t Ss (L ||| 2 ^ i) 0 env' M')) Kp) else False
   | none => False) else False
 | .fork i a b, Ss, L, nm, env, M => bif dc ops L i then
   (match ops[i]? with
   | some o => zi C ops o env M (fun env' M' => behind C o Ss M' (mm C ops cV K Kp a Ss (L ||| 2 ^ i) 0 env' M')) Kp ∧ mm C ops cV K Kp b Ss L (nm ||| 2 ^ i) env M
   | none => False) else False
 | .dead, _, L, nm, _, _ => bif ox ops L nm && !Nat.beq nm 0 then True else False
def oy (Kp : List PanicEntry → Mem → Prop) : List PanicEntry → Mem → Prop := fun c M => ∃ M1, M1.le M ∧ Kp c M1
theorem CN (Kp : List PanicEntry → Mem → Prop) : EO (oy Kp) := fun _ _ _ hle ⟨M1, h1, h2⟩ => ⟨M1, fun b o h => hle b o (h1 b o h), h2⟩
theorem ee.up {F : Mem} {Kp : List PanicEntry → Mem → Prop} {c : List PanicEntry} {w : World} (h : ee E F (oy Kp c) w) : ee E F (Kp c) w := by
 obtain ⟨M, ⟨M1, hle, hk⟩, hd, hi⟩ := h
 refine ⟨M1, hk, fun b => ?_, ⟨fun b o hb => ?_, hi.2⟩⟩
 ·rcases hd b with h | h
  ·left; cases hm : M1 b with
   | none => rfl
   | some o => rw [hle b o hm] at h; cases h
  ·exact .inr h
 ·unfold Mem.union at hb
  cases hm : M1 b with
  | some o' => rw [hm] at hb; cases hb; exact hi.1 b o (Mem.union_left (hle b o hm))
  | none =>
   rw [hm] at hb
   refine hi.1 b o ?_
   unfold Mem.union
   rcases hd b with h | h
   ·rw [h]; exact hb
   ·rw [h] at hb; cases hb
section
variable {C : Ctx} {ops : Array Oper} {K : (Nat → Value) → Mem → Prop} {Kp : List PanicEntry → Mem → Prop}
theorem gA {L nm : Nat} (h : ox ops L nm = true) (i : Nat) (hi : dc ops L i = true) : nm.testBit i = true := by
 obtain ⟨_, o, ho, _⟩ := aU.1 hi
 have := List.all_eq_true.1 h i (List.mem_range.2 (Array.getElem?_eq_some_iff.1 ho).1)
 simpa [hi] using this
theorem zo {S : Mem → Prop} {L : Nat} {env : Nat → Value} {M : Mem} (h : ∀ i, dc ops L i = false) (hk : K env M) : ∀ f, b6 C ops S K Kp f L env M
 | 0 => fun _ => ⟨h, hk⟩
 | f + 1 => fun _ => ⟨fun _ => hk, fun i hi => by rw [h i] at hi; cases hi⟩
theorem cond_true {b : Bool} {X : Prop} (h : bif b then X else False) : b = true ∧ X := by cases b; exact h.elim; exact ⟨rfl, h⟩
theorem ER {ρ : Operand → Value} {o : Oper} {M : Mem} {K : Value → Mem → Prop} {oq : List PanicEntry → Mem → Prop} (h : lZ C ρ o M K Kp) (hp : ∀ c M', Kp c M' → oq c M') : lZ C ρ o M K oq := by
 unfold lZ at h ⊢
 split at h
 ·exact h
 ·exact h
 ·exact h
 ·refine eP C.P _ h (fun n M' hn => ?_) (fun _ _ h => hp _ _ h)
  cases n <;> first | exact hn.elim | exact hn | exact ae.mono hn (fun _ _ h => h) hp
theorem pZ {o : Oper} {env : Nat → Value} {M : Mem} {oq : List PanicEntry → Mem → Prop} (h : cK C ops o env M K Kp) (hp : ∀ c M', Kp c M' → oq c M') : cK C ops o env M K oq := by
 unfold cK at h ⊢
 split
 ·rename_i hw; rw [if_pos hw] at h; exact ER h hp
 ·rename_i hw; rw [if_neg hw] at h; exact h
theorem zp {S S' : Mem → Prop} (hs : ∀ M, S M → S' M) : ∀ (f L : Nat) (env : Nat → Value) (M : Mem), b6 C ops S K Kp f L env M → b6 C ops S' K Kp f L env M := by
 intro f
 induction f with
 | zero => intro L env M h; exact h
 | succ f ih => intro L env M h cX; exact ⟨(h cX).1, fun j hj => sK ((h cX).2 j hj) fun env' M' hx => ⟨hs _ hx.1, ih _ _ _ hx.2⟩⟩
theorem jX {o : Oper} {env : Nat → Value} {M : Mem} {Ss : List (Mem → Prop)} {X : (Nat → Value) → Mem → Prop} (hS : o5 (gz Ss)) (gI : gz Ss M)
  (h : cK C ops o env M (fun env' M' => behind C o Ss M' (X env' M')) Kp) : cK C ops o env M (fun env' M' => gz Ss M' ∧ X env' M') Kp := by
 unfold cK at h ⊢
 cases he : vf C.P o with
 | true =>
  simp only [behind, he] at h
  split
  ·rename_i hw; rw [if_pos hw] at h; exact ij h fun v M' hv => gl.1 hv
  ·rename_i hw; rw [if_neg hw] at h; exact gl.1 h
 | false =>
  simp only [behind, he, cond_false] at h
  split
  ·rename_i hw; rw [if_pos hw] at h
   unfold lZ at h ⊢
   unfold vf at he
   cases hc : cls C.P o <;> rw [hc] at h he <;> simp only at h ⊢
   ·obtain ⟨v, hv, h⟩ := h; exact ⟨v, hv, gI, h⟩
   ·obtain ⟨v, hv, h⟩ := h; exact ⟨v, hv, gI, h⟩
   ·obtain ⟨ob, k, hn, h⟩ := h
    exact ⟨ob, k, hn, fun b hb => let ⟨v, hv, h⟩ := h b hb; ⟨v, hv, hS _ _ (jU hb) gI, h⟩⟩
   ·simp at he
  ·rename_i hw; rw [if_neg hw] at h; exact ⟨gI, h⟩
theorem vg {M M' : Mem} (h : M.le M') {a : Addr} : ∀ (n i : Nat) (vs : List Value), M.gr a i n = some vs → M'.gr a i n = some vs
 | 0, i, vs, hv => hv
 | n + 1, i, vs, hv => by
  simp only [Mem.gr] at hv ⊢
  cases hx : M.ld (a.add i) with
  | none => simp [hx] at hv
  | some v =>
   rw [Mem.Am h hx]
   simp only [hx] at hv
   cases hr : M.gr a (i + 1) n with
   | none => simp [hr] at hv
   | some rest => rw [vg h n (i + 1) rest hr]; rw [hr] at hv; exact hv
theorem vj {P : Program} {t : TypeId} {x : Value} {M : Mem} {K : Value → (Mem → Prop) → Prop} (h : w8 P t x M K) :
  ∃ v p, (∀ M', p M' → aV P (Instr.loadAt t x) M' = some v) ∧ p M ∧ o5 p ∧ K v p := by
 unfold w8 at h
 cases x <;> try exact h.elim
 rename_i p
 obtain ⟨b, o, hp, h2⟩ := fx h
 subst hp
 clear h
 cases hd : P.underlying t with
 | none => rw [hd] at h2; exact h2.elim
 | some d =>
  rw [hd] at h2
  have agg : ot d = true → (if (flat P 8 t).length = P.cellsOf t then wL M ⟨b, o, none⟩ (flat P 8 t) 0 fun vs => K (.agg vs.toArray) (fun M' => M'.gr ⟨b, o, none⟩ 0 (P.cellsOf t) = some vs) else False) →
    ∃ v p, (∀ M', p M' → aV P (Instr.loadAt t (.pointer (some ⟨b, o, none⟩))) M' = some v) ∧ p M ∧ o5 p ∧ K v p := by
   intro cW h
   split at h
   ·rename_i hl
    obtain ⟨vs, hvs, h⟩ := ou h
    rw [hl] at hvs
    exact ⟨_, _, fun M' hm => jR hd cW rfl hm, hvs, fun M1 M2 hle h1 => vg hle _ _ _ h1, h⟩
   ·exact h.elim
  cases d with
  | struct fs => exact agg rfl h2
  | array m e => exact agg rfl h2
  | _ => (obtain ⟨v, hv, h⟩ := jQ h2; exact ⟨v, _, fun M' hm => oX hd rfl hm, hv, fun M1 M2 hle h1 => Mem.Am hle h1, h⟩)
theorem xd {P : Program} {ρ : Operand → Value} {o : Oper} {M : Mem} {K : Value → (Mem → Prop) → Prop} (h : sO P ρ o M K) :
  cls P o = .read ∧ ∃ v p, (∀ M', p M' → aV P (execOp ρ o) M' = some (.value v)) ∧ p M ∧ o5 p ∧ K v p := by
 unfold sO at h
 split at h
 ·rename_i t a ho
  obtain ⟨v, p, h1, h2, h3, h4⟩ := vj h
  obtain ⟨dst, op, type, pos, after, guard⟩ := o
  simp only at ho; subst ho
  exact ⟨rfl, v, p, fun M' hp => dD (h1 M' hp), h2, h3, h4⟩
 ·exact h.elim
theorem vk {o : Oper} {env : Nat → Value} (h : w9 C.P (jL env) o) : ym C.P ops env o := by
 intro _
 unfold w9 at h
 split at h
 ·rename_i t len parts ho
  split at h
  ·rename_i e hu
   split at h
   ·rename_i i hi
    split at h
    ·rename_i z hz
     split at h
     ·rename_i hc
      split at h
      ·rename_i cs hcs
       have hb : AD C.P (jL env) o Mem.empty (fun _ _ => True) := by
        unfold AD; rw [ho]; simp only
        unfold CE; rw [hu]; simp only
        rw [hi]; simp only
        rw [hz]; simp only
        rw [if_pos hc, hcs]
        exact fun _ _ => trivial
       obtain ⟨ob, k, hn, hk⟩ := yl hb
       exact ⟨ob, k, hn, fun b => let ⟨v, hv, _⟩ := hk b rfl; ⟨v, hv⟩⟩
      ·exact h.elim
     ·exact h.elim
    ·exact h.elim
   ·exact h.elim
  ·exact h.elim
 ·rename_i e ho
  obtain ⟨dst, op, type, pos, after, guard⟩ := o
  simp only at ho; subst ho
  split at h
  ·rename_i z hz
   unfold zeroOf at hz
   cases hi : C.P.info? e with
   | none => simp [hi] at hz
   | some i =>
    simp only [hi, Option.bind_some] at hz
    refine ⟨.cells z.cells e, fun b => pure (Next.value (.pointer (some ⟨b, 0, none⟩))), ?_, fun b => ⟨_, rfl⟩⟩
    simp only [execOp]
    rw [u5 C.P (Instr.alloc e true (.tuple #[])) _ (ob := .cells z.cells e) (k := fun b => pure (.pointer (some ⟨b, 0, none⟩))) (by
     unfold Instr.alloc
     rw [tS C.P _ _ (yj hi hz)]
     rfl)]
    rfl
  ·exact h.elim
 ·rename_i e x ho
  obtain ⟨dst, op, type, pos, after, guard⟩ := o
  simp only at ho; subst ho
  exact ⟨.cells (jL env x).cells e, fun b => pure (Next.value (.pointer (some ⟨b, 0, none⟩))), rfl, fun b => ⟨_, rfl⟩⟩
 ·exact h.elim
theorem fV {env : Nat → Value} {L i : Nat} : ∀ {l : List Nat} {X : Prop}, kT C ops env L i l X → X ∧ ∀ j ∈ l, j ≠ i → dc ops L j = true → ∀ oj, ops[j]? = some oj → ym C.P ops env oj
 | [], X, h => ⟨h, fun j hj => by cases hj⟩
 | j :: l, X, h => by
  unfold kT at h
  cases hb : (Nat.beq j i || !dc ops L j) with
  | true =>
   rw [hb] at h
   obtain ⟨h1, h2⟩ := fV (l := l) h
   refine ⟨h1, fun k hk wJ hr oj fz => ?_⟩
   rcases List.mem_cons.1 hk with rfl | hk
   ·simp only [Bool.or_eq_true, Bool.not_eq_true', hr] at hb
    rcases hb with hb | hb
    ·exact absurd (Nat.eq_of_beq_eq_true hb) wJ
    ·cases hb
   ·exact h2 k hk wJ hr oj fz
  | false =>
   rw [hb] at h
   simp only [cond_false] at h
   cases ho : ops[j]? with
   | none =>
    rw [ho] at h
    obtain ⟨h1, h2⟩ := fV (l := l) h
    refine ⟨h1, fun k hk wJ hr oj fz => ?_⟩
    rcases List.mem_cons.1 hk with rfl | hk
    ·rw [ho] at fz; cases fz
    ·exact h2 k hk wJ hr oj fz
   | some o =>
    rw [ho] at h
    obtain ⟨h0, h⟩ := h
    obtain ⟨h1, h2⟩ := fV (l := l) h
    refine ⟨h1, fun k hk wJ hr oj fz => ?_⟩
    rcases List.mem_cons.1 hk with rfl | hk
    ·rw [ho] at fz; cases fz; exact vk h0
    ·exact h2 k hk wJ hr oj fz
theorem sP {i : Nat} {o : Oper} (ho : ops[i]? = some o) (hsel : ∀ (j : Nat) (o : Oper) cs b, ops[j]? = some o → o.op ≠ .select cs b) {cV : List Nat} (ha : jr ops cV = true) {S : Mem → Prop} {Kp : List PanicEntry → Mem → Prop} :
  ∀ (f L : Nat) (env : Nat → Value) (M : Mem), S M → Dn ops L → jW ops cV L i = true → dc ops L i = true → aZ ops o env = false →
   b6 C ops S K Kp f (L ||| 2 ^ i) (aL env o.dst undef) M → b6 C ops S K Kp (f + 1) L env M
 | 0, L, env, M, gI, hd, hf, hr, hw, hx => fun cX => by
  refine ⟨fun hno => (by rw [hno i] at hr; cases hr), fun j hj => ?_⟩
  by_cases fM : j = i
  ·subst fM; unfold dy; rw [ho]; exact gL hw ⟨gI, hx⟩
  ·have hj' := dh (i := i) hj fM
   have := (hx cX).1 j; rw [this] at hj'; cases hj'
 | f + 1, L, env, M, gI, hd, hf, hr, hw, hx => fun cX => by
  obtain ⟨hL, o1, MO, dW⟩ := aU.1 hr
  rw [ho] at MO; cases MO
  refine ⟨fun hno => (by rw [hno i] at hr; cases hr), fun j hj => ?_⟩
  by_cases fM : j = i
  ·subst fM; unfold dy; rw [ho]; exact gL hw ⟨gI, hx⟩
  ·obtain ⟨zk, oj, fz, MP⟩ := aU.1 hj
   have hap := ve ho ha hd hf hr hj fz fM
   obtain ⟨a1, a2, a3⟩ := Oper.apart_spec hap
   have hj' := dh (i := i) hj fM
   have fj := (hx cX).2 j hj'
   unfold dy at fj ⊢; rw [fz] at fj ⊢; simp only at fj ⊢
   rw [nk L i j] at fj
   have h2 := jV hap (fun cs b => hsel j oj cs b fz) fj
   have fin : ∀ u M1, S M1 ∧ b6 C ops S K Kp f (L ||| 2 ^ j ||| 2 ^ i) (aL (aL env oj.dst u) o.dst undef) M1 →
     S M1 ∧ b6 C ops S K Kp (f + 1) (L ||| 2 ^ j) (aL env oj.dst u) M1 := fun u M1 hy =>
    ⟨hy.1, sP ho hsel ha f (L ||| 2 ^ j) (aL env oj.dst u) M1 hy.1 (hd.add hj) (qz ho hf) (dh hr (Ne.symm fM)) ((cP o env oj.dst u a3).trans hw) hy.2⟩
   unfold cK at h2 ⊢
   split
   ·rename_i AH; rw [if_pos AH] at h2; exact ij h2 fun u M1 hy => fin u M1 hy
   ·rename_i AH; rw [if_neg AH] at h2; exact fin _ _ h2
theorem xe (hC : C.Good) (hsel : ∀ (j : Nat) (o : Oper) cs b, ops[j]? = some o → o.op ≠ .select cs b) {cV : List Nat} (ha : jr ops cV = true) (t : Ex) :
  ∀ (Ss : List (Mem → Prop)), o5 (gz Ss) →
  (∀ (L : Nat) (env : Nat → Value) (M : Mem), gz Ss M → Dn ops L → mm C ops cV K Kp t Ss L 0 env M → b6 C ops (gz Ss) K (oy Kp) (pY ops.size L) L env M) ∧
  (∀ (L nm : Nat) (env : Nat → Value) (M : Mem) (f : Nat), gz Ss M → pY ops.size L = f + 1 → nj M → Dn ops L → mm C ops cV K Kp t Ss L nm env M → nm ≠ 0 →
   ∀ i, dc ops L i = true → nm.testBit i = false → dy C ops (oy Kp) i env M fun env' M' => gz Ss M' ∧ b6 C ops (gz Ss) K (oy Kp) f (L ||| 2 ^ i) env' M') := by
 have kp : ∀ c M', Kp c M' → oy Kp c M' := fun c M' h => ⟨M', fun _ _ h => h, h⟩
 have both : ∀ (t : Ex) (Ss : List (Mem → Prop)), (∀ (L : Nat) (nm : Nat) (env : Nat → Value) (M : Mem), gz Ss M → Dn ops L → mm C ops cV K Kp t Ss L nm env M → b6 C ops (gz Ss) K (oy Kp) (pY ops.size L) L env M) →
   (∀ (L : Nat) (env : Nat → Value) (M : Mem), gz Ss M → Dn ops L → mm C ops cV K Kp t Ss L 0 env M → b6 C ops (gz Ss) K (oy Kp) (pY ops.size L) L env M) ∧
   (∀ (L nm : Nat) (env : Nat → Value) (M : Mem) (f : Nat), gz Ss M → pY ops.size L = f + 1 → nj M → Dn ops L → mm C ops cV K Kp t Ss L nm env M → nm ≠ 0 →
    ∀ i, dc ops L i = true → nm.testBit i = false → dy C ops (oy Kp) i env M fun env' M' => gz Ss M' ∧ b6 C ops (gz Ss) K (oy Kp) f (L ||| 2 ^ i) env' M') := fun t Ss h =>
  ⟨fun L env M => h L 0 env M, fun L nm env M f gI AM cX hd ht _ j hj _ => by
   have hh := h L nm env M gI hd ht
   rw [AM] at hh
   exact (hh cX).2 j hj⟩
 induction t with
 | done =>
  intro Ss hS
  refine ⟨fun L env M gI hd h => ?_, fun L nm env M f _ _ _ hd h GN i hi Ge => ?_⟩
  ·obtain ⟨h1, h2⟩ := cond_true h
   refine zo (fun i => ?_) h2 _
   cases hr : dc ops L i with
   | false => rfl
   | true => have := gA h1 i hr; simp at this
  ·obtain ⟨h1, h2⟩ := cond_true h
   have := gA h1 i hi; simp at this
 | step i t ih =>
  intro Ss hS
  refine both _ _ fun L nm env M gI hd h => ?_
  obtain ⟨h1, h2⟩ := cond_true h
  simp only [Bool.and_eq_true] at h1
  obtain ⟨hr, hf⟩ := h1
  obtain ⟨hL, o, ho, dW⟩ := aU.1 hr
  rw [ho] at h2; simp only at h2
  rw [gM (Array.getElem?_eq_some_iff.1 ho).1 hL]
  refine wY hS ho hsel ha _ L env M gI hd hf hr ?_
  unfold dy; rw [ho]; simp only
  exact fy (pZ (jX hS gI (eT hC h2)) kp) fun env' M' hx => ⟨hx.1, (ih Ss hS).1 _ env' M' hx.1 (hd.add hr) hx.2⟩
 | lz i t ih =>
  intro Ss hS
  refine both _ _ fun L nm env M gI hd h => ?_
  obtain ⟨h1, h2⟩ := cond_true h
  simp only [Bool.and_eq_true] at h1
  obtain ⟨hr, hf⟩ := h1
  obtain ⟨hL, o, ho, dW⟩ := aU.1 hr
  rw [ho] at h2; simp only at h2
  rw [gM (Array.getElem?_eq_some_iff.1 ho).1 hL]
  have yes : aZ ops o env = true → sO C.P (jL env) o M (fun v p => mm C ops cV K Kp t ([p] ++ Ss) (L ||| 2 ^ i) 0 (aL env o.dst v) M) →
    b6 C ops (gz Ss) K (oy Kp) (pY ops.size (L ||| 2 ^ i) + 1) L env M := fun hw hp => by
   obtain ⟨hc, v, p, p1, p2, p3, p4⟩ := xd hp
   have NT : o5 (gz ([p] ++ Ss)) := fun M1 M2 hle hx s hs => by
    rcases List.mem_cons.1 hs with rfl | hs
    ·exact p3 _ _ hle (hx _ (List.mem_cons_self ..))
    ·exact hS M1 M2 hle (fun s hs => hx s (List.mem_cons_of_mem _ hs)) s hs
   have JI : gz ([p] ++ Ss) M := fun s hs => by
    rcases List.mem_cons.1 hs with rfl | hs
    ·exact p2
    ·exact gI s hs
   refine zl ho hsel ha hc (s := execOp (jL env) o) (v := v) _ L env M hd hf hr hw rfl (p1 M p2) gI ?_
   refine zp (fun M' hx => ?_) _ _ _ _ ((ih _ NT).1 _ _ M JI (hd.add hr) p4)
   exact ⟨fun s hs => hx s (List.mem_cons_of_mem _ hs), p1 M' (hx p (List.mem_cons_self ..))⟩
  have no : aZ ops o env = false → mm C ops cV K Kp t ([] ++ Ss) (L ||| 2 ^ i) 0 (aL env o.dst undef) M →
    b6 C ops (gz Ss) K (oy Kp) (pY ops.size (L ||| 2 ^ i) + 1) L env M := fun hw hp =>
   sP ho hsel ha _ L env M gI hd hf hr hw ((ih Ss hS).1 _ _ M gI (hd.add hr) hp)
  unfold DX at h2
  cases hg : o.guard with
  | none => rw [hg] at h2; exact yes (nh hg) h2
  | some jw =>
   obtain ⟨j, want⟩ := jw
   rw [hg] at h2
   simp only at h2
   cases hs : ig ops j with
   | none => rw [hs] at h2; exact no (qx hg hs) h2
   | some s =>
    rw [hs] at h2
    simp only at h2
    cases he : env s <;> rw [he] at h2 <;> simp only at h2
    case bool e =>
     have hw := ni hg hs he
     cases e
     ·rw [ik he] at h2
      cases want <;> simp only [aX] at h2
      ·exact yes hw h2
      ·exact no hw h2
     ·rw [ik he] at h2
      cases want <;> simp only [aX] at h2
      ·exact no hw h2
      ·exact yes hw h2
    all_goals exact no (l5 hg hs (by simp [he])) h2
 | late i t ih =>
  intro Ss hS
  refine both _ _ fun L nm env M gI hd h => ?_
  obtain ⟨h1, h2⟩ := cond_true h
  simp only [Bool.and_eq_true] at h1
  obtain ⟨hr, hl⟩ := h1
  obtain ⟨hL, o, ho, dW⟩ := aU.1 hr
  rw [ho] at h2; simp only at h2
  obtain ⟨he, h2⟩ := cond_true h2
  have hce : cls C.P o = .zd := by unfold vf at he; cases hc : cls C.P o <;> rw [hc] at he <;> simp at he
  obtain ⟨h3, h4⟩ := fV h2
  have hc := gM (n := ops.size) (Array.getElem?_eq_some_iff.1 ho).1 hL
  rw [hc]
  refine zn hS (CN Kp) ho hce hsel ha _ L env M hc gI hd hl hr (fun j oj hj fz fM => h4 j (List.mem_range.2 (Array.getElem?_eq_some_iff.1 fz).1) fM hj oj fz) ?_
  unfold dy; rw [ho]; simp only
  exact fy (pZ (eT hC h3) kp) fun env' M' hx => ⟨(gl.1 hx).1, (ih Ss hS).1 _ env' M' (gl.1 hx).1 (hd.add hr) (gl.1 hx).2⟩
 | fork i a b MQ MR =>
  intro Ss hS
  refine ⟨fun L env M gI hd h => ?_, fun L nm env M f gI AM cX hd h GN j hj uK => ?_⟩
  ·obtain ⟨hr, h2⟩ := cond_true h
   obtain ⟨hL, o, ho, dW⟩ := aU.1 hr
   rw [ho] at h2; simp only at h2
   have hc := gM (n := ops.size) (Array.getElem?_eq_some_iff.1 ho).1 hL
   rw [hc]
   refine fun cX => ⟨fun hno => (by rw [hno i] at hr; cases hr), fun j hj => ?_⟩
   by_cases fM : j = i
   ·subst fM
    unfold dy; rw [ho]; simp only
    exact fy (pZ (jX hS gI (eT hC h2.1)) kp) fun env' M' hx => ⟨hx.1, (MQ Ss hS).1 _ env' M' hx.1 (hd.add hr) hx.2⟩
   ·exact (MR Ss hS).2 L (0 ||| 2 ^ i) env M (pY ops.size (L ||| 2 ^ i)) gI hc cX hd h2.2 (by simp) j hj (by rw [cD]; simp [Ne.symm fM])
  ·obtain ⟨hr, h2⟩ := cond_true h
   obtain ⟨hL, o, ho, dW⟩ := aU.1 hr
   rw [ho] at h2; simp only at h2
   have hc := gM (n := ops.size) (Array.getElem?_eq_some_iff.1 ho).1 hL
   by_cases fM : j = i
   ·subst fM
    unfold dy; rw [ho]; simp only
    have hf : f = pY ops.size (L ||| 2 ^ j) := by omega
    subst hf
    exact fy (pZ (jX hS gI (eT hC h2.1)) kp) fun env' M' hx => ⟨hx.1, (MQ Ss hS).1 _ env' M' hx.1 (hd.add hr) hx.2⟩
   ·exact (MR Ss hS).2 L (nm ||| 2 ^ i) env M f gI AM cX hd h2.2 (by intro h0; have := cD nm i i; rw [h0] at this; simp at this) j hj (by rw [cD, uK]; simp [Ne.symm fM])
 | dead =>
  intro Ss hS
  refine ⟨fun L env M gI hd h => ?_, fun L nm env M f _ _ _ hd h GN i hi Ge => ?_⟩
  ·obtain ⟨h1, _⟩ := cond_true h
   simp at h1
  ·obtain ⟨h1, _⟩ := cond_true h
   simp only [Bool.and_eq_true] at h1
   have := gA h1.1 i hi; rw [Ge] at this; cases this
theorem pb {P : Program} {a : Act} {o : Oper} {M F : Mem} {w : World} {K : Value → Mem → Prop} {Kp : List PanicEntry → Mem → Prop} {next : Act → World → Prop} {Q : Exit → Act → World → Prop}
  (h : cj P (execOp a.eval o) M (hU P K Kp) (fun v M' => Kp [{ v, recovered := false }] M')) (hd : M.dj F) (hi : (M.union F).In E w)
  (hn : ∀ v w', ee E F (K v) w' → next (a.put o.dst v) w') (hp : ∀ c w', ee E F (Kp c) w' → Q (.panic c) a w') : o.wp P a w next Q := by
 have hr := y5 P _ h hd hi
 unfold fu at hr
 unfold Oper.wp
 split at hr
 ·rename_i n w' hrun
  rw [hrun]
  obtain ⟨M', hk, hd', hi'⟩ := hr
  cases n <;> first | exact hk.elim | skip
  ·exact hn _ _ ⟨M', hk, hd', hi'⟩
  ·exact hn _ _ ⟨M', hk, hd', hi'⟩
  ·rename_i f args
   refine (hk E F w' hd' hi').mono fun e w'' he => ?_
   cases e with
   | returned v => exact hn _ _ he
   | panicked c => exact hp _ _ he
   | outgrown => exact he.elim
 ·rename_i v w' hrun
  rw [hrun]
  exact hp _ _ hr
 ·exact hr.elim
theorem nq {N : Nat} {env : Nat → Value} {a : Act} (cW : cO N env a.tmps) (hfit : ∀ o ∈ ops.toList, iQ N o = true) (o : Oper) :
  Region.wanted o (yielded ops a.tmps) = aZ ops o env := by
 unfold Region.wanted aZ
 cases hg : o.guard with
 | none => rfl
 | some jw =>
  obtain ⟨j, want⟩ := jw
  simp only
  have hy : yielded ops a.tmps j = match (ig ops j).map env with | some (.bool b) => some b | _ => none := by
   unfold yielded ig
   cases hj : ops[j]? with
   | none => rfl
   | some oj =>
    simp only [Option.bind_some]
    cases hd : oj.dst with
    | none => rfl
    | some s =>
     have hm : oj ∈ ops.toList := by have := Array.mem_of_getElem? hj; simpa using this
     have hs := (dH (hfit oj hm)).2.1 s hd
     simp only [Option.bind_some, cW.2 s hs, Option.map_some]
     cases env s <;> rfl
  rw [hy]
  cases (ig ops j).map env with
  | none => rfl
  | some v => cases v <;> first | rfl | (cases want <;> rename_i b <;> cases b <;> rfl)
structure Post (E : mb) (N : Nat) (Z : Act → Prop) (F : Mem) (K : (Nat → Value) → Mem → Prop) (Kp : List PanicEntry → Mem → Prop) (Q : Exit → Act → World → Prop) : Prop where
 normal : ∀ env M a w, cO N env a.tmps → Z a → M.dj F → (M.union F).In E w → K env M → Q .normal a w
 panic : ∀ c a w, Z a → ee E F (Kp c) w → Q (.panic c) a w
theorem put_defers {a : Act} {dst : Option Tmp} {v : Value} : (a.put dst v).defers = a.defers := by cases dst <;> rfl
theorem tW {N : Nat} {Z : Act → Prop} {F : Mem} {Q : Exit → Act → World → Prop} (hz : ∀ o ∈ ops.toList, ∀ (a : Act) (v : Value), Z a → Z (a.put o.dst v)) (hfit : ∀ o ∈ ops.toList, iQ N o = true)
  (hp : ∀ c a w, Z a → ee E F (Kp c) w → Q (.panic c) a w) {i : Nat} {env : Nat → Value} {M : Mem} {a : Act} {w : World} {K' : (Nat → Value) → Mem → Prop} {next : Act → World → Prop}
  (cW : cO N env a.tmps) (hds : Z a) (hd : M.dj F) (hi : (M.union F).In E w)
  (hn : ∀ env' M' a' w', cO N env' a'.tmps → Z a' → M'.dj F → (M'.union F).In E w' → K' env' M' → next a' w') (h : dy C ops Kp i env M K') : wpOp C.P ops Q i next a w := by
 unfold wpOp
 unfold dy at h
 cases ho : ops[i]? with
 | none => rw [ho] at h; exact hn _ _ _ _ cW hds hd hi h
 | some o =>
  rw [ho] at h
  simp only at h
  have hm : o ∈ ops.toList := by have := Array.mem_of_getElem? ho; simpa using this
  have hf := hfit o hm
  simp only
  rw [nq cW hfit]
  unfold cK at h
  split
  ·rename_i hw
   rw [if_pos hw] at h
   refine .inl (pb (K := fun v M' => K' (aL env o.dst v) M') (Kp := Kp) (F := F) (by rw [← cW.execOp hf]; exact qw h) hd hi (fun v w' hv => ?_) (fun c w' hc => hp _ _ _ hds hc))
   obtain ⟨M', hk, hd', hi'⟩ := hv
   exact hn _ _ _ _ (cW.put (dH hf).2.1 v) (hz o hm _ _ hds) hd' hi' hk
  ·rename_i hw
   rw [if_neg hw] at h
   exact hn _ _ _ _ (cW.put (dH hf).2.1 undef) (hz o hm _ _ hds) hd hi h
def jY (ops : Array Oper) (arr : Array Bool) (L : Nat) : Prop := arr.size = ops.size ∧ ∀ i, i < ops.size → arr[i]? = some (L.testBit i)
theorem jY.add {arr : Array Bool} {L i : Nat} (h : jY ops arr L) (hi : i < ops.size) : jY ops (arr.setIfInBounds i true) (L ||| 2 ^ i) := by
 refine ⟨by simp [h.1], fun k hk => ?_⟩
 by_cases wJ : i = k
 ·subst wJ; simp [h.1, hi]
 ·rw [Array.getElem?_setIfInBounds_ne wJ, h.2 k hk, cD]; simp [wJ]
theorem oz {arr : Array Bool} {L : Nat} (h : jY ops arr L) (pe : ∀ (j : Nat) (o : Oper), ops[j]? = some o → ∀ e ∈ o.after, Region.binds .any e = true → e.on < ops.size) (i : Nat) :
  i ∈ Region.ready .any ops arr ↔ dc ops L i = true := by
 rw [mem_ready, aU]
 constructor
 ·rintro ⟨h0, o, ho, dW⟩
  have hlt := (Array.getElem?_eq_some_iff.1 ho).1
  refine ⟨?_, o, ho, fun e he hb => ?_⟩
  ·have := h.2 i hlt; simp [Array.getD_eq_getD_getElem?, this] at h0; exact h0
  ·have h1 := dW e he hb
   have := h.2 e.on (pe i o ho e he hb)
   simpa [Array.getD_eq_getD_getElem?, this] using h1
 ·rintro ⟨h0, o, ho, dW⟩
  have hlt := (Array.getElem?_eq_some_iff.1 ho).1
  refine ⟨by simp [Array.getD_eq_getD_getElem?, h.2 i hlt, h0], o, ho, fun e he hb => ?_⟩
  have := h.2 e.on (pe i o ho e he hb)
  simp [Array.getD_eq_getD_getElem?, this, dW e he hb]
theorem r5 {S : Mem → Prop} {N : Nat} {Z : Act → Prop} {F : Mem} {Q : Exit → Act → World → Prop} (hz : ∀ o ∈ ops.toList, ∀ (a : Act) (v : Value), Z a → Z (a.put o.dst v)) (hfit : ∀ o ∈ ops.toList, iQ N o = true)
  (pe : ∀ (j : Nat) (o : Oper), ops[j]? = some o → ∀ e ∈ o.after, Region.binds .any e = true → e.on < ops.size) (hpost : Post E N Z F K Kp Q) :
  ∀ (f L : Nat) (arr : Array Bool) (env : Nat → Value) (M : Mem) (a : Act) (w : World), jY ops arr L → cO N env a.tmps → Z a → M.dj F → (M.union F).In E w →
   b6 C ops S K (oy Kp) f L env M → wpAny C.P .any ops Q f arr a w := by
 intro f
 induction f with
 | zero =>
  intro L arr env M a w hl cW hds hd hi h
  have cX : nj M := ⟨w.heap.size, fun b hb => by
   cases hm : M b with
   | none => rfl
   | some o => have := hi.lt (Mem.union_left (F := F) hm); omega⟩
  obtain ⟨h1, h2⟩ := h cX
  refine ⟨?_, hpost.normal _ _ _ _ cW hds hd hi h2⟩
  rw [List.eq_nil_iff_forall_not_mem]
  intro i hmem
  have := (oz hl pe i).1 hmem
  rw [h1 i] at this; cases this
 | succ f ih =>
  intro L arr env M a w hl cW hds hd hi h
  have cX : nj M := ⟨w.heap.size, fun b hb => by
   cases hm : M b with
   | none => rfl
   | some o => have := hi.lt (Mem.union_left (F := F) hm); omega⟩
  obtain ⟨h1, h2⟩ := h cX
  refine ⟨fun CO => ?_, fun i hmem => ?_⟩
  ·refine hpost.normal _ _ _ _ cW hds hd hi (h1 fun i => ?_)
   cases hr : dc ops L i with
   | false => rfl
   | true => have := (oz hl pe i).2 hr; rw [CO] at this; cases this
  ·have hr := (oz hl pe i).1 hmem
   obtain ⟨_, o, ho, _⟩ := aU.1 hr
   exact tW hz hfit (fun c a w h1 h2 => hpost.panic c a w h1 h2.up) cW hds hd hi (fun env' M' a' w' g1 g2 g3 g4 g5 => ih _ _ _ _ _ _ (hl.add (Array.getElem?_eq_some_iff.1 ho).1) g1 g2 g3 g4 g5.2) (h2 i hr)
def ES (C : Ctx) (ops : Array Oper) (K : (Nat → Value) → Mem → Prop) (Kp : List PanicEntry → Mem → Prop) : List Oper → (Nat → Value) → Mem → Prop
 | [], env, M => K env M
 | o :: rest, env, M => zi C ops o env M (fun env' M' => ES C ops K Kp rest env' M') Kp
end
end Go.AF
