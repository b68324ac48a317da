/- A part of proofs about one program. -/
import Derived.Test.YtfjgcljdnhkmaaaGreatZSchedAloneRegL
set_option linter.unusedVariables false
namespace Go.AF
variable {E : pO}
inductive Ex where
 | done
 | step (i : Nat) (t : Ex)
 | fK (i : Nat) (t : Ex)
 | late (i : Nat) (t : Ex)
 | fork (i : Nat) (a b : Ex)
 | dead
def sJ (ops : Array Oper) (L qR : Nat) : Bool := (List.range ops.size).all fun i => !en ops L i || qR.testBit i
def yc : List (Mem → Prop) → Mem → Prop → Prop
 | [], _, X => X
 | s :: l, M, X => s M ∧ yc l M X
def jc (l : List (Mem → Prop)) (M : Mem) : Prop := ∀ s ∈ l, s M
theorem iQ : ∀ {l : List (Mem → Prop)} {M : Mem} {X : Prop}, yc l M X ↔ jc l M ∧ X
 | [], M, X => by simp [yc, jc]
 | s :: l, M, X => by
  simp only [yc, iQ (l := l), jc, List.mem_cons, forall_eq_or_imp]
  constructor
  ·rintro ⟨a, b, c⟩; exact ⟨⟨a, b⟩, c⟩
  ·rintro ⟨⟨a, b⟩, c⟩; exact ⟨a, b, c⟩
def Cy (P : Program) (t : TypeId) (x : Value) (M : Mem) (K : Value → (Mem → Prop) → Prop) : Prop :=
 match x with
 | .pointer p => aD p fun b o =>
  match P.underlying t with
  | some (.struct _) | some (.array _ _) =>
   if (flat P 8 t).length = P.cellsOf t then
    Ci M ⟨b, o, none⟩ (flat P 8 t) 0 fun vs => K (.agg vs.toArray) (fun M' => M'.gh ⟨b, o, none⟩ 0 (P.cellsOf t) = some vs)
   else False
  | some d => Af (Qr d) (M.ld ⟨b, o, none⟩) fun v => K v (fun M' => M'.ld ⟨b, o, none⟩ = some v)
  | none => False
 | _ => False
def yd (P : Program) (ρ : Operand → Value) (o : Oper) (M : Mem) (K : Value → (Mem → Prop) → Prop) : Prop :=
 match o.op with
 | .load t a => Cy P t (ρ a) M K
 | _ => False
def MH (C : Ctx) (ops : Array Oper) (o : Oper) (env : Nat → Value) (M : Mem) (K : (Nat → Value) → List (Mem → Prop) → Prop) : Prop :=
 match o.guard with
 | none => yd C.P (mL env) o M (fun v p => K (aU env o.dst v) [p])
 | some (j, want) => match j9 ops j with
  | some s => match env s with
   | .bool e => match want with
    | true => aQ e (yd C.P (mL (aU env (some s) (.bool true))) o M (fun v p => K (aU (aU env (some s) (.bool true)) o.dst v) [p])) (K (aU (aU env (some s) (.bool false)) o.dst undef) [])
    | false => aQ e (K (aU (aU env (some s) (.bool true)) o.dst undef) []) (yd C.P (mL (aU env (some s) (.bool false))) o M (fun v p => K (aU (aU env (some s) (.bool false)) o.dst v) [p]))
   | _ => K (aU env o.dst undef) []
  | none => K (aU env o.dst undef) []
def Cz (P : Program) (ρ : Operand → Value) (o : Oper) : Prop :=
 match o.op with
 | .buildSlice t len parts => match P.underlying t with
  | some (.slice e) => match P.info? e with
   | some i => match i.zero with
    | some z => if z.cells.toList.length = i.size ∧ len * i.size ≤ 16777216 then
      (match u5 (fun k => some (k * i.size, i.size)) (List.replicate len z.cells.toList).flatten (parts.toList.map fun p => (p.1, ρ p.2)) with
      | some _ => True
      | none => False) else False
    | none => False
   | none => False
  | _ => False
 | .alloc e => match zeroOf P e with
  | some _ => True
  | none => False
 | .box _ _ => True
 | _ => False
def om (C : Ctx) (ops : Array Oper) (env : Nat → Value) (L i : Nat) : List Nat → Prop → Prop
 | [], X => X
 | j :: l, X => bif Nat.beq j i || !en ops L j then om C ops env L i l X else
   (match ops[j]? with
   | some o => Cz C.P (mL env) o ∧ om C ops env L i l X
   | none => om C ops env L i l X)
def AB (P : Program) (o : Oper) : Bool := match cls P o with
 | .E5 => true
 | _ => false
def behind (C : Ctx) (o : Oper) (Ss : List (Mem → Prop)) (M : Mem) (X : Prop) : Prop := bif AB C.P o then yc Ss M X else X
def pT (C : Ctx) (ops : Array Oper) (dS : List Nat) (K : (Nat → Value) → Mem → Prop) (Kp : List PanicEntry → Mem → Prop) : Ex → List (Mem → Prop) → Nat → Nat → (Nat → Value) → Mem → Prop
 | .done, _, L, _, env, M => bif sJ ops L 0 then K env M else False
 | .step i t, Ss, L, _, env, M => bif en ops L i && vf C.P ops dS L i then
   (match ops[i]? with
   | some o => Fa C ops o env M (fun env' M' => behind C o Ss M' (pT C ops dS K Kp t Ss (L ||| 2 ^ i) 0 env' M')) Kp
   | none => False) else False
 | .fK i t, Ss, L, _, env, M => bif en ops L i && mX ops dS L i then
   (match ops[i]? with
   | some o => MH C ops o env M (fun env' p => pT C ops dS K Kp t (p ++ Ss) (L ||| 2 ^ i) 0 env' M)
   | none => False) else False
 | .late i t, Ss, L, _, env, M => bif en ops L i && tN C.P ops dS L i then
   (match ops[i]? with
   | some o => bif AB C.P o then om C ops env L i (List.range ops.size) (Fa C ops o env M (fun env' M' => yc Ss M' (pT C ops dS K Kp t Ss (L ||| 2 ^ i) 0 env' M')) Kp) else False
   | none => False) else False
 | .fork i a b, Ss, L, qR, env, M => bif en ops L i then
   (match ops[i]? with
   | some o => Fa C ops o env M (fun env' M' => behind C o Ss M' (pT C ops dS K Kp a Ss (L ||| 2 ^ i) 0 env' M')) Kp ∧ pT C ops dS K Kp b Ss L (qR ||| 2 ^ i) env M
   | none => False) else False
 | .dead, _, L, qR, _, _ => bif sJ ops L qR && !Nat.beq qR 0 then True else False
def sK (Kp : List PanicEntry → Mem → Prop) : List PanicEntry → Mem → Prop := fun c M => ∃ M1, M1.le M ∧ Kp c M1
theorem KG (Kp : List PanicEntry → Mem → Prop) : N2 (sK Kp) := fun _ _ _ hle ⟨M1, h1, h2⟩ => ⟨M1, fun b o h => hle b o (h1 b o h), h2⟩
theorem eN.up {F : Mem} {Kp : List PanicEntry → Mem → Prop} {c : List PanicEntry} {w : World} (h : eN E F (sK Kp c) w) : eN E F (Kp c) w := by
 obtain ⟨M, ⟨M1, hle, hk⟩, hd, hi⟩ := h
 refine ⟨M1, hk, fun b => ?_, ⟨fun b o hb => ?_, hi.2⟩⟩
 ·rcases hd b with h | h
  ·left; cases hm : M1 b with
   | none => rfl
   | some o => rw [hle b o hm] at h; cases h
  ·exact .inr h
 ·unfold Mem.union at hb
  cases hm : M1 b with
  | some o' => rw [hm] at hb; cases hb; exact hi.1 b o (Mem.union_left (hle b o hm))
  | none =>
   rw [hm] at hb
   refine hi.1 b o ?_
   unfold Mem.union
   rcases hd b with h | h
   ·rw [h]; exact hb
   ·rw [h] at hb; cases hb
section
variable {C : Ctx} {ops : Array Oper} {K : (Nat → Value) → Mem → Prop} {Kp : List PanicEntry → Mem → Prop}
theorem jd {L qR : Nat} (h : sJ ops L qR = true) (i : Nat) (hi : en ops L i = true) : qR.testBit i = true := by
 obtain ⟨_, o, ho, _⟩ := bB.1 hi
 have := List.all_eq_true.1 h i (List.mem_range.2 (Array.getElem?_eq_some_iff.1 ho).1)
 simpa [hi] using this
theorem Fh {S : Mem → Prop} {L : Nat} {env : Nat → Value} {M : Mem} (h : ∀ i, en ops L i = false) (hk : K env M) : ∀ f, cI C ops S K Kp f L env M
 | 0 => fun _ => ⟨h, hk⟩
 | f + 1 => fun _ => ⟨fun _ => hk, fun i hi => by rw [h i] at hi; cases hi⟩
theorem cond_true {b : Bool} {X : Prop} (h : bif b then X else False) : b = true ∧ X := by cases b; exact h.elim; exact ⟨rfl, h⟩
theorem N4 {ρ : Operand → Value} {o : Oper} {M : Mem} {K : Value → Mem → Prop} {sE : List PanicEntry → Mem → Prop} (h : pI C ρ o M K Kp) (hp : ∀ c M', Kp c M' → sE c M') : pI C ρ o M K sE := by
 unfold pI at h ⊢
 split at h
 ·exact h
 ·exact h
 ·exact h
 ·refine gx C.P _ h (fun n M' hn => ?_) (fun _ _ h => hp _ _ h)
  cases n <;> first | exact hn.elim | exact hn | exact aa.mono hn (fun _ _ h => h) hp
theorem uM {o : Oper} {env : Nat → Value} {M : Mem} {sE : List PanicEntry → Mem → Prop} (h : dw C ops o env M K Kp) (hp : ∀ c M', Kp c M' → sE c M') : dw C ops o env M K sE := by
 unfold dw at h ⊢
 split
 ·rename_i hw; rw [if_pos hw] at h; exact N4 h hp
 ·rename_i hw; rw [if_neg hw] at h; exact h
theorem Fi {S S' : Mem → Prop} (hs : ∀ M, S M → S' M) : ∀ (f L : Nat) (env : Nat → Value) (M : Mem), cI C ops S K Kp f L env M → cI C ops S' K Kp f L env M := by
 intro f
 induction f with
 | zero => intro L env M h; exact h
 | succ f ih => intro L env M h dV; exact ⟨(h dV).1, fun j hj => ya ((h dV).2 j hj) fun env' M' hx => ⟨hs _ hx.1, ih _ _ _ hx.2⟩⟩
theorem mY {o : Oper} {env : Nat → Value} {M : Mem} {Ss : List (Mem → Prop)} {X : (Nat → Value) → Mem → Prop} (hS : tM (jc Ss)) (jr : jc Ss M)
  (h : dw C ops o env M (fun env' M' => behind C o Ss M' (X env' M')) Kp) : dw C ops o env M (fun env' M' => jc Ss M' ∧ X env' M') Kp := by
 unfold dw at h ⊢
 cases he : AB C.P o with
 | true =>
  simp only [behind, he] at h
  split
  ·rename_i hw; rw [if_pos hw] at h; exact ke h fun v M' hv => iQ.1 hv
  ·rename_i hw; rw [if_neg hw] at h; exact iQ.1 h
 | false =>
  simp only [behind, he, cond_false] at h
  split
  ·rename_i hw; rw [if_pos hw] at h
   unfold pI at h ⊢
   unfold AB at he
   cases hc : cls C.P o <;> rw [hc] at h he <;> simp only at h ⊢
   ·obtain ⟨v, hv, h⟩ := h; exact ⟨v, hv, jr, h⟩
   ·obtain ⟨v, hv, h⟩ := h; exact ⟨v, hv, jr, h⟩
   ·obtain ⟨ob, k, hn, h⟩ := h
    exact ⟨ob, k, hn, fun b hb => let ⟨v, hv, h⟩ := h b hb; ⟨v, hv, hS _ _ (mV hb) jr, h⟩⟩
   ·simp at he
  ·rename_i hw; rw [if_neg hw] at h; exact ⟨jr, h⟩
theorem AD {M M' : Mem} (h : M.le M') {a : Addr} : ∀ (n i : Nat) (vs : List Value), M.gh a i n = some vs → M'.gh a i n = some vs
 | 0, i, vs, hv => hv
 | n + 1, i, vs, hv => by
  simp only [Mem.gh] at hv ⊢
  cases hx : M.ld (a.add i) with
  | none => simp [hx] at hv
  | some v =>
   rw [Mem.G1 h hx]
   simp only [hx] at hv
   cases hr : M.gh a (i + 1) n with
   | none => simp [hr] at hv
   | some rest => rw [AD h n (i + 1) rest hr]; rw [hr] at hv; exact hv
theorem AE {P : Program} {t : TypeId} {x : Value} {M : Mem} {K : Value → (Mem → Prop) → Prop} (h : Cy P t x M K) :
  ∃ v p, (∀ M', p M' → bC P (Instr.loadAt t x) M' = some v) ∧ p M ∧ tM p ∧ K v p := by
 unfold Cy at h
 cases x <;> try exact h.elim
 rename_i p
 obtain ⟨b, o, hp, h2⟩ := gW h
 subst hp
 clear h
 cases hd : P.underlying t with
 | none => rw [hd] at h2; exact h2.elim
 | some d =>
  rw [hd] at h2
  have agg : sF d = true → (if (flat P 8 t).length = P.cellsOf t then Ci M ⟨b, o, none⟩ (flat P 8 t) 0 fun vs => K (.agg vs.toArray) (fun M' => M'.gh ⟨b, o, none⟩ 0 (P.cellsOf t) = some vs) else False) →
    ∃ v p, (∀ M', p M' → bC P (Instr.loadAt t (.pointer (some ⟨b, o, none⟩))) M' = some v) ∧ p M ∧ tM p ∧ K v p := by
   intro dQ h
   split at h
   ·rename_i hl
    obtain ⟨vs, hvs, h⟩ := sG h
    rw [hl] at hvs
    exact ⟨_, _, fun M' hm => mR hd dQ rfl hm, hvs, fun M1 M2 hle h1 => AD hle _ _ _ h1, h⟩
   ·exact h.elim
  cases d with
  | struct fs => exact agg rfl h2
  | array m e => exact agg rfl h2
  | _ => (obtain ⟨v, hv, h⟩ := mQ h2; exact ⟨v, _, fun M' hm => tJ hd rfl hm, hv, fun M1 M2 hle h1 => Mem.G1 hle h1, h⟩)
theorem CA {P : Program} {ρ : Operand → Value} {o : Oper} {M : Mem} {K : Value → (Mem → Prop) → Prop} (h : yd P ρ o M K) :
  cls P o = .read ∧ ∃ v p, (∀ M', p M' → bC P (execOp ρ o) M' = some (.value v)) ∧ p M ∧ tM p ∧ K v p := by
 unfold yd at h
 split at h
 ·rename_i t a ho
  obtain ⟨v, p, h1, h2, h3, h4⟩ := AE h
  obtain ⟨dst, op, type, pos, after, guard⟩ := o
  simp only at ho; subst ho
  exact ⟨rfl, v, p, fun M' hp => fa (h1 M' hp), h2, h3, h4⟩
 ·exact h.elim
theorem AG {o : Oper} {env : Nat → Value} (h : Cz C.P (mL env) o) : D3 C.P ops env o := by
 intro _
 unfold Cz at h
 split at h
 ·rename_i t len parts ho
  split at h
  ·rename_i e hu
   split at h
   ·rename_i i hi
    split at h
    ·rename_i z hz
     split at h
     ·rename_i hc
      split at h
      ·rename_i cs hcs
       have hb : Hj C.P (mL env) o Mem.empty (fun _ _ => True) := by
        unfold Hj; rw [ho]; simp only
        unfold Kx; rw [hu]; simp only
        rw [hi]; simp only
        rw [hz]; simp only
        rw [if_pos hc, hcs]
        exact fun _ _ => trivial
       obtain ⟨ob, k, hn, hk⟩ := D2 hb
       exact ⟨ob, k, hn, fun b => let ⟨v, hv, _⟩ := hk b rfl; ⟨v, hv⟩⟩
      ·exact h.elim
     ·exact h.elim
    ·exact h.elim
   ·exact h.elim
  ·exact h.elim
 ·rename_i e ho
  obtain ⟨dst, op, type, pos, after, guard⟩ := o
  simp only at ho; subst ho
  split at h
  ·rename_i z hz
   unfold zeroOf at hz
   cases hi : C.P.info? e with
   | none => simp [hi] at hz
   | some i =>
    simp only [hi, Option.bind_some] at hz
    refine ⟨.cells z.cells e, fun b => pure (Next.value (.pointer (some ⟨b, 0, none⟩))), ?_, fun b => ⟨_, rfl⟩⟩
    simp only [execOp]
    rw [Au C.P (Instr.alloc e true (.tuple #[])) _ (ob := .cells z.cells e) (k := fun b => pure (.pointer (some ⟨b, 0, none⟩))) (by
     unfold Instr.alloc
     rw [y9 C.P _ _ (D1 hi hz)]
     rfl)]
    rfl
  ·exact h.elim
 ·rename_i e x ho
  obtain ⟨dst, op, type, pos, after, guard⟩ := o
  simp only at ho; subst ho
  exact ⟨.cells (mL env x).cells e, fun b => pure (Next.value (.pointer (some ⟨b, 0, none⟩))), rfl, fun b => ⟨_, rfl⟩⟩
 ·exact h.elim
theorem iH {env : Nat → Value} {L i : Nat} : ∀ {l : List Nat} {X : Prop}, om C ops env L i l X → X ∧ ∀ j ∈ l, j ≠ i → en ops L j = true → ∀ oj, ops[j]? = some oj → D3 C.P ops env oj
 | [], X, h => ⟨h, fun j hj => by cases hj⟩
 | j :: l, X, h => by
  unfold om at h
  cases hb : (Nat.beq j i || !en ops L j) with
  | true =>
   rw [hb] at h
   obtain ⟨h1, h2⟩ := iH (l := l) h
   refine ⟨h1, fun k hk Cb hr oj gY => ?_⟩
   rcases List.mem_cons.1 hk with rfl | hk
   ·simp only [Bool.or_eq_true, Bool.not_eq_true', hr] at hb
    rcases hb with hb | hb
    ·exact absurd (Nat.eq_of_beq_eq_true hb) Cb
    ·cases hb
   ·exact h2 k hk Cb hr oj gY
  | false =>
   rw [hb] at h
   simp only [cond_false] at h
   cases ho : ops[j]? with
   | none =>
    rw [ho] at h
    obtain ⟨h1, h2⟩ := iH (l := l) h
    refine ⟨h1, fun k hk Cb hr oj gY => ?_⟩
    rcases List.mem_cons.1 hk with rfl | hk
    ·rw [ho] at gY; cases gY
    ·exact h2 k hk Cb hr oj gY
   | some o =>
    rw [ho] at h
    obtain ⟨h0, h⟩ := h
    obtain ⟨h1, h2⟩ := iH (l := l) h
    refine ⟨h1, fun k hk Cb hr oj gY => ?_⟩
    rcases List.mem_cons.1 hk with rfl | hk
    ·rw [ho] at gY; cases gY; exact AG h0
    ·exact h2 k hk Cb hr oj gY
theorem ye {i : Nat} {o : Oper} (ho : ops[i]? = some o) (hsel : ∀ (j : Nat) (o : Oper) cs b, ops[j]? = some o → o.op ≠ .select cs b) {dS : List Nat} (ha : lV ops dS = true) {S : Mem → Prop} {Kp : List PanicEntry → Mem → Prop} :
  ∀ (f L : Nat) (env : Nat → Value) (M : Mem), S M → Dn ops L → mX ops dS L i = true → en ops L i = true → bH ops o env = false →
   cI C ops S K Kp f (L ||| 2 ^ i) (aU env o.dst undef) M → cI C ops S K Kp (f + 1) L env M
 | 0, L, env, M, jr, hd, hf, hr, hw, hx => fun dV => by
  refine ⟨fun hno => (by rw [hno i] at hr; cases hr), fun j hj => ?_⟩
  by_cases iu : j = i
  ·subst iu; unfold eX; rw [ho]; exact jD hw ⟨jr, hx⟩
  ·have hj' := eH (i := i) hj iu
   have := (hx dV).1 j; rw [this] at hj'; cases hj'
 | f + 1, L, env, M, jr, hd, hf, hr, hw, hx => fun dV => by
  obtain ⟨hL, o1, Y5, gu⟩ := bB.1 hr
  rw [ho] at Y5; cases Y5
  refine ⟨fun hno => (by rw [hno i] at hr; cases hr), fun j hj => ?_⟩
  by_cases iu : j = i
  ·subst iu; unfold eX; rw [ho]; exact jD hw ⟨jr, hx⟩
  ·obtain ⟨Fc, oj, gY, Y6⟩ := bB.1 hj
   have hap := AA ho ha hd hf hr hj gY iu
   obtain ⟨a1, a2, a3⟩ := Oper.apart_spec hap
   have hj' := eH (i := i) hj iu
   have gP := (hx dV).2 j hj'
   unfold eX at gP ⊢; rw [gY] at gP ⊢; simp only at gP ⊢
   rw [qQ L i j] at gP
   have h2 := mW hap (fun cs b => hsel j oj cs b gY) gP
   have fin : ∀ u M1, S M1 ∧ cI C ops S K Kp f (L ||| 2 ^ j ||| 2 ^ i) (aU (aU env oj.dst u) o.dst undef) M1 →
     S M1 ∧ cI C ops S K Kp (f + 1) (L ||| 2 ^ j) (aU env oj.dst u) M1 := fun u M1 hy =>
    ⟨hy.1, ye ho hsel ha f (L ||| 2 ^ j) (aU env oj.dst u) M1 hy.1 (hd.add hj) (vj ho hf) (eH hr (Ne.symm iu)) ((dH o env oj.dst u a3).trans hw) hy.2⟩
   unfold dw at h2 ⊢
   split
   ·rename_i Hr; rw [if_pos Hr] at h2; exact ke h2 fun u M1 hy => fin u M1 hy
   ·rename_i Hr; rw [if_neg Hr] at h2; exact fin _ _ h2
theorem CB (hC : C.Good) (hsel : ∀ (j : Nat) (o : Oper) cs b, ops[j]? = some o → o.op ≠ .select cs b) {dS : List Nat} (ha : lV ops dS = true) (t : Ex) :
  ∀ (Ss : List (Mem → Prop)), tM (jc Ss) →
  (∀ (L : Nat) (env : Nat → Value) (M : Mem), jc Ss M → Dn ops L → pT C ops dS K Kp t Ss L 0 env M → cI C ops (jc Ss) K (sK Kp) (uL ops.size L) L env M) ∧
  (∀ (L qR : Nat) (env : Nat → Value) (M : Mem) (f : Nat), jc Ss M → uL ops.size L = f + 1 → qP M → Dn ops L → pT C ops dS K Kp t Ss L qR env M → qR ≠ 0 →
   ∀ i, en ops L i = true → qR.testBit i = false → eX C ops (sK Kp) i env M fun env' M' => jc Ss M' ∧ cI C ops (jc Ss) K (sK Kp) f (L ||| 2 ^ i) env' M') := by
 have kp : ∀ c M', Kp c M' → sK Kp c M' := fun c M' h => ⟨M', fun _ _ h => h, h⟩
 have both : ∀ (t : Ex) (Ss : List (Mem → Prop)), (∀ (L : Nat) (qR : Nat) (env : Nat → Value) (M : Mem), jc Ss M → Dn ops L → pT C ops dS K Kp t Ss L qR env M → cI C ops (jc Ss) K (sK Kp) (uL ops.size L) L env M) →
   (∀ (L : Nat) (env : Nat → Value) (M : Mem), jc Ss M → Dn ops L → pT C ops dS K Kp t Ss L 0 env M → cI C ops (jc Ss) K (sK Kp) (uL ops.size L) L env M) ∧
   (∀ (L qR : Nat) (env : Nat → Value) (M : Mem) (f : Nat), jc Ss M → uL ops.size L = f + 1 → qP M → Dn ops L → pT C ops dS K Kp t Ss L qR env M → qR ≠ 0 →
    ∀ i, en ops L i = true → qR.testBit i = false → eX C ops (sK Kp) i env M fun env' M' => jc Ss M' ∧ cI C ops (jc Ss) K (sK Kp) f (L ||| 2 ^ i) env' M') := fun t Ss h =>
  ⟨fun L env M => h L 0 env M, fun L qR env M f jr Hv dV hd ht _ j hj _ => by
   have hh := h L qR env M jr hd ht
   rw [Hv] at hh
   exact (hh dV).2 j hj⟩
 induction t with
 | done =>
  intro Ss hS
  refine ⟨fun L env M jr hd h => ?_, fun L qR env M f _ _ _ hd h Ri i hi Qw => ?_⟩
  ·obtain ⟨h1, h2⟩ := cond_true h
   refine Fh (fun i => ?_) h2 _
   cases hr : en ops L i with
   | false => rfl
   | true => have := jd h1 i hr; simp at this
  ·obtain ⟨h1, h2⟩ := cond_true h
   have := jd h1 i hi; simp at this
 | step i t ih =>
  intro Ss hS
  refine both _ _ fun L qR env M jr hd h => ?_
  obtain ⟨h1, h2⟩ := cond_true h
  simp only [Bool.and_eq_true] at h1
  obtain ⟨hr, hf⟩ := h1
  obtain ⟨hL, o, ho, gu⟩ := bB.1 hr
  rw [ho] at h2; simp only at h2
  rw [jE (Array.getElem?_eq_some_iff.1 ho).1 hL]
  refine Cv hS ho hsel ha _ L env M jr hd hf hr ?_
  unfold eX; rw [ho]; simp only
  exact gX (uM (mY hS jr (gA hC h2)) kp) fun env' M' hx => ⟨hx.1, (ih Ss hS).1 _ env' M' hx.1 (hd.add hr) hx.2⟩
 | fK i t ih =>
  intro Ss hS
  refine both _ _ fun L qR env M jr hd h => ?_
  obtain ⟨h1, h2⟩ := cond_true h
  simp only [Bool.and_eq_true] at h1
  obtain ⟨hr, hf⟩ := h1
  obtain ⟨hL, o, ho, gu⟩ := bB.1 hr
  rw [ho] at h2; simp only at h2
  rw [jE (Array.getElem?_eq_some_iff.1 ho).1 hL]
  have yes : bH ops o env = true → yd C.P (mL env) o M (fun v p => pT C ops dS K Kp t ([p] ++ Ss) (L ||| 2 ^ i) 0 (aU env o.dst v) M) →
    cI C ops (jc Ss) K (sK Kp) (uL ops.size (L ||| 2 ^ i) + 1) L env M := fun hw hp => by
   obtain ⟨hc, v, p, p1, p2, p3, p4⟩ := CA hp
   have ZZ : tM (jc ([p] ++ Ss)) := fun M1 M2 hle hx s hs => by
    rcases List.mem_cons.1 hs with rfl | hs
    ·exact p3 _ _ hle (hx _ (List.mem_cons_self ..))
    ·exact hS M1 M2 hle (fun s hs => hx s (List.mem_cons_of_mem _ hs)) s hs
   have Us : jc ([p] ++ Ss) M := fun s hs => by
    rcases List.mem_cons.1 hs with rfl | hs
    ·exact p2
    ·exact jr s hs
   refine Fe ho hsel ha hc (s := execOp (mL env) o) (v := v) _ L env M hd hf hr hw rfl (p1 M p2) jr ?_
   refine Fi (fun M' hx => ?_) _ _ _ _ ((ih _ ZZ).1 _ _ M Us (hd.add hr) p4)
   exact ⟨fun s hs => hx s (List.mem_cons_of_mem _ hs), p1 M' (hx p (List.mem_cons_self ..))⟩
  have no : bH ops o env = false → pT C ops dS K Kp t ([] ++ Ss) (L ||| 2 ^ i) 0 (aU env o.dst undef) M →
    cI C ops (jc Ss) K (sK Kp) (uL ops.size (L ||| 2 ^ i) + 1) L env M := fun hw hp =>
   ye ho hsel ha _ L env M jr hd hf hr hw ((ih Ss hS).1 _ _ M jr (hd.add hr) hp)
  unfold MH at h2
  cases hg : o.guard with
  | none => rw [hg] at h2; exact yes (qN hg) h2
  | some jw =>
   obtain ⟨j, want⟩ := jw
   rw [hg] at h2
   simp only at h2
   cases hs : j9 ops j with
   | none => rw [hs] at h2; exact no (ve hg hs) h2
   | some s =>
    rw [hs] at h2
    simp only at h2
    cases he : env s <;> rw [he] at h2 <;> simp only at h2
    case bool e =>
     have hw := qO hg hs he
     cases e
     ·rw [kf he] at h2
      cases want <;> simp only [aQ] at h2
      ·exact yes hw h2
      ·exact no hw h2
     ·rw [kf he] at h2
      cases want <;> simp only [aQ] at h2
      ·exact no hw h2
      ·exact yes hw h2
    all_goals exact no (pJ hg hs (by simp [he])) h2
 | late i t ih =>
  intro Ss hS
  refine both _ _ fun L qR env M jr hd h => ?_
  obtain ⟨h1, h2⟩ := cond_true h
  simp only [Bool.and_eq_true] at h1
  obtain ⟨hr, hl⟩ := h1
  obtain ⟨hL, o, ho, gu⟩ := bB.1 hr
  rw [ho] at h2; simp only at h2
  obtain ⟨he, h2⟩ := cond_true h2
  have hce : cls C.P o = .E5 := by unfold AB at he; cases hc : cls C.P o <;> rw [hc] at he <;> simp at he
  obtain ⟨h3, h4⟩ := iH h2
  have hc := jE (n := ops.size) (Array.getElem?_eq_some_iff.1 ho).1 hL
  rw [hc]
  refine Fg hS (KG Kp) ho hce hsel ha _ L env M hc jr hd hl hr (fun j oj hj gY iu => h4 j (List.mem_range.2 (Array.getElem?_eq_some_iff.1 gY).1) iu hj oj gY) ?_
  unfold eX; rw [ho]; simp only
  exact gX (uM (gA hC h3) kp) fun env' M' hx => ⟨(iQ.1 hx).1, (ih Ss hS).1 _ env' M' (iQ.1 hx).1 (hd.add hr) (iQ.1 hx).2⟩
 | fork i a b Y7 Y8 =>
  intro Ss hS
  refine ⟨fun L env M jr hd h => ?_, fun L qR env M f jr Hv dV hd h Ri j hj zY => ?_⟩
  ·obtain ⟨hr, h2⟩ := cond_true h
   obtain ⟨hL, o, ho, gu⟩ := bB.1 hr
   rw [ho] at h2; simp only at h2
   have hc := jE (n := ops.size) (Array.getElem?_eq_some_iff.1 ho).1 hL
   rw [hc]
   refine fun dV => ⟨fun hno => (by rw [hno i] at hr; cases hr), fun j hj => ?_⟩
   by_cases iu : j = i
   ·subst iu
    unfold eX; rw [ho]; simp only
    exact gX (uM (mY hS jr (gA hC h2.1)) kp) fun env' M' hx => ⟨hx.1, (Y7 Ss hS).1 _ env' M' hx.1 (hd.add hr) hx.2⟩
   ·exact (Y8 Ss hS).2 L (0 ||| 2 ^ i) env M (uL ops.size (L ||| 2 ^ i)) jr hc dV hd h2.2 (by simp) j hj (by rw [dh]; simp [Ne.symm iu])
  ·obtain ⟨hr, h2⟩ := cond_true h
   obtain ⟨hL, o, ho, gu⟩ := bB.1 hr
   rw [ho] at h2; simp only at h2
   have hc := jE (n := ops.size) (Array.getElem?_eq_some_iff.1 ho).1 hL
   by_cases iu : j = i
   ·subst iu
    unfold eX; rw [ho]; simp only
    have hf : f = uL ops.size (L ||| 2 ^ j) := by omega
    subst hf
    exact gX (uM (mY hS jr (gA hC h2.1)) kp) fun env' M' hx => ⟨hx.1, (Y7 Ss hS).1 _ env' M' hx.1 (hd.add hr) hx.2⟩
   ·exact (Y8 Ss hS).2 L (qR ||| 2 ^ i) env M f jr Hv dV hd h2.2 (by intro h0; have := dh qR i i; rw [h0] at this; simp at this) j hj (by rw [dh, zY]; simp [Ne.symm iu])
 | dead =>
  intro Ss hS
  refine ⟨fun L env M jr hd h => ?_, fun L qR env M f _ _ _ hd h Ri i hi Qw => ?_⟩
  ·obtain ⟨h1, _⟩ := cond_true h
   simp at h1
  ·obtain ⟨h1, _⟩ := cond_true h
   simp only [Bool.and_eq_true] at h1
   have := jd h1.1 i hi; rw [Qw] at this; cases this
theorem tO {P : Program} {a : Act} {o : Oper} {M F : Mem} {w : World} {K : Value → Mem → Prop} {Kp : List PanicEntry → Mem → Prop} {next : Act → World → Prop} {Q : Exit → Act → World → Prop}
  (h : cW P (execOp a.eval o) M (j8 P K Kp) (fun v M' => Kp [{ v, recovered := false }] M')) (hd : M.dj F) (hi : (M.union F).In E w)
  (hn : ∀ v w', eN E F (K v) w' → next (a.put o.dst v) w') (hp : ∀ c w', eN E F (Kp c) w' → Q (.panic c) a w') : o.wp P a w next Q := by
 have hr := EX P _ h hd hi
 unfold gV at hr
 unfold Oper.wp
 split at hr
 ·rename_i n w' hrun
  rw [hrun]
  obtain ⟨M', hk, hd', hi'⟩ := hr
  cases n <;> first | exact hk.elim | skip
  ·exact hn _ _ ⟨M', hk, hd', hi'⟩
  ·exact hn _ _ ⟨M', hk, hd', hi'⟩
  ·rename_i f args
   refine (hk E F w' hd' hi').mono fun e w'' he => ?_
   cases e with
   | returned v => exact hn _ _ he
   | panicked c => exact hp _ _ he
   | outgrown => exact he.elim
 ·rename_i v w' hrun
  rw [hrun]
  exact hp _ _ hr
 ·exact hr.elim
theorem qS {N : Nat} {env : Nat → Value} {a : Act} (dQ : da N env a.tmps) (hfit : ∀ o ∈ ops.toList, lg N o = true) (o : Oper) :
  Region.wanted o (yielded ops a.tmps) = bH ops o env := by
 unfold Region.wanted bH
 cases hg : o.guard with
 | none => rfl
 | some jw =>
  obtain ⟨j, want⟩ := jw
  simp only
  have hy : yielded ops a.tmps j = match (j9 ops j).map env with | some (.bool b) => some b | _ => none := by
   unfold yielded j9
   cases hj : ops[j]? with
   | none => rfl
   | some oj =>
    simp only [Option.bind_some]
    cases hd : oj.dst with
    | none => rfl
    | some s =>
     have hm : oj ∈ ops.toList := by have := Array.mem_of_getElem? hj; simpa using this
     have hs := (fj (hfit oj hm)).2.1 s hd
     simp only [Option.bind_some, dQ.2 s hs, Option.map_some]
     cases env s <;> rfl
  rw [hy]
  cases (j9 ops j).map env with
  | none => rfl
  | some v => cases v <;> first | rfl | (cases want <;> rename_i b <;> cases b <;> rfl)
structure Post (E : pO) (N : Nat) (Z : Act → Prop) (F : Mem) (K : (Nat → Value) → Mem → Prop) (Kp : List PanicEntry → Mem → Prop) (Q : Exit → Act → World → Prop) : Prop where
 normal : ∀ env M a w, da N env a.tmps → Z a → M.dj F → (M.union F).In E w → K env M → Q .normal a w
 panic : ∀ c a w, Z a → eN E F (Kp c) w → Q (.panic c) a w
theorem put_defers {a : Act} {dst : Option Tmp} {v : Value} : (a.put dst v).defers = a.defers := by cases dst <;> rfl
theorem zd {N : Nat} {Z : Act → Prop} {F : Mem} {Q : Exit → Act → World → Prop} (hz : ∀ o ∈ ops.toList, ∀ (a : Act) (v : Value), Z a → Z (a.put o.dst v)) (hfit : ∀ o ∈ ops.toList, lg N o = true)
  (hp : ∀ c a w, Z a → eN E F (Kp c) w → Q (.panic c) a w) {i : Nat} {env : Nat → Value} {M : Mem} {a : Act} {w : World} {K' : (Nat → Value) → Mem → Prop} {next : Act → World → Prop}
  (dQ : da N env a.tmps) (hds : Z a) (hd : M.dj F) (hi : (M.union F).In E w)
  (hn : ∀ env' M' a' w', da N env' a'.tmps → Z a' → M'.dj F → (M'.union F).In E w' → K' env' M' → next a' w') (h : eX C ops Kp i env M K') : wpOp C.P ops Q i next a w := by
 unfold wpOp
 unfold eX at h
 cases ho : ops[i]? with
 | none => rw [ho] at h; exact hn _ _ _ _ dQ hds hd hi h
 | some o =>
  rw [ho] at h
  simp only at h
  have hm : o ∈ ops.toList := by have := Array.mem_of_getElem? ho; simpa using this
  have hf := hfit o hm
  simp only
  rw [qS dQ hfit]
  unfold dw at h
  split
  ·rename_i hw
   rw [if_pos hw] at h
   refine .inl (tO (K := fun v M' => K' (aU env o.dst v) M') (Kp := Kp) (F := F) (by rw [← dQ.execOp hf]; exact vb h) hd hi (fun v w' hv => ?_) (fun c w' hc => hp _ _ _ hds hc))
   obtain ⟨M', hk, hd', hi'⟩ := hv
   exact hn _ _ _ _ (dQ.put (fj hf).2.1 v) (hz o hm _ _ hds) hd' hi' hk
  ·rename_i hw
   rw [if_neg hw] at h
   exact hn _ _ _ _ (dQ.put (fj hf).2.1 undef) (hz o hm _ _ hds) hd hi h
def mZ (ops : Array Oper) (arr : Array Bool) (L : Nat) : Prop := arr.size = ops.size ∧ ∀ i, i < ops.size → arr[i]? = some (L.testBit i)
theorem mZ.add {arr : Array Bool} {L i : Nat} (h : mZ ops arr L) (hi : i < ops.size) : mZ ops (arr.setIfInBounds i true) (L ||| 2 ^ i) := by
 refine ⟨by simp [h.1], fun k hk => ?_⟩
 by_cases Cb : i = k
 ·subst Cb; simp [h.1, hi]
 ·rw [Array.getElem?_setIfInBounds_ne Cb, h.2 k hk, dh]; simp [Cb]
theorem sL {arr : Array Bool} {L : Nat} (h : mZ ops arr L) (tP : ∀ (j : Nat) (o : Oper), ops[j]? = some o → ∀ e ∈ o.after, Region.binds .any e = true → e.on < ops.size) (i : Nat) :
  i ∈ Region.ready .any ops arr ↔ en ops L i = true := by
 rw [mem_ready, bB]
 constructor
 ·rintro ⟨h0, o, ho, gu⟩
  have hlt := (Array.getElem?_eq_some_iff.1 ho).1
  refine ⟨?_, o, ho, fun e he hb => ?_⟩
  ·have := h.2 i hlt; simp [Array.getD_eq_getD_getElem?, this] at h0; exact h0
  ·have h1 := gu e he hb
   have := h.2 e.on (tP i o ho e he hb)
   simpa [Array.getD_eq_getD_getElem?, this] using h1
 ·rintro ⟨h0, o, ho, gu⟩
  have hlt := (Array.getElem?_eq_some_iff.1 ho).1
  refine ⟨by simp [Array.getD_eq_getD_getElem?, h.2 i hlt, h0], o, ho, fun e he hb => ?_⟩
  have := h.2 e.on (tP i o ho e he hb)
  simp [Array.getD_eq_getD_getElem?, this, gu e he hb]
theorem xo {S : Mem → Prop} {N : Nat} {Z : Act → Prop} {F : Mem} {Q : Exit → Act → World → Prop} (hz : ∀ o ∈ ops.toList, ∀ (a : Act) (v : Value), Z a → Z (a.put o.dst v)) (hfit : ∀ o ∈ ops.toList, lg N o = true)
  (tP : ∀ (j : Nat) (o : Oper), ops[j]? = some o → ∀ e ∈ o.after, Region.binds .any e = true → e.on < ops.size) (hpost : Post E N Z F K Kp Q) :
  ∀ (f L : Nat) (arr : Array Bool) (env : Nat → Value) (M : Mem) (a : Act) (w : World), mZ ops arr L → da N env a.tmps → Z a → M.dj F → (M.union F).In E w →
   cI C ops S K (sK Kp) f L env M → wpAny C.P .any ops Q f arr a w := by
 intro f
 induction f with
 | zero =>
  intro L arr env M a w hl dQ hds hd hi h
  have dV : qP M := ⟨w.heap.size, fun b hb => by
   cases hm : M b with
   | none => rfl
   | some o => have := hi.lt (Mem.union_left (F := F) hm); omega⟩
  obtain ⟨h1, h2⟩ := h dV
  refine ⟨?_, hpost.normal _ _ _ _ dQ hds hd hi h2⟩
  rw [List.eq_nil_iff_forall_not_mem]
  intro i hmem
  have := (sL hl tP i).1 hmem
  rw [h1 i] at this; cases this
 | succ f ih =>
  intro L arr env M a w hl dQ hds hd hi h
  have dV : qP M := ⟨w.heap.size, fun b hb => by
   cases hm : M b with
   | none => rfl
   | some o => have := hi.lt (Mem.union_left (F := F) hm); omega⟩
  obtain ⟨h1, h2⟩ := h dV
  refine ⟨fun KH => ?_, fun i hmem => ?_⟩
  ·refine hpost.normal _ _ _ _ dQ hds hd hi (h1 fun i => ?_)
   cases hr : en ops L i with
   | false => rfl
   | true => have := (sL hl tP i).2 hr; rw [KH] at this; cases this
  ·have hr := (sL hl tP i).1 hmem
   obtain ⟨_, o, ho, _⟩ := bB.1 hr
   exact zd hz hfit (fun c a w h1 h2 => hpost.panic c a w h1 h2.up) dQ hds hd hi (fun env' M' a' w' g1 g2 g3 g4 g5 => ih _ _ _ _ _ _ (hl.add (Array.getElem?_eq_some_iff.1 ho).1) g1 g2 g3 g4 g5.2) (h2 i hr)
def N5 (C : Ctx) (ops : Array Oper) (K : (Nat → Value) → Mem → Prop) (Kp : List PanicEntry → Mem → Prop) : List Oper → (Nat → Value) → Mem → Prop
 | [], env, M => K env M
 | o :: rest, env, M => Fa C ops o env M (fun env' M' => N5 C ops K Kp rest env' M') Kp
end
end Go.AF
