/- A part of proofs about one program. -/
import Derived.Test.YtnnlgknlialpmaaGreatZTraceSeenOpsB
set_option linter.unusedVariables false
namespace Go.AF
variable {E : s9}
def aa (P : Program) (f : FuncId) (args : Array Value) (M : Mem) (K : Value → Mem → Prop) (Kp : List PanicEntry → Mem → Prop) : Prop :=
 ∀ (E : s9) (F : Mem) (w : World), M.dj F → (M.union F).In E w → Calls P f args w fun e w' => match e with
  | .returned v => gi E F (K v) w'
  | .panicked c => gi E F (Kp c) w'
  | .outgrown => False
theorem aa.mono {P : Program} {f : FuncId} {args : Array Value} {M : Mem} {K K' : Value → Mem → Prop} {Kp vO : List PanicEntry → Mem → Prop}
  (h : aa P f args M K Kp) (hk : ∀ v M', K v M' → K' v M') (hp : ∀ c M', Kp c M' → vO c M') : aa P f args M K' vO :=
 fun E F w hd hi => (h E F w hd hi).mono fun e w' he => by
  cases e with
  | returned v => exact gi.mono he (hk v)
  | panicked c => exact gi.mono he (hp c)
  | outgrown => exact he
theorem aa.imp {P : Program} {f : FuncId} {args : Array Value} {M : Mem} {K K' : Value → Mem → Prop} {vO : List PanicEntry → Mem → Prop}
  (h : aa P f args M K (fun _ _ => False)) (hk : ∀ v M', K v M' → K' v M') : aa P f args M K' vO := h.mono hk fun _ _ x => x.elim
structure Ctx where
 P : Program
 ok : Nat
def pz (P : Program) (g : Nat) : Bool := match P.funcs[g]? with
 | some fn => !(fn.name == "runtime.NumGoroutine") && fn.body.isSome
 | none => false
def Ctx.Good (C : Ctx) : Prop := (∀ g, 1 < g ∧ g < C.ok → pz C.P g = true) ∧ C.P.follows .mixedOrders = true
def Tw (c : Bu) (K : Value → Prop) : Prop :=
 match c with
 | .int k => ∃ n, K (.int k n)
 | .bool => ∃ b, K (.bool b)
 | .str => ∃ s, K (.string s)
 | .ptr => ∃ p, K (.pointer p)
 | .sl => ∃ A n c, K (.slice A n c)
 | .val => ∃ v, K v
def LQ : List Bu → (List Value → Prop) → Prop
 | [], K => K []
 | c :: cs, K => Tw c fun v => LQ cs fun vs => K (v :: vs)
inductive AM where
 | c (s : Bu)
 | a (l : List Bu)
 | b (n : Nat)
def tsh (P : Program) (t : TypeId) : AM := match P.underlying t with
 | some d => if vP d then (if (flat P 8 t).length ≤ 12 then .a (flat P 8 t) else .b (flat P 8 t).length) else .c (WJ d)
 | none => .c .val
def LR : AM → (Value → Prop) → Prop
 | .c c, K => Tw c K
 | .a l, K => LQ l fun vs => K (.agg vs.toArray)
 | .b n, K => ∃ l : List Value, l.length = n ∧ K (.agg l.toArray)
def Gl : List AM → (List Value → Prop) → Prop
 | [], K => K []
 | c :: cs, K => LR c fun v => Gl cs fun vs => K (v :: vs)
def Xr : AM → AM
 | .b n => if n ≤ 14 then .a (List.replicate n .val) else .b n
 | s => s
def yZ (P : Program) (t : TypeId) (v : Value) (K : Value → Prop) : Prop :=
 match P.underlying t with
 | some (.tuple ts) => Gl (ts.toList.map (tsh P)) fun vs => v = .tuple vs.toArray ∧ K (.tuple vs.toArray)
 | some d => if vP d then LR (Xr (tsh P t)) fun u => v = u ∧ K u else D1 (WJ d) (some v) K
 | none => K v
theorem BA {c : Bu} {K : Value → Prop} (h : Tw c K) : ∃ v, K v := by
 cases c <;> first | exact h.imp' _ (fun _ h => h) | skip
 all_goals first
  | (obtain ⟨n, h⟩ := h; exact ⟨_, h⟩)
  | (obtain ⟨A, n, c, h⟩ := h; exact ⟨_, h⟩)
theorem y3 : ∀ {l : List Bu} {K : List Value → Prop}, LQ l K → ∃ vs, K vs
 | [], K, h => ⟨[], h⟩
 | c :: cs, K, h => by
  obtain ⟨v, h⟩ := BA h
  obtain ⟨vs, h⟩ := y3 h
  exact ⟨_, h⟩
theorem y4 {c : AM} {K : Value → Prop} (h : LR c K) : ∃ v, K v := by
 cases c with
 | c c => exact BA h
 | a l => obtain ⟨vs, h⟩ := y3 (l := l) h; exact ⟨_, h⟩
 | b n => obtain ⟨l, _, h⟩ := h; exact ⟨_, h⟩
theorem xn : ∀ {l : List AM} {K : List Value → Prop}, Gl l K → ∃ vs, K vs
 | [], K, h => ⟨[], h⟩
 | c :: cs, K, h => by
  obtain ⟨v, h⟩ := y4 h
  obtain ⟨vs, h⟩ := xn h
  exact ⟨_, h⟩
theorem vR {P : Program} {t : TypeId} {v : Value} {K : Value → Prop} (h : yZ P t v K) : K v := by
 unfold yZ at h
 split at h
 ·obtain ⟨vs, hv, h2⟩ := xn h; rw [hv]; exact h2
 ·split at h
  ·obtain ⟨u, hv, h2⟩ := y4 h; rw [hv]; exact h2
  ·obtain ⟨v', hv, h⟩ := pn h; cases hv; exact h
 ·exact h
def CM (P : Program) {α : Type} : Sem α → Option (Obj × (Nat → Sem α))
 | .program k => CM P (k P)
 | .new o k => some (o, k)
 | _ => none
def PF (P : Program) (t : TypeId) (len : Nat) (parts : List (Nat × Value)) (M : Mem) (K : Value → Mem → Prop) : Prop :=
 match P.underlying t with
 | some (.slice e) => match P.info? e with
  | some i => match i.zero with
   | some z => if z.cells.toList.length = i.size ∧ len * i.size ≤ 16777216 then
     (match yX (fun k => some (k * i.size, i.size)) (List.replicate len z.cells.toList).flatten parts with
     | some cs => aX M (.cells cs.toArray e) fun b M' => K (.slice (some ⟨b, 0, none⟩) len len) M'
     | none => False) else False
   | none => False
  | none => False
 | _ => False
def LS (P : Program) (ρ : Operand → Value) (o : Oper) (M : Mem) (K : Value → Mem → Prop) : Prop :=
 match o.op with
 | .buildSlice t len parts => PF P t len (parts.toList.map fun p => (p.1, ρ p.2)) M K
 | _ => match CM P (execOp ρ o) with
  | some (ob, k) => aX M ob fun b M' => (match bR P (k b) Mem.empty with | some (.value v) => K v M' | _ => False)
  | none => False
def bk (P : Program) (s : Sem Value) (M : Mem) (K : Value → Mem → Prop) (Kp : List PanicEntry → Mem → Prop) : Prop :=
 dV P s M K fun v M' => Kp [{ v, recovered := false }] M'
def bJ (P : Program) (s : Sem Unit) (M : Mem) (K : Mem → Prop) (Kp : List PanicEntry → Mem → Prop) : Prop :=
 dV P s M (fun _ => K) fun v M' => Kp [{ v, recovered := false }] M'
def gZ (C : Ctx) (f : Value) (args : List Value) (M : Mem) (K : Value → Mem → Prop) (Kp : List PanicEntry → Mem → Prop) : Prop :=
 match f with
 | .func (.func g) first cap => if 1 < g ∧ g < C.ok then aa C.P g (first.toList ++ args ++ cap.toList).toArray M K Kp else False
 | _ => False
inductive Cls where
 | pure | read | new | JC
def cls (P : Program) (o : Oper) : Cls :=
 match o.op with
 | .load .. => .read
 | .alloc .. | .box .. | .buildSlice .. | .makeMap _ none => .new
 | .convert s d _ => match P.underlying s, P.underlying d with
  | some (.slice _), _ => .JC
  | _, some (.slice _) => .JC
  | _, _ => .pure
 | .call c => match c.callee with
  | .builtin .len => match P.underlying (c.argTypes.getD 0 0) with
   | some (.map ..) => .JC
   | _ => .pure
  | .builtin .cap => .pure
  | .builtin .min => .pure
  | .builtin .max => .pure
  | _ => .JC
 | .binOp op t x y _ => match op with
  | .eql | .neq => match P.underlying t with
   | some (.pointer _) => bif D4 x || D4 y then .pure else .JC
   | _ => .pure
  | _ => .pure
 | .move .. | .assign .. | .pick .. | .build .. | .nilCheck .. | .unOp .. | .makeInterface .. | .makeFunc .. | .slice .. | .fieldAddr .. | .field .. | .indexAddr .. | .index .. | .typeAssert .. | .extract .. => .pure
 | _ => .JC
def PG (neg b : Bool) : Bool := match neg with | true => !b | false => b
def kZ (M : Mem) (b : Nat) : Prop := ∃ c T, M b = some (.cells c T (0, 0))
def ptrEq (M : Mem) (p q : Option Addr) (K : Bool → Prop) : Prop := match p, q with
 | some a, some b => (a = b → K true) ∧ (a ≠ b → (a.block = b.block ∨ (kZ M a.block ∧ kZ M b.block)) ∧ K false)
 | none, none => K true
 | _, _ => K false
def PI (P : Program) (neg : Bool) (t : TypeId) (x y : Value) (M : Mem) (K : Value → Mem → Prop) : Prop :=
 match x with
 | .pointer p => match y with
  | .pointer q => match P.underlying t with
   | some (.pointer e) => match P.info? e with
    | some i => bif Nat.beq i.size 0 then False else ptrEq M p q fun b => K (.bool (PG neg b)) M
    | none => False
   | _ => False
  | _ => False
 | _ => False
def Tx (C : Ctx) (ρ : Operand → Value) (o : Oper) (M : Mem) (K : Value → Mem → Prop) (Kp : List PanicEntry → Mem → Prop) : Prop :=
 match o.op with
 | .store t a x => Gb C.P t (ρ a) (ρ x) M fun M' => K undef M'
 | .call c => match c.callee with
  | .value f => gZ C (ρ f) (c.args.toList.map ρ) M (fun v M' => yZ C.P o.type v fun v' => K v' M') Kp
  | .builtin .append => bk C.P (Builtin.append_ c.argTypes o.type (c.args.toList.map ρ).toArray) M (fun v M' => yZ C.P o.type v fun v' => K v' M') Kp
  | .builtin .len => bk C.P (Builtin.len_ c.argTypes o.type (c.args.toList.map ρ).toArray) M (fun v M' => yZ C.P o.type v fun v' => K v' M') Kp
  | .builtin .copy => bk C.P (Builtin.copy_ c.argTypes o.type (c.args.toList.map ρ).toArray) M (fun v M' => yZ C.P o.type v fun v' => K v' M') Kp
  | .builtin .delete => bk C.P (Builtin.delete_ c.argTypes o.type (c.args.toList.map ρ).toArray) M (fun v M' => yZ C.P o.type v fun v' => K v' M') Kp
  | _ => False
 | .binOp .eql t x y _ => PI C.P false t (ρ x) (ρ y) M K
 | .binOp .neq t x y _ => PI C.P true t (ρ x) (ρ y) M K
 | .makeSlice t l c => bk C.P (Instr.makeSlice t (ρ l) (ρ c)) M (fun v M' => yZ C.P o.type v fun v' => K v' M') Kp
 | .convert s d x => bk C.P (convert s d (ρ x)) M (fun v M' => yZ C.P o.type v fun v' => K v' M') Kp
 | .lookup t x i ok => bk C.P (Instr.lookup t (ρ x) (ρ i) ok) M (fun v M' => yZ C.P o.type v fun v' => K v' M') Kp
 | .mapEntry t m k => bk C.P (Instr.mapEntry t (ρ m) (ρ k)) M K Kp
 | .range t x => bk C.P (Instr.range t (ρ x)) M K Kp
 | .next it s => bk C.P (Instr.next (ρ it) s o.type) M K Kp
 | .entry it => bk C.P (Instr.entry (ρ it)) M K Kp
 | .mapUpdate t m k x => bJ C.P (Instr.mapUpdate t (ρ m) (ρ k) (ρ x)) M (K undef) Kp
 | .insert t m k x => bJ C.P (Instr.mapUpdate t (ρ m) (ρ k) (ρ x)) M (K undef) Kp
 | .entryStore t m s x => bJ C.P (Instr.entryStore t (ρ m) (ρ s) (ρ x)) M (K undef) Kp
 | .panic x => match ρ x with
  | .iface t v => Kp [{ v := .iface t v, recovered := false }] M
  | _ => False
 | _ => False
def Xs (C : Ctx) (ρ : Operand → Value) (o : Oper) (M : Mem) (K : Value → Mem → Prop) (Kp : List PanicEntry → Mem → Prop) : Prop :=
 match cls C.P o with
 | .pure => LN C.P ρ o fun v => K v M
 | .read => match o.op with
  | .load t a => Ij C.P t (ρ a) M fun v => K v M
  | _ => False
 | .new => LS C.P ρ o M K
 | .JC => Tx C ρ o M K Kp
def mO (P : Program) (K : Value → Mem → Prop) (Kp : List PanicEntry → Mem → Prop) : Next → Mem → Prop
 | .value v, M => K v M
 | .skip, M => K undef M
 | .enter f args, M => aa P f args M K Kp
 | _, _ => False
theorem LU (P : Program) {α : Type} (s : Sem α) {ob : Obj} {k : Nat → Sem α} : CM P s = some (ob, k) →
  ∀ {M : Mem} {K : α → Mem → Prop} {Kp : Value → Mem → Prop}, (∀ b, M b = none → dV P (k b) (M.set b ob) K Kp) → dV P s M K Kp := by
 induction s with
 | program k' ih => intro h M K Kp hk; exact ih P h hk
 | new o k' ih => intro h M K Kp hk; simp only [CM, Option.some.injEq, Prod.mk.injEq] at h; obtain ⟨rfl, rfl⟩ := h; exact hk
 | _ => intro h; simp [CM] at h
theorem gu {P : Program} {s : Sem Value} {M : Mem} {K : Value → Mem → Prop} {Kp : List PanicEntry → Mem → Prop} (h : bk P s M K Kp) :
  dV P (s >>= fun x => pure (Next.value x)) M (mO P K Kp) (fun v M' => Kp [{ v, recovered := false }] M') := gq P s _ h
theorem kL {zs : List Value} {s : Nat} (hs : zs.length = s) : ∀ n, (List.range (n * s)).map (fun k => zs.toArray[k % zs.toArray.size]!) = (List.replicate n zs).flatten
 | 0 => by simp
 | n + 1 => by
  have ih := kL hs n
  rw [Nat.succ_mul, List.range_add, List.map_append, ih, List.replicate_succ', List.flatten_append]
  congr 1
  simp only [List.flatten_cons, List.flatten_nil, List.append_nil, List.map_map]
  apply List.ext_getElem
  ·simp [hs]
  ·intro k h1 h2
   have hk : k < s := by simpa using h1
   simp [hs, Nat.mod_eq_of_lt hk, Nat.mul_add_mod_self_right, List.getElem?_eq_getElem h2]
def FY (P : Program) {α : Type} : Sem α → Option α
 | .pure a => some a
 | .program k => FY P (k P)
 | _ => none
theorem Ec (P : Program) {α β : Type} (s : Sem α) (f : α → Sem β) : FY P (s >>= f) = (FY P s).bind fun a => FY P (f a) := by
 show FY P (s.bind f) = _
 induction s with
 | pure a => rfl
 | program k ih => exact ih P
 | _ => rfl
theorem CN (P : Program) {α β : Type} (s : Sem α) (f : α → Sem β) {x : α} (h : FY P s = some x) : CM P (s >>= f) = CM P (f x) := by
 show CM P (s.bind f) = _
 induction s with
 | pure a => simp only [FY, Option.some.injEq] at h; subst h; rfl
 | program k ih => exact ih P h
 | _ => simp [FY] at h
theorem Ed (P : Program) {α β : Type} (s : Sem α) (f : α → Sem β) {ob : Obj} {k : Nat → Sem α} (h : CM P s = some (ob, k)) : CM P (s >>= f) = some (ob, fun b => k b >>= f) := by
 show CM P (s.bind f) = _
 induction s with
 | program k' ih => exact ih P h
 | new o k' ih => simp only [CM, Option.some.injEq, Prod.mk.injEq] at h; obtain ⟨rfl, rfl⟩ := h; rfl
 | _ => simp [CM] at h
theorem xo {P : Program} {t : TypeId} {i : TypeInfo} (h : P.info? t = some i) : FY P (typeInfo t) = some i := by
 show FY P (Sem.bind program _) = _
 simp only [program, Sem.bind, FY, h]; rfl
theorem AN {P : Program} {t : TypeId} {d : TypeDesc} (h : P.underlying t = some d) : FY P (underlying t) = some d := by
 show FY P (Sem.bind program _) = _
 simp only [program, Sem.bind, FY, h]; rfl
theorem JD {P : Program} {t : TypeId} {i : TypeInfo} (h : P.info? t = some i) : FY P (sizeOf t) = some i.size := by
 simp only [sizeOf, Ec, xo h, Option.bind_some]; rfl
theorem Il {P : Program} {t : TypeId} {i : TypeInfo} {z : Value} (h : P.info? t = some i) (hz : i.zero = some z) : FY P (zeroValue t) = some z := by
 simp only [zeroValue, Ec, xo h, Option.bind_some, hz]; rfl
theorem PJ {P : Program} {t : TypeId} {len : Nat} {parts : Array (Nat × Value)} {M : Mem} {K : Value → Mem → Prop} (h : PF P t len parts.toList M K) :
  ∃ ob, CM P (Instr.buildSlice t len parts) = some (ob, fun b => pure (.slice (some ⟨b, 0, none⟩) len len)) ∧ ∀ b, M b = none → K (.slice (some ⟨b, 0, none⟩) len len) (M.set b ob) := by
 unfold PF at h
 split at h
 ·rename_i e hu
  split at h
  ·rename_i i hi
   split at h
   ·rename_i z hz
    split at h
    ·rename_i hc
     split at h
     ·rename_i cs hcs
      refine ⟨.cells cs.toArray e, ?_, h⟩
      unfold Instr.buildSlice
      rw [CN P _ _ (AN hu)]
      simp only
      rw [CN P _ _ (JD hi)]
      have hle : ¬ (len * i.size > 2 ^ 24) := by have := hc.2; omega
      simp only [hle, if_false]
      by_cases h0 : len * i.size = 0
      ·simp only [h0, if_true]
       have hr := kL hc.1 len
       rw [h0] at hr
       simp only [List.range_zero, List.map_nil] at hr
       rw [← hr] at hcs
       have := fill_eq (fun k => some (k * i.size, i.size)) parts.toList []
       rw [hcs] at this
       have e0 : (Array.range 0).map (fun k => (#[] : Array Value)[k % (#[] : Array Value).size]!) = ([] : List Value).toArray := by simp
       show CM P (match Instr.fill (fun k => some (k * i.size, i.size)) ((Array.range 0).map (fun k => (#[] : Array Value)[k % (#[] : Array Value).size]!)) parts.toList with
        | some cells => (do pure (.slice (some (← newRow e cells)) len len) : Sem Value)
        | x => stuck "buildSlice: a part of the wrong size") = _
       rw [e0, this]
       rfl
      ·simp only [h0, if_false]
       rw [CN P _ _ (Il hi hz)]
       have Ty : (Array.range (len * i.size)).map (fun k => z.cells[k % z.cells.size]!) = (List.replicate len z.cells.toList).flatten.toArray := by
        rw [← kL hc.1 len]
        apply Array.ext'
        simp
       show CM P (match Instr.fill (fun k => some (k * i.size, i.size)) ((Array.range (len * i.size)).map (fun k => z.cells[k % z.cells.size]!)) parts.toList with
        | some cells => (do pure (.slice (some (← newRow e cells)) len len) : Sem Value)
        | x => stuck "buildSlice: a part of the wrong size") = _
       rw [Ty, fill_eq, hcs]
       rfl
     ·exact h.elim
    ·exact h.elim
   ·exact h.elim
  ·exact h.elim
 ·exact h.elim
theorem Im {P : Program} {ρ : Operand → Value} {o : Oper} {M : Mem} {K : Value → Mem → Prop} (h : LS P ρ o M K) :
  ∃ (ob : Obj) (k : Nat → Sem Next), CM P (execOp ρ o) = some (ob, k) ∧ ∀ b, M b = none → ∃ v, bR P (k b) Mem.empty = some (.value v) ∧ K v (M.set b ob) := by
 unfold LS at h
 split at h
 ·rename_i t len parts ho
  obtain ⟨dst, op, type, pos, after, guard⟩ := o
  simp only at ho; subst ho
  obtain ⟨ob, h1, h2⟩ := PJ (parts := parts.map fun (i, x) => (i, ρ x)) (by rw [Array.toList_map]; exact h)
  refine ⟨ob, fun b => pure (Next.value (.slice (some ⟨b, 0, none⟩) len len)), ?_, fun b hb => ⟨_, rfl, h2 b hb⟩⟩
  simp only [execOp]
  rw [Ed P _ _ h1]
  rfl
 ·split at h
  ·rename_i ob k hn
   refine ⟨ob, k, hn, fun b hb => ?_⟩
   have := h b hb
   dsimp only at this
   split at this
   ·rename_i v hv; exact ⟨v, hv, this⟩
   ·exact this.elim
  ·exact h.elim
theorem nC {P : Program} {s : Sem Unit} {M : Mem} {K : Value → Mem → Prop} {Kp : List PanicEntry → Mem → Prop} (h : bJ P s M (K undef) Kp) :
  dV P (s >>= fun _ => pure Next.skip) M (mO P K Kp) (fun v M' => Kp [{ v, recovered := false }] M') := gq P s _ h
theorem ug {P : Program} {s : Sem Value} {t : TypeId} {M : Mem} {K : Value → Mem → Prop} {Kp : List PanicEntry → Mem → Prop} (h : bk P s M (fun v M' => yZ P t v fun v' => K v' M') Kp) : bk P s M K Kp :=
 iN P s h (fun v M' hv => vR (K := fun v' => K v' M') hv) (fun _ _ h => h)
theorem Gm {C : Ctx} (hC : C.Good) {f : Value} {c : Call} {fo : Operand} {ρ : Operand → Value} {M : Mem} {K : Value → Mem → Prop} {Kp : List PanicEntry → Mem → Prop} {Kq : Value → Mem → Prop} {t : TypeId}
  (hc : c.callee = .value fo) (hf : ρ fo = f) (h : gZ C f (c.args.toList.map ρ) M K Kp) :
  dV C.P (do let d ← resolve ρ c t; invoke d.target d.args) M (mO C.P K Kp) Kq := by
 unfold gZ at h
 split at h
 ·rename_i g first cap
  split at h
  ·rename_i hg
   have pA := hC.1 g hg
   unfold pz at pA
   split at pA
   ·rename_i fn hfn
    simp only [Bool.and_eq_true, Bool.not_eq_true', beq_eq_false_iff_ne, ne_eq] at pA
    have hb : fn.body.isNone = false := by cases hx : fn.body <;> simp_all
    have hr : resolve ρ c t = pure { target := .fn (.func g) cap, args := first ++ c.args.map ρ } := by
     unfold resolve; rw [hc]; simp only [hf, Deferred.ofValue]
    have hargs : (first.toList ++ c.args.toList.map ρ ++ cap.toList).toArray = first ++ c.args.map ρ ++ cap := by apply Array.ext'; simp
    rw [hargs] at h
    rw [hr]
    show dV C.P (callFunc g (first ++ c.args.map ρ ++ cap)) M _ _
    refine ie C.P _ (x := Next.enter g (first ++ c.args.map ρ ++ cap)) (K := mO C.P K Kp) ?_ h
    simp only [callFunc, aR, program, bR, Option.bind_some, hfn]
    have hn : (fn.name == "runtime.NumGoroutine") = false := by simp [pA.1]
    simp only [hn, hb, Bool.false_eq_true, if_false, bI]
   ·simp at pA
  ·exact h.elim
 ·exact h.elim
theorem Ee {P : Program} {M : Mem} {a b : Addr} (h : a.block = b.block ∨ (kZ M a.block ∧ kZ M b.block)) : bR P (sameAddr a b) M = some (a == b) := by
 unfold sameAddr
 by_cases hb : a.block = b.block
 ·rw [if_pos (by simpa using hb)]; rfl
 ·obtain ⟨⟨c1, T1, h1⟩, ⟨c2, T2, h2⟩⟩ := h.resolve_left hb
  have hne : (a == b) = false := by
   rw [beq_eq_false_iff_ne]; intro he; exact hb (by rw [he])
  rw [if_neg (by simpa using hb), hne]
  simp [noView, viewAt, mayBeOne, stringish, frozen, shape, bR, h1, h2, Bind.bind, Sem.bind, pure, Pure.pure]
theorem Ef {P : Program} {M : Mem} {t e : TypeId} {i : TypeInfo} {p q : Option Addr} (d : Nat) (hu : P.underlying t = some (.pointer e)) (hi : P.info? e = some i) (hz : i.size ≠ 0)
  (h : ∀ a b, p = some a → q = some b → a.block = b.block ∨ (kZ M a.block ∧ kZ M b.block)) : bR P (Op.equalIn (d + 1) t (.pointer p) (.pointer q)) M = some (p == q) := by
 rw [Op.equalIn]; simp only [aR, aL hu, Option.bind_some]
 cases p <;> cases q
 ·rfl
 ·rfl
 ·rfl
 ·rename_i a b
  simp only [aR, fN hi, Option.bind_some]
  rw [if_pos hz, Ee (h a b rfl rfl)]
  simp
theorem BB {C : Ctx} {ρ : Operand → Value} {o : Oper} {op : BinOp} {neg : Bool} {t yt : TypeId} {x y : Operand} {M : Mem} {K : Value → Mem → Prop} {Kp : List PanicEntry → Mem → Prop} (ho : o.op = .binOp op t x y yt)
  (hop : (op = .eql ∧ neg = false) ∨ (op = .neq ∧ neg = true)) (h : PI C.P neg t (ρ x) (ρ y) M K) :
  dV C.P (execOp ρ o) M (mO C.P K Kp) (fun v M' => Kp [{ v, recovered := false }] M') := by
 unfold PI at h
 split at h
 ·rename_i p hx
  split at h
  ·rename_i q hy
   split at h
   ·rename_i e hu
    split at h
    ·rename_i i hi
     have hz : i.size ≠ 0 := by
      intro h0; rw [h0] at h; exact h
     have hz' : Nat.beq i.size 0 = false := by
      cases hb : Nat.beq i.size 0 with
      | false => rfl
      | true => exact absurd (Nat.eq_of_beq_eq_true hb) hz
     rw [hz'] at h
     simp only [cond_false] at h
     have key : ∀ b : Bool, bR C.P (Op.equal t (.pointer p) (.pointer q)) M = some b → K (.bool (PG neg b)) M →
       dV C.P (execOp ρ o) M (mO C.P K Kp) (fun v M' => Kp [{ v, recovered := false }] M') := by
      intro b hb hk
      obtain ⟨dst, op', type, pos, after, guard⟩ := o
      simp only at ho; subst ho
      refine ie C.P (execOp ρ _) (x := Next.value (.bool (PG neg b))) ?_ (show mO C.P K Kp (.value (.bool (PG neg b))) M from hk)
      rcases hop with ⟨rfl, rfl⟩ | ⟨rfl, rfl⟩ <;> simp only [execOp, hx, hy, eqGuard, binOp, aR, bI, Option.bind_some, hb] <;> rfl
     unfold ptrEq at h
     have side : ∀ (hh : ∀ a b, p = some a → q = some b → a.block = b.block ∨ (kZ M a.block ∧ kZ M b.block)), bR C.P (Op.equal t (.pointer p) (.pointer q)) M = some (p == q) := fun hh => Ef 9999 hu hi hz hh
     match p, q, h with
     | some a, some b, h =>
      by_cases hab : a = b
      ·exact key _ (side (fun _ _ h1 h2 => by cases h1; cases h2; exact .inl (by rw [hab]))) (by simpa [hab] using h.1 hab)
      ·exact key _ (side (fun _ _ h1 h2 => by cases h1; cases h2; exact (h.2 hab).1)) (by rw [show (some a == some b) = false from by simpa using hab]; exact (h.2 hab).2)
     | none, none, h => exact key _ (side (fun _ _ h1 _ => by cases h1)) (by simpa using h)
     | some a, none, h => exact key _ (side (fun _ _ _ h2 => by cases h2)) (by simpa using h)
     | none, some b, h => exact key _ (side (fun _ _ h1 _ => by cases h1)) (by simpa using h)
    ·exact h.elim
   ·exact h.elim
  ·exact h.elim
 ·exact h.elim
theorem JE {C : Ctx} (hC : C.Good) {ρ : Operand → Value} {o : Oper} {M : Mem} {K : Value → Mem → Prop} {Kp : List PanicEntry → Mem → Prop} (h : Tx C ρ o M K Kp) :
  dV C.P (execOp ρ o) M (mO C.P K Kp) (fun v M' => Kp [{ v, recovered := false }] M') := by
 obtain ⟨dst, op, type, pos, after, guard⟩ := o
 cases op <;> simp only [Tx] at h <;> try exact h.elim
 case store t a x => exact nC (D3 h)
 case call c =>
  obtain ⟨callee, Sj, argTypes⟩ := c
  cases callee with
  | value f =>
   simp only at h
   refine iN C.P _ (Gm hC (fo := f) (Kq := fun v M' => Kp [{ v, recovered := false }] M') rfl rfl h) (fun n M' hn => ?_) (fun _ _ h => h)
   cases n <;> first
    | exact hn.elim
    | exact vR (K := fun v' => K v' M') hn
    | exact aa.mono hn (fun v M2 hv => vR (K := fun v' => K v' M2) hv) (fun _ _ h => h)
  | invoke r m => exact h.elim
  | builtin b =>
   have hargs : (Sj.toList.map ρ).toArray = Sj.map ρ := by apply Array.ext'; simp
   rw [hargs] at h
   cases b <;> simp only at h <;> first
    | exact h.elim
    | exact gu (ug h)
 case binOp op t x y yt =>
  cases op <;> simp only at h <;> first
   | exact h.elim
   | exact BB (o := ⟨dst, _, type, pos, after, guard⟩) rfl (.inl ⟨rfl, rfl⟩) h
   | exact BB (o := ⟨dst, _, type, pos, after, guard⟩) rfl (.inr ⟨rfl, rfl⟩) h
 case makeSlice => exact gu (ug h)
 case convert => exact gu (ug h)
 case lookup => exact gu (ug h)
 case mapEntry => exact gu h
 case range => exact gu h
 case next => exact gu h
 case entry => exact gu h
 case mapUpdate => exact nC h
 case insert => exact nC h
 case entryStore => exact nC h
 case panic x =>
  simp only [execOp]
  generalize ρ x = v at h
  cases v <;> first | exact h.elim | exact h
end Go.AF
