/- A part of proofs about one program. -/
import Derived.Test.YtnnlgknlialpmaaGreatZSnapAlikeOpsB
set_option linter.unusedVariables false
namespace Go.AF
variable {E : ud}
def aa (P : Program) (f : FuncId) (args : Array Value) (M : Mem) (K : Value → Mem → Prop) (Kp : List PanicEntry → Mem → Prop) : Prop :=
 ∀ (E : ud) (F : Mem) (w : World), M.dj F → (M.union F).In E w → Calls P f args w fun e w' => match e with
  | .returned v => gz E F (K v) w'
  | .panicked c => gz E F (Kp c) w'
  | .outgrown => False
theorem aa.mono {P : Program} {f : FuncId} {args : Array Value} {M : Mem} {K K' : Value → Mem → Prop} {Kp xg : List PanicEntry → Mem → Prop}
  (h : aa P f args M K Kp) (hk : ∀ v M', K v M' → K' v M') (hp : ∀ c M', Kp c M' → xg c M') : aa P f args M K' xg :=
 fun E F w hd hi => (h E F w hd hi).mono fun e w' he => by
  cases e with
  | returned v => exact gz.mono he (hk v)
  | panicked c => exact gz.mono he (hp c)
  | outgrown => exact he
structure Ctx where
 P : Program
 ok : Nat
def qc (P : Program) (g : Nat) : Bool := match P.funcs[g]? with
 | some fn => !(fn.name == "runtime.NumGoroutine") && fn.body.isSome
 | none => false
def Ctx.Good (C : Ctx) : Prop := (∀ g, 1 < g ∧ g < C.ok → qc C.P g = true) ∧ C.P.follows .mixedOrders = true
def VK (c : CT) (K : Value → Prop) : Prop :=
 match c with
 | .int k => ∃ n, K (.int k n)
 | .bool => ∃ b, K (.bool b)
 | .str => ∃ s, K (.string s)
 | .ptr => ∃ p, K (.pointer p)
 | .sl => ∃ A n c, K (.slice A n c)
 | .val => ∃ v, K v
def Ox : List CT → (List Value → Prop) → Prop
 | [], K => K []
 | c :: cs, K => VK c fun v => Ox cs fun vs => K (v :: vs)
inductive Ca where
 | c (s : CT)
 | a (l : List CT)
 | b (n : Nat)
def tsh (P : Program) (t : TypeId) : Ca := match P.underlying t with
 | some d => if xh d then (if (flat P 8 t).length ≤ 12 then .a (flat P 8 t) else .b (flat P 8 t).length) else .c (Zn d)
 | none => .c .val
def Oy : Ca → (Value → Prop) → Prop
 | .c c, K => VK c K
 | .a l, K => Ox l fun vs => K (.agg vs.toArray)
 | .b n, K => ∃ l : List Value, l.length = n ∧ K (.agg l.toArray)
def Iu : List Ca → (List Value → Prop) → Prop
 | [], K => K []
 | c :: cs, K => Oy c fun v => Iu cs fun vs => K (v :: vs)
def Z3 : Ca → Ca
 | .b n => if n ≤ 14 then .a (List.replicate n .val) else .b n
 | s => s
def Af (P : Program) (t : TypeId) (v : Value) (K : Value → Prop) : Prop :=
 match P.underlying t with
 | some (.tuple ts) => Iu (ts.toList.map (tsh P)) fun vs => v = .tuple vs.toArray ∧ K (.tuple vs.toArray)
 | some d => if xh d then Oy (Z3 (tsh P t)) fun u => v = u ∧ K u else Fx (Zn d) (some v) K
 | none => K v
theorem CZ {c : CT} {K : Value → Prop} (h : VK c K) : ∃ v, K v := by
 cases c <;> first | exact h.imp' _ (fun _ h => h) | skip
 all_goals first
  | (obtain ⟨n, h⟩ := h; exact ⟨_, h⟩)
  | (obtain ⟨A, n, c, h⟩ := h; exact ⟨_, h⟩)
theorem Ag : ∀ {l : List CT} {K : List Value → Prop}, Ox l K → ∃ vs, K vs
 | [], K, h => ⟨[], h⟩
 | c :: cs, K, h => by
  obtain ⟨v, h⟩ := CZ h
  obtain ⟨vs, h⟩ := Ag h
  exact ⟨_, h⟩
theorem Ah {c : Ca} {K : Value → Prop} (h : Oy c K) : ∃ v, K v := by
 cases c with
 | c c => exact CZ h
 | a l => obtain ⟨vs, h⟩ := Ag (l := l) h; exact ⟨_, h⟩
 | b n => obtain ⟨l, _, h⟩ := h; exact ⟨_, h⟩
theorem yp : ∀ {l : List Ca} {K : List Value → Prop}, Iu l K → ∃ vs, K vs
 | [], K, h => ⟨[], h⟩
 | c :: cs, K, h => by
  obtain ⟨v, h⟩ := Ah h
  obtain ⟨vs, h⟩ := yp h
  exact ⟨_, h⟩
theorem xk {P : Program} {t : TypeId} {v : Value} {K : Value → Prop} (h : Af P t v K) : K v := by
 unfold Af at h
 split at h
 ·obtain ⟨vs, hv, h2⟩ := yp h; rw [hv]; exact h2
 ·split at h
  ·obtain ⟨u, hv, h2⟩ := Ah h; rw [hv]; exact h2
  ·obtain ⟨v', hv, h⟩ := pY h; cases hv; exact h
 ·exact h
def D7 (P : Program) {α : Type} : Sem α → Option (Obj × (Nat → Sem α))
 | .program k => D7 P (k P)
 | .new o k => some (o, k)
 | _ => none
def Sd (P : Program) (t : TypeId) (len : Nat) (parts : List (Nat × Value)) (M : Mem) (K : Value → Mem → Prop) : Prop :=
 match P.underlying t with
 | some (.slice e) => match P.info? e with
  | some i => match i.zero with
   | some z => if z.cells.toList.length = i.size ∧ len * i.size ≤ 16777216 then
     (match Ad (fun k => some (k * i.size, i.size)) (List.replicate len z.cells.toList).flatten parts with
     | some cs => aX M (.cells cs.toArray e) fun b M' => K (.slice (some ⟨b, 0, none⟩) len len) M'
     | none => False) else False
   | none => False
  | none => False
 | _ => False
def Oz (P : Program) (ρ : Operand → Value) (o : Oper) (M : Mem) (K : Value → Mem → Prop) : Prop :=
 match o.op with
 | .buildSlice t len parts => Sd P t len (parts.toList.map fun p => (p.1, ρ p.2)) M K
 | _ => match D7 P (execOp ρ o) with
  | some (ob, k) => aX M ob fun b M' => (match bQ P (k b) Mem.empty with | some (.value v) => K v M' | _ => False)
  | none => False
def be (P : Program) (s : Sem Value) (M : Mem) (K : Value → Mem → Prop) (Kp : List PanicEntry → Mem → Prop) : Prop :=
 ee P s M K fun v M' => Kp [{ v, recovered := false }] M'
def bK (P : Program) (s : Sem Unit) (M : Mem) (K : Mem → Prop) (Kp : List PanicEntry → Mem → Prop) : Prop :=
 ee P s M (fun _ => K) fun v M' => Kp [{ v, recovered := false }] M'
def gr (C : Ctx) (f : Value) (args : List Value) (M : Mem) (K : Value → Mem → Prop) (Kp : List PanicEntry → Mem → Prop) : Prop :=
 match f with
 | .func (.func g) first cap => if 1 < g ∧ g < C.ok then aa C.P g (first.toList ++ args ++ cap.toList).toArray M K Kp else False
 | _ => False
inductive Cls where
 | pure | read | new | LQ
def cls (P : Program) (o : Oper) : Cls :=
 match o.op with
 | .load .. => .read
 | .alloc .. | .box .. | .buildSlice .. | .makeMap _ none => .new
 | .convert s d _ => match P.underlying s, P.underlying d with
  | some (.slice _), _ => .LQ
  | _, some (.slice _) => .LQ
  | _, _ => .pure
 | .call c => match c.callee with
  | .builtin .len => match P.underlying (c.argTypes.getD 0 0) with
   | some (.map ..) => .LQ
   | _ => .pure
  | .builtin .cap => .pure
  | .builtin .min => .pure
  | .builtin .max => .pure
  | _ => .LQ
 | .binOp op t x y _ => match op with
  | .eql | .neq => match P.underlying t with
   | some (.pointer _) => bif FB x || FB y then .pure else .LQ
   | _ => .pure
  | _ => .pure
 | .move .. | .assign .. | .pick .. | .build .. | .nilCheck .. | .unOp .. | .makeInterface .. | .makeFunc .. | .slice .. | .fieldAddr .. | .field .. | .indexAddr .. | .index .. | .typeAssert .. | .extract .. => .pure
 | _ => .LQ
def Se (neg b : Bool) : Bool := match neg with | true => !b | false => b
def lO (M : Mem) (b : Nat) : Prop := ∃ c T, M b = some (.cells c T (0, 0))
def ptrEq (M : Mem) (p q : Option Addr) (K : Bool → Prop) : Prop := match p, q with
 | some a, some b => (a = b → K true) ∧ (a ≠ b → (a.block = b.block ∨ (lO M a.block ∧ lO M b.block)) ∧ K false)
 | none, none => K true
 | _, _ => K false
def Sf (P : Program) (neg : Bool) (t : TypeId) (x y : Value) (M : Mem) (K : Value → Mem → Prop) : Prop :=
 match x with
 | .pointer p => match y with
  | .pointer q => match P.underlying t with
   | some (.pointer e) => match P.info? e with
    | some i => bif Nat.beq i.size 0 then False else ptrEq M p q fun b => K (.bool (Se neg b)) M
    | none => False
   | _ => False
  | _ => False
 | _ => False
def VL (C : Ctx) (ρ : Operand → Value) (o : Oper) (M : Mem) (K : Value → Mem → Prop) (Kp : List PanicEntry → Mem → Prop) : Prop :=
 match o.op with
 | .store t a x => Ij C.P t (ρ a) (ρ x) M fun M' => K undef M'
 | .call c => match c.callee with
  | .value f => gr C (ρ f) (c.args.toList.map ρ) M (fun v M' => Af C.P o.type v fun v' => K v' M') Kp
  | .builtin .append => be C.P (Builtin.append_ c.argTypes o.type (c.args.toList.map ρ).toArray) M (fun v M' => Af C.P o.type v fun v' => K v' M') Kp
  | .builtin .len => be C.P (Builtin.len_ c.argTypes o.type (c.args.toList.map ρ).toArray) M (fun v M' => Af C.P o.type v fun v' => K v' M') Kp
  | .builtin .copy => be C.P (Builtin.copy_ c.argTypes o.type (c.args.toList.map ρ).toArray) M (fun v M' => Af C.P o.type v fun v' => K v' M') Kp
  | .builtin .delete => be C.P (Builtin.delete_ c.argTypes o.type (c.args.toList.map ρ).toArray) M (fun v M' => Af C.P o.type v fun v' => K v' M') Kp
  | _ => False
 | .binOp .eql t x y _ => Sf C.P false t (ρ x) (ρ y) M K
 | .binOp .neq t x y _ => Sf C.P true t (ρ x) (ρ y) M K
 | .makeSlice t l c => be C.P (Instr.makeSlice t (ρ l) (ρ c)) M (fun v M' => Af C.P o.type v fun v' => K v' M') Kp
 | .convert s d x => be C.P (convert s d (ρ x)) M (fun v M' => Af C.P o.type v fun v' => K v' M') Kp
 | .lookup t x i ok => be C.P (Instr.lookup t (ρ x) (ρ i) ok) M (fun v M' => Af C.P o.type v fun v' => K v' M') Kp
 | .mapEntry t m k => be C.P (Instr.mapEntry t (ρ m) (ρ k)) M K Kp
 | .range t x => be C.P (Instr.range t (ρ x)) M K Kp
 | .next it s => be C.P (Instr.next (ρ it) s o.type) M K Kp
 | .entry it => be C.P (Instr.entry (ρ it)) M K Kp
 | .mapUpdate t m k x => bK C.P (Instr.mapUpdate t (ρ m) (ρ k) (ρ x)) M (K undef) Kp
 | .insert t m k x => bK C.P (Instr.mapUpdate t (ρ m) (ρ k) (ρ x)) M (K undef) Kp
 | .entryStore t m s x => bK C.P (Instr.entryStore t (ρ m) (ρ s) (ρ x)) M (K undef) Kp
 | .panic x => match ρ x with
  | .iface t v => Kp [{ v := .iface t v, recovered := false }] M
  | _ => False
 | _ => False
def Z4 (C : Ctx) (ρ : Operand → Value) (o : Oper) (M : Mem) (K : Value → Mem → Prop) (Kp : List PanicEntry → Mem → Prop) : Prop :=
 match cls C.P o with
 | .pure => Ou C.P ρ o fun v => K v M
 | .read => match o.op with
  | .load t a => Kw C.P t (ρ a) M fun v => K v M
  | _ => False
 | .new => Oz C.P ρ o M K
 | .LQ => VL C ρ o M K Kp
def ng (P : Program) (K : Value → Mem → Prop) (Kp : List PanicEntry → Mem → Prop) : Next → Mem → Prop
 | .value v, M => K v M
 | .skip, M => K undef M
 | .enter f args, M => aa P f args M K Kp
 | _, _ => False
theorem OA (P : Program) {α : Type} (s : Sem α) {ob : Obj} {k : Nat → Sem α} : D7 P s = some (ob, k) →
  ∀ {M : Mem} {K : α → Mem → Prop} {Kp : Value → Mem → Prop}, (∀ b, M b = none → ee P (k b) (M.set b ob) K Kp) → ee P s M K Kp := by
 induction s with
 | program k' ih => intro h M K Kp hk; exact ih P h hk
 | new o k' ih => intro h M K Kp hk; simp only [D7, Option.some.injEq, Prod.mk.injEq] at h; obtain ⟨rfl, rfl⟩ := h; exact hk
 | _ => intro h; simp [D7] at h
theorem gL {P : Program} {s : Sem Value} {M : Mem} {K : Value → Mem → Prop} {Kp : List PanicEntry → Mem → Prop} (h : be P s M K Kp) :
  ee P (s >>= fun x => pure (Next.value x)) M (ng P K Kp) (fun v M' => Kp [{ v, recovered := false }] M') := eK P s _ h
theorem lC {zs : List Value} {s : Nat} (hs : zs.length = s) : ∀ n, (List.range (n * s)).map (fun k => zs.toArray[k % zs.toArray.size]!) = (List.replicate n zs).flatten
 | 0 => by simp
 | n + 1 => by
  have ih := lC hs n
  rw [Nat.succ_mul, List.range_add, List.map_append, ih, List.replicate_succ', List.flatten_append]
  congr 1
  simp only [List.flatten_cons, List.flatten_nil, List.append_nil, List.map_map]
  apply List.ext_getElem
  ·simp [hs]
  ·intro k h1 h2
   have hk : k < s := by simpa using h1
   simp [hs, Nat.mod_eq_of_lt hk, Nat.mul_add_mod_self_right, List.getElem?_eq_getElem h2]
def HU (P : Program) {α : Type} : Sem α → Option α
 | .pure a => some a
 | .program k => HU P (k P)
 | _ => none
theorem FJ (P : Program) {α β : Type} (s : Sem α) (f : α → Sem β) : HU P (s >>= f) = (HU P s).bind fun a => HU P (f a) := by
 show HU P (s.bind f) = _
 induction s with
 | pure a => rfl
 | program k ih => exact ih P
 | _ => rfl
theorem D8 (P : Program) {α β : Type} (s : Sem α) (f : α → Sem β) {x : α} (h : HU P s = some x) : D7 P (s >>= f) = D7 P (f x) := by
 show D7 P (s.bind f) = _
 induction s with
 | pure a => simp only [HU, Option.some.injEq] at h; subst h; rfl
 | program k ih => exact ih P h
 | _ => simp [HU] at h
theorem FK (P : Program) {α β : Type} (s : Sem α) (f : α → Sem β) {ob : Obj} {k : Nat → Sem α} (h : D7 P s = some (ob, k)) : D7 P (s >>= f) = some (ob, fun b => k b >>= f) := by
 show D7 P (s.bind f) = _
 induction s with
 | program k' ih => exact ih P h
 | new o k' ih => simp only [D7, Option.some.injEq, Prod.mk.injEq] at h; obtain ⟨rfl, rfl⟩ := h; rfl
 | _ => simp [D7] at h
theorem yq {P : Program} {t : TypeId} {i : TypeInfo} (h : P.info? t = some i) : HU P (typeInfo t) = some i := by
 show HU P (Sem.bind program _) = _
 simp only [program, Sem.bind, HU, h]; rfl
theorem Cb {P : Program} {t : TypeId} {d : TypeDesc} (h : P.underlying t = some d) : HU P (underlying t) = some d := by
 show HU P (Sem.bind program _) = _
 simp only [program, Sem.bind, HU, h]; rfl
theorem LR {P : Program} {t : TypeId} {i : TypeInfo} (h : P.info? t = some i) : HU P (sizeOf t) = some i.size := by
 simp only [sizeOf, FJ, yq h, Option.bind_some]; rfl
theorem Kz {P : Program} {t : TypeId} {i : TypeInfo} {z : Value} (h : P.info? t = some i) (hz : i.zero = some z) : HU P (zeroValue t) = some z := by
 simp only [zeroValue, FJ, yq h, Option.bind_some, hz]; rfl
theorem Sg {P : Program} {t : TypeId} {len : Nat} {parts : Array (Nat × Value)} {M : Mem} {K : Value → Mem → Prop} (h : Sd P t len parts.toList M K) :
  ∃ ob, D7 P (Instr.buildSlice t len parts) = some (ob, fun b => pure (.slice (some ⟨b, 0, none⟩) len len)) ∧ ∀ b, M b = none → K (.slice (some ⟨b, 0, none⟩) len len) (M.set b ob) := by
 unfold Sd at h
 split at h
 ·rename_i e hu
  split at h
  ·rename_i i hi
   split at h
   ·rename_i z hz
    split at h
    ·rename_i hc
     split at h
     ·rename_i cs hcs
      refine ⟨.cells cs.toArray e, ?_, h⟩
      unfold Instr.buildSlice
      rw [D8 P _ _ (Cb hu)]
      simp only
      rw [D8 P _ _ (LR hi)]
      have hle : ¬ (len * i.size > 2 ^ 24) := by have := hc.2; omega
      simp only [hle, if_false]
      by_cases h0 : len * i.size = 0
      ·simp only [h0, if_true]
       have hr := lC hc.1 len
       rw [h0] at hr
       simp only [List.range_zero, List.map_nil] at hr
       rw [← hr] at hcs
       have := fill_eq (fun k => some (k * i.size, i.size)) parts.toList []
       rw [hcs] at this
       have e0 : (Array.range 0).map (fun k => (#[] : Array Value)[k % (#[] : Array Value).size]!) = ([] : List Value).toArray := by simp
       show D7 P (match Instr.fill (fun k => some (k * i.size, i.size)) ((Array.range 0).map (fun k => (#[] : Array Value)[k % (#[] : Array Value).size]!)) parts.toList with
        | some cells => (do pure (.slice (some (← newRow e cells)) len len) : Sem Value)
        | x => stuck "buildSlice: a part of the wrong size") = _
       rw [e0, this]
       rfl
      ·simp only [h0, if_false]
       rw [D8 P _ _ (Kz hi hz)]
       have VM : (Array.range (len * i.size)).map (fun k => z.cells[k % z.cells.size]!) = (List.replicate len z.cells.toList).flatten.toArray := by
        rw [← lC hc.1 len]
        apply Array.ext'
        simp
       show D7 P (match Instr.fill (fun k => some (k * i.size, i.size)) ((Array.range (len * i.size)).map (fun k => z.cells[k % z.cells.size]!)) parts.toList with
        | some cells => (do pure (.slice (some (← newRow e cells)) len len) : Sem Value)
        | x => stuck "buildSlice: a part of the wrong size") = _
       rw [VM, fill_eq, hcs]
       rfl
     ·exact h.elim
    ·exact h.elim
   ·exact h.elim
  ·exact h.elim
 ·exact h.elim
theorem KA {P : Program} {ρ : Operand → Value} {o : Oper} {M : Mem} {K : Value → Mem → Prop} (h : Oz P ρ o M K) :
  ∃ (ob : Obj) (k : Nat → Sem Next), D7 P (execOp ρ o) = some (ob, k) ∧ ∀ b, M b = none → ∃ v, bQ P (k b) Mem.empty = some (.value v) ∧ K v (M.set b ob) := by
 unfold Oz at h
 split at h
 ·rename_i t len parts ho
  obtain ⟨dst, op, type, pos, after, guard⟩ := o
  simp only at ho; subst ho
  obtain ⟨ob, h1, h2⟩ := Sg (parts := parts.map fun (i, x) => (i, ρ x)) (by rw [Array.toList_map]; exact h)
  refine ⟨ob, fun b => pure (Next.value (.slice (some ⟨b, 0, none⟩) len len)), ?_, fun b hb => ⟨_, rfl, h2 b hb⟩⟩
  simp only [execOp]
  rw [FK P _ _ h1]
  rfl
 ·split at h
  ·rename_i ob k hn
   refine ⟨ob, k, hn, fun b hb => ?_⟩
   have := h b hb
   dsimp only at this
   split at this
   ·rename_i v hv; exact ⟨v, hv, this⟩
   ·exact this.elim
  ·exact h.elim
theorem oh {P : Program} {s : Sem Unit} {M : Mem} {K : Value → Mem → Prop} {Kp : List PanicEntry → Mem → Prop} (h : bK P s M (K undef) Kp) :
  ee P (s >>= fun _ => pure Next.skip) M (ng P K Kp) (fun v M' => Kp [{ v, recovered := false }] M') := eK P s _ h
theorem vz {P : Program} {s : Sem Value} {t : TypeId} {M : Mem} {K : Value → Mem → Prop} {Kp : List PanicEntry → Mem → Prop} (h : be P s M (fun v M' => Af P t v fun v' => K v' M') Kp) : be P s M K Kp :=
 ir P s h (fun v M' hv => xk (K := fun v' => K v' M') hv) (fun _ _ h => h)
theorem Iv {C : Ctx} (hC : C.Good) {f : Value} {c : Call} {fo : Operand} {ρ : Operand → Value} {M : Mem} {K : Value → Mem → Prop} {Kp : List PanicEntry → Mem → Prop} {Kq : Value → Mem → Prop} {t : TypeId}
  (hc : c.callee = .value fo) (hf : ρ fo = f) (h : gr C f (c.args.toList.map ρ) M K Kp) :
  ee C.P (do let d ← resolve ρ c t; invoke d.target d.args) M (ng C.P K Kp) Kq := by
 unfold gr at h
 split at h
 ·rename_i g first cap
  split at h
  ·rename_i hg
   have qd := hC.1 g hg
   unfold qc at qd
   split at qd
   ·rename_i fn hfn
    simp only [Bool.and_eq_true, Bool.not_eq_true', beq_eq_false_iff_ne, ne_eq] at qd
    have hb : fn.body.isNone = false := by cases hx : fn.body <;> simp_all
    have hr : resolve ρ c t = pure { target := .fn (.func g) cap, args := first ++ c.args.map ρ } := by
     unfold resolve; rw [hc]; simp only [hf, Deferred.ofValue]
    have hargs : (first.toList ++ c.args.toList.map ρ ++ cap.toList).toArray = first ++ c.args.map ρ ++ cap := by apply Array.ext'; simp
    rw [hargs] at h
    rw [hr]
    show ee C.P (callFunc g (first ++ c.args.map ρ ++ cap)) M _ _
    refine gJ C.P _ (x := Next.enter g (first ++ c.args.map ρ ++ cap)) (K := ng C.P K Kp) ?_ h
    simp only [callFunc, aT, program, bQ, Option.bind_some, hfn]
    have hn : (fn.name == "runtime.NumGoroutine") = false := by simp [qd.1]
    simp only [hn, hb, Bool.false_eq_true, if_false, bJ]
   ·simp at qd
  ·exact h.elim
 ·exact h.elim
theorem FL {P : Program} {M : Mem} {a b : Addr} (h : a.block = b.block ∨ (lO M a.block ∧ lO M b.block)) : bQ P (sameAddr a b) M = some (a == b) := by
 unfold sameAddr
 by_cases hb : a.block = b.block
 ·rw [if_pos (by simpa using hb)]; rfl
 ·obtain ⟨⟨c1, T1, h1⟩, ⟨c2, T2, h2⟩⟩ := h.resolve_left hb
  have hne : (a == b) = false := by
   rw [beq_eq_false_iff_ne]; intro he; exact hb (by rw [he])
  rw [if_neg (by simpa using hb), hne]
  simp [noView, viewAt, mayBeOne, stringish, frozen, shape, bQ, h1, h2, Bind.bind, Sem.bind, pure, Pure.pure]
theorem FM {P : Program} {M : Mem} {t e : TypeId} {i : TypeInfo} {p q : Option Addr} (d : Nat) (hu : P.underlying t = some (.pointer e)) (hi : P.info? e = some i) (hz : i.size ≠ 0)
  (h : ∀ a b, p = some a → q = some b → a.block = b.block ∨ (lO M a.block ∧ lO M b.block)) : bQ P (Op.equalIn (d + 1) t (.pointer p) (.pointer q)) M = some (p == q) := by
 rw [Op.equalIn]; simp only [aT, aH hu, Option.bind_some]
 cases p <;> cases q
 ·rfl
 ·rfl
 ·rfl
 ·rename_i a b
  simp only [aT, fC hi, Option.bind_some]
  rw [if_pos hz, FL (h a b rfl rfl)]
  simp
theorem C0 {C : Ctx} {ρ : Operand → Value} {o : Oper} {op : BinOp} {neg : Bool} {t yt : TypeId} {x y : Operand} {M : Mem} {K : Value → Mem → Prop} {Kp : List PanicEntry → Mem → Prop} (ho : o.op = .binOp op t x y yt)
  (hop : (op = .eql ∧ neg = false) ∨ (op = .neq ∧ neg = true)) (h : Sf C.P neg t (ρ x) (ρ y) M K) :
  ee C.P (execOp ρ o) M (ng C.P K Kp) (fun v M' => Kp [{ v, recovered := false }] M') := by
 unfold Sf at h
 split at h
 ·rename_i p hx
  split at h
  ·rename_i q hy
   split at h
   ·rename_i e hu
    split at h
    ·rename_i i hi
     have hz : i.size ≠ 0 := by
      intro h0; rw [h0] at h; exact h
     have hz' : Nat.beq i.size 0 = false := by
      cases hb : Nat.beq i.size 0 with
      | false => rfl
      | true => exact absurd (Nat.eq_of_beq_eq_true hb) hz
     rw [hz'] at h
     simp only [cond_false] at h
     have key : ∀ b : Bool, bQ C.P (Op.equal t (.pointer p) (.pointer q)) M = some b → K (.bool (Se neg b)) M →
       ee C.P (execOp ρ o) M (ng C.P K Kp) (fun v M' => Kp [{ v, recovered := false }] M') := by
      intro b hb hk
      obtain ⟨dst, op', type, pos, after, guard⟩ := o
      simp only at ho; subst ho
      refine gJ C.P (execOp ρ _) (x := Next.value (.bool (Se neg b))) ?_ (show ng C.P K Kp (.value (.bool (Se neg b))) M from hk)
      rcases hop with ⟨rfl, rfl⟩ | ⟨rfl, rfl⟩ <;> simp only [execOp, hx, hy, eqGuard, binOp, aT, bJ, Option.bind_some, hb] <;> rfl
     unfold ptrEq at h
     have side : ∀ (hh : ∀ a b, p = some a → q = some b → a.block = b.block ∨ (lO M a.block ∧ lO M b.block)), bQ C.P (Op.equal t (.pointer p) (.pointer q)) M = some (p == q) := fun hh => FM 9999 hu hi hz hh
     match p, q, h with
     | some a, some b, h =>
      by_cases hab : a = b
      ·exact key _ (side (fun _ _ h1 h2 => by cases h1; cases h2; exact .inl (by rw [hab]))) (by simpa [hab] using h.1 hab)
      ·exact key _ (side (fun _ _ h1 h2 => by cases h1; cases h2; exact (h.2 hab).1)) (by rw [show (some a == some b) = false from by simpa using hab]; exact (h.2 hab).2)
     | none, none, h => exact key _ (side (fun _ _ h1 _ => by cases h1)) (by simpa using h)
     | some a, none, h => exact key _ (side (fun _ _ _ h2 => by cases h2)) (by simpa using h)
     | none, some b, h => exact key _ (side (fun _ _ h1 _ => by cases h1)) (by simpa using h)
    ·exact h.elim
   ·exact h.elim
  ·exact h.elim
 ·exact h.elim
theorem LS {C : Ctx} (hC : C.Good) {ρ : Operand → Value} {o : Oper} {M : Mem} {K : Value → Mem → Prop} {Kp : List PanicEntry → Mem → Prop} (h : VL C ρ o M K Kp) :
  ee C.P (execOp ρ o) M (ng C.P K Kp) (fun v M' => Kp [{ v, recovered := false }] M') := by
 obtain ⟨dst, op, type, pos, after, guard⟩ := o
 cases op <;> simp only [VL] at h <;> try exact h.elim
 case store t a x => exact oh (FA h)
 case call c =>
  obtain ⟨callee, Uz, argTypes⟩ := c
  cases callee with
  | value f =>
   simp only at h
   refine ir C.P _ (Iv hC (fo := f) (Kq := fun v M' => Kp [{ v, recovered := false }] M') rfl rfl h) (fun n M' hn => ?_) (fun _ _ h => h)
   cases n <;> first
    | exact hn.elim
    | exact xk (K := fun v' => K v' M') hn
    | exact aa.mono hn (fun v M2 hv => xk (K := fun v' => K v' M2) hv) (fun _ _ h => h)
  | invoke r m => exact h.elim
  | builtin b =>
   have hargs : (Uz.toList.map ρ).toArray = Uz.map ρ := by apply Array.ext'; simp
   rw [hargs] at h
   cases b <;> simp only at h <;> first
    | exact h.elim
    | exact gL (vz h)
 case binOp op t x y yt =>
  cases op <;> simp only at h <;> first
   | exact h.elim
   | exact C0 (o := ⟨dst, _, type, pos, after, guard⟩) rfl (.inl ⟨rfl, rfl⟩) h
   | exact C0 (o := ⟨dst, _, type, pos, after, guard⟩) rfl (.inr ⟨rfl, rfl⟩) h
 case makeSlice => exact gL (vz h)
 case convert => exact gL (vz h)
 case lookup => exact gL (vz h)
 case mapEntry => exact gL h
 case range => exact gL h
 case next => exact gL h
 case entry => exact gL h
 case mapUpdate => exact oh h
 case insert => exact oh h
 case entryStore => exact oh h
 case panic x =>
  simp only [execOp]
  generalize ρ x = v at h
  cases v <;> first | exact h.elim | exact h
end Go.AF
