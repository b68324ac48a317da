/- A part of proofs about one program. -/
import Derived.Test.YtnnlgknlialpmaaGreatZFairBoundOpsB
set_option linter.unusedVariables false
namespace Go.AF
variable {E : sB}
def aa (P : Program) (f : FuncId) (args : Array Value) (M : Mem) (K : Value → Mem → Prop) (Kp : List PanicEntry → Mem → Prop) : Prop :=
 ∀ (E : sB) (F : Mem) (w : World), M.dj F → (M.union F).In E w → Calls P f args w fun e w' => match e with
  | .returned v => fU E F (K v) w'
  | .panicked c => fU E F (Kp c) w'
  | .outgrown => False
theorem aa.mono {P : Program} {f : FuncId} {args : Array Value} {M : Mem} {K K' : Value → Mem → Prop} {Kp vt : List PanicEntry → Mem → Prop}
  (h : aa P f args M K Kp) (hk : ∀ v M', K v M' → K' v M') (hp : ∀ c M', Kp c M' → vt c M') : aa P f args M K' vt :=
 fun E F w hd hi => (h E F w hd hi).mono fun e w' he => by
  cases e with
  | returned v => exact fU.mono he (hk v)
  | panicked c => exact fU.mono he (hp c)
  | outgrown => exact he
theorem aa.imp {P : Program} {f : FuncId} {args : Array Value} {M : Mem} {K K' : Value → Mem → Prop} {vt : List PanicEntry → Mem → Prop}
  (h : aa P f args M K (fun _ _ => False)) (hk : ∀ v M', K v M' → K' v M') : aa P f args M K' vt := h.mono hk fun _ _ x => x.elim
structure Ctx where
 P : Program
 ok : Nat
def pb (P : Program) (g : Nat) : Bool := match P.funcs[g]? with
 | some fn => !(fn.name == "runtime.NumGoroutine") && fn.body.isSome
 | none => false
def Ctx.Good (C : Ctx) : Prop := (∀ g, 1 < g ∧ g < C.ok → pb C.P g = true) ∧ C.P.follows .mixedOrders = true
def TB (c : Bx) (K : Value → Prop) : Prop :=
 match c with
 | .int k => ∃ n, K (.int k n)
 | .bool => ∃ b, K (.bool b)
 | .str => ∃ s, K (.string s)
 | .ptr => ∃ p, K (.pointer p)
 | .sl => ∃ A n c, K (.slice A n c)
 | .val => ∃ v, K v
def LZ : List Bx → (List Value → Prop) → Prop
 | [], K => K []
 | c :: cs, K => TB c fun v => LZ cs fun vs => K (v :: vs)
inductive AI where
 | c (s : Bx)
 | a (l : List Bx)
 | b (n : Nat)
def tsh (P : Program) (t : TypeId) : AI := match P.underlying t with
 | some d => if vu d then (if (flat P 8 t).length ≤ 12 then .a (flat P 8 t) else .b (flat P 8 t).length) else .c (WQ d)
 | none => .c .val
def Ma : AI → (Value → Prop) → Prop
 | .c c, K => TB c K
 | .a l, K => LZ l fun vs => K (.agg vs.toArray)
 | .b n, K => ∃ l : List Value, l.length = n ∧ K (.agg l.toArray)
def Ga : List AI → (List Value → Prop) → Prop
 | [], K => K []
 | c :: cs, K => Ma c fun v => Ga cs fun vs => K (v :: vs)
def Xw : AI → AI
 | .b n => if n ≤ 14 then .a (List.replicate n .val) else .b n
 | s => s
def yx (P : Program) (t : TypeId) (v : Value) (K : Value → Prop) : Prop :=
 match P.underlying t with
 | some (.tuple ts) => Ga (ts.toList.map (tsh P)) fun vs => v = .tuple vs.toArray ∧ K (.tuple vs.toArray)
 | some d => if vu d then Ma (Xw (tsh P t)) fun u => v = u ∧ K u else DU (WQ d) (some v) K
 | none => K v
theorem BD {c : Bx} {K : Value → Prop} (h : TB c K) : ∃ v, K v := by
 cases c <;> first | exact h.imp' _ (fun _ h => h) | skip
 all_goals first
  | (obtain ⟨n, h⟩ := h; exact ⟨_, h⟩)
  | (obtain ⟨A, n, c, h⟩ := h; exact ⟨_, h⟩)
theorem yy : ∀ {l : List Bx} {K : List Value → Prop}, LZ l K → ∃ vs, K vs
 | [], K, h => ⟨[], h⟩
 | c :: cs, K, h => by
  obtain ⟨v, h⟩ := BD h
  obtain ⟨vs, h⟩ := yy h
  exact ⟨_, h⟩
theorem yz {c : AI} {K : Value → Prop} (h : Ma c K) : ∃ v, K v := by
 cases c with
 | c c => exact BD h
 | a l => obtain ⟨vs, h⟩ := yy (l := l) h; exact ⟨_, h⟩
 | b n => obtain ⟨l, _, h⟩ := h; exact ⟨_, h⟩
theorem wL : ∀ {l : List AI} {K : List Value → Prop}, Ga l K → ∃ vs, K vs
 | [], K, h => ⟨[], h⟩
 | c :: cs, K, h => by
  obtain ⟨v, h⟩ := yz h
  obtain ⟨vs, h⟩ := wL h
  exact ⟨_, h⟩
theorem vz {P : Program} {t : TypeId} {v : Value} {K : Value → Prop} (h : yx P t v K) : K v := by
 unfold yx at h
 split at h
 ·obtain ⟨vs, hv, h2⟩ := wL h; rw [hv]; exact h2
 ·split at h
  ·obtain ⟨u, hv, h2⟩ := yz h; rw [hv]; exact h2
  ·obtain ⟨v', hv, h⟩ := oZ h; cases hv; exact h
 ·exact h
def CN (P : Program) {α : Type} : Sem α → Option (Obj × (Nat → Sem α))
 | .program k => CN P (k P)
 | .new o k => some (o, k)
 | _ => none
def P4 (P : Program) (t : TypeId) (len : Nat) (parts : List (Nat × Value)) (M : Mem) (K : Value → Mem → Prop) : Prop :=
 match P.underlying t with
 | some (.slice e) => match P.info? e with
  | some i => match i.zero with
   | some z => if z.cells.toList.length = i.size ∧ len * i.size ≤ 16777216 then
     (match yu (fun k => some (k * i.size, i.size)) (List.replicate len z.cells.toList).flatten parts with
     | some cs => bh M (.cells cs.toArray e) fun b M' => K (.slice (some ⟨b, 0, none⟩) len len) M'
     | none => False) else False
   | none => False
  | none => False
 | _ => False
def Mb (P : Program) (ρ : Operand → Value) (o : Oper) (M : Mem) (K : Value → Mem → Prop) : Prop :=
 match o.op with
 | .buildSlice t len parts => P4 P t len (parts.toList.map fun p => (p.1, ρ p.2)) M K
 | _ => match CN P (execOp ρ o) with
  | some (ob, k) => bh M ob fun b M' => (match bL P (k b) Mem.empty with | some (.value v) => K v M' | _ => False)
  | none => False
def aY (P : Program) (s : Sem Value) (M : Mem) (K : Value → Mem → Prop) (Kp : List PanicEntry → Mem → Prop) : Prop :=
 dy P s M K fun v M' => Kp [{ v, recovered := false }] M'
def bA (P : Program) (s : Sem Unit) (M : Mem) (K : Mem → Prop) (Kp : List PanicEntry → Mem → Prop) : Prop :=
 dy P s M (fun _ => K) fun v M' => Kp [{ v, recovered := false }] M'
def iF (C : Ctx) (f : Value) (args : List Value) (M : Mem) (K : Value → Mem → Prop) (Kp : List PanicEntry → Mem → Prop) : Prop :=
 match f with
 | .func (.func g) first cap => if 1 < g ∧ g < C.ok then aa C.P g (first.toList ++ args ++ cap.toList).toArray M K Kp else False
 | _ => False
inductive Cls where
 | pure | read | new | JE
def cls (P : Program) (o : Oper) : Cls :=
 match o.op with
 | .load .. => .read
 | .alloc .. | .box .. | .buildSlice .. | .makeMap _ none => .new
 | .convert s d _ => match P.underlying s, P.underlying d with
  | some (.slice _), _ => .JE
  | _, some (.slice _) => .JE
  | _, _ => .pure
 | .call c => match c.callee with
  | .builtin .len => match P.underlying (c.argTypes.getD 0 0) with
   | some (.map ..) => .JE
   | _ => .pure
  | .builtin .cap => .pure
  | .builtin .min => .pure
  | .builtin .max => .pure
  | _ => .JE
 | .binOp op t x y _ => match op with
  | .eql | .neq => match P.underlying t with
   | some (.pointer _) => bif DX x || DX y then .pure else .JE
   | _ => .pure
  | _ => .pure
 | .move .. | .assign .. | .pick .. | .build .. | .nilCheck .. | .unOp .. | .makeInterface .. | .makeFunc .. | .slice .. | .fieldAddr .. | .field .. | .indexAddr .. | .index .. | .typeAssert .. | .extract .. => .pure
 | _ => .JE
def P5 (neg b : Bool) : Bool := match neg with | true => !b | false => b
def kL (M : Mem) (b : Nat) : Prop := ∃ c T, M b = some (.cells c T (0, 0))
def ptrEq (M : Mem) (p q : Option Addr) (K : Bool → Prop) : Prop := match p, q with
 | some a, some b => (a = b → K true) ∧ (a ≠ b → (a.block = b.block ∨ (kL M a.block ∧ kL M b.block)) ∧ K false)
 | none, none => K true
 | _, _ => K false
def P6 (P : Program) (neg : Bool) (t : TypeId) (x y : Value) (M : Mem) (K : Value → Mem → Prop) : Prop :=
 match x with
 | .pointer p => match y with
  | .pointer q => match P.underlying t with
   | some (.pointer e) => match P.info? e with
    | some i => bif Nat.beq i.size 0 then False else ptrEq M p q fun b => K (.bool (P5 neg b)) M
    | none => False
   | _ => False
  | _ => False
 | _ => False
def TC (C : Ctx) (ρ : Operand → Value) (o : Oper) (M : Mem) (K : Value → Mem → Prop) (Kp : List PanicEntry → Mem → Prop) : Prop :=
 match o.op with
 | .store t a x => F0 C.P t (ρ a) (ρ x) M fun M' => K undef M'
 | .call c => match c.callee with
  | .value f => iF C (ρ f) (c.args.toList.map ρ) M (fun v M' => yx C.P o.type v fun v' => K v' M') Kp
  | .builtin .append => aY C.P (Builtin.append_ c.argTypes o.type (c.args.toList.map ρ).toArray) M (fun v M' => yx C.P o.type v fun v' => K v' M') Kp
  | .builtin .len => aY C.P (Builtin.len_ c.argTypes o.type (c.args.toList.map ρ).toArray) M (fun v M' => yx C.P o.type v fun v' => K v' M') Kp
  | .builtin .copy => aY C.P (Builtin.copy_ c.argTypes o.type (c.args.toList.map ρ).toArray) M (fun v M' => yx C.P o.type v fun v' => K v' M') Kp
  | .builtin .delete => aY C.P (Builtin.delete_ c.argTypes o.type (c.args.toList.map ρ).toArray) M (fun v M' => yx C.P o.type v fun v' => K v' M') Kp
  | _ => False
 | .binOp .eql t x y _ => P6 C.P false t (ρ x) (ρ y) M K
 | .binOp .neq t x y _ => P6 C.P true t (ρ x) (ρ y) M K
 | .makeSlice t l c => aY C.P (Instr.makeSlice t (ρ l) (ρ c)) M (fun v M' => yx C.P o.type v fun v' => K v' M') Kp
 | .convert s d x => aY C.P (convert s d (ρ x)) M (fun v M' => yx C.P o.type v fun v' => K v' M') Kp
 | .lookup t x i ok => aY C.P (Instr.lookup t (ρ x) (ρ i) ok) M (fun v M' => yx C.P o.type v fun v' => K v' M') Kp
 | .mapEntry t m k => aY C.P (Instr.mapEntry t (ρ m) (ρ k)) M K Kp
 | .range t x => aY C.P (Instr.range t (ρ x)) M K Kp
 | .next it s => aY C.P (Instr.next (ρ it) s o.type) M K Kp
 | .entry it => aY C.P (Instr.entry (ρ it)) M K Kp
 | .mapUpdate t m k x => bA C.P (Instr.mapUpdate t (ρ m) (ρ k) (ρ x)) M (K undef) Kp
 | .insert t m k x => bA C.P (Instr.mapUpdate t (ρ m) (ρ k) (ρ x)) M (K undef) Kp
 | .entryStore t m s x => bA C.P (Instr.entryStore t (ρ m) (ρ s) (ρ x)) M (K undef) Kp
 | .panic x => match ρ x with
  | .iface t v => Kp [{ v := .iface t v, recovered := false }] M
  | _ => False
 | _ => False
def Xx (C : Ctx) (ρ : Operand → Value) (o : Oper) (M : Mem) (K : Value → Mem → Prop) (Kp : List PanicEntry → Mem → Prop) : Prop :=
 match cls C.P o with
 | .pure => LW C.P ρ o fun v => K v M
 | .read => match o.op with
  | .load t a => Ic C.P t (ρ a) M fun v => K v M
  | _ => False
 | .new => Mb C.P ρ o M K
 | .JE => TC C ρ o M K Kp
def mC (P : Program) (K : Value → Mem → Prop) (Kp : List PanicEntry → Mem → Prop) : Next → Mem → Prop
 | .value v, M => K v M
 | .skip, M => K undef M
 | .enter f args, M => aa P f args M K Kp
 | _, _ => False
theorem Mc (P : Program) {α : Type} (s : Sem α) {ob : Obj} {k : Nat → Sem α} : CN P s = some (ob, k) →
  ∀ {M : Mem} {K : α → Mem → Prop} {Kp : Value → Mem → Prop}, (∀ b, M b = none → dy P (k b) (M.set b ob) K Kp) → dy P s M K Kp := by
 induction s with
 | program k' ih => intro h M K Kp hk; exact ih P h hk
 | new o k' ih => intro h M K Kp hk; simp only [CN, Option.some.injEq, Prod.mk.injEq] at h; obtain ⟨rfl, rfl⟩ := h; exact hk
 | _ => intro h; simp [CN] at h
theorem gr {P : Program} {s : Sem Value} {M : Mem} {K : Value → Mem → Prop} {Kp : List PanicEntry → Mem → Prop} (h : aY P s M K Kp) :
  dy P (s >>= fun x => pure (Next.value x)) M (mC P K Kp) (fun v M' => Kp [{ v, recovered := false }] M') := dF P s _ h
theorem kj {zs : List Value} {s : Nat} (hs : zs.length = s) : ∀ n, (List.range (n * s)).map (fun k => zs.toArray[k % zs.toArray.size]!) = (List.replicate n zs).flatten
 | 0 => by simp
 | n + 1 => by
  have ih := kj hs n
  rw [Nat.succ_mul, List.range_add, List.map_append, ih, List.replicate_succ', List.flatten_append]
  congr 1
  simp only [List.flatten_cons, List.flatten_nil, List.append_nil, List.map_map]
  apply List.ext_getElem
  ·simp [hs]
  ·intro k h1 h2
   have hk : k < s := by simpa using h1
   simp [hs, Nat.mod_eq_of_lt hk, Nat.mul_add_mod_self_right, List.getElem?_eq_getElem h2]
def FN (P : Program) {α : Type} : Sem α → Option α
 | .pure a => some a
 | .program k => FN P (k P)
 | _ => none
theorem D5 (P : Program) {α β : Type} (s : Sem α) (f : α → Sem β) : FN P (s >>= f) = (FN P s).bind fun a => FN P (f a) := by
 show FN P (s.bind f) = _
 induction s with
 | pure a => rfl
 | program k ih => exact ih P
 | _ => rfl
theorem CO (P : Program) {α β : Type} (s : Sem α) (f : α → Sem β) {x : α} (h : FN P s = some x) : CN P (s >>= f) = CN P (f x) := by
 show CN P (s.bind f) = _
 induction s with
 | pure a => simp only [FN, Option.some.injEq] at h; subst h; rfl
 | program k ih => exact ih P h
 | _ => simp [FN] at h
theorem D6 (P : Program) {α β : Type} (s : Sem α) (f : α → Sem β) {ob : Obj} {k : Nat → Sem α} (h : CN P s = some (ob, k)) : CN P (s >>= f) = some (ob, fun b => k b >>= f) := by
 show CN P (s.bind f) = _
 induction s with
 | program k' ih => exact ih P h
 | new o k' ih => simp only [CN, Option.some.injEq, Prod.mk.injEq] at h; obtain ⟨rfl, rfl⟩ := h; rfl
 | _ => simp [CN] at h
theorem wM {P : Program} {t : TypeId} {i : TypeInfo} (h : P.info? t = some i) : FN P (typeInfo t) = some i := by
 show FN P (Sem.bind program _) = _
 simp only [program, Sem.bind, FN, h]; rfl
theorem AJ {P : Program} {t : TypeId} {d : TypeDesc} (h : P.underlying t = some d) : FN P (underlying t) = some d := by
 show FN P (Sem.bind program _) = _
 simp only [program, Sem.bind, FN, h]; rfl
theorem JF {P : Program} {t : TypeId} {i : TypeInfo} (h : P.info? t = some i) : FN P (sizeOf t) = some i.size := by
 simp only [sizeOf, D5, wM h, Option.bind_some]; rfl
theorem Ih {P : Program} {t : TypeId} {i : TypeInfo} {z : Value} (h : P.info? t = some i) (hz : i.zero = some z) : FN P (zeroValue t) = some z := by
 simp only [zeroValue, D5, wM h, Option.bind_some, hz]; rfl
theorem P7 {P : Program} {t : TypeId} {len : Nat} {parts : Array (Nat × Value)} {M : Mem} {K : Value → Mem → Prop} (h : P4 P t len parts.toList M K) :
  ∃ ob, CN P (Instr.buildSlice t len parts) = some (ob, fun b => pure (.slice (some ⟨b, 0, none⟩) len len)) ∧ ∀ b, M b = none → K (.slice (some ⟨b, 0, none⟩) len len) (M.set b ob) := by
 unfold P4 at h
 split at h
 ·rename_i e hu
  split at h
  ·rename_i i hi
   split at h
   ·rename_i z hz
    split at h
    ·rename_i hc
     split at h
     ·rename_i cs hcs
      refine ⟨.cells cs.toArray e, ?_, h⟩
      unfold Instr.buildSlice
      rw [CO P _ _ (AJ hu)]
      simp only
      rw [CO P _ _ (JF hi)]
      have hle : ¬ (len * i.size > 2 ^ 24) := by have := hc.2; omega
      simp only [hle, if_false]
      by_cases h0 : len * i.size = 0
      ·simp only [h0, if_true]
       have hr := kj hc.1 len
       rw [h0] at hr
       simp only [List.range_zero, List.map_nil] at hr
       rw [← hr] at hcs
       have := fill_eq (fun k => some (k * i.size, i.size)) parts.toList []
       rw [hcs] at this
       have e0 : (Array.range 0).map (fun k => (#[] : Array Value)[k % (#[] : Array Value).size]!) = ([] : List Value).toArray := by simp
       show CN P (match Instr.fill (fun k => some (k * i.size, i.size)) ((Array.range 0).map (fun k => (#[] : Array Value)[k % (#[] : Array Value).size]!)) parts.toList with
        | some cells => (do pure (.slice (some (← newRow e cells)) len len) : Sem Value)
        | x => stuck "buildSlice: a part of the wrong size") = _
       rw [e0, this]
       rfl
      ·simp only [h0, if_false]
       rw [CO P _ _ (Ih hi hz)]
       have TD : (Array.range (len * i.size)).map (fun k => z.cells[k % z.cells.size]!) = (List.replicate len z.cells.toList).flatten.toArray := by
        rw [← kj hc.1 len]
        apply Array.ext'
        simp
       show CN P (match Instr.fill (fun k => some (k * i.size, i.size)) ((Array.range (len * i.size)).map (fun k => z.cells[k % z.cells.size]!)) parts.toList with
        | some cells => (do pure (.slice (some (← newRow e cells)) len len) : Sem Value)
        | x => stuck "buildSlice: a part of the wrong size") = _
       rw [TD, fill_eq, hcs]
       rfl
     ·exact h.elim
    ·exact h.elim
   ·exact h.elim
  ·exact h.elim
 ·exact h.elim
theorem Ii {P : Program} {ρ : Operand → Value} {o : Oper} {M : Mem} {K : Value → Mem → Prop} (h : Mb P ρ o M K) :
  ∃ (ob : Obj) (k : Nat → Sem Next), CN P (execOp ρ o) = some (ob, k) ∧ ∀ b, M b = none → ∃ v, bL P (k b) Mem.empty = some (.value v) ∧ K v (M.set b ob) := by
 unfold Mb at h
 split at h
 ·rename_i t len parts ho
  obtain ⟨dst, op, type, pos, after, guard⟩ := o
  simp only at ho; subst ho
  obtain ⟨ob, h1, h2⟩ := P7 (parts := parts.map fun (i, x) => (i, ρ x)) (by rw [Array.toList_map]; exact h)
  refine ⟨ob, fun b => pure (Next.value (.slice (some ⟨b, 0, none⟩) len len)), ?_, fun b hb => ⟨_, rfl, h2 b hb⟩⟩
  simp only [execOp]
  rw [D6 P _ _ h1]
  rfl
 ·split at h
  ·rename_i ob k hn
   refine ⟨ob, k, hn, fun b hb => ?_⟩
   have := h b hb
   dsimp only at this
   split at this
   ·rename_i v hv; exact ⟨v, hv, this⟩
   ·exact this.elim
  ·exact h.elim
theorem nv {P : Program} {s : Sem Unit} {M : Mem} {K : Value → Mem → Prop} {Kp : List PanicEntry → Mem → Prop} (h : bA P s M (K undef) Kp) :
  dy P (s >>= fun _ => pure Next.skip) M (mC P K Kp) (fun v M' => Kp [{ v, recovered := false }] M') := dF P s _ h
theorem tU {P : Program} {s : Sem Value} {t : TypeId} {M : Mem} {K : Value → Mem → Prop} {Kp : List PanicEntry → Mem → Prop} (h : aY P s M (fun v M' => yx P t v fun v' => K v' M') Kp) : aY P s M K Kp :=
 iE P s h (fun v M' hv => vz (K := fun v' => K v' M') hv) (fun _ _ h => h)
theorem Gb {C : Ctx} (hC : C.Good) {f : Value} {c : Call} {fo : Operand} {ρ : Operand → Value} {M : Mem} {K : Value → Mem → Prop} {Kp : List PanicEntry → Mem → Prop} {Kq : Value → Mem → Prop} {t : TypeId}
  (hc : c.callee = .value fo) (hf : ρ fo = f) (h : iF C f (c.args.toList.map ρ) M K Kp) :
  dy C.P (do let d ← resolve ρ c t; invoke d.target d.args) M (mC C.P K Kp) Kq := by
 unfold iF at h
 split at h
 ·rename_i g first cap
  split at h
  ·rename_i hg
   have pe := hC.1 g hg
   unfold pb at pe
   split at pe
   ·rename_i fn hfn
    simp only [Bool.and_eq_true, Bool.not_eq_true', beq_eq_false_iff_ne, ne_eq] at pe
    have hb : fn.body.isNone = false := by cases hx : fn.body <;> simp_all
    have hr : resolve ρ c t = pure { target := .fn (.func g) cap, args := first ++ c.args.map ρ } := by
     unfold resolve; rw [hc]; simp only [hf, Deferred.ofValue]
    have hargs : (first.toList ++ c.args.toList.map ρ ++ cap.toList).toArray = first ++ c.args.map ρ ++ cap := by apply Array.ext'; simp
    rw [hargs] at h
    rw [hr]
    show dy C.P (callFunc g (first ++ c.args.map ρ ++ cap)) M _ _
    refine g8 C.P _ (x := Next.enter g (first ++ c.args.map ρ ++ cap)) (K := mC C.P K Kp) ?_ h
    simp only [callFunc, aN, program, bL, Option.bind_some, hfn]
    have hn : (fn.name == "runtime.NumGoroutine") = false := by simp [pe.1]
    simp only [hn, hb, Bool.false_eq_true, if_false, bC]
   ·simp at pe
  ·exact h.elim
 ·exact h.elim
theorem D7 {P : Program} {M : Mem} {a b : Addr} (h : a.block = b.block ∨ (kL M a.block ∧ kL M b.block)) : bL P (sameAddr a b) M = some (a == b) := by
 unfold sameAddr
 by_cases hb : a.block = b.block
 ·rw [if_pos (by simpa using hb)]; rfl
 ·obtain ⟨⟨c1, T1, h1⟩, ⟨c2, T2, h2⟩⟩ := h.resolve_left hb
  have hne : (a == b) = false := by
   rw [beq_eq_false_iff_ne]; intro he; exact hb (by rw [he])
  rw [if_neg (by simpa using hb), hne]
  simp [noView, viewAt, mayBeOne, stringish, frozen, shape, bL, h1, h2, Bind.bind, Sem.bind, pure, Pure.pure]
theorem D8 {P : Program} {M : Mem} {t e : TypeId} {i : TypeInfo} {p q : Option Addr} (d : Nat) (hu : P.underlying t = some (.pointer e)) (hi : P.info? e = some i) (hz : i.size ≠ 0)
  (h : ∀ a b, p = some a → q = some b → a.block = b.block ∨ (kL M a.block ∧ kL M b.block)) : bL P (Op.equalIn (d + 1) t (.pointer p) (.pointer q)) M = some (p == q) := by
 rw [Op.equalIn]; simp only [aN, aI hu, Option.bind_some]
 cases p <;> cases q
 ·rfl
 ·rfl
 ·rfl
 ·rename_i a b
  simp only [aN, fC hi, Option.bind_some]
  rw [if_pos hz, D7 (h a b rfl rfl)]
  simp
theorem BE {C : Ctx} {ρ : Operand → Value} {o : Oper} {op : BinOp} {neg : Bool} {t yt : TypeId} {x y : Operand} {M : Mem} {K : Value → Mem → Prop} {Kp : List PanicEntry → Mem → Prop} (ho : o.op = .binOp op t x y yt)
  (hop : (op = .eql ∧ neg = false) ∨ (op = .neq ∧ neg = true)) (h : P6 C.P neg t (ρ x) (ρ y) M K) :
  dy C.P (execOp ρ o) M (mC C.P K Kp) (fun v M' => Kp [{ v, recovered := false }] M') := by
 unfold P6 at h
 split at h
 ·rename_i p hx
  split at h
  ·rename_i q hy
   split at h
   ·rename_i e hu
    split at h
    ·rename_i i hi
     have hz : i.size ≠ 0 := by
      intro h0; rw [h0] at h; exact h
     have hz' : Nat.beq i.size 0 = false := by
      cases hb : Nat.beq i.size 0 with
      | false => rfl
      | true => exact absurd (Nat.eq_of_beq_eq_true hb) hz
     rw [hz'] at h
     simp only [cond_false] at h
     have key : ∀ b : Bool, bL C.P (Op.equal t (.pointer p) (.pointer q)) M = some b → K (.bool (P5 neg b)) M →
       dy C.P (execOp ρ o) M (mC C.P K Kp) (fun v M' => Kp [{ v, recovered := false }] M') := by
      intro b hb hk
      obtain ⟨dst, op', type, pos, after, guard⟩ := o
      simp only at ho; subst ho
      refine g8 C.P (execOp ρ _) (x := Next.value (.bool (P5 neg b))) ?_ (show mC C.P K Kp (.value (.bool (P5 neg b))) M from hk)
      rcases hop with ⟨rfl, rfl⟩ | ⟨rfl, rfl⟩ <;> simp only [execOp, hx, hy, eqGuard, binOp, aN, bC, Option.bind_some, hb] <;> rfl
     unfold ptrEq at h
     have side : ∀ (hh : ∀ a b, p = some a → q = some b → a.block = b.block ∨ (kL M a.block ∧ kL M b.block)), bL C.P (Op.equal t (.pointer p) (.pointer q)) M = some (p == q) := fun hh => D8 9999 hu hi hz hh
     match p, q, h with
     | some a, some b, h =>
      by_cases hab : a = b
      ·exact key _ (side (fun _ _ h1 h2 => by cases h1; cases h2; exact .inl (by rw [hab]))) (by simpa [hab] using h.1 hab)
      ·exact key _ (side (fun _ _ h1 h2 => by cases h1; cases h2; exact (h.2 hab).1)) (by rw [show (some a == some b) = false from by simpa using hab]; exact (h.2 hab).2)
     | none, none, h => exact key _ (side (fun _ _ h1 _ => by cases h1)) (by simpa using h)
     | some a, none, h => exact key _ (side (fun _ _ _ h2 => by cases h2)) (by simpa using h)
     | none, some b, h => exact key _ (side (fun _ _ h1 _ => by cases h1)) (by simpa using h)
    ·exact h.elim
   ·exact h.elim
  ·exact h.elim
 ·exact h.elim
theorem JG {C : Ctx} (hC : C.Good) {ρ : Operand → Value} {o : Oper} {M : Mem} {K : Value → Mem → Prop} {Kp : List PanicEntry → Mem → Prop} (h : TC C ρ o M K Kp) :
  dy C.P (execOp ρ o) M (mC C.P K Kp) (fun v M' => Kp [{ v, recovered := false }] M') := by
 obtain ⟨dst, op, type, pos, after, guard⟩ := o
 cases op <;> simp only [TC] at h <;> try exact h.elim
 case store t a x => exact nv (DW h)
 case call c =>
  obtain ⟨callee, Si, argTypes⟩ := c
  cases callee with
  | value f =>
   simp only at h
   refine iE C.P _ (Gb hC (fo := f) (Kq := fun v M' => Kp [{ v, recovered := false }] M') rfl rfl h) (fun n M' hn => ?_) (fun _ _ h => h)
   cases n <;> first
    | exact hn.elim
    | exact vz (K := fun v' => K v' M') hn
    | exact aa.mono hn (fun v M2 hv => vz (K := fun v' => K v' M2) hv) (fun _ _ h => h)
  | invoke r m => exact h.elim
  | builtin b =>
   have hargs : (Si.toList.map ρ).toArray = Si.map ρ := by apply Array.ext'; simp
   rw [hargs] at h
   cases b <;> simp only at h <;> first
    | exact h.elim
    | exact gr (tU h)
 case binOp op t x y yt =>
  cases op <;> simp only at h <;> first
   | exact h.elim
   | exact BE (o := ⟨dst, _, type, pos, after, guard⟩) rfl (.inl ⟨rfl, rfl⟩) h
   | exact BE (o := ⟨dst, _, type, pos, after, guard⟩) rfl (.inr ⟨rfl, rfl⟩) h
 case makeSlice => exact gr (tU h)
 case convert => exact gr (tU h)
 case lookup => exact gr (tU h)
 case mapEntry => exact gr h
 case range => exact gr h
 case next => exact gr h
 case entry => exact gr h
 case mapUpdate => exact nv h
 case insert => exact nv h
 case entryStore => exact nv h
 case panic x =>
  simp only [execOp]
  generalize ρ x = v at h
  cases v <;> first | exact h.elim | exact h
end Go.AF
