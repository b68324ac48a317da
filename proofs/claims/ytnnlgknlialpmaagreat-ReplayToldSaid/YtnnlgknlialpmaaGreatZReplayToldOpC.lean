/- A part of proofs about one program. -/
import Derived.Test.YtnnlgknlialpmaaGreatZReplayToldOpsB
set_option linter.unusedVariables false
namespace Go.AF
variable {E : oA}
def aa (P : Program) (f : FuncId) (args : Array Value) (M : Mem) (K : Value → Mem → Prop) (Kp : List PanicEntry → Mem → Prop) : Prop :=
 ∀ (E : oA) (F : Mem) (w : World), M.dj F → (M.union F).In E w → Calls P f args w fun e w' => match e with
  | .returned v => en E F (K v) w'
  | .panicked c => en E F (Kp c) w'
  | .outgrown => False
theorem aa.mono {P : Program} {f : FuncId} {args : Array Value} {M : Mem} {K K' : Value → Mem → Prop} {Kp rA : List PanicEntry → Mem → Prop}
  (h : aa P f args M K Kp) (hk : ∀ v M', K v M' → K' v M') (hp : ∀ c M', Kp c M' → rA c M') : aa P f args M K' rA :=
 fun E F w hd hi => (h E F w hd hi).mono fun e w' he => by
  cases e with
  | returned v => exact en.mono he (hk v)
  | panicked c => exact en.mono he (hp c)
  | outgrown => exact he
theorem aa.imp {P : Program} {f : FuncId} {args : Array Value} {M : Mem} {K K' : Value → Mem → Prop} {rA : List PanicEntry → Mem → Prop}
  (h : aa P f args M K (fun _ _ => False)) (hk : ∀ v M', K v M' → K' v M') : aa P f args M K' rA := h.mono hk fun _ _ x => x.elim
structure Ctx where
 P : Program
 ok : Nat
def lK (P : Program) (g : Nat) : Bool := match P.funcs[g]? with
 | some fn => !(fn.name == "runtime.NumGoroutine") && fn.body.isSome
 | none => false
def Ctx.Good (C : Ctx) : Prop := (∀ g, 1 < g ∧ g < C.ok → lK C.P g = true) ∧ C.P.follows .mixedOrders = true
def MB (c : xp) (K : Value → Prop) : Prop :=
 match c with
 | .int k => ∃ n, K (.int k n)
 | .bool => ∃ b, K (.bool b)
 | .str => ∃ s, K (.string s)
 | .ptr => ∃ p, K (.pointer p)
 | .sl => ∃ A n c, K (.slice A n c)
 | .val => ∃ v, K v
def Gz : List xp → (List Value → Prop) → Prop
 | [], K => K []
 | c :: cs, K => MB c fun v => Gz cs fun vs => K (v :: vs)
inductive wJ where
 | c (s : xp)
 | a (l : List xp)
 | b (n : Nat)
def tsh (P : Program) (t : TypeId) : wJ := match P.underlying t with
 | some d => if rC d then (if (flat P 8 t).length ≤ 12 then .a (flat P 8 t) else .b (flat P 8 t).length) else .c (Pk d)
 | none => .c .val
def GB : wJ → (Value → Prop) → Prop
 | .c c, K => MB c K
 | .a l, K => Gz l fun vs => K (.agg vs.toArray)
 | .b n, K => ∃ l : List Value, l.length = n ∧ K (.agg l.toArray)
def Ch : List wJ → (List Value → Prop) → Prop
 | [], K => K []
 | c :: cs, K => GB c fun v => Ch cs fun vs => K (v :: vs)
def PW : wJ → wJ
 | .b n => if n ≤ 14 then .a (List.replicate n .val) else .b n
 | s => s
def uv (P : Program) (t : TypeId) (v : Value) (K : Value → Prop) : Prop :=
 match P.underlying t with
 | some (.tuple ts) => Ch (ts.toList.map (tsh P)) fun vs => v = .tuple vs.toArray ∧ K (.tuple vs.toArray)
 | some d => if rC d then GB (PW (tsh P t)) fun u => v = u ∧ K u else zJ (Pk d) (some v) K
 | none => K v
theorem xA {c : xp} {K : Value → Prop} (h : MB c K) : ∃ v, K v := by
 cases c <;> first | exact h.imp' _ (fun _ h => h) | skip
 all_goals first
  | (obtain ⟨n, h⟩ := h; exact ⟨_, h⟩)
  | (obtain ⟨A, n, c, h⟩ := h; exact ⟨_, h⟩)
theorem uw : ∀ {l : List xp} {K : List Value → Prop}, Gz l K → ∃ vs, K vs
 | [], K, h => ⟨[], h⟩
 | c :: cs, K, h => by
  obtain ⟨v, h⟩ := xA h
  obtain ⟨vs, h⟩ := uw h
  exact ⟨_, h⟩
theorem ux {c : wJ} {K : Value → Prop} (h : GB c K) : ∃ v, K v := by
 cases c with
 | c c => exact xA h
 | a l => obtain ⟨vs, h⟩ := uw (l := l) h; exact ⟨_, h⟩
 | b n => obtain ⟨l, _, h⟩ := h; exact ⟨_, h⟩
theorem sF : ∀ {l : List wJ} {K : List Value → Prop}, Ch l K → ∃ vs, K vs
 | [], K, h => ⟨[], h⟩
 | c :: cs, K, h => by
  obtain ⟨v, h⟩ := ux h
  obtain ⟨vs, h⟩ := sF h
  exact ⟨_, h⟩
theorem rE {P : Program} {t : TypeId} {v : Value} {K : Value → Prop} (h : uv P t v K) : K v := by
 unfold uv at h
 split at h
 ·obtain ⟨vs, hv, h2⟩ := sF h; rw [hv]; exact h2
 ·split at h
  ·obtain ⟨u, hv, h2⟩ := ux h; rw [hv]; exact h2
  ·obtain ⟨v', hv, h⟩ := lH h; cases hv; exact h
 ·exact h
def yz (P : Program) {α : Type} : Sem α → Option (Obj × (Nat → Sem α))
 | .program k => yz P (k P)
 | .new o k => some (o, k)
 | _ => none
def JH (P : Program) (t : TypeId) (len : Nat) (parts : List (Nat × Value)) (M : Mem) (K : Value → Mem → Prop) : Prop :=
 match P.underlying t with
 | some (.slice e) => match P.info? e with
  | some i => match i.zero with
   | some z => if z.cells.toList.length = i.size ∧ len * i.size ≤ 16777216 then
     (match ur (fun k => some (k * i.size, i.size)) (List.replicate len z.cells.toList).flatten parts with
     | some cs => aX M (.cells cs.toArray e) fun b M' => K (.slice (some ⟨b, 0, none⟩) len len) M'
     | none => False) else False
   | none => False
  | none => False
 | _ => False
def GC (P : Program) (ρ : Operand → Value) (o : Oper) (M : Mem) (K : Value → Mem → Prop) : Prop :=
 match o.op with
 | .buildSlice t len parts => JH P t len (parts.toList.map fun p => (p.1, ρ p.2)) M K
 | _ => match yz P (execOp ρ o) with
  | some (ob, k) => aX M ob fun b M' => (match br P (k b) Mem.empty with | some (.value v) => K v M' | _ => False)
  | none => False
def bh (P : Program) (s : Sem Value) (M : Mem) (K : Value → Mem → Prop) (Kp : List PanicEntry → Mem → Prop) : Prop :=
 cO P s M K fun v M' => Kp [{ v, recovered := false }] M'
def bJ (P : Program) (s : Sem Unit) (M : Mem) (K : Mem → Prop) (Kp : List PanicEntry → Mem → Prop) : Prop :=
 cO P s M (fun _ => K) fun v M' => Kp [{ v, recovered := false }] M'
def gn (C : Ctx) (f : Value) (args : List Value) (M : Mem) (K : Value → Mem → Prop) (Kp : List PanicEntry → Mem → Prop) : Prop :=
 match f with
 | .func (.func g) first cap => if 1 < g ∧ g < C.ok then aa C.P g (first.toList ++ args ++ cap.toList).toArray M K Kp else False
 | _ => False
inductive Tk where
 | pure | read | new | Ez
def cls (P : Program) (o : Oper) : Tk :=
 match o.op with
 | .load .. => .read
 | .alloc .. | .box .. | .buildSlice .. | .makeMap _ none => .new
 | .convert s d _ => match P.underlying s, P.underlying d with
  | some (.slice _), _ => .Ez
  | _, some (.slice _) => .Ez
  | _, _ => .pure
 | .call c => match c.callee with
  | .builtin .len => match P.underlying (c.argTypes.getD 0 0) with
   | some (.map ..) => .Ez
   | _ => .pure
  | .builtin .cap => .pure
  | .builtin .min => .pure
  | .builtin .max => .pure
  | _ => .Ez
 | .binOp op t x y _ => match op with
  | .eql | .neq => match P.underlying t with
   | some (.pointer _) => bif zM x || zM y then .pure else .Ez
   | _ => .pure
  | _ => .pure
 | .move .. | .assign .. | .pick .. | .build .. | .nilCheck .. | .unOp .. | .makeInterface .. | .makeFunc .. | .slice .. | .fieldAddr .. | .field .. | .indexAddr .. | .index .. | .typeAssert .. | .extract .. => .pure
 | _ => .Ez
def JI (neg b : Bool) : Bool := match neg with | true => !b | false => b
def iA (M : Mem) (b : Nat) : Prop := ∃ c T, M b = some (.cells c T (0, 0))
def ptrEq (M : Mem) (p q : Option Addr) (K : Bool → Prop) : Prop := match p, q with
 | some a, some b => (a = b → K true) ∧ (a ≠ b → (a.block = b.block ∨ (iA M a.block ∧ iA M b.block)) ∧ K false)
 | none, none => K true
 | _, _ => K false
def JJ (P : Program) (neg : Bool) (t : TypeId) (x y : Value) (M : Mem) (K : Value → Mem → Prop) : Prop :=
 match x with
 | .pointer p => match y with
  | .pointer q => match P.underlying t with
   | some (.pointer e) => match P.info? e with
    | some i => bif Nat.beq i.size 0 then False else ptrEq M p q fun b => K (.bool (JI neg b)) M
    | none => False
   | _ => False
  | _ => False
 | _ => False
def MC (C : Ctx) (ρ : Operand → Value) (o : Oper) (M : Mem) (K : Value → Mem → Prop) (Kp : List PanicEntry → Mem → Prop) : Prop :=
 match o.op with
 | .store t a x => B8 C.P t (ρ a) (ρ x) M fun M' => K undef M'
 | .call c => match c.callee with
  | .value f => gn C (ρ f) (c.args.toList.map ρ) M (fun v M' => uv C.P o.type v fun v' => K v' M') Kp
  | .builtin .append => bh C.P (Builtin.append_ c.argTypes o.type (c.args.toList.map ρ).toArray) M (fun v M' => uv C.P o.type v fun v' => K v' M') Kp
  | .builtin .len => bh C.P (Builtin.len_ c.argTypes o.type (c.args.toList.map ρ).toArray) M (fun v M' => uv C.P o.type v fun v' => K v' M') Kp
  | .builtin .copy => bh C.P (Builtin.copy_ c.argTypes o.type (c.args.toList.map ρ).toArray) M (fun v M' => uv C.P o.type v fun v' => K v' M') Kp
  | .builtin .delete => bh C.P (Builtin.delete_ c.argTypes o.type (c.args.toList.map ρ).toArray) M (fun v M' => uv C.P o.type v fun v' => K v' M') Kp
  | _ => False
 | .binOp .eql t x y _ => JJ C.P false t (ρ x) (ρ y) M K
 | .binOp .neq t x y _ => JJ C.P true t (ρ x) (ρ y) M K
 | .makeSlice t l c => bh C.P (Instr.makeSlice t (ρ l) (ρ c)) M (fun v M' => uv C.P o.type v fun v' => K v' M') Kp
 | .convert s d x => bh C.P (convert s d (ρ x)) M (fun v M' => uv C.P o.type v fun v' => K v' M') Kp
 | .lookup t x i ok => bh C.P (Instr.lookup t (ρ x) (ρ i) ok) M (fun v M' => uv C.P o.type v fun v' => K v' M') Kp
 | .mapEntry t m k => bh C.P (Instr.mapEntry t (ρ m) (ρ k)) M K Kp
 | .range t x => bh C.P (Instr.range t (ρ x)) M K Kp
 | .next it s => bh C.P (Instr.next (ρ it) s o.type) M K Kp
 | .entry it => bh C.P (Instr.entry (ρ it)) M K Kp
 | .mapUpdate t m k x => bJ C.P (Instr.mapUpdate t (ρ m) (ρ k) (ρ x)) M (K undef) Kp
 | .insert t m k x => bJ C.P (Instr.mapUpdate t (ρ m) (ρ k) (ρ x)) M (K undef) Kp
 | .entryStore t m s x => bJ C.P (Instr.entryStore t (ρ m) (ρ s) (ρ x)) M (K undef) Kp
 | .panic x => match ρ x with
  | .iface t v => Kp [{ v := .iface t v, recovered := false }] M
  | _ => False
 | _ => False
def PX (C : Ctx) (ρ : Operand → Value) (o : Oper) (M : Mem) (K : Value → Mem → Prop) (Kp : List PanicEntry → Mem → Prop) : Prop :=
 match cls C.P o with
 | .pure => Gw C.P ρ o fun v => K v M
 | .read => match o.op with
  | .load t a => DE C.P t (ρ a) M fun v => K v M
  | _ => False
 | .new => GC C.P ρ o M K
 | .Ez => MC C ρ o M K Kp
def jE (P : Program) (K : Value → Mem → Prop) (Kp : List PanicEntry → Mem → Prop) : Next → Mem → Prop
 | .value v, M => K v M
 | .skip, M => K undef M
 | .enter f args, M => aa P f args M K Kp
 | _, _ => False
theorem GD (P : Program) {α : Type} (s : Sem α) {ob : Obj} {k : Nat → Sem α} : yz P s = some (ob, k) →
  ∀ {M : Mem} {K : α → Mem → Prop} {Kp : Value → Mem → Prop}, (∀ b, M b = none → cO P (k b) (M.set b ob) K Kp) → cO P s M K Kp := by
 induction s with
 | program k' ih => intro h M K Kp hk; exact ih P h hk
 | new o k' ih => intro h M K Kp hk; simp only [yz, Option.some.injEq, Prod.mk.injEq] at h; obtain ⟨rfl, rfl⟩ := h; exact hk
 | _ => intro h; simp [yz] at h
theorem eK {P : Program} {s : Sem Value} {M : Mem} {K : Value → Mem → Prop} {Kp : List PanicEntry → Mem → Prop} (h : bh P s M K Kp) :
  cO P (s >>= fun x => pure (Next.value x)) M (jE P K Kp) (fun v M' => Kp [{ v, recovered := false }] M') := eH P s _ h
theorem ia {zs : List Value} {s : Nat} (hs : zs.length = s) : ∀ n, (List.range (n * s)).map (fun k => zs.toArray[k % zs.toArray.size]!) = (List.replicate n zs).flatten
 | 0 => by simp
 | n + 1 => by
  have ih := ia hs n
  rw [Nat.succ_mul, List.range_add, List.map_append, ih, List.replicate_succ', List.flatten_append]
  congr 1
  simp only [List.flatten_cons, List.flatten_nil, List.append_nil, List.map_map]
  apply List.ext_getElem
  ·simp [hs]
  ·intro k h1 h2
   have hk : k < s := by simpa using h1
   simp [hs, Nat.mod_eq_of_lt hk, Nat.mul_add_mod_self_right, List.getElem?_eq_getElem h2]
def BP (P : Program) {α : Type} : Sem α → Option α
 | .pure a => some a
 | .program k => BP P (k P)
 | _ => none
theorem zU (P : Program) {α β : Type} (s : Sem α) (f : α → Sem β) : BP P (s >>= f) = (BP P s).bind fun a => BP P (f a) := by
 show BP P (s.bind f) = _
 induction s with
 | pure a => rfl
 | program k ih => exact ih P
 | _ => rfl
theorem yA (P : Program) {α β : Type} (s : Sem α) (f : α → Sem β) {x : α} (h : BP P s = some x) : yz P (s >>= f) = yz P (f x) := by
 show yz P (s.bind f) = _
 induction s with
 | pure a => simp only [BP, Option.some.injEq] at h; subst h; rfl
 | program k ih => exact ih P h
 | _ => simp [BP] at h
theorem zV (P : Program) {α β : Type} (s : Sem α) (f : α → Sem β) {ob : Obj} {k : Nat → Sem α} (h : yz P s = some (ob, k)) : yz P (s >>= f) = some (ob, fun b => k b >>= f) := by
 show yz P (s.bind f) = _
 induction s with
 | program k' ih => exact ih P h
 | new o k' ih => simp only [yz, Option.some.injEq, Prod.mk.injEq] at h; obtain ⟨rfl, rfl⟩ := h; rfl
 | _ => simp [yz] at h
theorem sG {P : Program} {t : TypeId} {i : TypeInfo} (h : P.info? t = some i) : BP P (typeInfo t) = some i := by
 show BP P (Sem.bind program _) = _
 simp only [program, Sem.bind, BP, h]; rfl
theorem wK {P : Program} {t : TypeId} {d : TypeDesc} (h : P.underlying t = some d) : BP P (underlying t) = some d := by
 show BP P (Sem.bind program _) = _
 simp only [program, Sem.bind, BP, h]; rfl
theorem EA {P : Program} {t : TypeId} {i : TypeInfo} (h : P.info? t = some i) : BP P (sizeOf t) = some i.size := by
 simp only [sizeOf, zU, sG h, Option.bind_some]; rfl
theorem DI {P : Program} {t : TypeId} {i : TypeInfo} {z : Value} (h : P.info? t = some i) (hz : i.zero = some z) : BP P (zeroValue t) = some z := by
 simp only [zeroValue, zU, sG h, Option.bind_some, hz]; rfl
theorem JK {P : Program} {t : TypeId} {len : Nat} {parts : Array (Nat × Value)} {M : Mem} {K : Value → Mem → Prop} (h : JH P t len parts.toList M K) :
  ∃ ob, yz P (Instr.buildSlice t len parts) = some (ob, fun b => pure (.slice (some ⟨b, 0, none⟩) len len)) ∧ ∀ b, M b = none → K (.slice (some ⟨b, 0, none⟩) len len) (M.set b ob) := by
 unfold JH at h
 split at h
 ·rename_i e hu
  split at h
  ·rename_i i hi
   split at h
   ·rename_i z hz
    split at h
    ·rename_i hc
     split at h
     ·rename_i cs hcs
      refine ⟨.cells cs.toArray e, ?_, h⟩
      unfold Instr.buildSlice
      rw [yA P _ _ (wK hu)]
      simp only
      rw [yA P _ _ (EA hi)]
      have hle : ¬ (len * i.size > 2 ^ 24) := by have := hc.2; omega
      simp only [hle, if_false]
      by_cases h0 : len * i.size = 0
      ·simp only [h0, if_true]
       have hr := ia hc.1 len
       rw [h0] at hr
       simp only [List.range_zero, List.map_nil] at hr
       rw [← hr] at hcs
       have := fill_eq (fun k => some (k * i.size, i.size)) parts.toList []
       rw [hcs] at this
       have e0 : (Array.range 0).map (fun k => (#[] : Array Value)[k % (#[] : Array Value).size]!) = ([] : List Value).toArray := by simp
       show yz P (match Instr.fill (fun k => some (k * i.size, i.size)) ((Array.range 0).map (fun k => (#[] : Array Value)[k % (#[] : Array Value).size]!)) parts.toList with
        | some cells => (do pure (.slice (some (← newRow e cells)) len len) : Sem Value)
        | x => stuck "buildSlice: a part of the wrong size") = _
       rw [e0, this]
       rfl
      ·simp only [h0, if_false]
       rw [yA P _ _ (DI hi hz)]
       have MD : (Array.range (len * i.size)).map (fun k => z.cells[k % z.cells.size]!) = (List.replicate len z.cells.toList).flatten.toArray := by
        rw [← ia hc.1 len]
        apply Array.ext'
        simp
       show yz P (match Instr.fill (fun k => some (k * i.size, i.size)) ((Array.range (len * i.size)).map (fun k => z.cells[k % z.cells.size]!)) parts.toList with
        | some cells => (do pure (.slice (some (← newRow e cells)) len len) : Sem Value)
        | x => stuck "buildSlice: a part of the wrong size") = _
       rw [MD, fill_eq, hcs]
       rfl
     ·exact h.elim
    ·exact h.elim
   ·exact h.elim
  ·exact h.elim
 ·exact h.elim
theorem DJ {P : Program} {ρ : Operand → Value} {o : Oper} {M : Mem} {K : Value → Mem → Prop} (h : GC P ρ o M K) :
  ∃ (ob : Obj) (k : Nat → Sem Next), yz P (execOp ρ o) = some (ob, k) ∧ ∀ b, M b = none → ∃ v, br P (k b) Mem.empty = some (.value v) ∧ K v (M.set b ob) := by
 unfold GC at h
 split at h
 ·rename_i t len parts ho
  obtain ⟨dst, op, type, pos, after, guard⟩ := o
  simp only at ho; subst ho
  obtain ⟨ob, h1, h2⟩ := JK (parts := parts.map fun (i, x) => (i, ρ x)) (by rw [Array.toList_map]; exact h)
  refine ⟨ob, fun b => pure (Next.value (.slice (some ⟨b, 0, none⟩) len len)), ?_, fun b hb => ⟨_, rfl, h2 b hb⟩⟩
  simp only [execOp]
  rw [zV P _ _ h1]
  rfl
 ·split at h
  ·rename_i ob k hn
   refine ⟨ob, k, hn, fun b hb => ?_⟩
   have := h b hb
   dsimp only at this
   split at this
   ·rename_i v hv; exact ⟨v, hv, this⟩
   ·exact this.elim
  ·exact h.elim
theorem j3 {P : Program} {s : Sem Unit} {M : Mem} {K : Value → Mem → Prop} {Kp : List PanicEntry → Mem → Prop} (h : bJ P s M (K undef) Kp) :
  cO P (s >>= fun _ => pure Next.skip) M (jE P K Kp) (fun v M' => Kp [{ v, recovered := false }] M') := eH P s _ h
theorem pM {P : Program} {s : Sem Value} {t : TypeId} {M : Mem} {K : Value → Mem → Prop} {Kp : List PanicEntry → Mem → Prop} (h : bh P s M (fun v M' => uv P t v fun v' => K v' M') Kp) : bh P s M K Kp :=
 fN P s h (fun v M' hv => rE (K := fun v' => K v' M') hv) (fun _ _ h => h)
theorem Ci {C : Ctx} (hC : C.Good) {f : Value} {c : Call} {fo : Operand} {ρ : Operand → Value} {M : Mem} {K : Value → Mem → Prop} {Kp : List PanicEntry → Mem → Prop} {Kq : Value → Mem → Prop} {t : TypeId}
  (hc : c.callee = .value fo) (hf : ρ fo = f) (h : gn C f (c.args.toList.map ρ) M K Kp) :
  cO C.P (do let d ← resolve ρ c t; invoke d.target d.args) M (jE C.P K Kp) Kq := by
 unfold gn at h
 split at h
 ·rename_i g first cap
  split at h
  ·rename_i hg
   have lM := hC.1 g hg
   unfold lK at lM
   split at lM
   ·rename_i fn hfn
    simp only [Bool.and_eq_true, Bool.not_eq_true', beq_eq_false_iff_ne, ne_eq] at lM
    have hb : fn.body.isNone = false := by cases hx : fn.body <;> simp_all
    have hr : resolve ρ c t = pure { target := .fn (.func g) cap, args := first ++ c.args.map ρ } := by
     unfold resolve; rw [hc]; simp only [hf, Deferred.ofValue]
    have hargs : (first.toList ++ c.args.toList.map ρ ++ cap.toList).toArray = first ++ c.args.map ρ ++ cap := by apply Array.ext'; simp
    rw [hargs] at h
    rw [hr]
    show cO C.P (callFunc g (first ++ c.args.map ρ ++ cap)) M _ _
    refine fz C.P _ (x := Next.enter g (first ++ c.args.map ρ ++ cap)) (K := jE C.P K Kp) ?_ h
    simp only [callFunc, aG, program, br, Option.bind_some, hfn]
    have hn : (fn.name == "runtime.NumGoroutine") = false := by simp [lM.1]
    simp only [hn, hb, Bool.false_eq_true, if_false, be]
   ·simp at lM
  ·exact h.elim
 ·exact h.elim
theorem zW {P : Program} {M : Mem} {a b : Addr} (h : a.block = b.block ∨ (iA M a.block ∧ iA M b.block)) : br P (sameAddr a b) M = some (a == b) := by
 unfold sameAddr
 by_cases hb : a.block = b.block
 ·rw [if_pos (by simpa using hb)]; rfl
 ·obtain ⟨⟨c1, T1, h1⟩, ⟨c2, T2, h2⟩⟩ := h.resolve_left hb
  have hne : (a == b) = false := by
   rw [beq_eq_false_iff_ne]; intro he; exact hb (by rw [he])
  rw [if_neg (by simpa using hb), hne]
  simp [noView, viewAt, mayBeOne, stringish, frozen, shape, br, h1, h2, Bind.bind, Sem.bind, pure, Pure.pure]
theorem zX {P : Program} {M : Mem} {t e : TypeId} {i : TypeInfo} {p q : Option Addr} (d : Nat) (hu : P.underlying t = some (.pointer e)) (hi : P.info? e = some i) (hz : i.size ≠ 0)
  (h : ∀ a b, p = some a → q = some b → a.block = b.block ∨ (iA M a.block ∧ iA M b.block)) : br P (Op.equalIn (d + 1) t (.pointer p) (.pointer q)) M = some (p == q) := by
 rw [Op.equalIn]; simp only [aG, aC hu, Option.bind_some]
 cases p <;> cases q
 ·rfl
 ·rfl
 ·rfl
 ·rename_i a b
  simp only [aG, dQ hi, Option.bind_some]
  rw [if_pos hz, zW (h a b rfl rfl)]
  simp
theorem xB {C : Ctx} {ρ : Operand → Value} {o : Oper} {op : BinOp} {neg : Bool} {t yt : TypeId} {x y : Operand} {M : Mem} {K : Value → Mem → Prop} {Kp : List PanicEntry → Mem → Prop} (ho : o.op = .binOp op t x y yt)
  (hop : (op = .eql ∧ neg = false) ∨ (op = .neq ∧ neg = true)) (h : JJ C.P neg t (ρ x) (ρ y) M K) :
  cO C.P (execOp ρ o) M (jE C.P K Kp) (fun v M' => Kp [{ v, recovered := false }] M') := by
 unfold JJ at h
 split at h
 ·rename_i p hx
  split at h
  ·rename_i q hy
   split at h
   ·rename_i e hu
    split at h
    ·rename_i i hi
     have hz : i.size ≠ 0 := by
      intro h0; rw [h0] at h; exact h
     have Sn : Nat.beq i.size 0 = false := by
      cases hb : Nat.beq i.size 0 with
      | false => rfl
      | true => exact absurd (Nat.eq_of_beq_eq_true hb) hz
     rw [Sn] at h
     simp only [cond_false] at h
     have key : ∀ b : Bool, br C.P (Op.equal t (.pointer p) (.pointer q)) M = some b → K (.bool (JI neg b)) M →
       cO C.P (execOp ρ o) M (jE C.P K Kp) (fun v M' => Kp [{ v, recovered := false }] M') := by
      intro b hb hk
      obtain ⟨dst, op', type, pos, after, guard⟩ := o
      simp only at ho; subst ho
      refine fz C.P (execOp ρ _) (x := Next.value (.bool (JI neg b))) ?_ (show jE C.P K Kp (.value (.bool (JI neg b))) M from hk)
      rcases hop with ⟨rfl, rfl⟩ | ⟨rfl, rfl⟩ <;> simp only [execOp, hx, hy, eqGuard, binOp, aG, be, Option.bind_some, hb] <;> rfl
     unfold ptrEq at h
     have side : ∀ (hh : ∀ a b, p = some a → q = some b → a.block = b.block ∨ (iA M a.block ∧ iA M b.block)), br C.P (Op.equal t (.pointer p) (.pointer q)) M = some (p == q) := fun hh => zX 9999 hu hi hz hh
     match p, q, h with
     | some a, some b, h =>
      by_cases hab : a = b
      ·exact key _ (side (fun _ _ h1 h2 => by cases h1; cases h2; exact .inl (by rw [hab]))) (by simpa [hab] using h.1 hab)
      ·exact key _ (side (fun _ _ h1 h2 => by cases h1; cases h2; exact (h.2 hab).1)) (by rw [show (some a == some b) = false from by simpa using hab]; exact (h.2 hab).2)
     | none, none, h => exact key _ (side (fun _ _ h1 _ => by cases h1)) (by simpa using h)
     | some a, none, h => exact key _ (side (fun _ _ _ h2 => by cases h2)) (by simpa using h)
     | none, some b, h => exact key _ (side (fun _ _ h1 _ => by cases h1)) (by simpa using h)
    ·exact h.elim
   ·exact h.elim
  ·exact h.elim
 ·exact h.elim
theorem EB {C : Ctx} (hC : C.Good) {ρ : Operand → Value} {o : Oper} {M : Mem} {K : Value → Mem → Prop} {Kp : List PanicEntry → Mem → Prop} (h : MC C ρ o M K Kp) :
  cO C.P (execOp ρ o) M (jE C.P K Kp) (fun v M' => Kp [{ v, recovered := false }] M') := by
 obtain ⟨dst, op, type, pos, after, guard⟩ := o
 cases op <;> simp only [MC] at h <;> try exact h.elim
 case store t a x => exact j3 (zL h)
 case call c =>
  obtain ⟨callee, Lo, argTypes⟩ := c
  cases callee with
  | value f =>
   simp only at h
   refine fN C.P _ (Ci hC (fo := f) (Kq := fun v M' => Kp [{ v, recovered := false }] M') rfl rfl h) (fun n M' hn => ?_) (fun _ _ h => h)
   cases n <;> first
    | exact hn.elim
    | exact rE (K := fun v' => K v' M') hn
    | exact aa.mono hn (fun v M2 hv => rE (K := fun v' => K v' M2) hv) (fun _ _ h => h)
  | invoke r m => exact h.elim
  | builtin b =>
   have hargs : (Lo.toList.map ρ).toArray = Lo.map ρ := by apply Array.ext'; simp
   rw [hargs] at h
   cases b <;> simp only at h <;> first
    | exact h.elim
    | exact eK (pM h)
 case binOp op t x y yt =>
  cases op <;> simp only at h <;> first
   | exact h.elim
   | exact xB (o := ⟨dst, _, type, pos, after, guard⟩) rfl (.inl ⟨rfl, rfl⟩) h
   | exact xB (o := ⟨dst, _, type, pos, after, guard⟩) rfl (.inr ⟨rfl, rfl⟩) h
 case makeSlice => exact eK (pM h)
 case convert => exact eK (pM h)
 case lookup => exact eK (pM h)
 case mapEntry => exact eK h
 case range => exact eK h
 case next => exact eK h
 case entry => exact eK h
 case mapUpdate => exact j3 h
 case insert => exact j3 h
 case entryStore => exact j3 h
 case panic x =>
  simp only [execOp]
  generalize ρ x = v at h
  cases v <;> first | exact h.elim | exact h
end Go.AF
