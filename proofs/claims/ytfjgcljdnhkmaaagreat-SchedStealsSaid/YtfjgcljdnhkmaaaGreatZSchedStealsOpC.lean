/- A part of proofs about functions of one program: a condition over a partial memory that is enough for a call, and what calls answer by it. No condition of its own. -/
import Derived.Test.YtfjgcljdnhkmaaaGreatZSchedStealsOpsB
set_option linter.unusedVariables false
namespace Go.AF
variable {E : WEnv}

/-- A call, over a partial memory: whatever lies beside it stays. -/
def ACalls (P : Program) (f : FuncId) (args : Array Value) (M : Mem) (K : Value → Mem → Prop) (Kp : List PanicEntry → Mem → Prop) : Prop :=
  ∀ (E : WEnv) (F : Mem) (w : World), M.dj F → (M.union F).In E w → Calls P f args w fun e w' => match e with
    | .returned v => With E F (K v) w'
    | .panicked c => With E F (Kp c) w'
    | .outgrown => False

theorem ACalls.mono {P : Program} {f : FuncId} {args : Array Value} {M : Mem} {K K' : Value → Mem → Prop} {Kp Kp' : List PanicEntry → Mem → Prop}
    (h : ACalls P f args M K Kp) (hk : ∀ v M', K v M' → K' v M') (hp : ∀ c M', Kp c M' → Kp' c M') : ACalls P f args M K' Kp' :=
  fun E F w hd hi => (h E F w hd hi).mono fun e w' he => by
    cases e with
    | returned v => exact With.mono he (hk v)
    | panicked c => exact With.mono he (hp c)
    | outgrown => exact he

/-- A call that doesn't panic. -/
theorem ACalls.imp {P : Program} {f : FuncId} {args : Array Value} {M : Mem} {K K' : Value → Mem → Prop} {Kp' : List PanicEntry → Mem → Prop}
    (h : ACalls P f args M K (fun _ _ => False)) (hk : ∀ v M', K v M' → K' v M') : ACalls P f args M K' Kp' := h.mono hk fun _ _ x => x.elim

structure Ctx where
  P : Program
  ok : Nat

def callable (P : Program) (g : Nat) : Bool := match P.funcs[g]? with
  | some fn => !(fn.name == "runtime.NumGoroutine") && fn.body.isSome
  | none => false

/-- All functions below a number are called as any function is. -/
def Ctx.Good (C : Ctx) : Prop := (∀ g, 1 < g ∧ g < C.ok → callable C.P g = true) ∧ C.P.follows .mixedOrders = true

/-! ### typed results -/

def exTy (c : CSh) (K : Value → Prop) : Prop :=
  match c with
  | .int k => ∃ n, K (.int k n)
  | .bool => ∃ b, K (.bool b)
  | .str => ∃ s, K (.string s)
  | .ptr => ∃ p, K (.pointer p)
  | .sl => ∃ A n c, K (.slice A n c)
  | .val => ∃ v, K v

def exTys : List CSh → (List Value → Prop) → Prop
  | [], K => K []
  | c :: cs, K => exTy c fun v => exTys cs fun vs => K (v :: vs)

inductive TSh where
  | c (s : CSh)
  | a (l : List CSh)
  | b (n : Nat)

def tsh (P : Program) (t : TypeId) : TSh := match P.underlying t with
  | some d => if aggD d then (if (flat P 8 t).length ≤ 40 then .a (flat P 8 t) else .b (flat P 8 t).length) else .c (csh d)
  | none => .c .val

def exTsh : TSh → (Value → Prop) → Prop
  | .c c, K => exTy c K
  | .a l, K => exTys l fun vs => K (.agg vs.toArray)
  | .b n, K => ∃ l : List Value, l.length = n ∧ K (.agg l.toArray)

def exTshs : List TSh → (List Value → Prop) → Prop
  | [], K => K []
  | c :: cs, K => exTsh c fun v => exTshs cs fun vs => K (v :: vs)

def retT (P : Program) (t : TypeId) (v : Value) (K : Value → Prop) : Prop :=
  match P.underlying t with
  | some (.tuple ts) => exTshs (ts.toList.map (tsh P)) fun vs => v = .tuple vs.toArray ∧ K (.tuple vs.toArray)
  | some d => if aggD d then exTsh (tsh P t) fun u => v = u ∧ K u else exC (csh d) (some v) K
  | none => K v

theorem exTy_spec {c : CSh} {K : Value → Prop} (h : exTy c K) : ∃ v, K v := by
  cases c <;> first | exact h.imp' _ (fun _ h => h) | skip
  all_goals first
    | (obtain ⟨n, h⟩ := h; exact ⟨_, h⟩)
    | (obtain ⟨A, n, c, h⟩ := h; exact ⟨_, h⟩)

theorem exTys_spec : ∀ {l : List CSh} {K : List Value → Prop}, exTys l K → ∃ vs, K vs
  | [], K, h => ⟨[], h⟩
  | c :: cs, K, h => by
    obtain ⟨v, h⟩ := exTy_spec h
    obtain ⟨vs, h⟩ := exTys_spec h
    exact ⟨_, h⟩

theorem exTsh_spec {c : TSh} {K : Value → Prop} (h : exTsh c K) : ∃ v, K v := by
  cases c with
  | c c => exact exTy_spec h
  | a l => obtain ⟨vs, h⟩ := exTys_spec (l := l) h; exact ⟨_, h⟩
  | b n => obtain ⟨l, _, h⟩ := h; exact ⟨_, h⟩

theorem exTshs_spec : ∀ {l : List TSh} {K : List Value → Prop}, exTshs l K → ∃ vs, K vs
  | [], K, h => ⟨[], h⟩
  | c :: cs, K, h => by
    obtain ⟨v, h⟩ := exTsh_spec h
    obtain ⟨vs, h⟩ := exTshs_spec h
    exact ⟨_, h⟩

theorem retT_spec {P : Program} {t : TypeId} {v : Value} {K : Value → Prop} (h : retT P t v K) : K v := by
  unfold retT at h
  split at h
  · obtain ⟨vs, hv, h2⟩ := exTshs_spec h; rw [hv]; exact h2
  · split at h
    · obtain ⟨u, hv, h2⟩ := exTsh_spec h; rw [hv]; exact h2
    · obtain ⟨v', hv, h⟩ := exC_spec h; cases hv; exact h
  · exact h

/-! ### operations that make memory, that write, that call -/

def nwS (P : Program) {α : Type} : Sem α → Option (Obj × (Nat → Sem α))
  | .program k => nwS P (k P)
  | .new o k => some (o, k)
  | _ => none

def bslK (P : Program) (t : TypeId) (len : Nat) (parts : List (Nat × Value)) (M : Mem) (K : Value → Mem → Prop) : Prop :=
  match P.underlying t with
  | some (.slice e) => match P.info? e with
    | some i => match i.zero with
      | some z => if z.cells.toList.length = i.size ∧ len * i.size ≤ 16777216 then
          (match fillL (fun k => some (k * i.size, i.size)) (List.replicate len z.cells.toList).flatten parts with
          | some cs => nwc M (.cells cs.toArray e) fun b M' => K (.slice (some ⟨b, 0, none⟩) len len) M'
          | none => False) else False
      | none => False
    | none => False
  | _ => False

def newK (P : Program) (ρ : Operand → Value) (o : Oper) (M : Mem) (K : Value → Mem → Prop) : Prop :=
  match o.op with
  | .buildSlice t len parts => bslK P t len (parts.toList.map fun p => (p.1, ρ p.2)) M K
  | _ => match nwS P (execOp ρ o) with
    | some (ob, k) => nwc M ob fun b M' => (match rdS P (k b) Mem.empty with | some (.value v) => K v M' | _ => False)
    | none => False

def semK (P : Program) (s : Sem Value) (M : Mem) (K : Value → Mem → Prop) (Kp : List PanicEntry → Mem → Prop) : Prop :=
  awp P s M K fun v M' => Kp [{ v, recovered := false }] M'

def semU (P : Program) (s : Sem Unit) (M : Mem) (K : Mem → Prop) (Kp : List PanicEntry → Mem → Prop) : Prop :=
  awp P s M (fun _ => K) fun v M' => Kp [{ v, recovered := false }] M'

def callK (C : Ctx) (f : Value) (args : List Value) (M : Mem) (K : Value → Mem → Prop) (Kp : List PanicEntry → Mem → Prop) : Prop :=
  match f with
  | .func (.func g) first cap => if 1 < g ∧ g < C.ok then ACalls C.P g (first.toList ++ args ++ cap.toList).toArray M K Kp else False
  | _ => False

inductive Cls where
  | pure | read | new | eff

def cls (P : Program) (o : Oper) : Cls :=
  match o.op with
  | .load .. => .read
  | .alloc .. | .box .. | .buildSlice .. | .makeMap _ none => .new
  | .convert s d _ => match P.underlying s, P.underlying d with
    | some (.slice _), _ => .eff
    | _, some (.slice _) => .eff
    | _, _ => .pure
  | .call c => match c.callee with
    | .builtin .len => match P.underlying (c.argTypes.getD 0 0) with
      | some (.map ..) => .eff
      | _ => .pure
    | .builtin .cap => .pure
    | .builtin .min => .pure
    | .builtin .max => .pure
    | _ => .eff
  | .binOp op t x y _ => match op with
    | .eql | .neq => match P.underlying t with
      | some (.pointer _) => bif constNil x || constNil y then .pure else .eff
      | _ => .pure
    | _ => .pure
  | .move .. | .assign .. | .pick .. | .build .. | .nilCheck .. | .unOp .. | .makeInterface .. | .makeFunc .. | .slice .. | .fieldAddr .. | .field .. | .indexAddr .. | .index .. | .typeAssert .. | .extract .. => .pure
  | _ => .eff

def negB (neg b : Bool) : Bool := match neg with | true => !b | false => b

def plainB (M : Mem) (b : Nat) : Prop := ∃ c T, M b = some (.cells c T (0, 0))

/-- Two pointers, compared. -/
def ptrEq (M : Mem) (p q : Option Addr) (K : Bool → Prop) : Prop := match p, q with
  | some a, some b => (a = b → K true) ∧ (a ≠ b → (a.block = b.block ∨ (plainB M a.block ∧ plainB M b.block)) ∧ K false)
  | none, none => K true
  | _, _ => K false

def peqK (P : Program) (neg : Bool) (t : TypeId) (x y : Value) (M : Mem) (K : Value → Mem → Prop) : Prop :=
  match x with
  | .pointer p => match y with
    | .pointer q => match P.underlying t with
      | some (.pointer e) => match P.info? e with
        | some i => bif Nat.beq i.size 0 then False else ptrEq M p q fun b => K (.bool (negB neg b)) M
        | none => False
      | _ => False
    | _ => False
  | _ => False

def effK (C : Ctx) (ρ : Operand → Value) (o : Oper) (M : Mem) (K : Value → Mem → Prop) (Kp : List PanicEntry → Mem → Prop) : Prop :=
  match o.op with
  | .store t a x => storeK C.P t (ρ a) (ρ x) M fun M' => K undef M'
  | .call c => match c.callee with
    | .value f => callK C (ρ f) (c.args.toList.map ρ) M (fun v M' => retT C.P o.type v fun v' => K v' M') Kp
    | .builtin .append => semK C.P (Builtin.append_ c.argTypes o.type (c.args.toList.map ρ).toArray) M (fun v M' => retT C.P o.type v fun v' => K v' M') Kp
    | .builtin .len => semK C.P (Builtin.len_ c.argTypes o.type (c.args.toList.map ρ).toArray) M (fun v M' => retT C.P o.type v fun v' => K v' M') Kp
    | .builtin .copy => semK C.P (Builtin.copy_ c.argTypes o.type (c.args.toList.map ρ).toArray) M (fun v M' => retT C.P o.type v fun v' => K v' M') Kp
    | .builtin .delete => semK C.P (Builtin.delete_ c.argTypes o.type (c.args.toList.map ρ).toArray) M (fun v M' => retT C.P o.type v fun v' => K v' M') Kp
    | _ => False
  | .binOp .eql t x y _ => peqK C.P false t (ρ x) (ρ y) M K
  | .binOp .neq t x y _ => peqK C.P true t (ρ x) (ρ y) M K
  | .makeSlice t l c => semK C.P (Instr.makeSlice t (ρ l) (ρ c)) M (fun v M' => retT C.P o.type v fun v' => K v' M') Kp
  | .convert s d x => semK C.P (convert s d (ρ x)) M (fun v M' => retT C.P o.type v fun v' => K v' M') Kp
  | .lookup t x i ok => semK C.P (Instr.lookup t (ρ x) (ρ i) ok) M (fun v M' => retT C.P o.type v fun v' => K v' M') Kp
  | .mapEntry t m k => semK C.P (Instr.mapEntry t (ρ m) (ρ k)) M K Kp
  | .range t x => semK C.P (Instr.range t (ρ x)) M K Kp
  | .next it s => semK C.P (Instr.next (ρ it) s o.type) M K Kp
  | .entry it => semK C.P (Instr.entry (ρ it)) M K Kp
  | .mapUpdate t m k x => semU C.P (Instr.mapUpdate t (ρ m) (ρ k) (ρ x)) M (K undef) Kp
  | .insert t m k x => semU C.P (Instr.mapUpdate t (ρ m) (ρ k) (ρ x)) M (K undef) Kp
  | .entryStore t m s x => semU C.P (Instr.entryStore t (ρ m) (ρ s) (ρ x)) M (K undef) Kp
  | .panic x => match ρ x with
    | .iface t v => Kp [{ v := .iface t v, recovered := false }] M
    | _ => False
  | _ => False

def aop (C : Ctx) (ρ : Operand → Value) (o : Oper) (M : Mem) (K : Value → Mem → Prop) (Kp : List PanicEntry → Mem → Prop) : Prop :=
  match cls C.P o with
  | .pure => pureK C.P ρ o fun v => K v M
  | .read => match o.op with
    | .load t a => loadK C.P t (ρ a) M fun v => K v M
    | _ => False
  | .new => newK C.P ρ o M K
  | .eff => effK C ρ o M K Kp

def nextK (P : Program) (K : Value → Mem → Prop) (Kp : List PanicEntry → Mem → Prop) : Next → Mem → Prop
  | .value v, M => K v M
  | .skip, M => K undef M
  | .enter f args, M => ACalls P f args M K Kp
  | _, _ => False

theorem nwS_spec (P : Program) {α : Type} (s : Sem α) {ob : Obj} {k : Nat → Sem α} : nwS P s = some (ob, k) →
    ∀ {M : Mem} {K : α → Mem → Prop} {Kp : Value → Mem → Prop}, (∀ b, M b = none → awp P (k b) (M.set b ob) K Kp) → awp P s M K Kp := by
  induction s with
  | program k' ih => intro h M K Kp hk; exact ih P h hk
  | new o k' ih => intro h M K Kp hk; simp only [nwS, Option.some.injEq, Prod.mk.injEq] at h; obtain ⟨rfl, rfl⟩ := h; exact hk
  | _ => intro h; simp [nwS] at h

theorem awp_valued {P : Program} {s : Sem Value} {M : Mem} {K : Value → Mem → Prop} {Kp : List PanicEntry → Mem → Prop} (h : semK P s M K Kp) :
    awp P (s >>= fun x => pure (Next.value x)) M (nextK P K Kp) (fun v M' => Kp [{ v, recovered := false }] M') := awp_bind P s _ h

theorem cells_rep {zs : List Value} {s : Nat} (hs : zs.length = s) : ∀ n, (List.range (n * s)).map (fun k => zs.toArray[k % zs.toArray.size]!) = (List.replicate n zs).flatten
  | 0 => by simp
  | n + 1 => by
    have ih := cells_rep hs n
    rw [Nat.succ_mul, List.range_add, List.map_append, ih, List.replicate_succ', List.flatten_append]
    congr 1
    simp only [List.flatten_cons, List.flatten_nil, List.append_nil, List.map_map]
    apply List.ext_getElem
    · simp [hs]
    · intro k h1 h2
      have hk : k < s := by simpa using h1
      simp [hs, Nat.mod_eq_of_lt hk, Nat.mul_add_mod_self_right, List.getElem?_eq_getElem h2]

def evP (P : Program) {α : Type} : Sem α → Option α
  | .pure a => some a
  | .program k => evP P (k P)
  | _ => none

theorem evP_bind (P : Program) {α β : Type} (s : Sem α) (f : α → Sem β) : evP P (s >>= f) = (evP P s).bind fun a => evP P (f a) := by
  show evP P (s.bind f) = _
  induction s with
  | pure a => rfl
  | program k ih => exact ih P
  | _ => rfl

theorem nwS_ev (P : Program) {α β : Type} (s : Sem α) (f : α → Sem β) {x : α} (h : evP P s = some x) : nwS P (s >>= f) = nwS P (f x) := by
  show nwS P (s.bind f) = _
  induction s with
  | pure a => simp only [evP, Option.some.injEq] at h; subst h; rfl
  | program k ih => exact ih P h
  | _ => simp [evP] at h

theorem nwS_bind (P : Program) {α β : Type} (s : Sem α) (f : α → Sem β) {ob : Obj} {k : Nat → Sem α} (h : nwS P s = some (ob, k)) : nwS P (s >>= f) = some (ob, fun b => k b >>= f) := by
  show nwS P (s.bind f) = _
  induction s with
  | program k' ih => exact ih P h
  | new o k' ih => simp only [nwS, Option.some.injEq, Prod.mk.injEq] at h; obtain ⟨rfl, rfl⟩ := h; rfl
  | _ => simp [nwS] at h

theorem ev_typeInfo {P : Program} {t : TypeId} {i : TypeInfo} (h : P.info? t = some i) : evP P (typeInfo t) = some i := by
  show evP P (Sem.bind program _) = _
  simp only [program, Sem.bind, evP, h]; rfl
theorem ev_underlying {P : Program} {t : TypeId} {d : TypeDesc} (h : P.underlying t = some d) : evP P (underlying t) = some d := by
  show evP P (Sem.bind program _) = _
  simp only [program, Sem.bind, evP, h]; rfl
theorem ev_sizeOf {P : Program} {t : TypeId} {i : TypeInfo} (h : P.info? t = some i) : evP P (sizeOf t) = some i.size := by
  simp only [sizeOf, evP_bind, ev_typeInfo h, Option.bind_some]; rfl
theorem ev_zero {P : Program} {t : TypeId} {i : TypeInfo} {z : Value} (h : P.info? t = some i) (hz : i.zero = some z) : evP P (zeroValue t) = some z := by
  simp only [zeroValue, evP_bind, ev_typeInfo h, Option.bind_some, hz]; rfl

theorem bslK_nw {P : Program} {t : TypeId} {len : Nat} {parts : Array (Nat × Value)} {M : Mem} {K : Value → Mem → Prop} (h : bslK P t len parts.toList M K) :
    ∃ ob, nwS P (Instr.buildSlice t len parts) = some (ob, fun b => pure (.slice (some ⟨b, 0, none⟩) len len)) ∧ ∀ b, M b = none → K (.slice (some ⟨b, 0, none⟩) len len) (M.set b ob) := by
  unfold bslK at h
  split at h
  · rename_i e hu
    split at h
    · rename_i i hi
      split at h
      · rename_i z hz
        split at h
        · rename_i hc
          split at h
          · rename_i cs hcs
            refine ⟨.cells cs.toArray e, ?_, h⟩
            unfold Instr.buildSlice
            rw [nwS_ev P _ _ (ev_underlying hu)]
            simp only
            rw [nwS_ev P _ _ (ev_sizeOf hi)]
            have hle : ¬ (len * i.size > 2 ^ 24) := by have := hc.2; omega
            simp only [hle, if_false]
            by_cases h0 : len * i.size = 0
            · simp only [h0, if_true]
              have hr := cells_rep hc.1 len
              rw [h0] at hr
              simp only [List.range_zero, List.map_nil] at hr
              rw [← hr] at hcs
              have := fill_eq (fun k => some (k * i.size, i.size)) parts.toList []
              rw [hcs] at this
              have e0 : (Array.range 0).map (fun k => (#[] : Array Value)[k % (#[] : Array Value).size]!) = ([] : List Value).toArray := by simp
              show nwS P (match Instr.fill (fun k => some (k * i.size, i.size)) ((Array.range 0).map (fun k => (#[] : Array Value)[k % (#[] : Array Value).size]!)) parts.toList with
                | some cells => (do pure (.slice (some (← newRow e cells)) len len) : Sem Value)
                | x => stuck "buildSlice: a part of the wrong size") = _
              rw [e0, this]
              rfl
            · simp only [h0, if_false]
              rw [nwS_ev P _ _ (ev_zero hi hz)]
              have hcells : (Array.range (len * i.size)).map (fun k => z.cells[k % z.cells.size]!) = (List.replicate len z.cells.toList).flatten.toArray := by
                rw [← cells_rep hc.1 len]
                apply Array.ext'
                simp
              show nwS P (match Instr.fill (fun k => some (k * i.size, i.size)) ((Array.range (len * i.size)).map (fun k => z.cells[k % z.cells.size]!)) parts.toList with
                | some cells => (do pure (.slice (some (← newRow e cells)) len len) : Sem Value)
                | x => stuck "buildSlice: a part of the wrong size") = _
              rw [hcells, fill_eq, hcs]
              rfl
          · exact h.elim
        · exact h.elim
      · exact h.elim
    · exact h.elim
  · exact h.elim

/-- What makes memory: the object, and the value that leads to it. -/
theorem newK_nw {P : Program} {ρ : Operand → Value} {o : Oper} {M : Mem} {K : Value → Mem → Prop} (h : newK P ρ o M K) :
    ∃ (ob : Obj) (k : Nat → Sem Next), nwS P (execOp ρ o) = some (ob, k) ∧ ∀ b, M b = none → ∃ v, rdS P (k b) Mem.empty = some (.value v) ∧ K v (M.set b ob) := by
  unfold newK at h
  split at h
  · rename_i t len parts ho
    obtain ⟨dst, op, type, pos, after, guard⟩ := o
    simp only at ho; subst ho
    obtain ⟨ob, h1, h2⟩ := bslK_nw (parts := parts.map fun (i, x) => (i, ρ x)) (by rw [Array.toList_map]; exact h)
    refine ⟨ob, fun b => pure (Next.value (.slice (some ⟨b, 0, none⟩) len len)), ?_, fun b hb => ⟨_, rfl, h2 b hb⟩⟩
    simp only [execOp]
    rw [nwS_bind P _ _ h1]
    rfl
  · split at h
    · rename_i ob k hn
      refine ⟨ob, k, hn, fun b hb => ?_⟩
      have := h b hb
      dsimp only at this
      split at this
      · rename_i v hv; exact ⟨v, hv, this⟩
      · exact this.elim
    · exact h.elim

theorem awp_united {P : Program} {s : Sem Unit} {M : Mem} {K : Value → Mem → Prop} {Kp : List PanicEntry → Mem → Prop} (h : semU P s M (K undef) Kp) :
    awp P (s >>= fun _ => pure Next.skip) M (nextK P K Kp) (fun v M' => Kp [{ v, recovered := false }] M') := awp_bind P s _ h

theorem semK_ret {P : Program} {s : Sem Value} {t : TypeId} {M : Mem} {K : Value → Mem → Prop} {Kp : List PanicEntry → Mem → Prop} (h : semK P s M (fun v M' => retT P t v fun v' => K v' M') Kp) : semK P s M K Kp :=
  awp_mono P s h (fun v M' hv => retT_spec (K := fun v' => K v' M') hv) (fun _ _ h => h)

theorem callK_spec {C : Ctx} (hC : C.Good) {f : Value} {c : Call} {fo : Operand} {ρ : Operand → Value} {M : Mem} {K : Value → Mem → Prop} {Kp : List PanicEntry → Mem → Prop} {Kq : Value → Mem → Prop} {t : TypeId}
    (hc : c.callee = .value fo) (hf : ρ fo = f) (h : callK C f (c.args.toList.map ρ) M K Kp) :
    awp C.P (do let d ← resolve ρ c t; invoke d.target d.args) M (nextK C.P K Kp) Kq := by
  unfold callK at h
  split at h
  · rename_i g first cap
    split at h
    · rename_i hg
      have hcal := hC.1 g hg
      unfold callable at hcal
      split at hcal
      · rename_i fn hfn
        simp only [Bool.and_eq_true, Bool.not_eq_true', beq_eq_false_iff_ne, ne_eq] at hcal
        have hb : fn.body.isNone = false := by cases hx : fn.body <;> simp_all
        have hr : resolve ρ c t = pure { target := .fn (.func g) cap, args := first ++ c.args.map ρ } := by
          unfold resolve; rw [hc]; simp only [hf, Deferred.ofValue]
        have hargs : (first.toList ++ c.args.toList.map ρ ++ cap.toList).toArray = first ++ c.args.map ρ ++ cap := by apply Array.ext'; simp
        rw [hargs] at h
        rw [hr]
        show awp C.P (callFunc g (first ++ c.args.map ρ ++ cap)) M _ _
        refine awp_of_rdS C.P _ (x := Next.enter g (first ++ c.args.map ρ ++ cap)) (K := nextK C.P K Kp) ?_ h
        simp only [callFunc, rd_bind, program, rdS, Option.bind_some, hfn]
        have hn : (fn.name == "runtime.NumGoroutine") = false := by simp [hcal.1]
        simp only [hn, hb, Bool.false_eq_true, if_false, rd_pure]
      · simp at hcal
    · exact h.elim
  · exact h.elim

theorem rd_sameAddr {P : Program} {M : Mem} {a b : Addr} (h : a.block = b.block ∨ (plainB M a.block ∧ plainB M b.block)) : rdS P (sameAddr a b) M = some (a == b) := by
  unfold sameAddr
  by_cases hb : a.block = b.block
  · rw [if_pos (by simpa using hb)]; rfl
  · obtain ⟨⟨c1, T1, h1⟩, ⟨c2, T2, h2⟩⟩ := h.resolve_left hb
    have hne : (a == b) = false := by
      rw [beq_eq_false_iff_ne]; intro he; exact hb (by rw [he])
    rw [if_neg (by simpa using hb), hne]
    simp [noView, viewAt, mayBeOne, stringish, frozen, shape, rdS, h1, h2, Bind.bind, Sem.bind, pure, Pure.pure]

theorem rd_equalPtr {P : Program} {M : Mem} {t e : TypeId} {i : TypeInfo} {p q : Option Addr} (d : Nat) (hu : P.underlying t = some (.pointer e)) (hi : P.info? e = some i) (hz : i.size ≠ 0)
    (h : ∀ a b, p = some a → q = some b → a.block = b.block ∨ (plainB M a.block ∧ plainB M b.block)) : rdS P (Op.equalIn (d + 1) t (.pointer p) (.pointer q)) M = some (p == q) := by
  rw [Op.equalIn]; simp only [rd_bind, rd_underlying hu, Option.bind_some]
  cases p <;> cases q
  · rfl
  · rfl
  · rfl
  · rename_i a b
    simp only [rd_bind, rd_sizeOfI hi, Option.bind_some]
    rw [if_pos hz, rd_sameAddr (h a b rfl rfl)]
    simp

theorem peqK_spec {C : Ctx} {ρ : Operand → Value} {o : Oper} {op : BinOp} {neg : Bool} {t yt : TypeId} {x y : Operand} {M : Mem} {K : Value → Mem → Prop} {Kp : List PanicEntry → Mem → Prop} (ho : o.op = .binOp op t x y yt)
    (hop : (op = .eql ∧ neg = false) ∨ (op = .neq ∧ neg = true)) (h : peqK C.P neg t (ρ x) (ρ y) M K) :
    awp C.P (execOp ρ o) M (nextK C.P K Kp) (fun v M' => Kp [{ v, recovered := false }] M') := by
  unfold peqK at h
  split at h
  · rename_i p hx
    split at h
    · rename_i q hy
      split at h
      · rename_i e hu
        split at h
        · rename_i i hi
          have hz : i.size ≠ 0 := by
            intro h0; rw [h0] at h; exact h
          have hz' : Nat.beq i.size 0 = false := by
            cases hb : Nat.beq i.size 0 with
            | false => rfl
            | true => exact absurd (Nat.eq_of_beq_eq_true hb) hz
          rw [hz'] at h
          simp only [cond_false] at h
          have key : ∀ b : Bool, rdS C.P (Op.equal t (.pointer p) (.pointer q)) M = some b → K (.bool (negB neg b)) M →
              awp C.P (execOp ρ o) M (nextK C.P K Kp) (fun v M' => Kp [{ v, recovered := false }] M') := by
            intro b hb hk
            obtain ⟨dst, op', type, pos, after, guard⟩ := o
            simp only at ho; subst ho
            refine awp_of_rdS C.P (execOp ρ _) (x := Next.value (.bool (negB neg b))) ?_ (show nextK C.P K Kp (.value (.bool (negB neg b))) M from hk)
            rcases hop with ⟨rfl, rfl⟩ | ⟨rfl, rfl⟩ <;> simp only [execOp, hx, hy, eqGuard, binOp, rd_bind, rd_pure, Option.bind_some, hb] <;> rfl
          unfold ptrEq at h
          have side : ∀ (hh : ∀ a b, p = some a → q = some b → a.block = b.block ∨ (plainB M a.block ∧ plainB M b.block)), rdS C.P (Op.equal t (.pointer p) (.pointer q)) M = some (p == q) := fun hh => rd_equalPtr 9999 hu hi hz hh
          match p, q, h with
          | some a, some b, h =>
            by_cases hab : a = b
            · exact key _ (side (fun _ _ h1 h2 => by cases h1; cases h2; exact .inl (by rw [hab]))) (by simpa [hab] using h.1 hab)
            · exact key _ (side (fun _ _ h1 h2 => by cases h1; cases h2; exact (h.2 hab).1)) (by rw [show (some a == some b) = false from by simpa using hab]; exact (h.2 hab).2)
          | none, none, h => exact key _ (side (fun _ _ h1 _ => by cases h1)) (by simpa using h)
          | some a, none, h => exact key _ (side (fun _ _ _ h2 => by cases h2)) (by simpa using h)
          | none, some b, h => exact key _ (side (fun _ _ h1 _ => by cases h1)) (by simpa using h)
        · exact h.elim
      · exact h.elim
    · exact h.elim
  · exact h.elim

theorem effK_spec {C : Ctx} (hC : C.Good) {ρ : Operand → Value} {o : Oper} {M : Mem} {K : Value → Mem → Prop} {Kp : List PanicEntry → Mem → Prop} (h : effK C ρ o M K Kp) :
    awp C.P (execOp ρ o) M (nextK C.P K Kp) (fun v M' => Kp [{ v, recovered := false }] M') := by
  obtain ⟨dst, op, type, pos, after, guard⟩ := o
  cases op <;> simp only [effK] at h <;> try exact h.elim
  case store t a x => exact awp_united (storeK_spec h)
  case call c =>
    obtain ⟨callee, cargs, argTypes⟩ := c
    cases callee with
    | value f =>
      simp only at h
      refine awp_mono C.P _ (callK_spec hC (fo := f) (Kq := fun v M' => Kp [{ v, recovered := false }] M') rfl rfl h) (fun n M' hn => ?_) (fun _ _ h => h)
      cases n <;> first
        | exact hn.elim
        | exact retT_spec (K := fun v' => K v' M') hn
        | exact ACalls.mono hn (fun v M2 hv => retT_spec (K := fun v' => K v' M2) hv) (fun _ _ h => h)
    | invoke r m => exact h.elim
    | builtin b =>
      have hargs : (cargs.toList.map ρ).toArray = cargs.map ρ := by apply Array.ext'; simp
      rw [hargs] at h
      cases b <;> simp only at h <;> first
        | exact h.elim
        | exact awp_valued (semK_ret h)
  case binOp op t x y yt =>
    cases op <;> simp only at h <;> first
      | exact h.elim
      | exact peqK_spec (o := ⟨dst, _, type, pos, after, guard⟩) rfl (.inl ⟨rfl, rfl⟩) h
      | exact peqK_spec (o := ⟨dst, _, type, pos, after, guard⟩) rfl (.inr ⟨rfl, rfl⟩) h
  case makeSlice => exact awp_valued (semK_ret h)
  case convert => exact awp_valued (semK_ret h)
  case lookup => exact awp_valued (semK_ret h)
  case mapEntry => exact awp_valued h
  case range => exact awp_valued h
  case next => exact awp_valued h
  case entry => exact awp_valued h
  case mapUpdate => exact awp_united h
  case insert => exact awp_united h
  case entryStore => exact awp_united h
  case panic x =>
    simp only [execOp]
    generalize ρ x = v at h
    cases v <;> first | exact h.elim | exact h

end Go.AF
