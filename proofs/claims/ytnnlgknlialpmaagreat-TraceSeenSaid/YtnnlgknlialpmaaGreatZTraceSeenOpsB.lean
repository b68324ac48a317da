/- A part of proofs about one program. -/
import Derived.Test.YtnnlgknlialpmaaGreatZTraceSeenOps
set_option linter.unusedVariables false
namespace Go.AF
def pe (env : Nat → Value) : Operand → Value
 | .tmp t => env t
 | .const v => v
 | .global g => .pointer (some ⟨g, 0, none⟩)
 | .func f => .func (.func f) #[] #[]
def Gc (o i sz : Nat) : Nat := match sz with | 1 => o + i | s => o + i * s
def inb (A : Option Addr) (n : Nat) (i : Int) (sz : Nat) (K : Value → Prop) : Prop :=
 0 ≤ i ∧ i < (n : Int) ∧ aE A fun b o => K (.pointer (some ⟨b, Gc o i.toNat sz, none⟩))
def Gd (P : Program) (e : TypeId) (K : Nat → Prop) : Prop := match P.info? e with | some i => K i.size | none => False
def To (P : Program) (t : TypeId) (x i : Value) (K : Value → Prop) : Prop :=
 match i with
 | .int _ j => match P.underlying t, x with
  | some (.array len e), .pointer p => Gd P e fun z => inb p len j z K
  | some (.slice e), .slice A n _ => Gd P e fun z => inb A n j z K
  | _, _ => False
 | _ => False
def Sh (s : ByteArray) (i : Nat) : Int := (s.data.getD i 0).toNat
def ixK (P : Program) (t : TypeId) (x i : Value) (K : Value → Prop) : Prop :=
 match i with
 | .int _ j => match P.underlying t, x with
  | some .string, .string s => 0 ≤ j ∧ j < (s.size : Int) ∧ K (.int .u8 (Sh s j.toNat))
  | some (.array len e), .agg cs => Gd P e fun z => if z = 1 then
    (match P.underlying e with
    | some d => if vP d then False else 0 ≤ j ∧ j < (len : Int) ∧ D1 (WJ d) (cs[j.toNat]?) K
    | none => False) else False
  | _, _ => False
 | _ => False
def lO (A : Option Addr) (l m sz : Nat) : Option Addr := if m = l then A else A.map fun a => a.add (l * sz)
def mA : Option Value → Option Int → Option Int
 | some (.int _ j), _ => some j
 | none, d => d
 | _, _ => none
def Xo (lo hi mx : Option Value) (len cap : Nat) (K : Nat → Nat → Nat → Prop) : Prop :=
 match mA mx (some cap), mA lo (some 0) with
 | some m, some l => match mA hi (some len) with
  | some h => 0 ≤ m ∧ m ≤ (cap : Int) ∧ 0 ≤ h ∧ h ≤ m ∧ 0 ≤ l ∧ l ≤ h ∧ K l.toNat h.toNat m.toNat
  | none => False
 | _, _ => False
def Tp (P : Program) (t : TypeId) (x : Value) (lo hi mx : Option Value) (K : Value → Prop) : Prop :=
 if mx.isSome && hi.isNone then False else
 match P.underlying t, x with
 | some .string, .string s => if mx.isSome then False else Xo lo hi none s.size s.size fun l h _ => K (.string (s.extract l h))
 | some (.slice e), .slice A n c => Gd P e fun z => Xo lo hi mx n c fun l h m => K (.slice (lO A l m z) (h - l) (m - l))
 | some (.array n e), .pointer p => Gd P e fun z => aE p fun b o => Xo lo hi mx n n fun l h m => K (.slice (lO (some ⟨b, o, none⟩) l m z) (h - l) (m - l))
 | _, _ => False
def Si (v : Value) (K : Prop) : Prop := match v with
 | .func (.func _) _ _ => K
 | _ => False
def Tq (v : Value) (K : Value → Prop) : Prop := match v with
 | .pointer p => aE p fun b o => K (.pointer (some ⟨b, o, none⟩))
 | v => Si v (K v)
def D4 : Operand → Bool
 | .const (.pointer none) => true
 | _ => false
def Ge (P : Program) (ρ : Operand → Value) (o : Oper) (K : Value → Prop) : Prop :=
 match bR P (execOp ρ o) Mem.empty with
 | some (.value v) => K v
 | _ => False
def PC (P : Program) (ρ : Operand → Value) (o : Oper) (op : BinOp) (x y : Value) (K : Value → Prop) : Prop :=
 match x, y with
 | .int k a, .int k' b => if k = k' then b ≠ 0 ∧ K (.int k (match op with | .quo => k.wrap (a.tdiv b) | _ => a.tmod b)) else False
 | _, _ => False
theorem aR (P : Program) {α β : Type} (s : Sem α) (f : α → Sem β) (M : Mem) : bR P (s >>= f) M = (bR P s M).bind fun a => bR P (f a) M := dL P s f M
theorem LH (P : Program) {α β : Type} (s : Sem α) (f : α → β) (M : Mem) : bR P (f <$> s) M = (bR P s M).map f := by
 show bR P (Sem.bind s _) M = _
 rw [dL]; cases bR P s M <;> rfl
def LI : List Value → Nat → List Value → List Value
 | cells, _, [] => cells
 | cells, off, v :: vs => LI (cells.set off v) (off + 1) vs
def yX (place : Nat → Option (Nat × Nat)) : List Value → List (Nat × Value) → Option (List Value)
 | cells, [] => some cells
 | cells, (i, v) :: rest => match place i with
  | none => none
  | some (off, size) => if v.cells.toList.length = size ∧ off + size ≤ cells.length then yX place (LI cells off v.cells.toList) rest else none
theorem Ik : ∀ (vs : List Value) (cells : Array Value) (off k : Nat), (vs.zipIdx k).foldl (fun cs (c, j) => cs.setIfInBounds (off + j) c) cells = (LI cells.toList (off + k) vs).toArray
 | [], cells, off, k => by simp [LI]
 | v :: vs, cells, off, k => by
  simp only [List.zipIdx_cons, List.foldl_cons, LI]
  rw [Ik vs _ off (k + 1)]
  simp [Nat.add_assoc]
theorem fill_eq (place : Nat → Option (Nat × Nat)) : ∀ (ps : List (Nat × Value)) (cells : List Value), Instr.fill place cells.toArray ps = (yX place cells ps).map List.toArray
 | [], cells => rfl
 | (i, v) :: rest, cells => by
  unfold Instr.fill yX
  cases hp : place i with
  | none => rfl
  | some os =>
   obtain ⟨off, size⟩ := os
   simp only
   by_cases h : v.cells.toList.length = size ∧ off + size ≤ cells.length
   ·have h1 : v.cells.size = size := by simpa using h.1
    have hn : (v.cells.size ≠ size || decide (off + v.cells.size > cells.toArray.size)) = false := by
     simp only [Bool.or_eq_false_iff, decide_eq_false_iff_not, List.size_toArray]
     exact ⟨by simp [h1], by rw [h1]; omega⟩
    rw [if_neg (by simpa using hn), if_pos h, ← fill_eq place rest]
    congr 1
    rw [← Array.foldl_toList, Array.toList_zipIdx]
    have := Ik v.cells.toList cells.toArray off 0
    simpa using this
   ·rw [if_neg h, if_pos]
    ·rfl
    ·simp only [Bool.or_eq_true, decide_eq_true_eq, List.size_toArray]
     by_cases h1 : v.cells.size = size
     ·right
      have : ¬ (off + size ≤ cells.length) := fun h2 => h ⟨by simpa using h1, h2⟩
      rw [h1]; omega
     ·left; simpa using h1
def nA {α : Type} : List (Option α) → Option (List α)
 | [] => some []
 | some a :: l => (nA l).map (a :: ·)
 | none :: _ => none
def D5 (P : Program) (fs : List Field) : Option (List (Nat × Nat)) := nA (fs.map fun f => (P.info? f.type).map fun i => (f.offset, i.size))
def zeroOf (P : Program) (t : TypeId) : Option Value := (P.info? t).bind (·.zero)
def Gf (P : Program) (t : TypeId) (parts : List (Nat × Value)) (K : Value → Prop) : Prop :=
 match zeroOf P t, P.underlying t with
 | some z, some (.struct fs) => match D5 P fs.toList with
  | some pl => match yX (fun i => pl[i]?) z.cells.toList parts with
   | some cs => K (.agg cs.toArray)
   | none => False
  | none => False
 | some z, some (.array _ e) => Gd P e fun size => match yX (fun i => some (i * size, size)) z.cells.toList parts with
  | some cs => K (.agg cs.toArray)
  | none => False
 | _, _ => False
def Gg (P : Program) (t : TypeId) (x : Value) (i : Nat) (K : Value → Prop) : Prop :=
 match P.underlying t, x with
 | some (.struct fs), .agg cs => match fs.toList[i]? with
  | some f => match P.underlying f.type with
   | some d => if vP d then Gd P f.type fun z => K (.agg ((cs.toList.drop f.offset).take z).toArray) else eN (cs.toList[f.offset]?) K
   | none => False
  | none => False
 | _, _ => False
def Ts (P : Program) (t : TypeId) (x : Value) (K : Value → Prop) : Prop :=
 match P.underlying t, x with
 | some .string, .string s => K (.int .i64 (s.size : Nat))
 | some (.array n _), _ => K (.int .i64 (n : Nat))
 | some (.slice _), .slice _ n _ => K (.int .i64 (n : Nat))
 | _, _ => False
def LJ (mx : Bool) : Value → List Value → Option Value
 | .int k x, [] => some (.int k x)
 | .int k x, .int _ y :: rest => LJ mx (.int k (bif mx then (if y > x then y else x) else (if y < x then y else x))) rest
 | _, _ => none
def PD (mx : Bool) (args : List Value) (K : Value → Prop) : Prop :=
 match args with
 | v :: rest => match LJ mx v rest with
  | some u => K u
  | none => False
 | [] => False
theorem fN {P : Program} {t : TypeId} {i : TypeInfo} (h : P.info? t = some i) (M : Mem) : bR P (sizeOf t) M = some i.size := by
 simp only [sizeOf, aR, cE h, Option.bind_some, bI]
theorem kX (P : Program) (t : TypeId) (M : Mem) : bR P (zeroValue t) M = zeroOf P t := by
 unfold zeroValue zeroOf
 cases hi : P.info? t with
 | none =>
  simp only [aR, typeInfo, program, bR, Option.bind_some, hi]
  simp [stuck, bR]
 | some i =>
  simp only [aR, cE hi, Option.bind_some]
  cases i.zero <;> simp [bI, unsupported, bR]
theorem D6 {P : Program} {t : TypeId} {parts : Array (Nat × Value)} {K : Value → Prop} (h : Gf P t parts.toList K) :
  ∃ v, (∀ M, bR P (Instr.build t parts) M = some v) ∧ K v := by
 unfold Gf at h
 split at h
 ·rename_i z fs hz hu
  split at h
  ·rename_i pl hpl
   split at h
   ·rename_i cs hcs
    refine ⟨_, fun M => ?_, h⟩
    have hmap : ∀ (l : List Field) (pl : List (Nat × Nat)), nA (l.map fun f => (P.info? f.type).map fun i => (f.offset, i.size)) = some pl →
      bR P (l.mapM fun f => do pure (f.offset, ← sizeOf f.type)) M = some pl := by
     intro l
     induction l with
     | nil => intro pl h; simp [nA] at h; subst h; rfl
     | cons f l ih =>
      intro pl h
      simp only [List.map_cons] at h
      cases hi : P.info? f.type with
      | none => simp [hi, nA] at h
      | some i =>
       simp only [hi, Option.map_some, nA] at h
       cases hr : nA (l.map fun f => (P.info? f.type).map fun i => (f.offset, i.size)) with
       | none => simp [hr] at h
       | some rest =>
        simp only [hr, Option.map_some, Option.some.injEq] at h
        subst h
        rw [List.mapM_cons]
        simp only [aR, fN hi, Option.bind_some, bI]
        rw [ih rest hr]; rfl
    simp only [Instr.build, aR, kX, hz, Option.bind_some, aL hu, Array.mapM_eq_mapM_toList, LH]
    have := hmap fs.toList pl hpl
    rw [this]
    simp only [Option.map_some, Option.bind_some]
    have e : Instr.fill (fun x => (pl.toArray)[x]?) z.cells parts.toList = some cs.toArray := by
     have := fill_eq (fun i => pl[i]?) parts.toList z.cells.toList
     rw [hcs] at this
     simpa using this
    rw [e]
    rfl
   ·exact h.elim
  ·exact h.elim
 ·rename_i z n e hz hu
  unfold Gd at h
  split at h
  ·rename_i i hi
   split at h
   ·rename_i cs hcs
    refine ⟨_, fun M => ?_, h⟩
    simp only [Instr.build, aR, kX, hz, Option.bind_some, aL hu, fN hi]
    have e : Instr.fill (fun x => some (x * i.size, i.size)) z.cells parts.toList = some cs.toArray := by
     have := fill_eq (fun x => some (x * i.size, i.size)) parts.toList z.cells.toList
     rw [hcs] at this
     simpa using this
    rw [e]
    rfl
   ·exact h.elim
  ·exact h.elim
 ·exact h.elim
theorem D7 {P : Program} {t : TypeId} {x : Value} {i : Nat} {K : Value → Prop} (h : Gg P t x i K) : ∃ v, (∀ M, bR P (Instr.field t x i) M = some v) ∧ K v := by
 unfold Gg at h
 split at h
 ·rename_i fs cs hu
  split at h
  ·rename_i f hf
   have Gh : fs[i]? = some f := by simpa using hf
   split at h
   ·rename_i d hd
    split at h
    ·rename_i fy
     unfold Gd at h
     split at h
     ·rename_i z hz
      refine ⟨_, fun M => ?_, h⟩
      simp only [Instr.field, aR, aL hu, Option.bind_some, Gh, asAgg, bI, part, kW hd, fy, if_true, fN hz]
      congr 2
      apply Array.ext'
      simp
     ·exact h.elim
    ·rename_i fy
     have LK : vP d = false := by simpa using fy
     unfold eN at h
     split at h
     ·rename_i v hv
      have hv' : cs[f.offset]? = some v := by simpa using hv
      refine ⟨_, fun M => ?_, h⟩
      simp only [Instr.field, aR, aL hu, Option.bind_some, Gh, asAgg, bI, part, kW hd, LK, Bool.false_eq_true, if_false, hv']
     ·exact h.elim
   ·exact h.elim
  ·exact h.elim
 ·exact h.elim
theorem Jw {P : Program} {t : TypeId} {x : Value} {K : Value → Prop} {ts : Array TypeId} {ty : TypeId} (h : Ts P t x K) (ht : ts[0]? = some t) :
  ∃ v, (∀ M, bR P (Builtin.len_ ts ty #[x]) M = some v) ∧ K v := by
 unfold Ts at h
 split at h
 ·rename_i s hu; exact ⟨_, fun M => by simp [Builtin.len_, aR, ht, aL hu, bI, goInt], h⟩
 ·rename_i n e hu; exact ⟨_, fun M => by simp [Builtin.len_, aR, ht, aL hu, bI, goInt], h⟩
 ·rename_i e A n c hu; exact ⟨_, fun M => by simp [Builtin.len_, aR, ht, aL hu, bI, goInt], h⟩
 ·exact h.elim
def Gi (P : Program) (ρ : Operand → Value) (o : Oper) (c : Call) (K : Value → Prop) : Prop :=
 match c.callee with
 | .builtin .len => match c.args.toList, c.argTypes.toList with
  | [x], [t] => Ts P t (ρ x) K
  | _, _ => False
 | .builtin .min => PD false (c.args.toList.map ρ) K
 | .builtin .max => PD true (c.args.toList.map ρ) K
 | _ => Ge P ρ o K
def Bx (P : Program) (t : TypeId) (cs : Array Value) (off : Nat) : Option Value := match P.underlying t with
 | some d => if vP d then (P.info? t).map fun i => .agg ((cs.toList.drop off).take i.size).toArray else cs.toList[off]?
 | none => none
theorem yD {P : Program} {t : TypeId} {cs : Array Value} {off : Nat} {v : Value} (h : Bx P t cs off = some v) (M : Mem) : bR P (part t cs off) M = some v := by
 unfold Bx at h
 split at h
 ·rename_i d hd
  split at h
  ·rename_i fy
   obtain ⟨i, hi⟩ := info_of_underlying hd
   rw [hi, Option.map_some, Option.some.injEq] at h
   subst h
   simp only [part, aR, kW hd, Option.bind_some, fy, if_true, fN hi]
   show some _ = some _
   congr 2
   apply Array.ext'
   simp
  ·rename_i fy
   have LK : vP d = false := by simpa using fy
   have hv' : cs[off]? = some v := by simpa using h
   simp only [part, aR, kW hd, Option.bind_some, LK, Bool.false_eq_true, if_false, hv']
   rfl
 ·cases h
def WK {α : Type} (g : α → Option Bool) : List α → Option Bool
 | [] => some true
 | x :: l => match g x with
  | some b => match WK g l with
   | some r => some (b && r)
   | none => none
  | none => none
def WL (P : Program) : Nat → TypeId → Value → Value → Option Bool
 | 0, _, _, _ => none
 | d + 1, t, x, y => match P.underlying t with
  | some .bool => match x, y with
   | .bool a, .bool b => some (a == b)
   | _, _ => none
  | some (.int _) => match x, y with
   | .int k a, .int k' b => if k = k' then some (a == b) else none
   | _, _ => none
  | some .string => match x, y with
   | .string a, .string b => some (a == b)
   | _, _ => none
  | some (.struct fs) => match x, y with
   | .agg xs, .agg ys => bif P.stoodInHeld t then none else WK (fun f : Field => bif f.name == "_" then some true else
     match Bx P f.type xs f.offset with
     | some a => match Bx P f.type ys f.offset with
      | some b => WL P d f.type a b
      | none => none
     | none => none) fs.toList
   | _, _ => none
  | some (.array n e) => match x, y with
   | .agg xs, .agg ys => match P.info? e with
    | some i => WK (fun k : Nat => match Bx P e xs (k * i.size) with
     | some a => match Bx P e ys (k * i.size) with
      | some b => WL P d e a b
      | none => none
     | none => none) (List.range n)
    | none => none
   | _, _ => none
  | _ => none
theorem By {P : Program} {α : Type} {M : Mem} (f : α → Sem Bool) (g : α → Option Bool) (body : α → Option Bool × Unit → Sem (ForInStep (Option Bool × Unit)))
  (hb : ∀ x b, bR P (f x) M = some b → ∀ s, bR P (body x s) M = some (if b then ForInStep.yield (none, ()) else ForInStep.done (some false, ()))) :
  ∀ (l : List α) (r : Bool), (∀ x ∈ l, ∀ b, g x = some b → bR P (f x) M = some b) → WK g l = some r → bR P (forIn l (none, ()) body) M = some (if r then (none, ()) else (some false, ())) := by
 intro l
 induction l with
 | nil => intro r _ h; simp only [WK, Option.some.injEq] at h; subst h; rfl
 | cons x l ih =>
  intro r hg h
  simp only [WK] at h
  split at h
  ·rename_i b hx
   split at h
   ·rename_i r' PE
    simp only [Option.some.injEq] at h
    subst h
    rw [List.forIn_cons, aR, hb x b (hg x (List.mem_cons_self ..) b hx), Option.bind_some]
    cases b with
    | false => rfl
    | true =>
     simp only [if_true, Bool.true_and]
     exact ih r' (fun y hy => hg y (List.mem_cons_of_mem _ hy)) PE
   ·cases h
  ·cases h
theorem Tt {P : Program} {M : Mem} : ∀ (d D : Nat) (t : TypeId) (x y : Value) (r : Bool), d ≤ D → WL P d t x y = some r → bR P (Op.equalIn D t x y) M = some r := by
 intro d
 induction d with
 | zero => intro D t x y r _ h; simp [WL] at h
 | succ d ih =>
  intro D t x y r hD h
  obtain ⟨D, rfl⟩ : ∃ D', D = D' + 1 := ⟨D - 1, by omega⟩
  have hD' : d ≤ D := by omega
  rw [Op.equalIn]
  simp only [WL] at h
  split at h
  ·rename_i hu
   split at h
   ·simp only [aR, aL hu, Option.bind_some]; exact h
   ·cases h
  ·rename_i hu
   split at h
   ·split at h
    ·rename_i hk
     subst hk
     simp only [aR, aL hu, Option.bind_some, if_true]; exact h
    ·cases h
   ·cases h
  ·rename_i hu
   split at h
   ·simp only [aR, aL hu, Option.bind_some]; exact h
   ·cases h
  ·rename_i fs hu
   split at h
   ·rename_i xs ys
    cases hs : P.stoodInHeld t with
    | true => rw [hs] at h; cases h
    | false =>
     rw [hs, cond_false] at h
     simp only [aR, aL hu, Option.bind_some]
     show (Option.bind (some P) _) = _
     simp only [Option.bind_some, hs, Bool.false_eq_true, if_false]
     rw [aR, ← Array.forIn_toList]
     rw [By (fun f : Field => (if f.name ≠ "_" then do Op.equalIn D f.type (← part f.type xs f.offset) (← part f.type ys f.offset) else pure true : Sem Bool)) _ _ ?_ fs.toList r ?_ h]
     ·cases r <;> rfl
     ·intro f b hb s
      split
      ·rename_i hn
       rw [if_pos hn] at hb
       simp only [aR] at hb ⊢
       cases hp : bR P (part f.type xs f.offset) M with
       | none => rw [hp] at hb; cases hb
       | some a =>
        rw [hp] at hb
        simp only [Option.bind_some] at hb ⊢
        cases hq : bR P (part f.type ys f.offset) M with
        | none => rw [hq] at hb; cases hb
        | some c =>
         rw [hq] at hb
         simp only [Option.bind_some] at hb ⊢
         rw [hb]
         cases b <;> rfl
      ·rename_i hn
       rw [if_neg hn] at hb
       have : b = true := by
        have : some true = some b := hb
        simpa using this.symm
       subst this; rfl
     ·intro f hf b hb
      split
      ·rename_i hn
       have : (f.name == "_") = false := by simpa using hn
       rw [this, cond_false] at hb
       split at hb
       ·rename_i a ha
        split at hb
        ·rename_i c hc
         simp only [aR, yD ha, yD hc, Option.bind_some]
         exact ih D f.type a c b hD' hb
        ·cases hb
       ·cases hb
      ·rename_i hn
       have : (f.name == "_") = true := by simpa using hn
       rw [this, cond_true] at hb
       exact hb
   ·cases h
  ·rename_i n e hu
   split at h
   ·rename_i xs ys
    split at h
    ·rename_i i hi
     simp only [aR, aL hu, fN hi, Option.bind_some]
     rw [Std.Legacy.Range.forIn_eq_forIn_range']
     have hr : List.range' [:n].start [:n].size [:n].step = List.range n := by
      simp [Std.Legacy.Range.size, List.range_eq_range']
     rw [hr]
     rw [By (fun k : Nat => (do Op.equalIn D e (← part e xs (k * i.size)) (← part e ys (k * i.size)) : Sem Bool)) _ _ ?_ (List.range n) r ?_ h]
     ·cases r <;> rfl
     ·intro f b hb s
      simp only [aR] at hb ⊢
      cases hp : bR P (part e xs (f * i.size)) M with
      | none => rw [hp] at hb; cases hb
      | some a =>
       rw [hp] at hb
       simp only [Option.bind_some] at hb ⊢
       cases hq : bR P (part e ys (f * i.size)) M with
       | none => rw [hq] at hb; cases hb
       | some c =>
        rw [hq] at hb
        simp only [Option.bind_some] at hb ⊢
        rw [hb]
        cases b <;> rfl
     ·intro f hf b hb
      split at hb
      ·rename_i a ha
       split at hb
       ·rename_i c hc
        simp only [aR, yD ha, yD hc, Option.bind_some]
        exact ih D e a c b hD' hb
       ·cases hb
      ·cases hb
    ·cases h
   ·cases h
  ·cases h
def eqA (P : Program) (neg : Bool) (t : TypeId) (x y : Value) (K : Value → Prop) : Prop :=
 bif P.eqGuardType P.depth t then False else match WL P 8 t x y with
  | some r => K (.bool (match neg with | true => !r | false => r))
  | none => False
theorem LM {P : Program} {ρ : Operand → Value} {o : Oper} {op : BinOp} {neg : Bool} {t yt : TypeId} {x y : Operand} {xs ys : Array Value} {K : Value → Prop} (ho : o.op = .binOp op t x y yt)
  (hop : (op = .eql ∧ neg = false) ∨ (op = .neq ∧ neg = true)) (hx : ρ x = .agg xs) (hy : ρ y = .agg ys) (h : eqA P neg t (.agg xs) (.agg ys) K) : ∃ v, (∀ M, bR P (execOp ρ o) M = some (.value v)) ∧ K v := by
 unfold eqA at h
 cases hg : P.eqGuardType P.depth t with
 | true => rw [hg] at h; exact h.elim
 | false =>
  rw [hg, cond_false] at h
  split at h
  ·rename_i r hr
   obtain ⟨dst, op', type, pos, after, guard⟩ := o
   simp only at ho; subst ho
   have hb' : ∀ M, bR P (Op.equal t (.agg xs) (.agg ys)) M = some r := fun M => Tt 8 10000 t _ _ r (by omega) hr
   refine ⟨_, fun M => ?_, h⟩
   have hp : bR P program M = some P := rfl
   rcases hop with ⟨rfl, rfl⟩ | ⟨rfl, rfl⟩ <;>
    (simp only [execOp, hx, hy, eqGuard, binOp, aR, bI, Option.bind_some, hb', hp, hg, Bool.not_true, Bool.not_false, Bool.false_eq_true, if_false, if_true])
  ·exact h.elim
def xm (v : Value) (G : Bool → Prop) : Prop := match v with | .nilFunc => G true | .func _ _ _ => G false | _ => False
def eqK (P : Program) (ρ : Operand → Value) (o : Oper) (neg : Bool) (t : TypeId) (x y : Value) (K : Value → Prop) : Prop :=
 match y with
 | .pointer q => match x with
  | .pointer p => match q with
   | none => match P.underlying t with
    | some (.pointer _) => K (.bool (match neg with | true => p.isSome | false => p.isNone))
    | _ => False
   | some b => match p with
    | none => match P.underlying t with
     | some (.pointer _) => K (.bool neg)
     | _ => False
    | some a => Ge P ρ o K
  | _ => False
 | .slice q n c => match x with
  | .slice p n' c' => match q with
   | none => match P.underlying t with
    | some (.slice _) => K (.bool (match neg with | true => p.isSome | false => p.isNone))
    | _ => False
   | some b => False
  | _ => False
 | .agg ys => match x with
  | .agg xs => eqA P neg t (.agg xs) (.agg ys) K
  | _ => False
 | .nilFunc => match P.underlying t with
  | some (.func _ _ _) => xm x fun b => K (.bool (match neg with | true => !b | false => b))
  | _ => False
 | _ => Ge P ρ o K
def Tu (P : Program) (ρ : Operand → Value) (o : Oper) (x y : Value) (K : Value → Prop) : Prop :=
 match x with
 | .string a => match y with
  | .string b => a.size + b.size ≤ 9223372036854775807 ∧ K (.string (a ++ b))
  | _ => False
 | _ => Ge P ρ o K
def LN (P : Program) (ρ : Operand → Value) (o : Oper) (K : Value → Prop) : Prop :=
 match o.op with
 | .nilCheck x => Tq (ρ x) K
 | .indexAddr t x i => To P t (ρ x) (ρ i) K
 | .index t x i => ixK P t (ρ x) (ρ i) K
 | .slice t x lo hi mx => Tp P t (ρ x) (lo.map ρ) (hi.map ρ) (mx.map ρ) K
 | .binOp .quo t x y _ => PC P ρ o .quo (ρ x) (ρ y) K
 | .binOp .rem t x y _ => PC P ρ o .rem (ρ x) (ρ y) K
 | .binOp .add t x y _ => Tu P ρ o (ρ x) (ρ y) K
 | .binOp .eql t x y _ => eqK P ρ o false t (ρ x) (ρ y) K
 | .binOp .neq t x y _ => eqK P ρ o true t (ρ x) (ρ y) K
 | .build t parts => Gf P t (parts.toList.map fun p => (p.1, ρ p.2)) K
 | .field t x i => Gg P t (ρ x) i K
 | .makeFunc fn first captured => K (.func fn (first.toList.map ρ).toArray (captured.toList.map ρ).toArray)
 | .call c => Gi P ρ o c K
 | _ => Ge P ρ o K
theorem mN {P : Program} {ρ : Operand → Value} {o : Oper} {K : Value → Prop} (h : Ge P ρ o K) :
  ∃ v, (∀ M, bR P (execOp ρ o) M = some (.value v)) ∧ K v := by
 unfold Ge at h
 split at h
 ·rename_i v hv
  exact ⟨v, fun M => mL P _ (fun b o hb => by simp [Mem.empty] at hb) hv, h⟩
 ·exact h.elim
theorem gr {P : Program} {s : Sem Value} {v : Value} {M : Mem} (h : bR P s M = some v) :
  bR P (Sem.bind s fun x => pure (Next.value x)) M = some (.value v) := by rw [dL, h]; rfl
theorem Jx {P : Program} {ρ : Operand → Value} {o : Oper} {x : Operand} {K : Value → Prop} (ho : o.op = .nilCheck x) (h : Tq (ρ x) K) :
  ∃ v, (∀ M, bR P (execOp ρ o) M = some (.value v)) ∧ K v := by
 obtain ⟨dst, op, type, pos, after, guard⟩ := o
 simp only at ho; subst ho
 simp only [execOp]
 generalize ρ x = v at h ⊢
 unfold Tq at h
 cases v <;> try exact h.elim
 case pointer p =>
  obtain ⟨b, o, rfl, h⟩ := jx h
  exact ⟨_, fun M => rfl, h⟩
 case func fn a b =>
  simp only [Si] at h
  cases fn <;> try exact h.elim
  exact ⟨_, fun M => rfl, h⟩
theorem Jy (o i sz : Nat) : Gc o i sz = o + i * sz := by
 unfold Gc; split <;> simp
theorem add_eq (b o n : Nat) : (⟨b, o, none⟩ : Addr).add n = ⟨b, o + n, none⟩ := by
 unfold Addr.add; split <;> simp_all
theorem kY {P : Program} {k : IntKind} {j : Int} {M : Mem} : bR P (asIntOf (.int k j)) M = some (k, j) := rfl
theorem Jz {P : Program} {ρ : Operand → Value} {o : Oper} {t : TypeId} {x i : Operand} {K : Value → Prop} (ho : o.op = .indexAddr t x i) (h : To P t (ρ x) (ρ i) K) :
  ∃ v, (∀ M, bR P (execOp ρ o) M = some (.value v)) ∧ K v := by
 obtain ⟨dst, op, type, pos, after, guard⟩ := o
 simp only at ho; subst ho
 simp only [execOp]
 generalize ρ x = vx at h ⊢
 generalize ρ i = vi at h ⊢
 unfold To at h
 cases vi <;> try exact h.elim
 rename_i k j
 simp only at h
 have tail : ∀ (A : Option Addr) (n : Nat) (e : TypeId) (Xp : Bool), (Gd P e fun z => inb A n j z K) →
   ∃ v, (∀ M, bR P (match A with
    | some a => if 0 ≤ j ∧ j < (n : Int) then (do pure (Value.pointer (some (a.add (j.toNat * (← sizeOf e)))))) else if Xp then unsupported (.noEntry "op/indexAddr.an index out of range at an array of length 0 or 1 (ledger 616)") else boundsPanic k j n .index
    | none => boundsPanic k j 0 .index : Sem Value) M = some v) ∧ K v := by
  intro A n e Xp hin
  unfold Gd at hin
  split at hin
  ·rename_i z hz
   obtain ⟨h0, h1, h2⟩ := hin
   obtain ⟨b, o, rfl, h2⟩ := jx h2
   refine ⟨_, fun M => ?_, h2⟩
   simp only [h0, h1, and_self, if_true]
   show bR P (Sem.bind (sizeOf e) _) M = _
   have hs : bR P (sizeOf e) M = some z.size := by
    show bR P (Sem.bind (typeInfo e) _) M = _
    rw [dL, cE hz]
    rfl
   rw [dL, hs]
   simp only [Option.bind_some, Jy, add_eq]; rfl
  ·exact hin.elim
 cases hd : P.underlying t with
 | none => rw [hd] at h; exact h.elim
 | some d =>
  rw [hd] at h
  have wrap : ∀ v, (∀ M, bR P (Instr.indexAt t vx (.int k j)) M = some v) → K v → ∃ v, (∀ M, bR P (Sem.bind (Instr.indexAt t vx (.int k j)) fun x => pure (Next.value x)) M = some (.value v)) ∧ K v :=
   fun v hv hk => ⟨v, fun M => gr (hv M), hk⟩
  cases d <;> try exact h.elim
  case array len e =>
   cases vx <;> try exact h.elim
   rename_i p
   simp only at h
   obtain ⟨v, hv, hk⟩ := tail p len e (decide (len ≤ 1)) h
   refine wrap v (fun M => ?_) hk
   have hv := hv M
   obtain ⟨a, rfl⟩ : ∃ a, p = some a := by
    unfold Gd at h; split at h
    ·obtain ⟨_, _, h2⟩ := h; obtain ⟨b, o, hp, _⟩ := jx h2; exact ⟨_, hp⟩
    ·exact h.elim
   simp only [Instr.indexAt, aR, kY, Option.bind_some, aL hd, Instr.sureAddr, bI, Bool.and_true]
   exact hv
  case slice e =>
   cases vx <;> try exact h.elim
   rename_i A n c
   simp only at h
   obtain ⟨v, hv, hk⟩ := tail A n e false h
   refine wrap v (fun M => ?_) hk
   have hv := hv M
   simp only [Instr.indexAt, aR, kY, Option.bind_some, aL hd, bI, Bool.and_false]
   exact hv
theorem LO {P : Program} {ρ : Operand → Value} {o : Oper} {t : TypeId} {x i : Operand} {K : Value → Prop} (ho : o.op = .index t x i) (h : ixK P t (ρ x) (ρ i) K) :
  ∃ v, (∀ M, bR P (execOp ρ o) M = some (.value v)) ∧ K v := by
 obtain ⟨dst, op, type, pos, after, guard⟩ := o
 simp only at ho; subst ho
 simp only [execOp]
 generalize ρ x = vx at h ⊢
 generalize ρ i = vi at h ⊢
 unfold ixK at h
 cases vi <;> try exact h.elim
 rename_i k j
 simp only at h
 cases hd : P.underlying t with
 | none => rw [hd] at h; exact h.elim
 | some d =>
  rw [hd] at h
  have wrap : ∀ v, (∀ M, bR P (Instr.index t vx (.int k j)) M = some v) → K v → ∃ v, (∀ M, bR P (Sem.bind (Instr.index t vx (.int k j)) fun x => pure (Next.value x)) M = some (.value v)) ∧ K v :=
   fun v hv hk => ⟨v, fun M => gr (hv M), hk⟩
  cases d <;> try exact h.elim
  case string =>
   cases vx <;> try exact h.elim
   rename_i s
   simp only at h
   obtain ⟨h0, h1, h2⟩ := h
   refine wrap _ (fun M => ?_) h2
   have hlt : j.toNat < s.size := by omega
   have hs : s[j.toNat]? = some s[j.toNat] := by simp [hlt]
   simp only [Instr.index, aR, kY, Option.bind_some, aL hd, h0, if_true, hs, bI]
   unfold Sh
   simp [Array.getD, hlt]
   rfl
  case array len e =>
   cases vx <;> try exact h.elim
   rename_i cs
   simp only [Gd] at h
   split at h
   ·rename_i z hz
    split at h
    ·rename_i hz1
     split at h
     ·rename_i d hde
      split at h
      ·exact h.elim
      ·rename_i fy
       obtain ⟨h0, h1, h2⟩ := h
       obtain ⟨v, hv, hk⟩ := pn h2
       refine wrap v (fun M => ?_) hk
       have hs : bR P (sizeOf e) M = some 1 := by
        simp only [sizeOf, aR, cE hz, Option.bind_some, bI, hz1]
       have LK : vP d = false := by simpa using fy
       simp only [Instr.index, aR, kY, Option.bind_some, aL hd, h0, h1, and_self, if_true, hs, part, kW hde, LK, Nat.mul_one, Bool.false_eq_true, if_false, hv, bI]
     ·exact h.elim
    ·exact h.elim
   ·exact h.elim
theorem iA {v : Value} {d : Option Int} {j : Int} (h : mA (some v) d = some j) : ∃ k, v = .int k j := by
 unfold mA at h
 cases v <;> simp at h
 exact ⟨_, by rw [h]⟩
theorem dw {P : Program} {k : IntKind} {j : Int} {y : Nat} {code : BoundsCode} {M : Mem} (h0 : 0 ≤ j) (h1 : j ≤ y) :
  bR P (Instr.sliceBound (.int k j) y code) M = some j.toNat := by
 simp only [Instr.sliceBound, aR, kY, Option.bind_some, h0, h1, and_self, if_true, bI]
theorem yY {P : Program} {lo hi mx : Option Value} {len cap : Nat} {K : Nat → Nat → Nat → Prop} (isSlice : Bool) (Xq : (mx.isSome && hi.isNone) = false)
  (hK : Xo lo hi mx len cap K) : ∃ l h m, (∀ M, bR P (Instr.sliceBounds isSlice len cap lo hi mx) M = some (l, h, m)) ∧ K l h m := by
 unfold Xo at hK
 split at hK
 ·rename_i m l hm hl
  split at hK
  ·rename_i h hh
   obtain ⟨m0, m1, h0, h1, l0, l1, hK⟩ := hK
   refine ⟨_, _, _, fun M => ?_, hK⟩
   cases mx with
   | none =>
    simp only [mA, Option.some.injEq] at hm
    subst hm
    cases hi with
    | none =>
     simp only [mA, Option.some.injEq] at hh
     subst hh
     cases lo with
     | none =>
      simp only [mA, Option.some.injEq] at hl
      subst hl
      simp only [Instr.sliceBounds, aR, bI, Option.bind_some, Int.toNat_natCast]; rfl
     | some v =>
      obtain ⟨k, rfl⟩ := iA hl
      simp only [Instr.sliceBounds, aR, bI, Option.bind_some, Int.toNat_natCast, dw l0 l1]
    | some vh =>
     obtain ⟨kh, rfl⟩ := iA hh
     have l1' : l ≤ (h.toNat : Int) := by omega
     cases lo with
     | none =>
      simp only [mA, Option.some.injEq] at hl
      subst hl
      simp only [Instr.sliceBounds, aR, bI, Option.bind_some, Int.toNat_natCast, dw h0 h1]; rfl
     | some v =>
      obtain ⟨k, rfl⟩ := iA hl
      simp only [Instr.sliceBounds, aR, bI, Option.bind_some, Int.toNat_natCast, dw h0 h1, dw l0 l1']
   | some vm =>
    obtain ⟨km, rfl⟩ := iA hm
    cases hi with
    | none => simp at Xq
    | some vh =>
     obtain ⟨kh, rfl⟩ := iA hh
     have h1' : h ≤ (m.toNat : Int) := by omega
     have l1' : l ≤ (h.toNat : Int) := by omega
     cases lo with
     | none =>
      simp only [mA, Option.some.injEq] at hl
      subst hl
      simp only [Instr.sliceBounds, aR, bI, Option.bind_some, dw m0 m1, dw h0 h1']; rfl
     | some v =>
      obtain ⟨k, rfl⟩ := iA hl
      simp only [Instr.sliceBounds, aR, bI, Option.bind_some, dw m0 m1, dw h0 h1', dw l0 l1']
  ·exact hK.elim
 ·exact hK.elim
theorem JA {P : Program} {ρ : Operand → Value} {o : Oper} {t : TypeId} {x : Operand} {lo hi mx : Option Operand} {K : Value → Prop} (ho : o.op = .slice t x lo hi mx)
  (h : Tp P t (ρ x) (lo.map ρ) (hi.map ρ) (mx.map ρ) K) : ∃ v, (∀ M, bR P (execOp ρ o) M = some (.value v)) ∧ K v := by
 obtain ⟨dst, op, type, pos, after, guard⟩ := o
 simp only at ho; subst ho
 simp only [execOp]
 generalize ρ x = vx at h ⊢
 generalize lo.map ρ = lo at h ⊢
 generalize hi.map ρ = hi at h ⊢
 generalize mx.map ρ = mx at h ⊢
 unfold Tp at h
 split at h
 ·exact h.elim
 ·rename_i Xq
  have Tv : (mx.isSome && hi.isNone) = false := by revert Xq; cases (mx.isSome && hi.isNone) <;> simp
  cases hd : P.underlying t with
  | none => rw [hd] at h; exact h.elim
  | some d =>
   rw [hd] at h
   have wrap : ∀ v, (∀ M, bR P (Instr.sliceAt t vx lo hi mx) M = some v) → K v → ∃ v, (∀ M, bR P (Sem.bind (Instr.sliceAt t vx lo hi mx) fun x => pure (Next.value x)) M = some (.value v)) ∧ K v :=
    fun v hv hk => ⟨v, fun M => gr (hv M), hk⟩
   cases d <;> try exact h.elim
   case string =>
    cases vx <;> try exact h.elim
    rename_i s
    simp only at h
    split at h
    ·exact h.elim
    ·rename_i hm
     have hm' : mx = none := by cases mx <;> simp_all
     subst hm'
     obtain ⟨l, hh, m, hb, hK⟩ := yY (P := P) false Tv h
     refine wrap _ (fun M => ?_) hK
     simp only [Instr.sliceAt, Instr.slice, aR, Option.bind_some, aL hd, hb, bI, Option.isSome_none, Bool.false_eq_true, if_false]
   case slice e =>
    cases vx <;> try exact h.elim
    rename_i A n c
    simp only [Gd] at h
    split at h
    ·rename_i z hz
     obtain ⟨l, hh, m, hb, hK⟩ := yY (P := P) true Tv h
     refine wrap _ (fun M => ?_) hK
     have hs : bR P (sizeOf e) M = some z.size := by simp only [sizeOf, aR, cE hz, Option.bind_some, bI]
     simp only [Instr.sliceAt, Instr.slice, aR, Option.bind_some, aL hd, hb, hs, bI, lO]
    ·exact h.elim
   case array n e =>
    cases vx <;> try exact h.elim
    rename_i p
    simp only [Gd] at h
    split at h
    ·rename_i z hz
     obtain ⟨b, o, rfl, h2⟩ := jx h
     obtain ⟨l, hh, m, hb, hK⟩ := yY (P := P) false Tv h2
     refine wrap _ (fun M => ?_) hK
     have hs : bR P (sizeOf e) M = some z.size := by simp only [sizeOf, aR, cE hz, Option.bind_some, bI]
     simp only [Instr.sliceAt, Instr.sureAddr, aR, Option.bind_some, aL hd, hb, hs, bI, lO]
     split <;> rfl
    ·exact h.elim
theorem Bz {P : Program} {ρ : Operand → Value} {o : Oper} {op : BinOp} {t yt : TypeId} {x y : Operand} {K : Value → Prop} (ho : o.op = .binOp op t x y yt)
  (hop : op = .quo ∨ op = .rem) (h : PC P ρ o op (ρ x) (ρ y) K) : ∃ v, (∀ M, bR P (execOp ρ o) M = some (.value v)) ∧ K v := by
 obtain ⟨dst, op', type, pos, after, guard⟩ := o
 simp only at ho; subst ho
 simp only [execOp]
 generalize ρ x = vx at h ⊢
 generalize ρ y = vy at h ⊢
 unfold PC at h
 cases vx <;> try exact h.elim
 cases vy <;> try exact h.elim
 rename_i k a k' b
 simp only at h
 split at h
 ·rename_i hk
  subst hk
  obtain ⟨hb, hK⟩ := h
  refine ⟨_, fun M => gr ?_, hK⟩
  rcases hop with rfl | rfl <;> simp [eqGuard, binOp, Op.intDiv, hb, bI]
 ·exact h.elim
theorem qK {P : Program} {mx : Bool} : ∀ (l : List Value) (v u : Value), LJ mx v l = some u → ∀ M, bR P (l.foldlM (if mx then Builtin.max2 else Builtin.min2) v) M = some u
 | [], v, u, h, M => by
  cases v <;> simp [LJ] at h
  subst h; rfl
 | x :: rest, v, u, h, M => by
  cases v <;> cases x <;> simp only [LJ] at h <;> try (simp at h; done)
  rename_i k a k' b
  rw [List.foldlM_cons]
  cases mx
  ·simp only [Bool.false_eq_true, if_false, Builtin.min2, aR, bI, Option.bind_some]
   have := qK (P := P) (mx := false) rest _ u h M
   simpa using this
  ·simp only [if_true, Builtin.max2, aR, bI, Option.bind_some]
   have := qK (P := P) (mx := true) rest _ u h M
   simpa using this
theorem D8 {P : Program} {ρ : Operand → Value} {o : Oper} {c : Call} {K : Value → Prop} (ho : o.op = .call c) (h : Gi P ρ o c K) :
  ∃ v, (∀ M, bR P (execOp ρ o) M = some (.value v)) ∧ K v := by
 unfold Gi at h
 have ex : ∀ b, c.callee = .builtin b → execOp ρ o = builtin b c.argTypes o.type (c.args.map fun | .const _ => true | _ => false) (c.args.map ρ) := by
  intro b hb
  obtain ⟨dst, op, type, pos, after, guard⟩ := o
  simp only at ho; subst ho
  simp only [execOp]
  unfold resolve
  rw [hb]
  rfl
 split at h
 ·rename_i hb
  split at h
  ·rename_i x t hx ht
   have ha : c.args = #[x] := by apply Array.ext'; simpa using hx
   have hts : c.argTypes[0]? = some t := by
    have : c.argTypes = #[t] := by apply Array.ext'; simpa using ht
    rw [this]; rfl
   obtain ⟨v, hv, hk⟩ := Jw (ty := o.type) h hts
   refine ⟨v, fun M => ?_, hk⟩
   rw [ex _ hb, ha]
   exact gr (by simpa using hv M)
  ·exact h.elim
 ·rename_i hb
  unfold PD at h
  split at h
  ·rename_i v rest hl
   split at h
   ·rename_i u hu
    refine ⟨u, fun M => ?_, h⟩
    rw [ex _ hb]
    refine gr ?_
    unfold Builtin.min_
    have : (c.args.map ρ).toList = v :: rest := by simpa using hl
    rw [this]
    have := qK (P := P) rest v u hu M
    simpa using this
   ·exact h.elim
  ·exact h.elim
 ·rename_i hb
  unfold PD at h
  split at h
  ·rename_i v rest hl
   split at h
   ·rename_i u hu
    refine ⟨u, fun M => ?_, h⟩
    rw [ex _ hb]
    refine gr ?_
    unfold Builtin.max_
    have : (c.args.map ρ).toList = v :: rest := by simpa using hl
    rw [this]
    have := qK (P := P) rest v u hu M
    simpa using this
   ·exact h.elim
  ·exact h.elim
 ·exact mN h
theorem JB {P : Program} {ρ : Operand → Value} {o : Oper} {t yt : TypeId} {x y : Operand} {K : Value → Prop} (ho : o.op = .binOp .add t x y yt)
  (h : Tu P ρ o (ρ x) (ρ y) K) : ∃ v, (∀ M, bR P (execOp ρ o) M = some (.value v)) ∧ K v := by
 unfold Tu at h
 split at h
 ·rename_i a hx
  split at h
  ·rename_i b hy
   obtain ⟨dst, op', type, pos, after, guard⟩ := o
   simp only at ho; subst ho
   have hn : ¬ (((a.size + b.size : Nat) : Int) > IntKind.i64.max) := by
    have : IntKind.i64.max = 9223372036854775807 := rfl
    rw [this]; omega
   refine ⟨_, fun M => ?_, h.2⟩
   simp only [execOp, hx, hy, eqGuard, binOp, Op.stringOp, aR, bI, Option.bind_some, if_neg hn]
   rfl
  ·exact h.elim
 ·exact mN h
theorem CJ {P : Program} {t e : TypeId} (hu : P.underlying t = some (.pointer e)) (d : Nat) (p : Option Addr) (M : Mem) : bR P (Op.equalIn (d + 1) t (.pointer p) (.pointer none)) M = some p.isNone := by
 rw [Op.equalIn]; simp only [aR, aL hu, Option.bind_some]; cases p <;> rfl
theorem CK {P : Program} {t e : TypeId} (hu : P.underlying t = some (.pointer e)) (d : Nat) (p : Option Addr) (M : Mem) : bR P (Op.equalIn (d + 1) t (.pointer none) (.pointer p)) M = some p.isNone := by
 rw [Op.equalIn]; simp only [aR, aL hu, Option.bind_some]; cases p <;> rfl
theorem D9 {P : Program} {t e : TypeId} (hu : P.underlying t = some (.slice e)) (d : Nat) (p : Option Addr) (n c n' c' : Nat) (M : Mem) : bR P (Op.equalIn (d + 1) t (.slice p n c) (.slice none n' c')) M = some p.isNone := by
 rw [Op.equalIn]; simp only [aR, aL hu, Option.bind_some]; cases p <;> rfl
theorem Ea {P : Program} {t : TypeId} {a b c} (hu : P.underlying t = some (.func a b c)) (d : Nat) (M : Mem) : bR P (Op.equalIn (d + 1) t .nilFunc .nilFunc) M = some true := by
 rw [Op.equalIn]; simp only [aR, aL hu, Option.bind_some]; rfl
theorem Gj {P : Program} {t : TypeId} {a b c} {f g h} (hu : P.underlying t = some (.func a b c)) (d : Nat) (M : Mem) : bR P (Op.equalIn (d + 1) t (.func f g h) .nilFunc) M = some false := by
 rw [Op.equalIn]; simp only [aR, aL hu, Option.bind_some]; rfl
theorem LP {P : Program} {ρ : Operand → Value} {o : Oper} {op : BinOp} {neg : Bool} {t yt : TypeId} {x y : Operand} {K : Value → Prop} (ho : o.op = .binOp op t x y yt)
  (hop : (op = .eql ∧ neg = false) ∨ (op = .neq ∧ neg = true)) {vx : Value} (hx : ρ x = vx) (hy : ρ y = .nilFunc) (hv : vx = .nilFunc ∨ ∃ f g h, vx = .func f g h)
  (b : Bool) (hb : ∀ M : Mem, bR P (Op.equalIn (9999 + 1) t vx .nilFunc) M = some b) (hk : K (.bool (match neg with | true => !b | false => b))) :
  ∃ v, (∀ M, bR P (execOp ρ o) M = some (.value v)) ∧ K v := by
 obtain ⟨dst, op', type, pos, after, guard⟩ := o
 simp only at ho; subst ho
 refine ⟨_, fun M => ?_, hk⟩
 have hb' : bR P (Op.equal t vx .nilFunc) M = some b := hb M
 rcases hv with rfl | ⟨f, g, h, rfl⟩ <;> rcases hop with ⟨rfl, rfl⟩ | ⟨rfl, rfl⟩ <;>
  simp only [execOp, hx, hy, eqGuard, binOp, aR, bI, Option.bind_some, hb'] <;> rfl
theorem CL {P : Program} {ρ : Operand → Value} {o : Oper} {op : BinOp} {neg : Bool} {t yt : TypeId} {x y : Operand} {K : Value → Prop} (ho : o.op = .binOp op t x y yt)
  (hop : (op = .eql ∧ neg = false) ∨ (op = .neq ∧ neg = true)) {vx vy : Value} (hx : ρ x = vx) (hy : ρ y = vy) (hv : (∃ p q, vx = .pointer p ∧ vy = .pointer q) ∨ (∃ p n c q n' c', vx = .slice p n c ∧ vy = .slice q n' c'))
  (b : Bool) (hb : ∀ M : Mem, bR P (Op.equalIn (9999 + 1) t vx vy) M = some b) (hk : K (.bool (match neg with | true => !b | false => b))) :
  ∃ v, (∀ M, bR P (execOp ρ o) M = some (.value v)) ∧ K v := by
 obtain ⟨dst, op', type, pos, after, guard⟩ := o
 simp only at ho; subst ho
 refine ⟨_, fun M => ?_, hk⟩
 have hb' : bR P (Op.equal t vx vy) M = some b := hb M
 rcases hv with ⟨p, q, rfl, rfl⟩ | ⟨p, n, c, q, n', c', rfl, rfl⟩ <;> rcases hop with ⟨rfl, rfl⟩ | ⟨rfl, rfl⟩ <;>
  simp only [execOp, hx, hy, eqGuard, binOp, aR, bI, Option.bind_some, hb'] <;> rfl
theorem Eb {P : Program} {ρ : Operand → Value} {o : Oper} {op : BinOp} {neg : Bool} {t yt : TypeId} {x y : Operand} {K : Value → Prop} (ho : o.op = .binOp op t x y yt)
  (hop : (op = .eql ∧ neg = false) ∨ (op = .neq ∧ neg = true)) (h : eqK P ρ o neg t (ρ x) (ρ y) K) : ∃ v, (∀ M, bR P (execOp ρ o) M = some (.value v)) ∧ K v := by
 unfold eqK at h
 cases hy : ρ y <;> rw [hy] at h <;> simp only at h <;> try exact mN h
 ·rename_i q
  cases hx : ρ x <;> rw [hx] at h <;> simp only at h <;> try exact h.elim
  rename_i p
  cases q with
  | none =>
   simp only at h
   split at h
   ·rename_i e hu
    exact CL ho hop hx hy (.inl ⟨_, _, rfl, rfl⟩) p.isNone (CJ hu 9999 p) (by cases neg <;> cases p <;> exact h)
   ·exact h.elim
  | some b =>
   cases p with
   | none =>
    simp only at h
    split at h
    ·rename_i e hu
     exact CL ho hop hx hy (.inl ⟨_, _, rfl, rfl⟩) _ (CK hu 9999 (some b)) (by cases neg <;> exact h)
    ·exact h.elim
   | some a => exact mN h
 ·rename_i q n c
  cases hx : ρ x <;> rw [hx] at h <;> simp only at h <;> try exact h.elim
  rename_i p n' c'
  cases q with
  | none =>
   simp only at h
   split at h
   ·rename_i e hu
    exact CL ho hop hx hy (.inr ⟨_, _, _, _, _, _, rfl, rfl⟩) p.isNone (D9 hu 9999 p n' c' n c) (by cases neg <;> cases p <;> exact h)
   ·exact h.elim
  | some b => exact h.elim
 ·split at h
  ·rename_i hu
   unfold xm at h
   cases hx : ρ x <;> rw [hx] at h <;> simp only at h <;> try exact h.elim
   ·exact LP ho hop hx hy (.inr ⟨_, _, _, rfl⟩) false (Gj hu 9999) (by cases neg <;> exact h)
   ·exact LP ho hop hx hy (.inl rfl) true (Ea hu 9999) (by cases neg <;> exact h)
  ·exact h.elim
 ·rename_i ys
  cases hx : ρ x <;> rw [hx] at h <;> simp only at h <;> try exact h.elim
  rename_i xs
  exact LM ho hop hx hy h
theorem Gk {P : Program} {ρ : Operand → Value} {o : Oper} {K : Value → Prop} (h : LN P ρ o K) :
  ∃ v, (∀ M, bR P (execOp ρ o) M = some (.value v)) ∧ K v := by
 unfold LN at h
 split at h
 ·rename_i x ho; exact Jx ho h
 ·rename_i t x i ho; exact Jz ho h
 ·rename_i t x i ho; exact LO ho h
 ·rename_i t x lo hi mx ho; exact JA ho h
 ·rename_i t x y yt ho; exact Bz ho (.inl rfl) h
 ·rename_i t x y yt ho; exact Bz ho (.inr rfl) h
 ·rename_i t x y yt ho; exact JB ho h
 ·rename_i t x y yt ho; exact Eb ho (.inl ⟨rfl, rfl⟩) h
 ·rename_i t x y yt ho; exact Eb ho (.inr ⟨rfl, rfl⟩) h
 ·rename_i t parts ho
  obtain ⟨v, hv, hk⟩ := D6 (parts := parts.map fun (i, x) => (i, ρ x)) (by simpa using h)
  obtain ⟨dst, op, type, pos, after, guard⟩ := o
  simp only at ho; subst ho
  exact ⟨v, fun M => gr (hv M), hk⟩
 ·rename_i t x i ho
  obtain ⟨v, hv, hk⟩ := D7 h
  obtain ⟨dst, op, type, pos, after, guard⟩ := o
  simp only at ho; subst ho
  exact ⟨v, fun M => gr (hv M), hk⟩
 ·rename_i fn first captured ho
  obtain ⟨dst, op, type, pos, after, guard⟩ := o
  simp only at ho; subst ho
  refine ⟨_, fun M => ?_, h⟩
  have e1 : (first.toList.map ρ).toArray = first.map ρ := by apply Array.ext'; simp
  have e2 : (captured.toList.map ρ).toArray = captured.map ρ := by apply Array.ext'; simp
  rw [e1, e2]
  rfl
 ·rename_i c ho; exact D8 ho h
 ·exact mN h
end Go.AF
