/- A part of proofs about one program. -/
import Derived.Test.YtfjgcljdnhkmaaaZWorldSleepsOps
set_option linter.unusedVariables false
namespace Go.AF
def jL (env : Nat → Value) : Operand → Value
 | .tmp t => env t
 | .const v => v
 | .global g => .pointer (some ⟨g, 0, none⟩)
 | .func f => .func (.func f) #[] #[]
def wO (o i sz : Nat) : Nat := match sz with | 1 => o + i | s => o + i * s
def Jy (A : Option Addr) (n : Nat) (i : Int) (sz : Nat) (K : Value → Prop) : Prop :=
 0 ≤ i ∧ i < (n : Int) ∧ aB A fun b o => K (.pointer (some ⟨b, wO o i.toNat sz, none⟩))
def wP (P : Program) (e : TypeId) (K : Nat → Prop) : Prop := match P.info? e with | some i => K i.size | none => False
def EB (P : Program) (t : TypeId) (x i : Value) (K : Value → Prop) : Prop :=
 match i with
 | .int _ j => match P.underlying t, x with
  | some (.array len e), .pointer p => wP P e fun z => Jy p len j z K
  | some (.slice e), .slice A n _ => wP P e fun z => Jy A n j z K
  | _, _ => False
 | _ => False
def DR (s : ByteArray) (i : Nat) : Int := (s.data.getD i 0).toNat
def Jz (P : Program) (t : TypeId) (x i : Value) (K : Value → Prop) : Prop :=
 match i with
 | .int _ j => match P.underlying t, x with
  | some .string, .string s => 0 ≤ j ∧ j < (s.size : Int) ∧ K (.int .u8 (DR s j.toNat))
  | some (.array len e), .agg cs => wP P e fun z => if z = 1 then
    (match P.underlying e with
    | some d => if ot d then False else 0 ≤ j ∧ j < (len : Int) ∧ uR (F9 d) (cs[j.toNat]?) K
    | none => False) else False
  | _, _ => False
 | _ => False
def mW (A : Option Addr) (l m sz : Nat) : Option Addr := if m = l then A else A.map fun a => a.add (l * sz)
def gX : Option Value → Option Int → Option Int
 | some (.int _ j), _ => some j
 | none, d => d
 | _, _ => none
def GF (lo hi mx : Option Value) (len cap : Nat) (K : Nat → Nat → Nat → Prop) : Prop :=
 match gX mx (some cap), gX lo (some 0) with
 | some m, some l => match gX hi (some len) with
  | some h => 0 ≤ m ∧ m ≤ (cap : Int) ∧ 0 ≤ h ∧ h ≤ m ∧ 0 ≤ l ∧ l ≤ h ∧ K l.toNat h.toNat m.toNat
  | none => False
 | _, _ => False
def EC (P : Program) (t : TypeId) (x : Value) (lo hi mx : Option Value) (K : Value → Prop) : Prop :=
 if mx.isSome && hi.isNone then False else
 match P.underlying t, x with
 | some .string, .string s => if mx.isSome then False else GF lo hi none s.size s.size fun l h _ => K (.string (s.extract l h))
 | some (.slice e), .slice A n c => wP P e fun z => GF lo hi mx n c fun l h m => K (.slice (mW A l m z) (h - l) (m - l))
 | some (.array n e), .pointer p => wP P e fun z => aB p fun b o => GF lo hi mx n n fun l h m => K (.slice (mW (some ⟨b, o, none⟩) l m z) (h - l) (m - l))
 | _, _ => False
def DS (v : Value) (K : Prop) : Prop := match v with
 | .func (.func _) _ _ => K
 | _ => False
def ED (v : Value) (K : Value → Prop) : Prop := match v with
 | .pointer p => aB p fun b o => K (.pointer (some ⟨b, o, none⟩))
 | v => DS v (K v)
def uU : Operand → Bool
 | .const (.pointer none) => true
 | _ => false
def wQ (P : Program) (ρ : Operand → Value) (o : Oper) (K : Value → Prop) : Prop :=
 match aV P (execOp ρ o) Mem.empty with
 | some (.value v) => K v
 | _ => False
def CB (P : Program) (ρ : Operand → Value) (o : Oper) (op : BinOp) (x y : Value) (K : Value → Prop) : Prop :=
 match x, y with
 | .int k a, .int k' b => if k = k' then b ≠ 0 ∧ K (.int k (match op with | .quo => k.wrap (a.tdiv b) | _ => a.tmod b)) else False
 | _, _ => False
theorem az (P : Program) {α β : Type} (s : Sem α) (f : α → Sem β) (M : Mem) : aV P (s >>= f) M = (aV P s M).bind fun a => aV P (f a) M := bZ P s f M
theorem Ap (P : Program) {α β : Type} (s : Sem α) (f : α → β) (M : Mem) : aV P (f <$> s) M = (aV P s M).map f := by
 show aV P (Sem.bind s _) M = _
 rw [bZ]; cases aV P s M <;> rfl
def Aq : List Value → Nat → List Value → List Value
 | cells, _, [] => cells
 | cells, off, v :: vs => Aq (cells.set off v) (off + 1) vs
def qp (place : Nat → Option (Nat × Nat)) : List Value → List (Nat × Value) → Option (List Value)
 | cells, [] => some cells
 | cells, (i, v) :: rest => match place i with
  | none => none
  | some (off, size) => if v.cells.toList.length = size ∧ off + size ≤ cells.length then qp place (Aq cells off v.cells.toList) rest else none
theorem yh : ∀ (vs : List Value) (cells : Array Value) (off k : Nat), (vs.zipIdx k).foldl (fun cs (c, j) => cs.setIfInBounds (off + j) c) cells = (Aq cells.toList (off + k) vs).toArray
 | [], cells, off, k => by simp [Aq]
 | v :: vs, cells, off, k => by
  simp only [List.zipIdx_cons, List.foldl_cons, Aq]
  rw [yh vs _ off (k + 1)]
  simp [Nat.add_assoc]
theorem fill_eq (place : Nat → Option (Nat × Nat)) : ∀ (ps : List (Nat × Value)) (cells : List Value), Instr.fill place cells.toArray ps = (qp place cells ps).map List.toArray
 | [], cells => rfl
 | (i, v) :: rest, cells => by
  unfold Instr.fill qp
  cases hp : place i with
  | none => rfl
  | some os =>
   obtain ⟨off, size⟩ := os
   simp only
   by_cases h : v.cells.toList.length = size ∧ off + size ≤ cells.length
   ·have h1 : v.cells.size = size := by simpa using h.1
    have hn : (v.cells.size ≠ size || decide (off + v.cells.size > cells.toArray.size)) = false := by
     simp only [Bool.or_eq_false_iff, decide_eq_false_iff_not, List.size_toArray]
     exact ⟨by simp [h1], by rw [h1]; omega⟩
    rw [if_neg (by simpa using hn), if_pos h, ← fill_eq place rest]
    congr 1
    rw [← Array.foldl_toList, Array.toList_zipIdx]
    have := yh v.cells.toList cells.toArray off 0
    simpa using this
   ·rw [if_neg h, if_pos]
    ·rfl
    ·simp only [Bool.or_eq_true, decide_eq_true_eq, List.size_toArray]
     by_cases h1 : v.cells.size = size
     ·right
      have : ¬ (off + size ≤ cells.length) := fun h2 => h ⟨by simpa using h1, h2⟩
      rw [h1]; omega
     ·left; simpa using h1
def iN {α : Type} : List (Option α) → Option (List α)
 | [] => some []
 | some a :: l => (iN l).map (a :: ·)
 | none :: _ => none
def uV (P : Program) (fs : List Field) : Option (List (Nat × Nat)) := iN (fs.map fun f => (P.info? f.type).map fun i => (f.offset, i.size))
def zeroOf (P : Program) (t : TypeId) : Option Value := (P.info? t).bind (·.zero)
def wR (P : Program) (t : TypeId) (parts : List (Nat × Value)) (K : Value → Prop) : Prop :=
 match zeroOf P t, P.underlying t with
 | some z, some (.struct fs) => match uV P fs.toList with
  | some pl => match qp (fun i => pl[i]?) z.cells.toList parts with
   | some cs => K (.agg cs.toArray)
   | none => False
  | none => False
 | some z, some (.array _ e) => wP P e fun size => match qp (fun i => some (i * size, size)) z.cells.toList parts with
  | some cs => K (.agg cs.toArray)
  | none => False
 | _, _ => False
def wS (P : Program) (t : TypeId) (x : Value) (i : Nat) (K : Value → Prop) : Prop :=
 match P.underlying t, x with
 | some (.struct fs), .agg cs => match fs.toList[i]? with
  | some f => match P.underlying f.type with
   | some d => if ot d then wP P f.type fun z => K (.agg ((cs.toList.drop f.offset).take z).toArray) else fL (cs.toList[f.offset]?) K
   | none => False
  | none => False
 | _, _ => False
def EE (P : Program) (t : TypeId) (x : Value) (K : Value → Prop) : Prop :=
 match P.underlying t, x with
 | some .string, .string s => K (.int .i64 (s.size : Nat))
 | some (.array n _), _ => K (.int .i64 (n : Nat))
 | some (.slice _), .slice _ n _ => K (.int .i64 (n : Nat))
 | _, _ => False
def Au (mx : Bool) : Value → List Value → Option Value
 | .int k x, [] => some (.int k x)
 | .int k x, .int _ y :: rest => Au mx (.int k (bif mx then (if y > x then y else x) else (if y < x then y else x))) rest
 | _, _ => none
def CC (mx : Bool) (args : List Value) (K : Value → Prop) : Prop :=
 match args with
 | v :: rest => match Au mx v rest with
  | some u => K u
  | none => False
 | [] => False
theorem da {P : Program} {t : TypeId} {i : TypeInfo} (h : P.info? t = some i) (M : Mem) : aV P (sizeOf t) M = some i.size := by
 simp only [sizeOf, az, bE h, Option.bind_some, aT]
theorem gv (P : Program) (t : TypeId) (M : Mem) : aV P (zeroValue t) M = zeroOf P t := by
 unfold zeroValue zeroOf
 cases hi : P.info? t with
 | none =>
  simp only [az, typeInfo, program, aV, Option.bind_some, hi]
  simp [stuck, aV]
 | some i =>
  simp only [az, bE hi, Option.bind_some]
  cases i.zero <;> simp [aT, unsupported, aV]
theorem uW {P : Program} {t : TypeId} {parts : Array (Nat × Value)} {K : Value → Prop} (h : wR P t parts.toList K) :
  ∃ v, (∀ M, aV P (Instr.build t parts) M = some v) ∧ K v := by
 unfold wR at h
 split at h
 ·rename_i z fs hz hu
  split at h
  ·rename_i pl ME
   split at h
   ·rename_i cs hcs
    refine ⟨_, fun M => ?_, h⟩
    have hmap : ∀ (l : List Field) (pl : List (Nat × Nat)), iN (l.map fun f => (P.info? f.type).map fun i => (f.offset, i.size)) = some pl →
      aV P (l.mapM fun f => do pure (f.offset, ← sizeOf f.type)) M = some pl := by
     intro l
     induction l with
     | nil => intro pl h; simp [iN] at h; subst h; rfl
     | cons f l ih =>
      intro pl h
      simp only [List.map_cons] at h
      cases hi : P.info? f.type with
      | none => simp [hi, iN] at h
      | some i =>
       simp only [hi, Option.map_some, iN] at h
       cases hr : iN (l.map fun f => (P.info? f.type).map fun i => (f.offset, i.size)) with
       | none => simp [hr] at h
       | some rest =>
        simp only [hr, Option.map_some, Option.some.injEq] at h
        subst h
        rw [List.mapM_cons]
        simp only [az, da hi, Option.bind_some, aT]
        rw [ih rest hr]; rfl
    simp only [Instr.build, az, gv, hz, Option.bind_some, ax hu, Array.mapM_eq_mapM_toList, Ap]
    have := hmap fs.toList pl ME
    rw [this]
    simp only [Option.map_some, Option.bind_some]
    have e : Instr.fill (fun x => (pl.toArray)[x]?) z.cells parts.toList = some cs.toArray := by
     have := fill_eq (fun i => pl[i]?) parts.toList z.cells.toList
     rw [hcs] at this
     simpa using this
    rw [e]
    rfl
   ·exact h.elim
  ·exact h.elim
 ·rename_i z n e hz hu
  unfold wP at h
  split at h
  ·rename_i i hi
   split at h
   ·rename_i cs hcs
    refine ⟨_, fun M => ?_, h⟩
    simp only [Instr.build, az, gv, hz, Option.bind_some, ax hu, da hi]
    have e : Instr.fill (fun x => some (x * i.size, i.size)) z.cells parts.toList = some cs.toArray := by
     have := fill_eq (fun x => some (x * i.size, i.size)) parts.toList z.cells.toList
     rw [hcs] at this
     simpa using this
    rw [e]
    rfl
   ·exact h.elim
  ·exact h.elim
 ·exact h.elim
theorem uX {P : Program} {t : TypeId} {x : Value} {i : Nat} {K : Value → Prop} (h : wS P t x i K) : ∃ v, (∀ M, aV P (Instr.field t x i) M = some v) ∧ K v := by
 unfold wS at h
 split at h
 ·rename_i fs cs hu
  split at h
  ·rename_i f hf
   have EF : fs[i]? = some f := by simpa using hf
   split at h
   ·rename_i d hd
    split at h
    ·rename_i cW
     unfold wP at h
     split at h
     ·rename_i z hz
      refine ⟨_, fun M => ?_, h⟩
      simp only [Instr.field, az, ax hu, Option.bind_some, EF, asAgg, aT, part, gu hd, cW, if_true, da hz]
      congr 2
      apply Array.ext'
      simp
     ·exact h.elim
    ·rename_i cW
     have Av : ot d = false := by simpa using cW
     unfold fL at h
     split at h
     ·rename_i v hv
      have JA : cs[f.offset]? = some v := by simpa using hv
      refine ⟨_, fun M => ?_, h⟩
      simp only [Instr.field, az, ax hu, Option.bind_some, EF, asAgg, aT, part, gu hd, Av, Bool.false_eq_true, if_false, JA]
     ·exact h.elim
   ·exact h.elim
  ·exact h.elim
 ·exact h.elim
theorem y7 {P : Program} {t : TypeId} {x : Value} {K : Value → Prop} {ts : Array TypeId} {ty : TypeId} (h : EE P t x K) (ht : ts[0]? = some t) :
  ∃ v, (∀ M, aV P (Builtin.len_ ts ty #[x]) M = some v) ∧ K v := by
 unfold EE at h
 split at h
 ·rename_i s hu; exact ⟨_, fun M => by simp [Builtin.len_, az, ht, ax hu, aT, goInt], h⟩
 ·rename_i n e hu; exact ⟨_, fun M => by simp [Builtin.len_, az, ht, ax hu, aT, goInt], h⟩
 ·rename_i e A n c hu; exact ⟨_, fun M => by simp [Builtin.len_, az, ht, ax hu, aT, goInt], h⟩
 ·exact h.elim
def wT (P : Program) (ρ : Operand → Value) (o : Oper) (c : Call) (K : Value → Prop) : Prop :=
 match c.callee with
 | .builtin .len => match c.args.toList, c.argTypes.toList with
  | [x], [t] => EE P t (ρ x) K
  | _, _ => False
 | .builtin .min => CC false (c.args.toList.map ρ) K
 | .builtin .max => CC true (c.args.toList.map ρ) K
 | _ => wQ P ρ o K
def sF (P : Program) (t : TypeId) (cs : Array Value) (off : Nat) : Option Value := match P.underlying t with
 | some d => if ot d then (P.info? t).map fun i => .agg ((cs.toList.drop off).take i.size).toArray else cs.toList[off]?
 | none => none
theorem pX {P : Program} {t : TypeId} {cs : Array Value} {off : Nat} {v : Value} (h : sF P t cs off = some v) (M : Mem) : aV P (part t cs off) M = some v := by
 unfold sF at h
 split at h
 ·rename_i d hd
  split at h
  ·rename_i cW
   obtain ⟨i, hi⟩ := info_of_underlying hd
   rw [hi, Option.map_some, Option.some.injEq] at h
   subst h
   simp only [part, az, gu hd, Option.bind_some, cW, if_true, da hi]
   show some _ = some _
   congr 2
   apply Array.ext'
   simp
  ·rename_i cW
   have Av : ot d = false := by simpa using cW
   have JA : cs[off]? = some v := by simpa using h
   simp only [part, az, gu hd, Option.bind_some, Av, Bool.false_eq_true, if_false, JA]
   rfl
 ·cases h
def Ga {α : Type} (g : α → Option Bool) : List α → Option Bool
 | [] => some true
 | x :: l => match g x with
  | some b => match Ga g l with
   | some r => some (b && r)
   | none => none
  | none => none
def Gb (P : Program) : Nat → TypeId → Value → Value → Option Bool
 | 0, _, _, _ => none
 | d + 1, t, x, y => match P.underlying t with
  | some .bool => match x, y with
   | .bool a, .bool b => some (a == b)
   | _, _ => none
  | some (.int _) => match x, y with
   | .int k a, .int k' b => if k = k' then some (a == b) else none
   | _, _ => none
  | some .string => match x, y with
   | .string a, .string b => some (a == b)
   | _, _ => none
  | some (.struct fs) => match x, y with
   | .agg xs, .agg ys => bif P.stoodInHeld t then none else Ga (fun f : Field => bif f.name == "_" then some true else
     match sF P f.type xs f.offset with
     | some a => match sF P f.type ys f.offset with
      | some b => Gb P d f.type a b
      | none => none
     | none => none) fs.toList
   | _, _ => none
  | some (.array n e) => match x, y with
   | .agg xs, .agg ys => match P.info? e with
    | some i => Ga (fun k : Nat => match sF P e xs (k * i.size) with
     | some a => match sF P e ys (k * i.size) with
      | some b => Gb P d e a b
      | none => none
     | none => none) (List.range n)
    | none => none
   | _, _ => none
  | _ => none
theorem sG {P : Program} {α : Type} {M : Mem} (f : α → Sem Bool) (g : α → Option Bool) (body : α → Option Bool × Unit → Sem (ForInStep (Option Bool × Unit)))
  (hb : ∀ x b, aV P (f x) M = some b → ∀ s, aV P (body x s) M = some (if b then ForInStep.yield (none, ()) else ForInStep.done (some false, ()))) :
  ∀ (l : List α) (r : Bool), (∀ x ∈ l, ∀ b, g x = some b → aV P (f x) M = some b) → Ga g l = some r → aV P (forIn l (none, ()) body) M = some (if r then (none, ()) else (some false, ())) := by
 intro l
 induction l with
 | nil => intro r _ h; simp only [Ga, Option.some.injEq] at h; subst h; rfl
 | cons x l ih =>
  intro r hg h
  simp only [Ga] at h
  split at h
  ·rename_i b hx
   split at h
   ·rename_i r' CD
    simp only [Option.some.injEq] at h
    subst h
    rw [List.forIn_cons, az, hb x b (hg x (List.mem_cons_self ..) b hx), Option.bind_some]
    cases b with
    | false => rfl
    | true =>
     simp only [if_true, Bool.true_and]
     exact ih r' (fun y hy => hg y (List.mem_cons_of_mem _ hy)) CD
   ·cases h
  ·cases h
theorem EG {P : Program} {M : Mem} : ∀ (d D : Nat) (t : TypeId) (x y : Value) (r : Bool), d ≤ D → Gb P d t x y = some r → aV P (Op.equalIn D t x y) M = some r := by
 intro d
 induction d with
 | zero => intro D t x y r _ h; simp [Gb] at h
 | succ d ih =>
  intro D t x y r hD h
  obtain ⟨D, rfl⟩ : ∃ D', D = D' + 1 := ⟨D - 1, by omega⟩
  have MF : d ≤ D := by omega
  rw [Op.equalIn]
  simp only [Gb] at h
  split at h
  ·rename_i hu
   split at h
   ·simp only [az, ax hu, Option.bind_some]; exact h
   ·cases h
  ·rename_i hu
   split at h
   ·split at h
    ·rename_i hk
     subst hk
     simp only [az, ax hu, Option.bind_some, if_true]; exact h
    ·cases h
   ·cases h
  ·rename_i hu
   split at h
   ·simp only [az, ax hu, Option.bind_some]; exact h
   ·cases h
  ·rename_i fs hu
   split at h
   ·rename_i xs ys
    cases hs : P.stoodInHeld t with
    | true => rw [hs] at h; cases h
    | false =>
     rw [hs, cond_false] at h
     simp only [az, ax hu, Option.bind_some]
     show (Option.bind (some P) _) = _
     simp only [Option.bind_some, hs, Bool.false_eq_true, if_false]
     rw [az, ← Array.forIn_toList]
     rw [sG (fun f : Field => (if f.name ≠ "_" then do Op.equalIn D f.type (← part f.type xs f.offset) (← part f.type ys f.offset) else pure true : Sem Bool)) _ _ ?_ fs.toList r ?_ h]
     ·cases r <;> rfl
     ·intro f b hb s
      split
      ·rename_i hn
       rw [if_pos hn] at hb
       simp only [az] at hb ⊢
       cases hp : aV P (part f.type xs f.offset) M with
       | none => rw [hp] at hb; cases hb
       | some a =>
        rw [hp] at hb
        simp only [Option.bind_some] at hb ⊢
        cases hq : aV P (part f.type ys f.offset) M with
        | none => rw [hq] at hb; cases hb
        | some c =>
         rw [hq] at hb
         simp only [Option.bind_some] at hb ⊢
         rw [hb]
         cases b <;> rfl
      ·rename_i hn
       rw [if_neg hn] at hb
       have : b = true := by
        have : some true = some b := hb
        simpa using this.symm
       subst this; rfl
     ·intro f hf b hb
      split
      ·rename_i hn
       have : (f.name == "_") = false := by simpa using hn
       rw [this, cond_false] at hb
       split at hb
       ·rename_i a ha
        split at hb
        ·rename_i c hc
         simp only [az, pX ha, pX hc, Option.bind_some]
         exact ih D f.type a c b MF hb
        ·cases hb
       ·cases hb
      ·rename_i hn
       have : (f.name == "_") = true := by simpa using hn
       rw [this, cond_true] at hb
       exact hb
   ·cases h
  ·rename_i n e hu
   split at h
   ·rename_i xs ys
    split at h
    ·rename_i i hi
     simp only [az, ax hu, da hi, Option.bind_some]
     rw [Std.Legacy.Range.forIn_eq_forIn_range']
     have hr : List.range' [:n].start [:n].size [:n].step = List.range n := by
      simp [Std.Legacy.Range.size, List.range_eq_range']
     rw [hr]
     rw [sG (fun k : Nat => (do Op.equalIn D e (← part e xs (k * i.size)) (← part e ys (k * i.size)) : Sem Bool)) _ _ ?_ (List.range n) r ?_ h]
     ·cases r <;> rfl
     ·intro f b hb s
      simp only [az] at hb ⊢
      cases hp : aV P (part e xs (f * i.size)) M with
      | none => rw [hp] at hb; cases hb
      | some a =>
       rw [hp] at hb
       simp only [Option.bind_some] at hb ⊢
       cases hq : aV P (part e ys (f * i.size)) M with
       | none => rw [hq] at hb; cases hb
       | some c =>
        rw [hq] at hb
        simp only [Option.bind_some] at hb ⊢
        rw [hb]
        cases b <;> rfl
     ·intro f hf b hb
      split at hb
      ·rename_i a ha
       split at hb
       ·rename_i c hc
        simp only [az, pX ha, pX hc, Option.bind_some]
        exact ih D e a c b MF hb
       ·cases hb
      ·cases hb
    ·cases h
   ·cases h
  ·cases h
def JB (P : Program) (neg : Bool) (t : TypeId) (x y : Value) (K : Value → Prop) : Prop :=
 bif P.eqGuardType P.depth t then False else match Gb P 8 t x y with
  | some r => K (.bool (match neg with | true => !r | false => r))
  | none => False
theorem Aw {P : Program} {ρ : Operand → Value} {o : Oper} {op : BinOp} {neg : Bool} {t yt : TypeId} {x y : Operand} {xs ys : Array Value} {K : Value → Prop} (ho : o.op = .binOp op t x y yt)
  (hop : (op = .eql ∧ neg = false) ∨ (op = .neq ∧ neg = true)) (hx : ρ x = .agg xs) (hy : ρ y = .agg ys) (h : JB P neg t (.agg xs) (.agg ys) K) : ∃ v, (∀ M, aV P (execOp ρ o) M = some (.value v)) ∧ K v := by
 unfold JB at h
 cases hg : P.eqGuardType P.depth t with
 | true => rw [hg] at h; exact h.elim
 | false =>
  rw [hg, cond_false] at h
  split at h
  ·rename_i r hr
   obtain ⟨dst, op', type, pos, after, guard⟩ := o
   simp only at ho; subst ho
   have hb' : ∀ M, aV P (Op.equal t (.agg xs) (.agg ys)) M = some r := fun M => EG 8 10000 t _ _ r (by omega) hr
   refine ⟨_, fun M => ?_, h⟩
   have hp : aV P program M = some P := rfl
   rcases hop with ⟨rfl, rfl⟩ | ⟨rfl, rfl⟩ <;>
    (simp only [execOp, hx, hy, eqGuard, binOp, az, aT, Option.bind_some, hb', hp, hg, Bool.not_true, Bool.not_false, Bool.false_eq_true, if_false, if_true])
  ·exact h.elim
def DT (v : Value) (G : Bool → Prop) : Prop := match v with | .nilFunc => G true | .func _ _ _ => G false | _ => False
def I0 (P : Program) (ρ : Operand → Value) (o : Oper) (neg : Bool) (t : TypeId) (x y : Value) (K : Value → Prop) : Prop :=
 match y with
 | .pointer q => match x with
  | .pointer p => match q with
   | none => match P.underlying t with
    | some (.pointer _) => K (.bool (match neg with | true => p.isSome | false => p.isNone))
    | _ => False
   | some b => match p with
    | none => match P.underlying t with
     | some (.pointer _) => K (.bool neg)
     | _ => False
    | some a => wQ P ρ o K
  | _ => False
 | .slice q n c => match x with
  | .slice p n' c' => match q with
   | none => match P.underlying t with
    | some (.slice _) => K (.bool (match neg with | true => p.isSome | false => p.isNone))
    | _ => False
   | some b => False
  | _ => False
 | .agg ys => match x with
  | .agg xs => JB P neg t (.agg xs) (.agg ys) K
  | _ => False
 | .nilFunc => match P.underlying t with
  | some (.func _ _ _) => DT x fun b => K (.bool (match neg with | true => !b | false => b))
  | _ => False
 | _ => wQ P ρ o K
def EH (P : Program) (ρ : Operand → Value) (o : Oper) (x y : Value) (K : Value → Prop) : Prop :=
 match x with
 | .string a => match y with
  | .string b => a.size + b.size ≤ 9223372036854775807 ∧ K (.string (a ++ b))
  | _ => False
 | _ => wQ P ρ o K
def Ax (P : Program) (ρ : Operand → Value) (o : Oper) (K : Value → Prop) : Prop :=
 match o.op with
 | .nilCheck x => ED (ρ x) K
 | .indexAddr t x i => EB P t (ρ x) (ρ i) K
 | .index t x i => Jz P t (ρ x) (ρ i) K
 | .slice t x lo hi mx => EC P t (ρ x) (lo.map ρ) (hi.map ρ) (mx.map ρ) K
 | .binOp .quo t x y _ => CB P ρ o .quo (ρ x) (ρ y) K
 | .binOp .rem t x y _ => CB P ρ o .rem (ρ x) (ρ y) K
 | .binOp .add t x y _ => EH P ρ o (ρ x) (ρ y) K
 | .binOp .eql t x y _ => I0 P ρ o false t (ρ x) (ρ y) K
 | .binOp .neq t x y _ => I0 P ρ o true t (ρ x) (ρ y) K
 | .build t parts => wR P t (parts.toList.map fun p => (p.1, ρ p.2)) K
 | .field t x i => wS P t (ρ x) i K
 | .makeFunc fn first captured => K (.func fn (first.toList.map ρ).toArray (captured.toList.map ρ).toArray)
 | .call c => wT P ρ o c K
 | _ => wQ P ρ o K
theorem hO {P : Program} {ρ : Operand → Value} {o : Oper} {K : Value → Prop} (h : wQ P ρ o K) :
  ∃ v, (∀ M, aV P (execOp ρ o) M = some (.value v)) ∧ K v := by
 unfold wQ at h
 split at h
 ·rename_i v hv
  exact ⟨v, fun M => jP P _ (fun b o hb => by simp [Mem.empty] at hb) hv, h⟩
 ·exact h.elim
theorem dD {P : Program} {s : Sem Value} {v : Value} {M : Mem} (h : aV P s M = some v) :
  aV P (Sem.bind s fun x => pure (Next.value x)) M = some (.value v) := by rw [bZ, h]; rfl
theorem y8 {P : Program} {ρ : Operand → Value} {o : Oper} {x : Operand} {K : Value → Prop} (ho : o.op = .nilCheck x) (h : ED (ρ x) K) :
  ∃ v, (∀ M, aV P (execOp ρ o) M = some (.value v)) ∧ K v := by
 obtain ⟨dst, op, type, pos, after, guard⟩ := o
 simp only at ho; subst ho
 simp only [execOp]
 generalize ρ x = v at h ⊢
 unfold ED at h
 cases v <;> try exact h.elim
 case pointer p =>
  obtain ⟨b, o, rfl, h⟩ := fx h
  exact ⟨_, fun M => rfl, h⟩
 case func fn a b =>
  simp only [DS] at h
  cases fn <;> try exact h.elim
  exact ⟨_, fun M => rfl, h⟩
theorem y9 (o i sz : Nat) : wO o i sz = o + i * sz := by
 unfold wO; split <;> simp
theorem add_eq (b o n : Nat) : (⟨b, o, none⟩ : Addr).add n = ⟨b, o + n, none⟩ := by
 unfold Addr.add; split <;> simp_all
theorem gx {P : Program} {k : IntKind} {j : Int} {M : Mem} : aV P (asIntOf (.int k j)) M = some (k, j) := rfl
theorem za {P : Program} {ρ : Operand → Value} {o : Oper} {t : TypeId} {x i : Operand} {K : Value → Prop} (ho : o.op = .indexAddr t x i) (h : EB P t (ρ x) (ρ i) K) :
  ∃ v, (∀ M, aV P (execOp ρ o) M = some (.value v)) ∧ K v := by
 obtain ⟨dst, op, type, pos, after, guard⟩ := o
 simp only at ho; subst ho
 simp only [execOp]
 generalize ρ x = vx at h ⊢
 generalize ρ i = vi at h ⊢
 unfold EB at h
 cases vi <;> try exact h.elim
 rename_i k j
 simp only at h
 have tail : ∀ (A : Option Addr) (n : Nat) (e : TypeId) (GG : Bool), (wP P e fun z => Jy A n j z K) →
   ∃ v, (∀ M, aV P (match A with
    | some a => if 0 ≤ j ∧ j < (n : Int) then (do pure (Value.pointer (some (a.add (j.toNat * (← sizeOf e)))))) else if GG then unsupported (.noEntry "op/indexAddr.an index out of range at an array of length 0 or 1 (ledger 616)") else boundsPanic k j n .index
    | none => boundsPanic k j 0 .index : Sem Value) M = some v) ∧ K v := by
  intro A n e GG hin
  unfold wP at hin
  split at hin
  ·rename_i z hz
   obtain ⟨h0, h1, h2⟩ := hin
   obtain ⟨b, o, rfl, h2⟩ := fx h2
   refine ⟨_, fun M => ?_, h2⟩
   simp only [h0, h1, and_self, if_true]
   show aV P (Sem.bind (sizeOf e) _) M = _
   have hs : aV P (sizeOf e) M = some z.size := by
    show aV P (Sem.bind (typeInfo e) _) M = _
    rw [bZ, bE hz]
    rfl
   rw [bZ, hs]
   simp only [Option.bind_some, y9, add_eq]; rfl
  ·exact hin.elim
 cases hd : P.underlying t with
 | none => rw [hd] at h; exact h.elim
 | some d =>
  rw [hd] at h
  have wrap : ∀ v, (∀ M, aV P (Instr.indexAt t vx (.int k j)) M = some v) → K v → ∃ v, (∀ M, aV P (Sem.bind (Instr.indexAt t vx (.int k j)) fun x => pure (Next.value x)) M = some (.value v)) ∧ K v :=
   fun v hv hk => ⟨v, fun M => dD (hv M), hk⟩
  cases d <;> try exact h.elim
  case array len e =>
   cases vx <;> try exact h.elim
   rename_i p
   simp only at h
   obtain ⟨v, hv, hk⟩ := tail p len e (decide (len ≤ 1)) h
   refine wrap v (fun M => ?_) hk
   have hv := hv M
   obtain ⟨a, rfl⟩ : ∃ a, p = some a := by
    unfold wP at h; split at h
    ·obtain ⟨_, _, h2⟩ := h; obtain ⟨b, o, hp, _⟩ := fx h2; exact ⟨_, hp⟩
    ·exact h.elim
   simp only [Instr.indexAt, az, gx, Option.bind_some, ax hd, Instr.sureAddr, aT, Bool.and_true]
   exact hv
  case slice e =>
   cases vx <;> try exact h.elim
   rename_i A n c
   simp only at h
   obtain ⟨v, hv, hk⟩ := tail A n e false h
   refine wrap v (fun M => ?_) hk
   have hv := hv M
   simp only [Instr.indexAt, az, gx, Option.bind_some, ax hd, aT, Bool.and_false]
   exact hv
theorem Ay {P : Program} {ρ : Operand → Value} {o : Oper} {t : TypeId} {x i : Operand} {K : Value → Prop} (ho : o.op = .index t x i) (h : Jz P t (ρ x) (ρ i) K) :
  ∃ v, (∀ M, aV P (execOp ρ o) M = some (.value v)) ∧ K v := by
 obtain ⟨dst, op, type, pos, after, guard⟩ := o
 simp only at ho; subst ho
 simp only [execOp]
 generalize ρ x = vx at h ⊢
 generalize ρ i = vi at h ⊢
 unfold Jz at h
 cases vi <;> try exact h.elim
 rename_i k j
 simp only at h
 cases hd : P.underlying t with
 | none => rw [hd] at h; exact h.elim
 | some d =>
  rw [hd] at h
  have wrap : ∀ v, (∀ M, aV P (Instr.index t vx (.int k j)) M = some v) → K v → ∃ v, (∀ M, aV P (Sem.bind (Instr.index t vx (.int k j)) fun x => pure (Next.value x)) M = some (.value v)) ∧ K v :=
   fun v hv hk => ⟨v, fun M => dD (hv M), hk⟩
  cases d <;> try exact h.elim
  case string =>
   cases vx <;> try exact h.elim
   rename_i s
   simp only at h
   obtain ⟨h0, h1, h2⟩ := h
   refine wrap _ (fun M => ?_) h2
   have hlt : j.toNat < s.size := by omega
   have hs : s[j.toNat]? = some s[j.toNat] := by simp [hlt]
   simp only [Instr.index, az, gx, Option.bind_some, ax hd, h0, if_true, hs, aT]
   unfold DR
   simp [Array.getD, hlt]
   rfl
  case array len e =>
   cases vx <;> try exact h.elim
   rename_i cs
   simp only [wP] at h
   split at h
   ·rename_i z hz
    split at h
    ·rename_i NH
     split at h
     ·rename_i d NI
      split at h
      ·exact h.elim
      ·rename_i cW
       obtain ⟨h0, h1, h2⟩ := h
       obtain ⟨v, hv, hk⟩ := jQ h2
       refine wrap v (fun M => ?_) hk
       have hs : aV P (sizeOf e) M = some 1 := by
        simp only [sizeOf, az, bE hz, Option.bind_some, aT, NH]
       have Av : ot d = false := by simpa using cW
       simp only [Instr.index, az, gx, Option.bind_some, ax hd, h0, h1, and_self, if_true, hs, part, gu NI, Av, Nat.mul_one, Bool.false_eq_true, if_false, hv, aT]
     ·exact h.elim
    ·exact h.elim
   ·exact h.elim
theorem eF {v : Value} {d : Option Int} {j : Int} (h : gX (some v) d = some j) : ∃ k, v = .int k j := by
 unfold gX at h
 cases v <;> simp at h
 exact ⟨_, by rw [h]⟩
theorem bV {P : Program} {k : IntKind} {j : Int} {y : Nat} {code : BoundsCode} {M : Mem} (h0 : 0 ≤ j) (h1 : j ≤ y) :
  aV P (Instr.sliceBound (.int k j) y code) M = some j.toNat := by
 simp only [Instr.sliceBound, az, gx, Option.bind_some, h0, h1, and_self, if_true, aT]
theorem qq {P : Program} {lo hi mx : Option Value} {len cap : Nat} {K : Nat → Nat → Nat → Prop} (isSlice : Bool) (JD : (mx.isSome && hi.isNone) = false)
  (hK : GF lo hi mx len cap K) : ∃ l h m, (∀ M, aV P (Instr.sliceBounds isSlice len cap lo hi mx) M = some (l, h, m)) ∧ K l h m := by
 unfold GF at hK
 split at hK
 ·rename_i m l hm hl
  split at hK
  ·rename_i h hh
   obtain ⟨m0, m1, h0, h1, l0, l1, hK⟩ := hK
   refine ⟨_, _, _, fun M => ?_, hK⟩
   cases mx with
   | none =>
    simp only [gX, Option.some.injEq] at hm
    subst hm
    cases hi with
    | none =>
     simp only [gX, Option.some.injEq] at hh
     subst hh
     cases lo with
     | none =>
      simp only [gX, Option.some.injEq] at hl
      subst hl
      simp only [Instr.sliceBounds, az, aT, Option.bind_some, Int.toNat_natCast]; rfl
     | some v =>
      obtain ⟨k, rfl⟩ := eF hl
      simp only [Instr.sliceBounds, az, aT, Option.bind_some, Int.toNat_natCast, bV l0 l1]
    | some vh =>
     obtain ⟨kh, rfl⟩ := eF hh
     have JE : l ≤ (h.toNat : Int) := by omega
     cases lo with
     | none =>
      simp only [gX, Option.some.injEq] at hl
      subst hl
      simp only [Instr.sliceBounds, az, aT, Option.bind_some, Int.toNat_natCast, bV h0 h1]; rfl
     | some v =>
      obtain ⟨k, rfl⟩ := eF hl
      simp only [Instr.sliceBounds, az, aT, Option.bind_some, Int.toNat_natCast, bV h0 h1, bV l0 JE]
   | some vm =>
    obtain ⟨km, rfl⟩ := eF hm
    cases hi with
    | none => simp at JD
    | some vh =>
     obtain ⟨kh, rfl⟩ := eF hh
     have MG : h ≤ (m.toNat : Int) := by omega
     have JE : l ≤ (h.toNat : Int) := by omega
     cases lo with
     | none =>
      simp only [gX, Option.some.injEq] at hl
      subst hl
      simp only [Instr.sliceBounds, az, aT, Option.bind_some, bV m0 m1, bV h0 MG]; rfl
     | some v =>
      obtain ⟨k, rfl⟩ := eF hl
      simp only [Instr.sliceBounds, az, aT, Option.bind_some, bV m0 m1, bV h0 MG, bV l0 JE]
  ·exact hK.elim
 ·exact hK.elim
theorem zb {P : Program} {ρ : Operand → Value} {o : Oper} {t : TypeId} {x : Operand} {lo hi mx : Option Operand} {K : Value → Prop} (ho : o.op = .slice t x lo hi mx)
  (h : EC P t (ρ x) (lo.map ρ) (hi.map ρ) (mx.map ρ) K) : ∃ v, (∀ M, aV P (execOp ρ o) M = some (.value v)) ∧ K v := by
 obtain ⟨dst, op, type, pos, after, guard⟩ := o
 simp only at ho; subst ho
 simp only [execOp]
 generalize ρ x = vx at h ⊢
 generalize lo.map ρ = lo at h ⊢
 generalize hi.map ρ = hi at h ⊢
 generalize mx.map ρ = mx at h ⊢
 unfold EC at h
 split at h
 ·exact h.elim
 ·rename_i JD
  have EI : (mx.isSome && hi.isNone) = false := by revert JD; cases (mx.isSome && hi.isNone) <;> simp
  cases hd : P.underlying t with
  | none => rw [hd] at h; exact h.elim
  | some d =>
   rw [hd] at h
   have wrap : ∀ v, (∀ M, aV P (Instr.sliceAt t vx lo hi mx) M = some v) → K v → ∃ v, (∀ M, aV P (Sem.bind (Instr.sliceAt t vx lo hi mx) fun x => pure (Next.value x)) M = some (.value v)) ∧ K v :=
    fun v hv hk => ⟨v, fun M => dD (hv M), hk⟩
   cases d <;> try exact h.elim
   case string =>
    cases vx <;> try exact h.elim
    rename_i s
    simp only at h
    split at h
    ·exact h.elim
    ·rename_i hm
     have hm' : mx = none := by cases mx <;> simp_all
     subst hm'
     obtain ⟨l, hh, m, hb, hK⟩ := qq (P := P) false EI h
     refine wrap _ (fun M => ?_) hK
     simp only [Instr.sliceAt, Instr.slice, az, Option.bind_some, ax hd, hb, aT, Option.isSome_none, Bool.false_eq_true, if_false]
   case slice e =>
    cases vx <;> try exact h.elim
    rename_i A n c
    simp only [wP] at h
    split at h
    ·rename_i z hz
     obtain ⟨l, hh, m, hb, hK⟩ := qq (P := P) true EI h
     refine wrap _ (fun M => ?_) hK
     have hs : aV P (sizeOf e) M = some z.size := by simp only [sizeOf, az, bE hz, Option.bind_some, aT]
     simp only [Instr.sliceAt, Instr.slice, az, Option.bind_some, ax hd, hb, hs, aT, mW]
    ·exact h.elim
   case array n e =>
    cases vx <;> try exact h.elim
    rename_i p
    simp only [wP] at h
    split at h
    ·rename_i z hz
     obtain ⟨b, o, rfl, h2⟩ := fx h
     obtain ⟨l, hh, m, hb, hK⟩ := qq (P := P) false EI h2
     refine wrap _ (fun M => ?_) hK
     have hs : aV P (sizeOf e) M = some z.size := by simp only [sizeOf, az, bE hz, Option.bind_some, aT]
     simp only [Instr.sliceAt, Instr.sureAddr, az, Option.bind_some, ax hd, hb, hs, aT, mW]
     split <;> rfl
    ·exact h.elim
theorem sH {P : Program} {ρ : Operand → Value} {o : Oper} {op : BinOp} {t yt : TypeId} {x y : Operand} {K : Value → Prop} (ho : o.op = .binOp op t x y yt)
  (hop : op = .quo ∨ op = .rem) (h : CB P ρ o op (ρ x) (ρ y) K) : ∃ v, (∀ M, aV P (execOp ρ o) M = some (.value v)) ∧ K v := by
 obtain ⟨dst, op', type, pos, after, guard⟩ := o
 simp only at ho; subst ho
 simp only [execOp]
 generalize ρ x = vx at h ⊢
 generalize ρ y = vy at h ⊢
 unfold CB at h
 cases vx <;> try exact h.elim
 cases vy <;> try exact h.elim
 rename_i k a k' b
 simp only at h
 split at h
 ·rename_i hk
  subst hk
  obtain ⟨hb, hK⟩ := h
  refine ⟨_, fun M => dD ?_, hK⟩
  rcases hop with rfl | rfl <;> simp [eqGuard, binOp, Op.intDiv, hb, aT]
 ·exact h.elim
theorem kR {P : Program} {mx : Bool} : ∀ (l : List Value) (v u : Value), Au mx v l = some u → ∀ M, aV P (l.foldlM (if mx then Builtin.max2 else Builtin.min2) v) M = some u
 | [], v, u, h, M => by
  cases v <;> simp [Au] at h
  subst h; rfl
 | x :: rest, v, u, h, M => by
  cases v <;> cases x <;> simp only [Au] at h <;> try (simp at h; done)
  rename_i k a k' b
  rw [List.foldlM_cons]
  cases mx
  ·simp only [Bool.false_eq_true, if_false, Builtin.min2, az, aT, Option.bind_some]
   have := kR (P := P) (mx := false) rest _ u h M
   simpa using this
  ·simp only [if_true, Builtin.max2, az, aT, Option.bind_some]
   have := kR (P := P) (mx := true) rest _ u h M
   simpa using this
theorem uY {P : Program} {ρ : Operand → Value} {o : Oper} {c : Call} {K : Value → Prop} (ho : o.op = .call c) (h : wT P ρ o c K) :
  ∃ v, (∀ M, aV P (execOp ρ o) M = some (.value v)) ∧ K v := by
 unfold wT at h
 have ex : ∀ b, c.callee = .builtin b → execOp ρ o = builtin b c.argTypes o.type (c.args.map fun | .const _ => true | _ => false) (c.args.map ρ) := by
  intro b hb
  obtain ⟨dst, op, type, pos, after, guard⟩ := o
  simp only at ho; subst ho
  simp only [execOp]
  unfold resolve
  rw [hb]
  rfl
 split at h
 ·rename_i hb
  split at h
  ·rename_i x t hx ht
   have ha : c.args = #[x] := by apply Array.ext'; simpa using hx
   have hts : c.argTypes[0]? = some t := by
    have : c.argTypes = #[t] := by apply Array.ext'; simpa using ht
    rw [this]; rfl
   obtain ⟨v, hv, hk⟩ := y7 (ty := o.type) h hts
   refine ⟨v, fun M => ?_, hk⟩
   rw [ex _ hb, ha]
   exact dD (by simpa using hv M)
  ·exact h.elim
 ·rename_i hb
  unfold CC at h
  split at h
  ·rename_i v rest hl
   split at h
   ·rename_i u hu
    refine ⟨u, fun M => ?_, h⟩
    rw [ex _ hb]
    refine dD ?_
    unfold Builtin.min_
    have : (c.args.map ρ).toList = v :: rest := by simpa using hl
    rw [this]
    have := kR (P := P) rest v u hu M
    simpa using this
   ·exact h.elim
  ·exact h.elim
 ·rename_i hb
  unfold CC at h
  split at h
  ·rename_i v rest hl
   split at h
   ·rename_i u hu
    refine ⟨u, fun M => ?_, h⟩
    rw [ex _ hb]
    refine dD ?_
    unfold Builtin.max_
    have : (c.args.map ρ).toList = v :: rest := by simpa using hl
    rw [this]
    have := kR (P := P) rest v u hu M
    simpa using this
   ·exact h.elim
  ·exact h.elim
 ·exact hO h
theorem zc {P : Program} {ρ : Operand → Value} {o : Oper} {t yt : TypeId} {x y : Operand} {K : Value → Prop} (ho : o.op = .binOp .add t x y yt)
  (h : EH P ρ o (ρ x) (ρ y) K) : ∃ v, (∀ M, aV P (execOp ρ o) M = some (.value v)) ∧ K v := by
 unfold EH at h
 split at h
 ·rename_i a hx
  split at h
  ·rename_i b hy
   obtain ⟨dst, op', type, pos, after, guard⟩ := o
   simp only at ho; subst ho
   have hn : ¬ (((a.size + b.size : Nat) : Int) > IntKind.i64.max) := by
    have : IntKind.i64.max = 9223372036854775807 := rfl
    rw [this]; omega
   refine ⟨_, fun M => ?_, h.2⟩
   simp only [execOp, hx, hy, eqGuard, binOp, Op.stringOp, az, aT, Option.bind_some, if_neg hn]
   rfl
  ·exact h.elim
 ·exact hO h
theorem tO {P : Program} {t e : TypeId} (hu : P.underlying t = some (.pointer e)) (d : Nat) (p : Option Addr) (M : Mem) : aV P (Op.equalIn (d + 1) t (.pointer p) (.pointer none)) M = some p.isNone := by
 rw [Op.equalIn]; simp only [az, ax hu, Option.bind_some]; cases p <;> rfl
theorem tP {P : Program} {t e : TypeId} (hu : P.underlying t = some (.pointer e)) (d : Nat) (p : Option Addr) (M : Mem) : aV P (Op.equalIn (d + 1) t (.pointer none) (.pointer p)) M = some p.isNone := by
 rw [Op.equalIn]; simp only [az, ax hu, Option.bind_some]; cases p <;> rfl
theorem uZ {P : Program} {t e : TypeId} (hu : P.underlying t = some (.slice e)) (d : Nat) (p : Option Addr) (n c n' c' : Nat) (M : Mem) : aV P (Op.equalIn (d + 1) t (.slice p n c) (.slice none n' c')) M = some p.isNone := by
 rw [Op.equalIn]; simp only [az, ax hu, Option.bind_some]; cases p <;> rfl
theorem u0 {P : Program} {t : TypeId} {a b c} (hu : P.underlying t = some (.func a b c)) (d : Nat) (M : Mem) : aV P (Op.equalIn (d + 1) t .nilFunc .nilFunc) M = some true := by
 rw [Op.equalIn]; simp only [az, ax hu, Option.bind_some]; rfl
theorem wU {P : Program} {t : TypeId} {a b c} {f g h} (hu : P.underlying t = some (.func a b c)) (d : Nat) (M : Mem) : aV P (Op.equalIn (d + 1) t (.func f g h) .nilFunc) M = some false := by
 rw [Op.equalIn]; simp only [az, ax hu, Option.bind_some]; rfl
theorem Az {P : Program} {ρ : Operand → Value} {o : Oper} {op : BinOp} {neg : Bool} {t yt : TypeId} {x y : Operand} {K : Value → Prop} (ho : o.op = .binOp op t x y yt)
  (hop : (op = .eql ∧ neg = false) ∨ (op = .neq ∧ neg = true)) {vx : Value} (hx : ρ x = vx) (hy : ρ y = .nilFunc) (hv : vx = .nilFunc ∨ ∃ f g h, vx = .func f g h)
  (b : Bool) (hb : ∀ M : Mem, aV P (Op.equalIn (9999 + 1) t vx .nilFunc) M = some b) (hk : K (.bool (match neg with | true => !b | false => b))) :
  ∃ v, (∀ M, aV P (execOp ρ o) M = some (.value v)) ∧ K v := by
 obtain ⟨dst, op', type, pos, after, guard⟩ := o
 simp only at ho; subst ho
 refine ⟨_, fun M => ?_, hk⟩
 have hb' : aV P (Op.equal t vx .nilFunc) M = some b := hb M
 rcases hv with rfl | ⟨f, g, h, rfl⟩ <;> rcases hop with ⟨rfl, rfl⟩ | ⟨rfl, rfl⟩ <;>
  simp only [execOp, hx, hy, eqGuard, binOp, az, aT, Option.bind_some, hb'] <;> rfl
theorem tQ {P : Program} {ρ : Operand → Value} {o : Oper} {op : BinOp} {neg : Bool} {t yt : TypeId} {x y : Operand} {K : Value → Prop} (ho : o.op = .binOp op t x y yt)
  (hop : (op = .eql ∧ neg = false) ∨ (op = .neq ∧ neg = true)) {vx vy : Value} (hx : ρ x = vx) (hy : ρ y = vy) (hv : (∃ p q, vx = .pointer p ∧ vy = .pointer q) ∨ (∃ p n c q n' c', vx = .slice p n c ∧ vy = .slice q n' c'))
  (b : Bool) (hb : ∀ M : Mem, aV P (Op.equalIn (9999 + 1) t vx vy) M = some b) (hk : K (.bool (match neg with | true => !b | false => b))) :
  ∃ v, (∀ M, aV P (execOp ρ o) M = some (.value v)) ∧ K v := by
 obtain ⟨dst, op', type, pos, after, guard⟩ := o
 simp only at ho; subst ho
 refine ⟨_, fun M => ?_, hk⟩
 have hb' : aV P (Op.equal t vx vy) M = some b := hb M
 rcases hv with ⟨p, q, rfl, rfl⟩ | ⟨p, n, c, q, n', c', rfl, rfl⟩ <;> rcases hop with ⟨rfl, rfl⟩ | ⟨rfl, rfl⟩ <;>
  simp only [execOp, hx, hy, eqGuard, binOp, az, aT, Option.bind_some, hb'] <;> rfl
theorem u3 {P : Program} {ρ : Operand → Value} {o : Oper} {op : BinOp} {neg : Bool} {t yt : TypeId} {x y : Operand} {K : Value → Prop} (ho : o.op = .binOp op t x y yt)
  (hop : (op = .eql ∧ neg = false) ∨ (op = .neq ∧ neg = true)) (h : I0 P ρ o neg t (ρ x) (ρ y) K) : ∃ v, (∀ M, aV P (execOp ρ o) M = some (.value v)) ∧ K v := by
 unfold I0 at h
 cases hy : ρ y <;> rw [hy] at h <;> simp only at h <;> try exact hO h
 ·rename_i q
  cases hx : ρ x <;> rw [hx] at h <;> simp only at h <;> try exact h.elim
  rename_i p
  cases q with
  | none =>
   simp only at h
   split at h
   ·rename_i e hu
    exact tQ ho hop hx hy (.inl ⟨_, _, rfl, rfl⟩) p.isNone (tO hu 9999 p) (by cases neg <;> cases p <;> exact h)
   ·exact h.elim
  | some b =>
   cases p with
   | none =>
    simp only at h
    split at h
    ·rename_i e hu
     exact tQ ho hop hx hy (.inl ⟨_, _, rfl, rfl⟩) _ (tP hu 9999 (some b)) (by cases neg <;> exact h)
    ·exact h.elim
   | some a => exact hO h
 ·rename_i q n c
  cases hx : ρ x <;> rw [hx] at h <;> simp only at h <;> try exact h.elim
  rename_i p n' c'
  cases q with
  | none =>
   simp only at h
   split at h
   ·rename_i e hu
    exact tQ ho hop hx hy (.inr ⟨_, _, _, _, _, _, rfl, rfl⟩) p.isNone (uZ hu 9999 p n' c' n c) (by cases neg <;> cases p <;> exact h)
   ·exact h.elim
  | some b => exact h.elim
 ·split at h
  ·rename_i hu
   unfold DT at h
   cases hx : ρ x <;> rw [hx] at h <;> simp only at h <;> try exact h.elim
   ·exact Az ho hop hx hy (.inr ⟨_, _, _, rfl⟩) false (wU hu 9999) (by cases neg <;> exact h)
   ·exact Az ho hop hx hy (.inl rfl) true (u0 hu 9999) (by cases neg <;> exact h)
  ·exact h.elim
 ·rename_i ys
  cases hx : ρ x <;> rw [hx] at h <;> simp only at h <;> try exact h.elim
  rename_i xs
  exact Aw ho hop hx hy h
theorem wV {P : Program} {ρ : Operand → Value} {o : Oper} {K : Value → Prop} (h : Ax P ρ o K) :
  ∃ v, (∀ M, aV P (execOp ρ o) M = some (.value v)) ∧ K v := by
 unfold Ax at h
 split at h
 ·rename_i x ho; exact y8 ho h
 ·rename_i t x i ho; exact za ho h
 ·rename_i t x i ho; exact Ay ho h
 ·rename_i t x lo hi mx ho; exact zb ho h
 ·rename_i t x y yt ho; exact sH ho (.inl rfl) h
 ·rename_i t x y yt ho; exact sH ho (.inr rfl) h
 ·rename_i t x y yt ho; exact zc ho h
 ·rename_i t x y yt ho; exact u3 ho (.inl ⟨rfl, rfl⟩) h
 ·rename_i t x y yt ho; exact u3 ho (.inr ⟨rfl, rfl⟩) h
 ·rename_i t parts ho
  obtain ⟨v, hv, hk⟩ := uW (parts := parts.map fun (i, x) => (i, ρ x)) (by simpa using h)
  obtain ⟨dst, op, type, pos, after, guard⟩ := o
  simp only at ho; subst ho
  exact ⟨v, fun M => dD (hv M), hk⟩
 ·rename_i t x i ho
  obtain ⟨v, hv, hk⟩ := uX h
  obtain ⟨dst, op, type, pos, after, guard⟩ := o
  simp only at ho; subst ho
  exact ⟨v, fun M => dD (hv M), hk⟩
 ·rename_i fn first captured ho
  obtain ⟨dst, op, type, pos, after, guard⟩ := o
  simp only at ho; subst ho
  refine ⟨_, fun M => ?_, h⟩
  have e1 : (first.toList.map ρ).toArray = first.map ρ := by apply Array.ext'; simp
  have e2 : (captured.toList.map ρ).toArray = captured.map ρ := by apply Array.ext'; simp
  rw [e1, e2]
  rfl
 ·rename_i c ho; exact uY ho h
 ·exact hO h
end Go.AF
