/- A part of proofs about one program. -/
import Derived.Test.YtnnlgknlialpmaaGreatZShunterChatBase
set_option linter.unusedVariables false
namespace Go.AF
def bF (P : Program) {α : Type} : Sem α → Mem → Option α
 | .pure a, _ => some a
 | .load _ a k, M => match M.ld a with
  | some v => bF P (k v) M
  | none => none
 | .shape r k, M => match M r with
  | some (.cells c elem _) => bF P (k (some (elem, c.size))) M
  | _ => none
 | .frozen a k, M => match M a.block with
  | some (.cells _ _ f) => bF P (k (decide (f.1 ≤ a.off) && decide (a.off < f.2))) M
  | _ => none
 | .program k, M => bF P (k P) M
 | .mark _ k, M => bF P k M
 | .store .., _ | .new .., _ | .freeze .., _ | .getObj .., _ | .setObj .., _ | .choose .., _ | .sys .., _ | .halt _, _ => none
theorem de (P : Program) {α β : Type} (s : Sem α) (f : α → Sem β) (M : Mem) : bF P (s.bind f) M = (bF P s M).bind fun a => bF P (f a) M := by
 induction s with
 | pure a => rfl
 | load m a k ih =>
  simp only [Sem.bind, bF]
  cases M.ld a with
  | none => rfl
  | some v => exact ih v
 | shape r k ih =>
  simp only [Sem.bind, bF]
  split
  ·exact ih _
  ·rfl
 | frozen a k ih =>
  simp only [Sem.bind, bF]
  split
  ·exact ih _
  ·rfl
 | program k ih => exact ih P
 | mark m k ih => exact ih
 | store m a v k ih => rfl
 | new o k ih => rfl
 | freeze a n k ih => rfl
 | getObj r k ih => rfl
 | setObj r o k ih => rfl
 | choose q k ih => rfl
 | sys c k ih => rfl
 | halt x => rfl
def Mem.le (M M' : Mem) : Prop := ∀ b o, M b = some o → M' b = some o
theorem Mem.KK {M M' : Mem} (h : M.le M') {a : Addr} {v : Value} (hv : M.ld a = some v) : M'.ld a = some v := by
 unfold Mem.ld at *
 cases hb : M a.block with
 | none => simp [hb] at hv
 | some o => rw [h _ _ hb]; rw [hb] at hv; exact hv
theorem lB (P : Program) {α : Type} (s : Sem α) : ∀ {M M' : Mem} {x : α}, M.le M' → bF P s M = some x → bF P s M' = some x := by
 induction s with
 | pure a => intro M M' x h hx; exact hx
 | load m a k ih =>
  intro M M' x h hx
  simp only [bF] at hx ⊢
  cases hv : M.ld a with
  | none => simp [hv] at hx
  | some v => rw [Mem.KK h hv]; rw [hv] at hx; exact ih v h hx
 | shape r k ih =>
  intro M M' x h hx
  simp only [bF] at hx ⊢
  cases hb : M r with
  | none => simp [hb] at hx
  | some o => rw [h _ _ hb]; rw [hb] at hx; cases o <;> first | exact ih _ h hx | (simp at hx; done)
 | frozen a k ih =>
  intro M M' x h hx
  simp only [bF] at hx ⊢
  cases hb : M a.block with
  | none => simp [hb] at hx
  | some o => rw [h _ _ hb]; rw [hb] at hx; cases o <;> first | exact ih _ h hx | (simp at hx; done)
 | program k ih => intro M M' x h hx; exact ih P h hx
 | mark m k ih => intro M M' x h hx; exact ih h hx
 | store m a v k ih => intro M M' x h hx; simp [bF] at hx
 | new o k ih => intro M M' x h hx; simp [bF] at hx
 | freeze a n k ih => intro M M' x h hx; simp [bF] at hx
 | getObj r k ih => intro M M' x h hx; simp [bF] at hx
 | setObj r o k ih => intro M M' x h hx; simp [bF] at hx
 | choose q k ih => intro M M' x h hx; simp [bF] at hx
 | sys c k ih => intro M M' x h hx; simp [bF] at hx
 | halt y => intro M M' x h hx; simp [bF] at hx
theorem fN (P : Program) {α : Type} (s : Sem α) : ∀ {M : Mem} {x : α} {K : α → Mem → Prop} {Kp : Value → Mem → Prop}, bF P s M = some x → K x M → da P s M K Kp := by
 induction s with
 | pure a => intro M x K Kp hx hk; simp only [bF, Option.some.injEq] at hx; subst hx; exact hk
 | load m a k ih =>
  intro M x K Kp hx hk
  simp only [bF, da] at hx ⊢
  split at hx
  ·rename_i v hv; rw [hv]; exact ih v hx hk
  ·simp at hx
 | shape r k ih =>
  intro M x K Kp hx hk
  simp only [bF, da] at hx ⊢
  split at hx
  ·rename_i hb; rw [hb]; exact ih _ hx hk
  ·simp at hx
 | frozen a k ih =>
  intro M x K Kp hx hk
  simp only [bF, da] at hx ⊢
  split at hx
  ·rename_i hb; rw [hb]; exact ih _ hx hk
  ·simp at hx
 | program k ih => intro M x K Kp hx hk; exact ih P hx hk
 | mark m k ih => intro M x K Kp hx hk; exact ih hx hk
 | store m a v k ih => intro M x K Kp hx; simp [bF] at hx
 | new o k ih => intro M x K Kp hx; simp [bF] at hx
 | freeze a n k ih => intro M x K Kp hx; simp [bF] at hx
 | getObj r k ih => intro M x K Kp hx; simp [bF] at hx
 | setObj r o k ih => intro M x K Kp hx; simp [bF] at hx
 | choose q k ih => intro M x K Kp hx; simp [bF] at hx
 | sys c k ih => intro M x K Kp hx; simp [bF] at hx
 | halt y => intro M x K Kp hx; simp [bF] at hx
def aM (e : Bool) (X Y : Prop) : Prop := match e with | true => X | false => Y
def aH (o : Option Value) (k : IntKind) (K : Int → Prop) : Prop := match o with | some (.int k' n) => if k' = k then K n else False | _ => False
def cK (o : Option Value) (K : Bool → Prop) : Prop := match o with | some (.bool b) => K b | _ => False
def dM (o : Option Value) (K : ByteArray → Prop) : Prop := match o with | some (.string b) => K b | _ => False
def b8 (o : Option Value) (K : Option Addr → Prop) : Prop := match o with | some (.pointer p) => K p | _ => False
def az (o : Option Value) (K : Option Addr → Nat → Nat → Prop) : Prop := match o with | some (.slice A n c) => K A n c | _ => False
def dD (o : Option Value) (K : Value → Prop) : Prop := match o with | some v => K v | none => False
def Si (o : Option (List Value)) (K : List Value → Prop) : Prop := match o with | some v => K v | none => False
def aF (p : Option Addr) (K : Nat → Nat → Prop) : Prop := match p with | some ⟨b, o, none⟩ => K b o | _ => False
def Ad (v : Value) (X : Prop) : Prop := match v with | .agg _ => False | .tuple _ => False | _ => X
inductive Ae where
 | int (k : IntKind) | bool | str | ptr | sl | val
def Ve : TypeDesc → Ae
 | .bool => .bool
 | .int k => .int k
 | .string => .str
 | .pointer _ => .ptr
 | .slice _ => .sl
 | _ => .val
def flat (P : Program) : Nat → TypeId → List Ae
 | 0, _ => []
 | n + 1, t => match P.underlying t with
  | some (.struct fs) => fs.toList.flatMap fun f => flat P n f.type
  | some (.array m e) => (List.replicate m (flat P n e)).flatten
  | some d => [Ve d]
  | none => []
def C1 (c : Ae) (o : Option Value) (K : Value → Prop) : Prop :=
 match c with
 | .int k => aH o k fun n => K (.int k n)
 | .bool => cK o fun b => K (.bool b)
 | .str => dM o fun s => K (.string s)
 | .ptr => b8 o fun p => K (.pointer p)
 | .sl => az o fun A n c => K (.slice A n c)
 | .val => dD o K
def E3 : List Ae → List Value → (List Value → Prop) → Prop
 | [], [], K => K []
 | c :: cs, v :: vs, K => C1 c (some v) fun v' => E3 cs vs fun vs' => K (v' :: vs')
 | _, _, _ => False
def E4 (M : Mem) (a : Addr) : List Ae → Nat → (List Value → Prop) → Prop
 | [], _, K => K []
 | c :: cs, i, K => C1 c (M.ld (a.add i)) fun v => E4 M a cs (i + 1) fun vs => K (v :: vs)
def Mem.iH (M : Mem) (a : Addr) : Nat → Nat → Option (List Value)
 | _, 0 => some []
 | i, n + 1 => match M.ld (a.add i) with
  | some v => (M.iH a (i + 1) n).map (v :: ·)
  | none => none
theorem nZ {c : Ae} {o : Option Value} {K : Value → Prop} (h : C1 c o K) : ∃ v, o = some v ∧ K v := by
 cases c <;> simp only [C1] at h
 case int k =>
  unfold aH at h; split at h
  ·split at h
   ·rename_i n hk; subst hk; exact ⟨_, rfl, h⟩
   ·exact h.elim
  ·exact h.elim
 case bool => unfold cK at h; split at h <;> first | exact ⟨_, rfl, h⟩ | exact h.elim
 case str => unfold dM at h; split at h <;> first | exact ⟨_, rfl, h⟩ | exact h.elim
 case ptr => unfold b8 at h; split at h <;> first | exact ⟨_, rfl, h⟩ | exact h.elim
 case sl => unfold az at h; split at h <;> first | exact ⟨_, rfl, h⟩ | exact h.elim
 case val => unfold dD at h; split at h <;> first | exact ⟨_, rfl, h⟩ | exact h.elim
theorem iI {p : Option Addr} {K : Nat → Nat → Prop} (h : aF p K) : ∃ b o, p = some ⟨b, o, none⟩ ∧ K b o := by
 unfold aF at h
 split at h
 ·exact ⟨_, _, rfl, h⟩
 ·exact h.elim
theorem xk {v : Value} {X : Prop} (h : Ad v X) : Value.plainCell v = true ∧ v.cells = #[v] ∧ X := by
 cases v <;> first | exact h.elim | exact ⟨rfl, rfl, h⟩
theorem aE {P : Program} {t : TypeId} {d : TypeDesc} (h : P.underlying t = some d) (M : Mem) : bF P (underlying t) M = some d := by
 show bF P (Sem.bind program _) M = _
 simp only [de, program, bF, Option.bind_some, h]; rfl
theorem cq {P : Program} {t : TypeId} {i : TypeInfo} (h : P.info? t = some i) (M : Mem) : bF P (typeInfo t) M = some i := by
 show bF P (Sem.bind program _) M = _
 simp only [de, program, bF, Option.bind_some, h]; rfl
theorem info_of_underlying {P : Program} {t : TypeId} {d : TypeDesc} (h : P.underlying t = some d) : ∃ i, P.info? t = some i := by
 unfold Program.underlying at h
 cases hi : P.info? t with
 | none => simp [hi] at h
 | some i => exact ⟨i, rfl⟩
theorem Af {P : Program} {t : TypeId} {d : TypeDesc} (h : P.underlying t = some d) (M : Mem) : bF P (sizeOf t) M = some (P.cellsOf t) := by
 obtain ⟨i, hi⟩ := info_of_underlying h
 show bF P (Sem.bind (typeInfo t) _) M = _
 rw [de, cq hi]
 simp [Program.cellsOf, hi, bF, pure]
theorem br (P : Program) {α : Type} (a : α) (M : Mem) : bF P (pure a : Sem α) M = some a := rfl
def uB : TypeDesc → Bool
 | .struct _ => true
 | .array _ _ => true
 | _ => false
theorem jU {P : Program} {t : TypeId} {d : TypeDesc} (h : P.underlying t = some d) (M : Mem) :
  bF P (isAgg t) M = some (uB d) := by
 show bF P (Sem.bind (underlying t) _) M = _
 rw [de, aE h]
 cases d <;> rfl
theorem my {P : Program} {M : Mem} {a : Addr} : ∀ (n i : Nat) (acc : Array Value) (vs : List Value), M.iH a i n = some vs →
  bF P (loadCellsFrom a i n acc) M = some (acc ++ vs.toArray)
 | 0, i, acc, vs, h => by
  simp only [Mem.iH, Option.some.injEq] at h; subst h
  simp [loadCellsFrom, bF, pure]
 | n + 1, i, acc, vs, h => by
  simp only [Mem.iH] at h
  cases hv : M.ld (a.add i) with
  | none => simp [hv] at h
  | some v =>
   simp only [hv] at h
   cases hr : M.iH a (i + 1) n with
   | none => simp [hr] at h
   | some rest =>
    simp only [hr, Option.map_some, Option.some.injEq] at h
    subst h
    show bF P (Sem.bind (load (a.add i)) _) M = _
    rw [de]
    simp only [load, bF, hv, Option.bind_some]
    rw [my n (i + 1) (acc.push v) rest hr]
    simp
theorem uC {M : Mem} {a : Addr} : ∀ {cs : List Ae} {i : Nat} {K : List Value → Prop}, E4 M a cs i K → ∃ vs, M.iH a i cs.length = some vs ∧ K vs
 | [], i, K, h => ⟨[], rfl, h⟩
 | c :: cs, i, K, h => by
  simp only [E4] at h
  obtain ⟨v, hv, h⟩ := nZ h
  obtain ⟨vs, hvs, h⟩ := uC h
  exact ⟨v :: vs, by simp [Mem.iH, hv, hvs], h⟩
def G2 (P : Program) (t : TypeId) (x : Value) (M : Mem) (K : Value → Prop) : Prop :=
 match x with
 | .pointer p => aF p fun b o =>
  match P.underlying t with
  | some (.struct _) | some (.array _ _) =>
   if (flat P 8 t).length = P.cellsOf t then
    (if P.cellsOf t ≤ 12 then E4 M ⟨b, o, none⟩ (flat P 8 t) 0 fun vs => K (.agg vs.toArray) else Si (M.iH ⟨b, o, none⟩ 0 (P.cellsOf t)) fun vs => K (.agg vs.toArray))
   else False
  | some d => C1 (Ve d) (M.ld ⟨b, o, none⟩) K
  | none => False
 | _ => False
def VL (P : Program) (t : TypeId) (M : Mem) (b o : Nat) (K : Value → Prop) : Prop :=
 if (flat P 8 t).length = P.cellsOf t then
  (if P.cellsOf t ≤ 12 then E4 M ⟨b, o, none⟩ (flat P 8 t) 0 fun vs => K (.agg vs.toArray) else Si (M.iH ⟨b, o, none⟩ 0 (P.cellsOf t)) fun vs => K (.agg vs.toArray))
 else False
theorem oa {P : Program} {t : TypeId} {d : TypeDesc} {M : Mem} {b o m : Nat} {vs : List Value} (hd : P.underlying t = some d) (eE : uB d = true) (hm : P.cellsOf t = m)
  (hl : M.iH ⟨b, o, none⟩ 0 m = some vs) : bF P (Instr.loadAt t (.pointer (some ⟨b, o, none⟩))) M = some (.agg vs.toArray) := by
 show bF P (Sem.bind (Instr.sureAddr _) _) M = _
 rw [de]
 simp only [Instr.sureAddr, br, Option.bind_some]
 show bF P (Sem.bind (isAgg t) _) M = _
 rw [de, jU hd]
 simp only [Option.bind_some, eE, if_true]
 show bF P (Sem.bind (sizeOf t) _) M = _
 rw [de, Af hd]
 simp only [Option.bind_some]
 show bF P (Sem.bind (loadCells _ _) _) M = _
 rw [de]
 unfold loadCells
 rw [hm, my m 0 #[] vs hl]
 simp only [Option.bind_some, Array.empty_append]
 rfl
theorem vE {P : Program} {t : TypeId} {d : TypeDesc} {M : Mem} {b o : Nat} {v : Value} (hd : P.underlying t = some d) (eE : uB d = false)
  (hl : M.ld ⟨b, o, none⟩ = some v) : bF P (Instr.loadAt t (.pointer (some ⟨b, o, none⟩))) M = some v := by
 show bF P (Sem.bind (Instr.sureAddr _) _) M = _
 rw [de]
 simp only [Instr.sureAddr, br, Option.bind_some]
 show bF P (Sem.bind (isAgg t) _) M = _
 rw [de, jU hd]
 simp only [Option.bind_some, eE, Bool.false_eq_true, if_false]
 show bF P (load _) M = _
 unfold load
 simp only [bF, hl]
theorem xl {P : Program} {t : TypeId} {x : Value} {M : Mem} {K : Value → Prop} (h : G2 P t x M K) :
  ∃ v, bF P (Instr.loadAt t x) M = some v ∧ K v := by
 unfold G2 at h
 cases x <;> try exact h.elim
 rename_i p
 obtain ⟨b, o, hp, h2⟩ := iI h
 subst hp
 clear h
 cases hd : P.underlying t with
 | none => rw [hd] at h2; exact h2.elim
 | some d =>
  rw [hd] at h2
  have agg : uB d = true → VL P t M b o K → ∃ v, bF P (Instr.loadAt t (.pointer (some ⟨b, o, none⟩))) M = some v ∧ K v := by
   intro eE h
   unfold VL at h
   split at h
   ·rename_i hl
    split at h
    ·obtain ⟨vs, hvs, h⟩ := uC h
     exact ⟨_, oa hd eE hl.symm hvs, h⟩
    ·unfold Si at h
     split at h
     ·rename_i vs hvs; exact ⟨_, oa hd eE rfl hvs, h⟩
     ·exact h.elim
   ·exact h.elim
  cases d with
  | struct fs => exact agg rfl h2
  | array m e => exact agg rfl h2
  | _ => (obtain ⟨v, hv, h⟩ := nZ h2; exact ⟨v, vE hd rfl hv, h⟩)
def aI (M : Mem) (a : Addr) (v : Value) (K : Mem → Prop) : Prop := M.wr a = true ∧ K (M.put a v)
def aX (M : Mem) (o : Obj) (K : Nat → Mem → Prop) : Prop := ∀ b, M b = none → K b (M.set b o)
def C2 (M : Mem) (a : Addr) : List Value → Nat → (Mem → Prop) → Prop
 | [], _, K => K M
 | v :: vs, i, K => Ad v (aI M (a.add i) v fun M' => C2 M' a vs (i + 1) K)
def zA : List Value → Nat → List Value → List Value
 | cs, _, [] => cs
 | cs, o, v :: vs => zA (cs.set o v) (o + 1) vs
def Mem.BD (M : Mem) (b o : Nat) (vs : List Value) : Mem := fun i => if i = b then (M i).map (fun x => match x with
 | .cells c e f => .cells (zA c.toList o vs).toArray e f
 | x => x) else M i
def VM (M : Mem) (b o : Nat) (vs : List Value) (n : Nat) (K : Mem → Prop) : Prop :=
 vs.length = n ∧ (∀ v ∈ vs, Value.plainCell v = true) ∧ (∃ c T, M b = some (.cells c T (0, 0)) ∧ o + n ≤ c.size) ∧ K (M.BD b o vs)
def KL (P : Program) (t : TypeId) (v : Value) (M : Mem) (b o : Nat) (K : Mem → Prop) : Prop :=
 match v with
 | .agg cs => if P.cellsOf t ≤ 12 then (if cs.size = P.cellsOf t then C2 M ⟨b, o, none⟩ cs.toList 0 K else False) else VM M b o cs.toList (P.cellsOf t) K
 | _ => False
def E5 (P : Program) (t : TypeId) (x v : Value) (M : Mem) (K : Mem → Prop) : Prop :=
 match x with
 | .pointer p => aF p fun b o =>
  match P.underlying t with
  | some (.struct _) | some (.array _ _) => KL P t v M b o K
  | some _ => if P.cellsOf t = 1 then Ad v (aI M ⟨b, o, none⟩ v K) else False
  | none => False
 | _ => False
theorem oc {P : Program} {α β : Type} {s : Sem α} {f : α → Sem β} {M : Mem} {x : α} {K : β → Mem → Prop} {Kp : Value → Mem → Prop}
  (h : bF P s M = some x) (hk : da P (f x) M K Kp) : da P (s.bind f) M K Kp := cJ P s f (fN P s h hk)
theorem Ag {P : Program} {a : Addr} {Kp : Value → Mem → Prop} : ∀ {vs : List Value} {i : Nat} {M : Mem} {K : Mem → Prop}, C2 M a vs i K →
  da P (storeCells a vs i) M (fun _ M' => K M') Kp
 | [], i, M, K, h => h
 | v :: vs, i, M, K, h => by
  simp only [C2] at h
  obtain ⟨hp, _, hw, h⟩ := xk h
  unfold storeCells
  refine cJ P _ _ ?_
  exact ⟨hp, hw, Ag h⟩
theorem Iz {M : Mem} {b o T : Nat} {c : Array Value} {v : Value} {vs : List Value} (hb : M b = some (.cells c T (0, 0))) :
  (M.put ⟨b, o, none⟩ v).BD b (o + 1) vs = M.BD b o (v :: vs) := by
 funext i
 unfold Mem.BD Mem.put
 by_cases hi : i = b
 ·subst hi; simp [hb, Obj.wQ, zA]
 ·simp [hi]
theorem KM {b T : Nat} {K : Mem → Prop} : ∀ {vs : List Value} {o i : Nat} {M : Mem} {c : Array Value}, M b = some (.cells c T (0, 0)) → o + i + vs.length ≤ c.size → (∀ v ∈ vs, Value.plainCell v = true) →
  K (M.BD b (o + i) vs) → C2 M ⟨b, o, none⟩ vs i K
 | [], o, i, M, c, hb, hs, hp, h => by
  have : M.BD b (o + i) [] = M := by
   funext k; unfold Mem.BD; split
   ·rename_i hk; subst hk; simp [hb, zA]
   ·rfl
  rw [this] at h; exact h
 | v :: vs, o, i, M, c, hb, hs, hp, h => by
  simp only [List.length_cons] at hs
  have hpv := hp v (List.mem_cons_self ..)
  have ea : (⟨b, o, none⟩ : Addr).add i = ⟨b, o + i, none⟩ := by unfold Addr.add; split <;> simp_all
  have hw : M.wr ⟨b, o + i, none⟩ = true := by simp [Mem.wr, hb]; omega
  have hb' : (M.put ⟨b, o + i, none⟩ v) b = some (.cells (c.setIfInBounds (o + i) v) T (0, 0)) := by unfold Mem.put; simp [hb, Obj.wQ]
  have rest := KM (vs := vs) (o := o) (i := i + 1) (M := M.put ⟨b, o + i, none⟩ v) (K := K) hb' (by simp; omega) (fun u hu => hp u (List.mem_cons_of_mem _ hu)) (by
   rw [show o + (i + 1) = o + i + 1 from rfl, Iz hb]; exact h)
  unfold C2
  rw [ea]
  cases v <;> first | (simp [Value.plainCell] at hpv; done) | exact ⟨hw, rest⟩
theorem C3 {P : Program} {t : TypeId} {x v : Value} {M : Mem} {K : Mem → Prop} {Kp : Value → Mem → Prop} (h : E5 P t x v M K) :
  da P (Instr.storeAt t x v) M (fun _ M' => K M') Kp := by
 unfold E5 at h
 cases x <;> try exact h.elim
 rename_i p
 obtain ⟨b, o, hp, h2⟩ := iI h
 subst hp
 clear h
 cases hd : P.underlying t with
 | none => rw [hd] at h2; exact h2.elim
 | some d =>
  rw [hd] at h2
  have key : ∀ cs : List Value, v.cells.toList = cs → cs.length = P.cellsOf t → C2 M ⟨b, o, none⟩ cs 0 K →
    da P (Instr.storeAt t (.pointer (some ⟨b, o, none⟩)) v) M (fun _ M' => K M') Kp := by
   intro cs hcs hl hs
   refine oc (x := ⟨b, o, none⟩) rfl ?_
   unfold storeVar
   refine oc (Af hd M) ?_
   have hn : ¬ (v.cells.size ≠ P.cellsOf t) := by simp [← hl, ← hcs]
   simp only [hn, if_false]
   rw [hcs]
   exact Ag hs
  have one : (if P.cellsOf t = 1 then Ad v (aI M ⟨b, o, none⟩ v K) else False) →
    da P (Instr.storeAt t (.pointer (some ⟨b, o, none⟩)) v) M (fun _ M' => K M') Kp := by
   intro h
   split at h
   ·rename_i h1
    obtain ⟨hp, hc, hw, hk⟩ := xk h
    refine key [v] (by simp [hc]) (by simp [h1]) ?_
    unfold C2
    cases v <;> first | (simp [Value.plainCell] at hp; done) | exact ⟨hw, hk⟩
   ·exact h.elim
  have agg : KL P t v M b o K → da P (Instr.storeAt t (.pointer (some ⟨b, o, none⟩)) v) M (fun _ M' => K M') Kp := by
   intro h
   unfold KL at h
   cases v <;> try exact h.elim
   rename_i cs
   simp only at h
   split at h
   ·split at h
    ·rename_i hl; exact key cs.toList rfl (by simpa using hl) h
    ·exact h.elim
   ·obtain ⟨hl, hp, ⟨c, T, hb, ho⟩, hk⟩ := h
    refine key cs.toList rfl hl (KM hb (by rw [hl]; omega) hp ?_)
    exact hk
  cases d with
  | struct fs => exact agg h2
  | array m e => exact agg h2
  | _ => exact one h2
end Go.AF
