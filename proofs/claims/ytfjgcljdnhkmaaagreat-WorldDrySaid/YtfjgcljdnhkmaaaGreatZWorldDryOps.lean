/- A part of proofs about one program. -/
import Derived.Test.YtfjgcljdnhkmaaaGreatZWorldDryBase
set_option linter.unusedVariables false
namespace Go.AF
def bV (P : Program) {α : Type} : Sem α → Mem → Option α
 | .pure a, _ => some a
 | .load _ a k, M => match M.ld a with
  | some v => bV P (k v) M
  | none => none
 | .shape r k, M => match M r with
  | some (.cells c elem _) => bV P (k (some (elem, c.size))) M
  | _ => none
 | .frozen a k, M => match M a.block with
  | some (.cells _ _ f) => bV P (k (decide (f.1 ≤ a.off) && decide (a.off < f.2))) M
  | _ => none
 | .program k, M => bV P (k P) M
 | .mark _ k, M => bV P k M
 | .store .., _ | .new .., _ | .freeze .., _ | .getObj .., _ | .setObj .., _ | .choose .., _ | .sys .., _ | .halt _, _ => none
theorem eN (P : Program) {α β : Type} (s : Sem α) (f : α → Sem β) (M : Mem) : bV P (s.bind f) M = (bV P s M).bind fun a => bV P (f a) M := by
 induction s with
 | pure a => rfl
 | load m a k ih =>
  simp only [Sem.bind, bV]
  cases M.ld a with
  | none => rfl
  | some v => exact ih v
 | shape r k ih =>
  simp only [Sem.bind, bV]
  split
  ·exact ih _
  ·rfl
 | frozen a k ih =>
  simp only [Sem.bind, bV]
  split
  ·exact ih _
  ·rfl
 | program k ih => exact ih P
 | mark m k ih => exact ih
 | store m a v k ih => rfl
 | new o k ih => rfl
 | freeze a n k ih => rfl
 | getObj r k ih => rfl
 | setObj r o k ih => rfl
 | choose q k ih => rfl
 | sys c k ih => rfl
 | halt x => rfl
def Mem.le (M M' : Mem) : Prop := ∀ b o, M b = some o → M' b = some o
theorem Mem.RM {M M' : Mem} (h : M.le M') {a : Addr} {v : Value} (hv : M.ld a = some v) : M'.ld a = some v := by
 unfold Mem.ld at *
 cases hb : M a.block with
 | none => simp [hb] at hv
 | some o => rw [h _ _ hb]; rw [hb] at hv; exact hv
theorem mm (P : Program) {α : Type} (s : Sem α) : ∀ {M M' : Mem} {x : α}, M.le M' → bV P s M = some x → bV P s M' = some x := by
 induction s with
 | pure a => intro M M' x h hx; exact hx
 | load m a k ih =>
  intro M M' x h hx
  simp only [bV] at hx ⊢
  cases hv : M.ld a with
  | none => simp [hv] at hx
  | some v => rw [Mem.RM h hv]; rw [hv] at hx; exact ih v h hx
 | shape r k ih =>
  intro M M' x h hx
  simp only [bV] at hx ⊢
  cases hb : M r with
  | none => simp [hb] at hx
  | some o => rw [h _ _ hb]; rw [hb] at hx; cases o <;> first | exact ih _ h hx | (simp at hx; done)
 | frozen a k ih =>
  intro M M' x h hx
  simp only [bV] at hx ⊢
  cases hb : M a.block with
  | none => simp [hb] at hx
  | some o => rw [h _ _ hb]; rw [hb] at hx; cases o <;> first | exact ih _ h hx | (simp at hx; done)
 | program k ih => intro M M' x h hx; exact ih P h hx
 | mark m k ih => intro M M' x h hx; exact ih h hx
 | store m a v k ih => intro M M' x h hx; simp [bV] at hx
 | new o k ih => intro M M' x h hx; simp [bV] at hx
 | freeze a n k ih => intro M M' x h hx; simp [bV] at hx
 | getObj r k ih => intro M M' x h hx; simp [bV] at hx
 | setObj r o k ih => intro M M' x h hx; simp [bV] at hx
 | choose q k ih => intro M M' x h hx; simp [bV] at hx
 | sys c k ih => intro M M' x h hx; simp [bV] at hx
 | halt y => intro M M' x h hx; simp [bV] at hx
theorem jd (P : Program) {α : Type} (s : Sem α) : ∀ {M : Mem} {x : α} {K : α → Mem → Prop} {Kp : Value → Mem → Prop}, bV P s M = some x → K x M → eU P s M K Kp := by
 induction s with
 | pure a => intro M x K Kp hx hk; simp only [bV, Option.some.injEq] at hx; subst hx; exact hk
 | load m a k ih =>
  intro M x K Kp hx hk
  simp only [bV, eU] at hx ⊢
  split at hx
  ·rename_i v hv; rw [hv]; exact ih v hx hk
  ·simp at hx
 | shape r k ih =>
  intro M x K Kp hx hk
  simp only [bV, eU] at hx ⊢
  split at hx
  ·rename_i hb; rw [hb]; exact ih _ hx hk
  ·simp at hx
 | frozen a k ih =>
  intro M x K Kp hx hk
  simp only [bV, eU] at hx ⊢
  split at hx
  ·rename_i hb; rw [hb]; exact ih _ hx hk
  ·simp at hx
 | program k ih => intro M x K Kp hx hk; exact ih P hx hk
 | mark m k ih => intro M x K Kp hx hk; exact ih hx hk
 | store m a v k ih => intro M x K Kp hx; simp [bV] at hx
 | new o k ih => intro M x K Kp hx; simp [bV] at hx
 | freeze a n k ih => intro M x K Kp hx; simp [bV] at hx
 | getObj r k ih => intro M x K Kp hx; simp [bV] at hx
 | setObj r o k ih => intro M x K Kp hx; simp [bV] at hx
 | choose q k ih => intro M x K Kp hx; simp [bV] at hx
 | sys c k ih => intro M x K Kp hx; simp [bV] at hx
 | halt y => intro M x K Kp hx; simp [bV] at hx
def aM (e : Bool) (X Y : Prop) : Prop := match e with | true => X | false => Y
def bG (o : Option Value) (k : IntKind) (K : Int → Prop) : Prop := match o with | some (.int k' n) => if k' = k then K n else False | _ => False
def dF (o : Option Value) (K : Bool → Prop) : Prop := match o with | some (.bool b) => K b | _ => False
def ff (o : Option Value) (K : ByteArray → Prop) : Prop := match o with | some (.string b) => K b | _ => False
def dP (o : Option Value) (K : Option Addr → Prop) : Prop := match o with | some (.pointer p) => K p | _ => False
def aF (o : Option Value) (K : Option Addr → Nat → Nat → Prop) : Prop := match o with | some (.slice A n c) => K A n c | _ => False
def fa (o : Option Value) (K : Value → Prop) : Prop := match o with | some v => K v | none => False
def zm (o : Option (List Value)) (K : List Value → Prop) : Prop := match o with | some v => K v | none => False
def aE (p : Option Addr) (K : Nat → Nat → Prop) : Prop := match p with | some ⟨b, o, none⟩ => K b o | _ => False
def DZ (v : Value) (X : Prop) : Prop := match v with | .agg _ => False | .tuple _ => False | _ => X
inductive D1 where
 | int (k : IntKind) | bool | str | ptr | sl | val
def csh : TypeDesc → D1
 | .bool => .bool
 | .int k => .int k
 | .string => .str
 | .pointer _ => .ptr
 | .slice _ => .sl
 | _ => .val
def flat (P : Program) : Nat → TypeId → List D1
 | 0, _ => []
 | n + 1, t => match P.underlying t with
  | some (.struct fs) => fs.toList.flatMap fun f => flat P n f.type
  | some (.array m e) => (List.replicate m (flat P n e)).flatten
  | some d => [csh d]
  | none => []
def HE (c : D1) (o : Option Value) (K : Value → Prop) : Prop :=
 match c with
 | .int k => bG o k fun n => K (.int k n)
 | .bool => dF o fun b => K (.bool b)
 | .str => ff o fun s => K (.string s)
 | .ptr => dP o fun p => K (.pointer p)
 | .sl => aF o fun A n c => K (.slice A n c)
 | .val => fa o K
def KD : List D1 → List Value → (List Value → Prop) → Prop
 | [], [], K => K []
 | c :: cs, v :: vs, K => HE c (some v) fun v' => KD cs vs fun vs' => K (v' :: vs')
 | _, _, _ => False
def KE (M : Mem) (a : Addr) : List D1 → Nat → (List Value → Prop) → Prop
 | [], _, K => K []
 | c :: cs, i, K => HE c (M.ld (a.add i)) fun v => KE M a cs (i + 1) fun vs => K (v :: vs)
def Mem.fX (M : Mem) (a : Addr) : Nat → Nat → Option (List Value)
 | _, 0 => some []
 | i, n + 1 => match M.ld (a.add i) with
  | some v => (M.fX a (i + 1) n).map (v :: ·)
  | none => none
theorem qQ {c : D1} {o : Option Value} {K : Value → Prop} (h : HE c o K) : ∃ v, o = some v ∧ K v := by
 cases c <;> simp only [HE] at h
 case int k =>
  unfold bG at h; split at h
  ·split at h
   ·rename_i n hk; subst hk; exact ⟨_, rfl, h⟩
   ·exact h.elim
  ·exact h.elim
 case bool => unfold dF at h; split at h <;> first | exact ⟨_, rfl, h⟩ | exact h.elim
 case str => unfold ff at h; split at h <;> first | exact ⟨_, rfl, h⟩ | exact h.elim
 case ptr => unfold dP at h; split at h <;> first | exact ⟨_, rfl, h⟩ | exact h.elim
 case sl => unfold aF at h; split at h <;> first | exact ⟨_, rfl, h⟩ | exact h.elim
 case val => unfold fa at h; split at h <;> first | exact ⟨_, rfl, h⟩ | exact h.elim
theorem kx {p : Option Addr} {K : Nat → Nat → Prop} (h : aE p K) : ∃ b o, p = some ⟨b, o, none⟩ ∧ K b o := by
 unfold aE at h
 split at h
 ·exact ⟨_, _, rfl, h⟩
 ·exact h.elim
theorem AX {v : Value} {X : Prop} (h : DZ v X) : Value.plainCell v = true ∧ v.cells = #[v] ∧ X := by
 cases v <;> first | exact h.elim | exact ⟨rfl, rfl, h⟩
theorem aP {P : Program} {t : TypeId} {d : TypeDesc} (h : P.underlying t = some d) (M : Mem) : bV P (underlying t) M = some d := by
 show bV P (Sem.bind program _) M = _
 simp only [eN, program, bV, Option.bind_some, h]; rfl
theorem cZ {P : Program} {t : TypeId} {i : TypeInfo} (h : P.info? t = some i) (M : Mem) : bV P (typeInfo t) M = some i := by
 show bV P (Sem.bind program _) M = _
 simp only [eN, program, bV, Option.bind_some, h]; rfl
theorem info_of_underlying {P : Program} {t : TypeId} {d : TypeDesc} (h : P.underlying t = some d) : ∃ i, P.info? t = some i := by
 unfold Program.underlying at h
 cases hi : P.info? t with
 | none => simp [hi] at h
 | some i => exact ⟨i, rfl⟩
theorem D2 {P : Program} {t : TypeId} {d : TypeDesc} (h : P.underlying t = some d) (M : Mem) : bV P (sizeOf t) M = some (P.cellsOf t) := by
 obtain ⟨i, hi⟩ := info_of_underlying h
 show bV P (Sem.bind (typeInfo t) _) M = _
 rw [eN, cZ hi]
 simp [Program.cellsOf, hi, bV, pure]
theorem bN (P : Program) {α : Type} (a : α) (M : Mem) : bV P (pure a : Sem α) M = some a := rfl
def ye : TypeDesc → Bool
 | .struct _ => true
 | .array _ _ => true
 | _ => false
theorem mo {P : Program} {t : TypeId} {d : TypeDesc} (h : P.underlying t = some d) (M : Mem) :
  bV P (isAgg t) M = some (ye d) := by
 show bV P (Sem.bind (underlying t) _) M = _
 rw [eN, aP h]
 cases d <;> rfl
theorem oY {P : Program} {M : Mem} {a : Addr} : ∀ (n i : Nat) (acc : Array Value) (vs : List Value), M.fX a i n = some vs →
  bV P (loadCellsFrom a i n acc) M = some (acc ++ vs.toArray)
 | 0, i, acc, vs, h => by
  simp only [Mem.fX, Option.some.injEq] at h; subst h
  simp [loadCellsFrom, bV, pure]
 | n + 1, i, acc, vs, h => by
  simp only [Mem.fX] at h
  cases hv : M.ld (a.add i) with
  | none => simp [hv] at h
  | some v =>
   simp only [hv] at h
   cases hr : M.fX a (i + 1) n with
   | none => simp [hr] at h
   | some rest =>
    simp only [hr, Option.map_some, Option.some.injEq] at h
    subst h
    show bV P (Sem.bind (load (a.add i)) _) M = _
    rw [eN]
    simp only [load, bV, hv, Option.bind_some]
    rw [oY n (i + 1) (acc.push v) rest hr]
    simp
theorem yf {M : Mem} {a : Addr} : ∀ {cs : List D1} {i : Nat} {K : List Value → Prop}, KE M a cs i K → ∃ vs, M.fX a i cs.length = some vs ∧ K vs
 | [], i, K, h => ⟨[], rfl, h⟩
 | c :: cs, i, K, h => by
  simp only [KE] at h
  obtain ⟨v, hv, h⟩ := qQ h
  obtain ⟨vs, hvs, h⟩ := yf h
  exact ⟨v :: vs, by simp [Mem.fX, hv, hvs], h⟩
def N4 (P : Program) (t : TypeId) (x : Value) (M : Mem) (K : Value → Prop) : Prop :=
 match x with
 | .pointer p => aE p fun b o =>
  match P.underlying t with
  | some (.struct _) | some (.array _ _) =>
   if (flat P 8 t).length = P.cellsOf t then
    (if P.cellsOf t ≤ 12 then KE M ⟨b, o, none⟩ (flat P 8 t) 0 fun vs => K (.agg vs.toArray) else zm (M.fX ⟨b, o, none⟩ 0 (P.cellsOf t)) fun vs => K (.agg vs.toArray))
   else False
  | some d => HE (csh d) (M.ld ⟨b, o, none⟩) K
  | none => False
 | _ => False
def aggL (P : Program) (t : TypeId) (M : Mem) (b o : Nat) (K : Value → Prop) : Prop :=
 if (flat P 8 t).length = P.cellsOf t then
  (if P.cellsOf t ≤ 12 then KE M ⟨b, o, none⟩ (flat P 8 t) 0 fun vs => K (.agg vs.toArray) else zm (M.fX ⟨b, o, none⟩ 0 (P.cellsOf t)) fun vs => K (.agg vs.toArray))
 else False
theorem qR {P : Program} {t : TypeId} {d : TypeDesc} {M : Mem} {b o m : Nat} {vs : List Value} (hd : P.underlying t = some d) (fk : ye d = true) (hm : P.cellsOf t = m)
  (hl : M.fX ⟨b, o, none⟩ 0 m = some vs) : bV P (Instr.loadAt t (.pointer (some ⟨b, o, none⟩))) M = some (.agg vs.toArray) := by
 show bV P (Sem.bind (Instr.sureAddr _) _) M = _
 rw [eN]
 simp only [Instr.sureAddr, bN, Option.bind_some]
 show bV P (Sem.bind (isAgg t) _) M = _
 rw [eN, mo hd]
 simp only [Option.bind_some, fk, if_true]
 show bV P (Sem.bind (sizeOf t) _) M = _
 rw [eN, D2 hd]
 simp only [Option.bind_some]
 show bV P (Sem.bind (loadCells _ _) _) M = _
 rw [eN]
 unfold loadCells
 rw [hm, oY m 0 #[] vs hl]
 simp only [Option.bind_some, Array.empty_append]
 rfl
theorem qS {P : Program} {t : TypeId} {d : TypeDesc} {M : Mem} {b o : Nat} {v : Value} (hd : P.underlying t = some d) (fk : ye d = false)
  (hl : M.ld ⟨b, o, none⟩ = some v) : bV P (Instr.loadAt t (.pointer (some ⟨b, o, none⟩))) M = some v := by
 show bV P (Sem.bind (Instr.sureAddr _) _) M = _
 rw [eN]
 simp only [Instr.sureAddr, bN, Option.bind_some]
 show bV P (Sem.bind (isAgg t) _) M = _
 rw [eN, mo hd]
 simp only [Option.bind_some, fk, Bool.false_eq_true, if_false]
 show bV P (load _) M = _
 unfold load
 simp only [bV, hl]
theorem AY {P : Program} {t : TypeId} {x : Value} {M : Mem} {K : Value → Prop} (h : N4 P t x M K) :
  ∃ v, bV P (Instr.loadAt t x) M = some v ∧ K v := by
 unfold N4 at h
 cases x <;> try exact h.elim
 rename_i p
 obtain ⟨b, o, hp, h2⟩ := kx h
 subst hp
 clear h
 cases hd : P.underlying t with
 | none => rw [hd] at h2; exact h2.elim
 | some d =>
  rw [hd] at h2
  have agg : ye d = true → aggL P t M b o K → ∃ v, bV P (Instr.loadAt t (.pointer (some ⟨b, o, none⟩))) M = some v ∧ K v := by
   intro fk h
   unfold aggL at h
   split at h
   ·rename_i hl
    split at h
    ·obtain ⟨vs, hvs, h⟩ := yf h
     exact ⟨_, qR hd fk hl.symm hvs, h⟩
    ·unfold zm at h
     split at h
     ·rename_i vs hvs; exact ⟨_, qR hd fk rfl hvs, h⟩
     ·exact h.elim
   ·exact h.elim
  cases d with
  | struct fs => exact agg rfl h2
  | array m e => exact agg rfl h2
  | _ => (obtain ⟨v, hv, h⟩ := qQ h2; exact ⟨v, qS hd rfl hv, h⟩)
def b7 (M : Mem) (a : Addr) (v : Value) (K : Mem → Prop) : Prop := M.wr a = true ∧ K (M.put a v)
def aO (M : Mem) (o : Obj) (K : Nat → Mem → Prop) : Prop := ∀ b, M b = none → K b (M.set b o)
def HF (M : Mem) (a : Addr) : List Value → Nat → (Mem → Prop) → Prop
 | [], _, K => K M
 | v :: vs, i, K => DZ v (b7 M (a.add i) v fun M' => HF M' a vs (i + 1) K)
def C9 : List Value → Nat → List Value → List Value
 | cs, _, [] => cs
 | cs, o, v :: vs => C9 (cs.set o v) (o + 1) vs
def Mem.Fi (M : Mem) (b o : Nat) (vs : List Value) : Mem := fun i => if i = b then (M i).map (fun x => match x with
 | .cells c e f => .cells (C9 c.toList o vs).toArray e f
 | x => x) else M i
def dO (M : Mem) (b o : Nat) (vs : List Value) (n : Nat) (K : Mem → Prop) : Prop :=
 vs.length = n ∧ (∀ v ∈ vs, Value.plainCell v = true) ∧ (∃ c T, M b = some (.cells c T (0, 0)) ∧ o + n ≤ c.size) ∧ K (M.Fi b o vs)
def RN (P : Program) (t : TypeId) (v : Value) (M : Mem) (b o : Nat) (K : Mem → Prop) : Prop :=
 match v with
 | .agg cs => if P.cellsOf t ≤ 12 then (if cs.size = P.cellsOf t then HF M ⟨b, o, none⟩ cs.toList 0 K else False) else dO M b o cs.toList (P.cellsOf t) K
 | _ => False
def KF (P : Program) (t : TypeId) (x v : Value) (M : Mem) (K : Mem → Prop) : Prop :=
 match x with
 | .pointer p => aE p fun b o =>
  match P.underlying t with
  | some (.struct _) | some (.array _ _) => RN P t v M b o K
  | some _ => if P.cellsOf t = 1 then DZ v (b7 M ⟨b, o, none⟩ v K) else False
  | none => False
 | _ => False
theorem qT {P : Program} {α β : Type} {s : Sem α} {f : α → Sem β} {M : Mem} {x : α} {K : β → Mem → Prop} {Kp : Value → Mem → Prop}
  (h : bV P s M = some x) (hk : eU P (f x) M K Kp) : eU P (s.bind f) M K Kp := gW P s f (jd P s h hk)
theorem D5 {P : Program} {a : Addr} {Kp : Value → Mem → Prop} : ∀ {vs : List Value} {i : Nat} {M : Mem} {K : Mem → Prop}, HF M a vs i K →
  eU P (storeCells a vs i) M (fun _ M' => K M') Kp
 | [], i, M, K, h => h
 | v :: vs, i, M, K, h => by
  simp only [HF] at h
  obtain ⟨hp, _, hw, h⟩ := AX h
  unfold storeCells
  refine gW P _ _ ?_
  exact ⟨hp, hw, D5 h⟩
theorem O7 {M : Mem} {b o T : Nat} {c : Array Value} {v : Value} {vs : List Value} (hb : M b = some (.cells c T (0, 0))) :
  (M.put ⟨b, o, none⟩ v).Fi b (o + 1) vs = M.Fi b o (v :: vs) := by
 funext i
 unfold Mem.Fi Mem.put
 by_cases hi : i = b
 ·subst hi; simp [hb, Obj.Ay, C9]
 ·simp [hi]
theorem RO {b T : Nat} {K : Mem → Prop} : ∀ {vs : List Value} {o i : Nat} {M : Mem} {c : Array Value}, M b = some (.cells c T (0, 0)) → o + i + vs.length ≤ c.size → (∀ v ∈ vs, Value.plainCell v = true) →
  K (M.Fi b (o + i) vs) → HF M ⟨b, o, none⟩ vs i K
 | [], o, i, M, c, hb, hs, hp, h => by
  have : M.Fi b (o + i) [] = M := by
   funext k; unfold Mem.Fi; split
   ·rename_i hk; subst hk; simp [hb, C9]
   ·rfl
  rw [this] at h; exact h
 | v :: vs, o, i, M, c, hb, hs, hp, h => by
  simp only [List.length_cons] at hs
  have hpv := hp v (List.mem_cons_self ..)
  have ea : (⟨b, o, none⟩ : Addr).add i = ⟨b, o + i, none⟩ := by unfold Addr.add; split <;> simp_all
  have hw : M.wr ⟨b, o + i, none⟩ = true := by simp [Mem.wr, hb]; omega
  have hb' : (M.put ⟨b, o + i, none⟩ v) b = some (.cells (c.setIfInBounds (o + i) v) T (0, 0)) := by unfold Mem.put; simp [hb, Obj.Ay]
  have rest := RO (vs := vs) (o := o) (i := i + 1) (M := M.put ⟨b, o + i, none⟩ v) (K := K) hb' (by simp; omega) (fun u hu => hp u (List.mem_cons_of_mem _ hu)) (by
   rw [show o + (i + 1) = o + i + 1 from rfl, O7 hb]; exact h)
  unfold HF
  rw [ea]
  cases v <;> first | (simp [Value.plainCell] at hpv; done) | exact ⟨hw, rest⟩
theorem HG {P : Program} {t : TypeId} {x v : Value} {M : Mem} {K : Mem → Prop} {Kp : Value → Mem → Prop} (h : KF P t x v M K) :
  eU P (Instr.storeAt t x v) M (fun _ M' => K M') Kp := by
 unfold KF at h
 cases x <;> try exact h.elim
 rename_i p
 obtain ⟨b, o, hp, h2⟩ := kx h
 subst hp
 clear h
 cases hd : P.underlying t with
 | none => rw [hd] at h2; exact h2.elim
 | some d =>
  rw [hd] at h2
  have key : ∀ cs : List Value, v.cells.toList = cs → cs.length = P.cellsOf t → HF M ⟨b, o, none⟩ cs 0 K →
    eU P (Instr.storeAt t (.pointer (some ⟨b, o, none⟩)) v) M (fun _ M' => K M') Kp := by
   intro cs hcs hl hs
   refine qT (x := ⟨b, o, none⟩) rfl ?_
   unfold storeVar
   refine qT (D2 hd M) ?_
   have hn : ¬ (v.cells.size ≠ P.cellsOf t) := by simp [← hl, ← hcs]
   simp only [hn, if_false]
   rw [hcs]
   exact D5 hs
  have one : (if P.cellsOf t = 1 then DZ v (b7 M ⟨b, o, none⟩ v K) else False) →
    eU P (Instr.storeAt t (.pointer (some ⟨b, o, none⟩)) v) M (fun _ M' => K M') Kp := by
   intro h
   split at h
   ·rename_i h1
    obtain ⟨hp, hc, hw, hk⟩ := AX h
    refine key [v] (by simp [hc]) (by simp [h1]) ?_
    unfold HF
    cases v <;> first | (simp [Value.plainCell] at hp; done) | exact ⟨hw, hk⟩
   ·exact h.elim
  have agg : RN P t v M b o K → eU P (Instr.storeAt t (.pointer (some ⟨b, o, none⟩)) v) M (fun _ M' => K M') Kp := by
   intro h
   unfold RN at h
   cases v <;> try exact h.elim
   rename_i cs
   simp only at h
   split at h
   ·split at h
    ·rename_i hl; exact key cs.toList rfl (by simpa using hl) h
    ·exact h.elim
   ·obtain ⟨hl, hp, ⟨c, T, hb, ho⟩, hk⟩ := h
    refine key cs.toList rfl hl (RO hb (by rw [hl]; omega) hp ?_)
    exact hk
  cases d with
  | struct fs => exact agg h2
  | array m e => exact agg h2
  | _ => exact one h2
end Go.AF
