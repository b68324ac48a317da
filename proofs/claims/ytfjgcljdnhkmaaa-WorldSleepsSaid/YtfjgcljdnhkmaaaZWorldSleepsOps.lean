/- A part of proofs about one program. -/
import Derived.Test.YtfjgcljdnhkmaaaZWorldSleepsBase
set_option linter.unusedVariables false
namespace Go.AF
def aV (P : Program) {α : Type} : Sem α → Mem → Option α
 | .pure a, _ => some a
 | .load _ a k, M => match M.ld a with
  | some v => aV P (k v) M
  | none => none
 | .shape r k, M => match M r with
  | some (.cells c elem _) => aV P (k (some (elem, c.size))) M
  | _ => none
 | .frozen a k, M => match M a.block with
  | some (.cells _ _ f) => aV P (k (decide (f.1 ≤ a.off) && decide (a.off < f.2))) M
  | _ => none
 | .program k, M => aV P (k P) M
 | .mark _ k, M => aV P k M
 | .store .., _ | .new .., _ | .freeze .., _ | .getObj .., _ | .setObj .., _ | .choose .., _ | .sys .., _ | .halt _, _ => none
theorem bZ (P : Program) {α β : Type} (s : Sem α) (f : α → Sem β) (M : Mem) : aV P (s.bind f) M = (aV P s M).bind fun a => aV P (f a) M := by
 induction s with
 | pure a => rfl
 | load m a k ih =>
  simp only [Sem.bind, aV]
  cases M.ld a with
  | none => rfl
  | some v => exact ih v
 | shape r k ih =>
  simp only [Sem.bind, aV]
  split
  ·exact ih _
  ·rfl
 | frozen a k ih =>
  simp only [Sem.bind, aV]
  split
  ·exact ih _
  ·rfl
 | program k ih => exact ih P
 | mark m k ih => exact ih
 | store m a v k ih => rfl
 | new o k ih => rfl
 | freeze a n k ih => rfl
 | getObj r k ih => rfl
 | setObj r o k ih => rfl
 | choose q k ih => rfl
 | sys c k ih => rfl
 | halt x => rfl
def Mem.le (M M' : Mem) : Prop := ∀ b o, M b = some o → M' b = some o
theorem Mem.Am {M M' : Mem} (h : M.le M') {a : Addr} {v : Value} (hv : M.ld a = some v) : M'.ld a = some v := by
 unfold Mem.ld at *
 cases hb : M a.block with
 | none => simp [hb] at hv
 | some o => rw [h _ _ hb]; rw [hb] at hv; exact hv
theorem jP (P : Program) {α : Type} (s : Sem α) : ∀ {M M' : Mem} {x : α}, M.le M' → aV P s M = some x → aV P s M' = some x := by
 induction s with
 | pure a => intro M M' x h hx; exact hx
 | load m a k ih =>
  intro M M' x h hx
  simp only [aV] at hx ⊢
  cases hv : M.ld a with
  | none => simp [hv] at hx
  | some v => rw [Mem.Am h hv]; rw [hv] at hx; exact ih v h hx
 | shape r k ih =>
  intro M M' x h hx
  simp only [aV] at hx ⊢
  cases hb : M r with
  | none => simp [hb] at hx
  | some o => rw [h _ _ hb]; rw [hb] at hx; cases o <;> first | exact ih _ h hx | (simp at hx; done)
 | frozen a k ih =>
  intro M M' x h hx
  simp only [aV] at hx ⊢
  cases hb : M a.block with
  | none => simp [hb] at hx
  | some o => rw [h _ _ hb]; rw [hb] at hx; cases o <;> first | exact ih _ h hx | (simp at hx; done)
 | program k ih => intro M M' x h hx; exact ih P h hx
 | mark m k ih => intro M M' x h hx; exact ih h hx
 | store m a v k ih => intro M M' x h hx; simp [aV] at hx
 | new o k ih => intro M M' x h hx; simp [aV] at hx
 | freeze a n k ih => intro M M' x h hx; simp [aV] at hx
 | getObj r k ih => intro M M' x h hx; simp [aV] at hx
 | setObj r o k ih => intro M M' x h hx; simp [aV] at hx
 | choose q k ih => intro M M' x h hx; simp [aV] at hx
 | sys c k ih => intro M M' x h hx; simp [aV] at hx
 | halt y => intro M M' x h hx; simp [aV] at hx
theorem ez (P : Program) {α : Type} (s : Sem α) : ∀ {M : Mem} {x : α} {K : α → Mem → Prop} {Kp : Value → Mem → Prop}, aV P s M = some x → K x M → cj P s M K Kp := by
 induction s with
 | pure a => intro M x K Kp hx hk; simp only [aV, Option.some.injEq] at hx; subst hx; exact hk
 | load m a k ih =>
  intro M x K Kp hx hk
  simp only [aV, cj] at hx ⊢
  split at hx
  ·rename_i v hv; rw [hv]; exact ih v hx hk
  ·simp at hx
 | shape r k ih =>
  intro M x K Kp hx hk
  simp only [aV, cj] at hx ⊢
  split at hx
  ·rename_i hb; rw [hb]; exact ih _ hx hk
  ·simp at hx
 | frozen a k ih =>
  intro M x K Kp hx hk
  simp only [aV, cj] at hx ⊢
  split at hx
  ·rename_i hb; rw [hb]; exact ih _ hx hk
  ·simp at hx
 | program k ih => intro M x K Kp hx hk; exact ih P hx hk
 | mark m k ih => intro M x K Kp hx hk; exact ih hx hk
 | store m a v k ih => intro M x K Kp hx; simp [aV] at hx
 | new o k ih => intro M x K Kp hx; simp [aV] at hx
 | freeze a n k ih => intro M x K Kp hx; simp [aV] at hx
 | getObj r k ih => intro M x K Kp hx; simp [aV] at hx
 | setObj r o k ih => intro M x K Kp hx; simp [aV] at hx
 | choose q k ih => intro M x K Kp hx; simp [aV] at hx
 | sys c k ih => intro M x K Kp hx; simp [aV] at hx
 | halt y => intro M x K Kp hx; simp [aV] at hx
def aX (e : Bool) (X Y : Prop) : Prop := match e with | true => X | false => Y
def bG (o : Option Value) (k : IntKind) (K : Int → Prop) : Prop := match o with | some (.int k' n) => if k' = k then K n else False | _ => False
def dz (o : Option Value) (K : Bool → Prop) : Prop := match o with | some (.bool b) => K b | _ => False
def fN (o : Option Value) (K : ByteArray → Prop) : Prop := match o with | some (.string b) => K b | _ => False
def dU (o : Option Value) (K : Option Addr → Prop) : Prop := match o with | some (.pointer p) => K p | _ => False
def aE (o : Option Value) (K : Option Addr → Nat → Nat → Prop) : Prop := match o with | some (.slice A n c) => K A n c | _ => False
def fL (o : Option Value) (K : Value → Prop) : Prop := match o with | some v => K v | none => False
def IZ (o : Option (List Value)) (K : List Value → Prop) : Prop := match o with | some v => K v | none => False
def aB (p : Option Addr) (K : Nat → Nat → Prop) : Prop := match p with | some ⟨b, o, none⟩ => K b o | _ => False
def sB (v : Value) (X : Prop) : Prop := match v with | .agg _ => False | .tuple _ => False | _ => X
inductive sC where
 | int (k : IntKind) | bool | str | ptr | sl | val
def F9 : TypeDesc → sC
 | .bool => .bool
 | .int k => .int k
 | .string => .str
 | .pointer _ => .ptr
 | .slice _ => .sl
 | _ => .val
def flat (P : Program) : Nat → TypeId → List sC
 | 0, _ => []
 | n + 1, t => match P.underlying t with
  | some (.struct fs) => fs.toList.flatMap fun f => flat P n f.type
  | some (.array m e) => (List.replicate m (flat P n e)).flatten
  | some d => [F9 d]
  | none => []
def uR (c : sC) (o : Option Value) (K : Value → Prop) : Prop :=
 match c with
 | .int k => bG o k fun n => K (.int k n)
 | .bool => dz o fun b => K (.bool b)
 | .str => fN o fun s => K (.string s)
 | .ptr => dU o fun p => K (.pointer p)
 | .sl => aE o fun A n c => K (.slice A n c)
 | .val => fL o K
def wK : List sC → List Value → (List Value → Prop) → Prop
 | [], [], K => K []
 | c :: cs, v :: vs, K => uR c (some v) fun v' => wK cs vs fun vs' => K (v' :: vs')
 | _, _, _ => False
def wL (M : Mem) (a : Addr) : List sC → Nat → (List Value → Prop) → Prop
 | [], _, K => K []
 | c :: cs, i, K => uR c (M.ld (a.add i)) fun v => wL M a cs (i + 1) fun vs => K (v :: vs)
def Mem.gr (M : Mem) (a : Addr) : Nat → Nat → Option (List Value)
 | _, 0 => some []
 | i, n + 1 => match M.ld (a.add i) with
  | some v => (M.gr a (i + 1) n).map (v :: ·)
  | none => none
theorem jQ {c : sC} {o : Option Value} {K : Value → Prop} (h : uR c o K) : ∃ v, o = some v ∧ K v := by
 cases c <;> simp only [uR] at h
 case int k =>
  unfold bG at h; split at h
  ·split at h
   ·rename_i n hk; subst hk; exact ⟨_, rfl, h⟩
   ·exact h.elim
  ·exact h.elim
 case bool => unfold dz at h; split at h <;> first | exact ⟨_, rfl, h⟩ | exact h.elim
 case str => unfold fN at h; split at h <;> first | exact ⟨_, rfl, h⟩ | exact h.elim
 case ptr => unfold dU at h; split at h <;> first | exact ⟨_, rfl, h⟩ | exact h.elim
 case sl => unfold aE at h; split at h <;> first | exact ⟨_, rfl, h⟩ | exact h.elim
 case val => unfold fL at h; split at h <;> first | exact ⟨_, rfl, h⟩ | exact h.elim
theorem fx {p : Option Addr} {K : Nat → Nat → Prop} (h : aB p K) : ∃ b o, p = some ⟨b, o, none⟩ ∧ K b o := by
 unfold aB at h
 split at h
 ·exact ⟨_, _, rfl, h⟩
 ·exact h.elim
theorem qn {v : Value} {X : Prop} (h : sB v X) : Value.plainCell v = true ∧ v.cells = #[v] ∧ X := by
 cases v <;> first | exact h.elim | exact ⟨rfl, rfl, h⟩
theorem ax {P : Program} {t : TypeId} {d : TypeDesc} (h : P.underlying t = some d) (M : Mem) : aV P (underlying t) M = some d := by
 show aV P (Sem.bind program _) M = _
 simp only [bZ, program, aV, Option.bind_some, h]; rfl
theorem bE {P : Program} {t : TypeId} {i : TypeInfo} (h : P.info? t = some i) (M : Mem) : aV P (typeInfo t) M = some i := by
 show aV P (Sem.bind program _) M = _
 simp only [bZ, program, aV, Option.bind_some, h]; rfl
theorem info_of_underlying {P : Program} {t : TypeId} {d : TypeDesc} (h : P.underlying t = some d) : ∃ i, P.info? t = some i := by
 unfold Program.underlying at h
 cases hi : P.info? t with
 | none => simp [hi] at h
 | some i => exact ⟨i, rfl⟩
theorem sD {P : Program} {t : TypeId} {d : TypeDesc} (h : P.underlying t = some d) (M : Mem) : aV P (sizeOf t) M = some (P.cellsOf t) := by
 obtain ⟨i, hi⟩ := info_of_underlying h
 show aV P (Sem.bind (typeInfo t) _) M = _
 rw [bZ, bE hi]
 simp [Program.cellsOf, hi, aV, pure]
theorem aT (P : Program) {α : Type} (a : α) (M : Mem) : aV P (pure a : Sem α) M = some a := rfl
def ot : TypeDesc → Bool
 | .struct _ => true
 | .array _ _ => true
 | _ => false
theorem gu {P : Program} {t : TypeId} {d : TypeDesc} (h : P.underlying t = some d) (M : Mem) :
  aV P (isAgg t) M = some (ot d) := by
 show aV P (Sem.bind (underlying t) _) M = _
 rw [bZ, ax h]
 cases d <;> rfl
theorem iM {P : Program} {M : Mem} {a : Addr} : ∀ (n i : Nat) (acc : Array Value) (vs : List Value), M.gr a i n = some vs →
  aV P (loadCellsFrom a i n acc) M = some (acc ++ vs.toArray)
 | 0, i, acc, vs, h => by
  simp only [Mem.gr, Option.some.injEq] at h; subst h
  simp [loadCellsFrom, aV, pure]
 | n + 1, i, acc, vs, h => by
  simp only [Mem.gr] at h
  cases hv : M.ld (a.add i) with
  | none => simp [hv] at h
  | some v =>
   simp only [hv] at h
   cases hr : M.gr a (i + 1) n with
   | none => simp [hr] at h
   | some rest =>
    simp only [hr, Option.map_some, Option.some.injEq] at h
    subst h
    show aV P (Sem.bind (load (a.add i)) _) M = _
    rw [bZ]
    simp only [load, aV, hv, Option.bind_some]
    rw [iM n (i + 1) (acc.push v) rest hr]
    simp
theorem ou {M : Mem} {a : Addr} : ∀ {cs : List sC} {i : Nat} {K : List Value → Prop}, wL M a cs i K → ∃ vs, M.gr a i cs.length = some vs ∧ K vs
 | [], i, K, h => ⟨[], rfl, h⟩
 | c :: cs, i, K, h => by
  simp only [wL] at h
  obtain ⟨v, hv, h⟩ := jQ h
  obtain ⟨vs, hvs, h⟩ := ou h
  exact ⟨v :: vs, by simp [Mem.gr, hv, hvs], h⟩
def yg (P : Program) (t : TypeId) (x : Value) (M : Mem) (K : Value → Prop) : Prop :=
 match x with
 | .pointer p => aB p fun b o =>
  match P.underlying t with
  | some (.struct _) | some (.array _ _) =>
   if (flat P 8 t).length = P.cellsOf t then
    (if P.cellsOf t ≤ 12 then wL M ⟨b, o, none⟩ (flat P 8 t) 0 fun vs => K (.agg vs.toArray) else IZ (M.gr ⟨b, o, none⟩ 0 (P.cellsOf t)) fun vs => K (.agg vs.toArray))
   else False
  | some d => uR (F9 d) (M.ld ⟨b, o, none⟩) K
  | none => False
 | _ => False
def GD (P : Program) (t : TypeId) (M : Mem) (b o : Nat) (K : Value → Prop) : Prop :=
 if (flat P 8 t).length = P.cellsOf t then
  (if P.cellsOf t ≤ 12 then wL M ⟨b, o, none⟩ (flat P 8 t) 0 fun vs => K (.agg vs.toArray) else IZ (M.gr ⟨b, o, none⟩ 0 (P.cellsOf t)) fun vs => K (.agg vs.toArray))
 else False
theorem jR {P : Program} {t : TypeId} {d : TypeDesc} {M : Mem} {b o m : Nat} {vs : List Value} (hd : P.underlying t = some d) (cW : ot d = true) (hm : P.cellsOf t = m)
  (hl : M.gr ⟨b, o, none⟩ 0 m = some vs) : aV P (Instr.loadAt t (.pointer (some ⟨b, o, none⟩))) M = some (.agg vs.toArray) := by
 show aV P (Sem.bind (Instr.sureAddr _) _) M = _
 rw [bZ]
 simp only [Instr.sureAddr, aT, Option.bind_some]
 show aV P (Sem.bind (isAgg t) _) M = _
 rw [bZ, gu hd]
 simp only [Option.bind_some, cW, if_true]
 show aV P (Sem.bind (sizeOf t) _) M = _
 rw [bZ, sD hd]
 simp only [Option.bind_some]
 show aV P (Sem.bind (loadCells _ _) _) M = _
 rw [bZ]
 unfold loadCells
 rw [hm, iM m 0 #[] vs hl]
 simp only [Option.bind_some, Array.empty_append]
 rfl
theorem oX {P : Program} {t : TypeId} {d : TypeDesc} {M : Mem} {b o : Nat} {v : Value} (hd : P.underlying t = some d) (cW : ot d = false)
  (hl : M.ld ⟨b, o, none⟩ = some v) : aV P (Instr.loadAt t (.pointer (some ⟨b, o, none⟩))) M = some v := by
 show aV P (Sem.bind (Instr.sureAddr _) _) M = _
 rw [bZ]
 simp only [Instr.sureAddr, aT, Option.bind_some]
 show aV P (Sem.bind (isAgg t) _) M = _
 rw [bZ, gu hd]
 simp only [Option.bind_some, cW, Bool.false_eq_true, if_false]
 show aV P (load _) M = _
 unfold load
 simp only [aV, hl]
theorem qo {P : Program} {t : TypeId} {x : Value} {M : Mem} {K : Value → Prop} (h : yg P t x M K) :
  ∃ v, aV P (Instr.loadAt t x) M = some v ∧ K v := by
 unfold yg at h
 cases x <;> try exact h.elim
 rename_i p
 obtain ⟨b, o, hp, h2⟩ := fx h
 subst hp
 clear h
 cases hd : P.underlying t with
 | none => rw [hd] at h2; exact h2.elim
 | some d =>
  rw [hd] at h2
  have agg : ot d = true → GD P t M b o K → ∃ v, aV P (Instr.loadAt t (.pointer (some ⟨b, o, none⟩))) M = some v ∧ K v := by
   intro cW h
   unfold GD at h
   split at h
   ·rename_i hl
    split at h
    ·obtain ⟨vs, hvs, h⟩ := ou h
     exact ⟨_, jR hd cW hl.symm hvs, h⟩
    ·unfold IZ at h
     split at h
     ·rename_i vs hvs; exact ⟨_, jR hd cW rfl hvs, h⟩
     ·exact h.elim
   ·exact h.elim
  cases d with
  | struct fs => exact agg rfl h2
  | array m e => exact agg rfl h2
  | _ => (obtain ⟨v, hv, h⟩ := jQ h2; exact ⟨v, oX hd rfl hv, h⟩)
def bW (M : Mem) (a : Addr) (v : Value) (K : Mem → Prop) : Prop := M.wr a = true ∧ K (M.put a v)
def bq (M : Mem) (o : Obj) (K : Nat → Mem → Prop) : Prop := ∀ b, M b = none → K b (M.set b o)
def uS (M : Mem) (a : Addr) : List Value → Nat → (Mem → Prop) → Prop
 | [], _, K => K M
 | v :: vs, i, K => sB v (bW M (a.add i) v fun M' => uS M' a vs (i + 1) K)
def CA : List Value → Nat → List Value → List Value
 | cs, _, [] => cs
 | cs, o, v :: vs => CA (cs.set o v) (o + 1) vs
def Mem.wM (M : Mem) (b o : Nat) (vs : List Value) : Mem := fun i => if i = b then (M i).map (fun x => match x with
 | .cells c e f => .cells (CA c.toList o vs).toArray e f
 | x => x) else M i
def MD (M : Mem) (b o : Nat) (vs : List Value) (n : Nat) (K : Mem → Prop) : Prop :=
 vs.length = n ∧ (∀ v ∈ vs, Value.plainCell v = true) ∧ (∃ c T, M b = some (.cells c T (0, 0)) ∧ o + n ≤ c.size) ∧ K (M.wM b o vs)
def An (P : Program) (t : TypeId) (v : Value) (M : Mem) (b o : Nat) (K : Mem → Prop) : Prop :=
 match v with
 | .agg cs => if P.cellsOf t ≤ 12 then (if cs.size = P.cellsOf t then uS M ⟨b, o, none⟩ cs.toList 0 K else False) else MD M b o cs.toList (P.cellsOf t) K
 | _ => False
def wN (P : Program) (t : TypeId) (x v : Value) (M : Mem) (K : Mem → Prop) : Prop :=
 match x with
 | .pointer p => aB p fun b o =>
  match P.underlying t with
  | some (.struct _) | some (.array _ _) => An P t v M b o K
  | some _ => if P.cellsOf t = 1 then sB v (bW M ⟨b, o, none⟩ v K) else False
  | none => False
 | _ => False
theorem jS {P : Program} {α β : Type} {s : Sem α} {f : α → Sem β} {M : Mem} {x : α} {K : β → Mem → Prop} {Kp : Value → Mem → Prop}
  (h : aV P s M = some x) (hk : cj P (f x) M K Kp) : cj P (s.bind f) M K Kp := dB P s f (ez P s h hk)
theorem sE {P : Program} {a : Addr} {Kp : Value → Mem → Prop} : ∀ {vs : List Value} {i : Nat} {M : Mem} {K : Mem → Prop}, uS M a vs i K →
  cj P (storeCells a vs i) M (fun _ M' => K M') Kp
 | [], i, M, K, h => h
 | v :: vs, i, M, K, h => by
  simp only [uS] at h
  obtain ⟨hp, _, hw, h⟩ := qn h
  unfold storeCells
  refine dB P _ _ ?_
  exact ⟨hp, hw, sE h⟩
theorem y6 {M : Mem} {b o T : Nat} {c : Array Value} {v : Value} {vs : List Value} (hb : M b = some (.cells c T (0, 0))) :
  (M.put ⟨b, o, none⟩ v).wM b (o + 1) vs = M.wM b o (v :: vs) := by
 funext i
 unfold Mem.wM Mem.put
 by_cases hi : i = b
 ·subst hi; simp [hb, Obj.pW, CA]
 ·simp [hi]
theorem Ao {b T : Nat} {K : Mem → Prop} : ∀ {vs : List Value} {o i : Nat} {M : Mem} {c : Array Value}, M b = some (.cells c T (0, 0)) → o + i + vs.length ≤ c.size → (∀ v ∈ vs, Value.plainCell v = true) →
  K (M.wM b (o + i) vs) → uS M ⟨b, o, none⟩ vs i K
 | [], o, i, M, c, hb, hs, hp, h => by
  have : M.wM b (o + i) [] = M := by
   funext k; unfold Mem.wM; split
   ·rename_i hk; subst hk; simp [hb, CA]
   ·rfl
  rw [this] at h; exact h
 | v :: vs, o, i, M, c, hb, hs, hp, h => by
  simp only [List.length_cons] at hs
  have NG := hp v (List.mem_cons_self ..)
  have ea : (⟨b, o, none⟩ : Addr).add i = ⟨b, o + i, none⟩ := by unfold Addr.add; split <;> simp_all
  have hw : M.wr ⟨b, o + i, none⟩ = true := by simp [Mem.wr, hb]; omega
  have hb' : (M.put ⟨b, o + i, none⟩ v) b = some (.cells (c.setIfInBounds (o + i) v) T (0, 0)) := by unfold Mem.put; simp [hb, Obj.pW]
  have rest := Ao (vs := vs) (o := o) (i := i + 1) (M := M.put ⟨b, o + i, none⟩ v) (K := K) hb' (by simp; omega) (fun u hu => hp u (List.mem_cons_of_mem _ hu)) (by
   rw [show o + (i + 1) = o + i + 1 from rfl, y6 hb]; exact h)
  unfold uS
  rw [ea]
  cases v <;> first | (simp [Value.plainCell] at NG; done) | exact ⟨hw, rest⟩
theorem uT {P : Program} {t : TypeId} {x v : Value} {M : Mem} {K : Mem → Prop} {Kp : Value → Mem → Prop} (h : wN P t x v M K) :
  cj P (Instr.storeAt t x v) M (fun _ M' => K M') Kp := by
 unfold wN at h
 cases x <;> try exact h.elim
 rename_i p
 obtain ⟨b, o, hp, h2⟩ := fx h
 subst hp
 clear h
 cases hd : P.underlying t with
 | none => rw [hd] at h2; exact h2.elim
 | some d =>
  rw [hd] at h2
  have key : ∀ cs : List Value, v.cells.toList = cs → cs.length = P.cellsOf t → uS M ⟨b, o, none⟩ cs 0 K →
    cj P (Instr.storeAt t (.pointer (some ⟨b, o, none⟩)) v) M (fun _ M' => K M') Kp := by
   intro cs hcs hl hs
   refine jS (x := ⟨b, o, none⟩) rfl ?_
   unfold storeVar
   refine jS (sD hd M) ?_
   have hn : ¬ (v.cells.size ≠ P.cellsOf t) := by simp [← hl, ← hcs]
   simp only [hn, if_false]
   rw [hcs]
   exact sE hs
  have one : (if P.cellsOf t = 1 then sB v (bW M ⟨b, o, none⟩ v K) else False) →
    cj P (Instr.storeAt t (.pointer (some ⟨b, o, none⟩)) v) M (fun _ M' => K M') Kp := by
   intro h
   split at h
   ·rename_i h1
    obtain ⟨hp, hc, hw, hk⟩ := qn h
    refine key [v] (by simp [hc]) (by simp [h1]) ?_
    unfold uS
    cases v <;> first | (simp [Value.plainCell] at hp; done) | exact ⟨hw, hk⟩
   ·exact h.elim
  have agg : An P t v M b o K → cj P (Instr.storeAt t (.pointer (some ⟨b, o, none⟩)) v) M (fun _ M' => K M') Kp := by
   intro h
   unfold An at h
   cases v <;> try exact h.elim
   rename_i cs
   simp only at h
   split at h
   ·split at h
    ·rename_i hl; exact key cs.toList rfl (by simpa using hl) h
    ·exact h.elim
   ·obtain ⟨hl, hp, ⟨c, T, hb, ho⟩, hk⟩ := h
    refine key cs.toList rfl hl (Ao hb (by rw [hl]; omega) hp ?_)
    exact hk
  cases d with
  | struct fs => exact agg h2
  | array m e => exact agg h2
  | _ => exact one h2
end Go.AF
