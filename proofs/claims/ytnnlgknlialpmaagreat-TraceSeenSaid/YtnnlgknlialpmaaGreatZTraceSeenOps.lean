/- A part of proofs about one program. -/
import Derived.Test.YtnnlgknlialpmaaGreatZTraceSeenBase
set_option linter.unusedVariables false
namespace Go.AF
def bR (P : Program) {α : Type} : Sem α → Mem → Option α
 | .pure a, _ => some a
 | .load _ a k, M => match M.ld a with
  | some v => bR P (k v) M
  | none => none
 | .shape r k, M => match M r with
  | some (.cells c elem _) => bR P (k (some (elem, c.size))) M
  | _ => none
 | .frozen a k, M => match M a.block with
  | some (.cells _ _ f) => bR P (k (decide (f.1 ≤ a.off) && decide (a.off < f.2))) M
  | _ => none
 | .program k, M => bR P (k P) M
 | .mark _ k, M => bR P k M
 | .store .., _ | .new .., _ | .freeze .., _ | .getObj .., _ | .setObj .., _ | .choose .., _ | .sys .., _ | .halt _, _ => none
theorem dL (P : Program) {α β : Type} (s : Sem α) (f : α → Sem β) (M : Mem) : bR P (s.bind f) M = (bR P s M).bind fun a => bR P (f a) M := by
 induction s with
 | pure a => rfl
 | load m a k ih =>
  simp only [Sem.bind, bR]
  cases M.ld a with
  | none => rfl
  | some v => exact ih v
 | shape r k ih =>
  simp only [Sem.bind, bR]
  split
  ·exact ih _
  ·rfl
 | frozen a k ih =>
  simp only [Sem.bind, bR]
  split
  ·exact ih _
  ·rfl
 | program k ih => exact ih P
 | mark m k ih => exact ih
 | store m a v k ih => rfl
 | new o k ih => rfl
 | freeze a n k ih => rfl
 | getObj r k ih => rfl
 | setObj r o k ih => rfl
 | choose q k ih => rfl
 | sys c k ih => rfl
 | halt x => rfl
def Mem.le (M M' : Mem) : Prop := ∀ b o, M b = some o → M' b = some o
theorem Mem.LD {M M' : Mem} (h : M.le M') {a : Addr} {v : Value} (hv : M.ld a = some v) : M'.ld a = some v := by
 unfold Mem.ld at *
 cases hb : M a.block with
 | none => simp [hb] at hv
 | some o => rw [h _ _ hb]; rw [hb] at hv; exact hv
theorem mL (P : Program) {α : Type} (s : Sem α) : ∀ {M M' : Mem} {x : α}, M.le M' → bR P s M = some x → bR P s M' = some x := by
 induction s with
 | pure a => intro M M' x h hx; exact hx
 | load m a k ih =>
  intro M M' x h hx
  simp only [bR] at hx ⊢
  cases hv : M.ld a with
  | none => simp [hv] at hx
  | some v => rw [Mem.LD h hv]; rw [hv] at hx; exact ih v h hx
 | shape r k ih =>
  intro M M' x h hx
  simp only [bR] at hx ⊢
  cases hb : M r with
  | none => simp [hb] at hx
  | some o => rw [h _ _ hb]; rw [hb] at hx; cases o <;> first | exact ih _ h hx | (simp at hx; done)
 | frozen a k ih =>
  intro M M' x h hx
  simp only [bR] at hx ⊢
  cases hb : M a.block with
  | none => simp [hb] at hx
  | some o => rw [h _ _ hb]; rw [hb] at hx; cases o <;> first | exact ih _ h hx | (simp at hx; done)
 | program k ih => intro M M' x h hx; exact ih P h hx
 | mark m k ih => intro M M' x h hx; exact ih h hx
 | store m a v k ih => intro M M' x h hx; simp [bR] at hx
 | new o k ih => intro M M' x h hx; simp [bR] at hx
 | freeze a n k ih => intro M M' x h hx; simp [bR] at hx
 | getObj r k ih => intro M M' x h hx; simp [bR] at hx
 | setObj r o k ih => intro M M' x h hx; simp [bR] at hx
 | choose q k ih => intro M M' x h hx; simp [bR] at hx
 | sys c k ih => intro M M' x h hx; simp [bR] at hx
 | halt y => intro M M' x h hx; simp [bR] at hx
theorem ie (P : Program) {α : Type} (s : Sem α) : ∀ {M : Mem} {x : α} {K : α → Mem → Prop} {Kp : Value → Mem → Prop}, bR P s M = some x → K x M → dV P s M K Kp := by
 induction s with
 | pure a => intro M x K Kp hx hk; simp only [bR, Option.some.injEq] at hx; subst hx; exact hk
 | load m a k ih =>
  intro M x K Kp hx hk
  simp only [bR, dV] at hx ⊢
  split at hx
  ·rename_i v hv; rw [hv]; exact ih v hx hk
  ·simp at hx
 | shape r k ih =>
  intro M x K Kp hx hk
  simp only [bR, dV] at hx ⊢
  split at hx
  ·rename_i hb; rw [hb]; exact ih _ hx hk
  ·simp at hx
 | frozen a k ih =>
  intro M x K Kp hx hk
  simp only [bR, dV] at hx ⊢
  split at hx
  ·rename_i hb; rw [hb]; exact ih _ hx hk
  ·simp at hx
 | program k ih => intro M x K Kp hx hk; exact ih P hx hk
 | mark m k ih => intro M x K Kp hx hk; exact ih hx hk
 | store m a v k ih => intro M x K Kp hx; simp [bR] at hx
 | new o k ih => intro M x K Kp hx; simp [bR] at hx
 | freeze a n k ih => intro M x K Kp hx; simp [bR] at hx
 | getObj r k ih => intro M x K Kp hx; simp [bR] at hx
 | setObj r o k ih => intro M x K Kp hx; simp [bR] at hx
 | choose q k ih => intro M x K Kp hx; simp [bR] at hx
 | sys c k ih => intro M x K Kp hx; simp [bR] at hx
 | halt y => intro M x K Kp hx; simp [bR] at hx
def aP (e : Bool) (X Y : Prop) : Prop := match e with | true => X | false => Y
def aI (o : Option Value) (k : IntKind) (K : Int → Prop) : Prop := match o with | some (.int k' n) => if k' = k then K n else False | _ => False
def c7 (o : Option Value) (K : Bool → Prop) : Prop := match o with | some (.bool b) => K b | _ => False
def fm (o : Option Value) (K : ByteArray → Prop) : Prop := match o with | some (.string b) => K b | _ => False
def cy (o : Option Value) (K : Option Addr → Prop) : Prop := match o with | some (.pointer p) => K p | _ => False
def aB (o : Option Value) (K : Option Addr → Nat → Nat → Prop) : Prop := match o with | some (.slice A n c) => K A n c | _ => False
def eN (o : Option Value) (K : Value → Prop) : Prop := match o with | some v => K v | none => False
def D0 (o : Option (List Value)) (K : List Value → Prop) : Prop := match o with | some v => K v | none => False
def aE (p : Option Addr) (K : Nat → Nat → Prop) : Prop := match p with | some ⟨b, o, none⟩ => K b o | _ => False
def yU (v : Value) (X : Prop) : Prop := match v with | .agg _ => False | .tuple _ => False | _ => X
inductive Bu where
 | int (k : IntKind) | bool | str | ptr | sl | val
def WJ : TypeDesc → Bu
 | .bool => .bool
 | .int k => .int k
 | .string => .str
 | .pointer _ => .ptr
 | .slice _ => .sl
 | _ => .val
def flat (P : Program) : Nat → TypeId → List Bu
 | 0, _ => []
 | n + 1, t => match P.underlying t with
  | some (.struct fs) => fs.toList.flatMap fun f => flat P n f.type
  | some (.array m e) => (List.replicate m (flat P n e)).flatten
  | some d => [WJ d]
  | none => []
def D1 (c : Bu) (o : Option Value) (K : Value → Prop) : Prop :=
 match c with
 | .int k => aI o k fun n => K (.int k n)
 | .bool => c7 o fun b => K (.bool b)
 | .str => fm o fun s => K (.string s)
 | .ptr => cy o fun p => K (.pointer p)
 | .sl => aB o fun A n c => K (.slice A n c)
 | .val => eN o K
def F9 : List Bu → List Value → (List Value → Prop) → Prop
 | [], [], K => K []
 | c :: cs, v :: vs, K => D1 c (some v) fun v' => F9 cs vs fun vs' => K (v' :: vs')
 | _, _, _ => False
def Ga (M : Mem) (a : Addr) : List Bu → Nat → (List Value → Prop) → Prop
 | [], _, K => K []
 | c :: cs, i, K => D1 c (M.ld (a.add i)) fun v => Ga M a cs (i + 1) fun vs => K (v :: vs)
def Mem.fK (M : Mem) (a : Addr) : Nat → Nat → Option (List Value)
 | _, 0 => some []
 | i, n + 1 => match M.ld (a.add i) with
  | some v => (M.fK a (i + 1) n).map (v :: ·)
  | none => none
theorem pn {c : Bu} {o : Option Value} {K : Value → Prop} (h : D1 c o K) : ∃ v, o = some v ∧ K v := by
 cases c <;> simp only [D1] at h
 case int k =>
  unfold aI at h; split at h
  ·split at h
   ·rename_i n hk; subst hk; exact ⟨_, rfl, h⟩
   ·exact h.elim
  ·exact h.elim
 case bool => unfold c7 at h; split at h <;> first | exact ⟨_, rfl, h⟩ | exact h.elim
 case str => unfold fm at h; split at h <;> first | exact ⟨_, rfl, h⟩ | exact h.elim
 case ptr => unfold cy at h; split at h <;> first | exact ⟨_, rfl, h⟩ | exact h.elim
 case sl => unfold aB at h; split at h <;> first | exact ⟨_, rfl, h⟩ | exact h.elim
 case val => unfold eN at h; split at h <;> first | exact ⟨_, rfl, h⟩ | exact h.elim
theorem jx {p : Option Addr} {K : Nat → Nat → Prop} (h : aE p K) : ∃ b o, p = some ⟨b, o, none⟩ ∧ K b o := by
 unfold aE at h
 split at h
 ·exact ⟨_, _, rfl, h⟩
 ·exact h.elim
theorem yV {v : Value} {X : Prop} (h : yU v X) : Value.plainCell v = true ∧ v.cells = #[v] ∧ X := by
 cases v <;> first | exact h.elim | exact ⟨rfl, rfl, h⟩
theorem aL {P : Program} {t : TypeId} {d : TypeDesc} (h : P.underlying t = some d) (M : Mem) : bR P (underlying t) M = some d := by
 show bR P (Sem.bind program _) M = _
 simp only [dL, program, bR, Option.bind_some, h]; rfl
theorem cE {P : Program} {t : TypeId} {i : TypeInfo} (h : P.info? t = some i) (M : Mem) : bR P (typeInfo t) M = some i := by
 show bR P (Sem.bind program _) M = _
 simp only [dL, program, bR, Option.bind_some, h]; rfl
theorem info_of_underlying {P : Program} {t : TypeId} {d : TypeDesc} (h : P.underlying t = some d) : ∃ i, P.info? t = some i := by
 unfold Program.underlying at h
 cases hi : P.info? t with
 | none => simp [hi] at h
 | some i => exact ⟨i, rfl⟩
theorem Bv {P : Program} {t : TypeId} {d : TypeDesc} (h : P.underlying t = some d) (M : Mem) : bR P (sizeOf t) M = some (P.cellsOf t) := by
 obtain ⟨i, hi⟩ := info_of_underlying h
 show bR P (Sem.bind (typeInfo t) _) M = _
 rw [dL, cE hi]
 simp [Program.cellsOf, hi, bR, pure]
theorem bI (P : Program) {α : Type} (a : α) (M : Mem) : bR P (pure a : Sem α) M = some a := rfl
def vP : TypeDesc → Bool
 | .struct _ => true
 | .array _ _ => true
 | _ => false
theorem kW {P : Program} {t : TypeId} {d : TypeDesc} (h : P.underlying t = some d) (M : Mem) :
  bR P (isAgg t) M = some (vP d) := by
 show bR P (Sem.bind (underlying t) _) M = _
 rw [dL, aL h]
 cases d <;> rfl
theorem ny {P : Program} {M : Mem} {a : Addr} : ∀ (n i : Nat) (acc : Array Value) (vs : List Value), M.fK a i n = some vs →
  bR P (loadCellsFrom a i n acc) M = some (acc ++ vs.toArray)
 | 0, i, acc, vs, h => by
  simp only [Mem.fK, Option.some.injEq] at h; subst h
  simp [loadCellsFrom, bR, pure]
 | n + 1, i, acc, vs, h => by
  simp only [Mem.fK] at h
  cases hv : M.ld (a.add i) with
  | none => simp [hv] at h
  | some v =>
   simp only [hv] at h
   cases hr : M.fK a (i + 1) n with
   | none => simp [hr] at h
   | some rest =>
    simp only [hr, Option.map_some, Option.some.injEq] at h
    subst h
    show bR P (Sem.bind (load (a.add i)) _) M = _
    rw [dL]
    simp only [load, bR, hv, Option.bind_some]
    rw [ny n (i + 1) (acc.push v) rest hr]
    simp
theorem vQ {M : Mem} {a : Addr} : ∀ {cs : List Bu} {i : Nat} {K : List Value → Prop}, Ga M a cs i K → ∃ vs, M.fK a i cs.length = some vs ∧ K vs
 | [], i, K, h => ⟨[], rfl, h⟩
 | c :: cs, i, K, h => by
  simp only [Ga] at h
  obtain ⟨v, hv, h⟩ := pn h
  obtain ⟨vs, hvs, h⟩ := vQ h
  exact ⟨v :: vs, by simp [Mem.fK, hv, hvs], h⟩
def Ij (P : Program) (t : TypeId) (x : Value) (M : Mem) (K : Value → Prop) : Prop :=
 match x with
 | .pointer p => aE p fun b o =>
  match P.underlying t with
  | some (.struct _) | some (.array _ _) =>
   if (flat P 8 t).length = P.cellsOf t then
    (if P.cellsOf t ≤ 12 then Ga M ⟨b, o, none⟩ (flat P 8 t) 0 fun vs => K (.agg vs.toArray) else D0 (M.fK ⟨b, o, none⟩ 0 (P.cellsOf t)) fun vs => K (.agg vs.toArray))
   else False
  | some d => D1 (WJ d) (M.ld ⟨b, o, none⟩) K
  | none => False
 | _ => False
def Xn (P : Program) (t : TypeId) (M : Mem) (b o : Nat) (K : Value → Prop) : Prop :=
 if (flat P 8 t).length = P.cellsOf t then
  (if P.cellsOf t ≤ 12 then Ga M ⟨b, o, none⟩ (flat P 8 t) 0 fun vs => K (.agg vs.toArray) else D0 (M.fK ⟨b, o, none⟩ 0 (P.cellsOf t)) fun vs => K (.agg vs.toArray))
 else False
theorem po {P : Program} {t : TypeId} {d : TypeDesc} {M : Mem} {b o m : Nat} {vs : List Value} (hd : P.underlying t = some d) (fy : vP d = true) (hm : P.cellsOf t = m)
  (hl : M.fK ⟨b, o, none⟩ 0 m = some vs) : bR P (Instr.loadAt t (.pointer (some ⟨b, o, none⟩))) M = some (.agg vs.toArray) := by
 show bR P (Sem.bind (Instr.sureAddr _) _) M = _
 rw [dL]
 simp only [Instr.sureAddr, bI, Option.bind_some]
 show bR P (Sem.bind (isAgg t) _) M = _
 rw [dL, kW hd]
 simp only [Option.bind_some, fy, if_true]
 show bR P (Sem.bind (sizeOf t) _) M = _
 rw [dL, Bv hd]
 simp only [Option.bind_some]
 show bR P (Sem.bind (loadCells _ _) _) M = _
 rw [dL]
 unfold loadCells
 rw [hm, ny m 0 #[] vs hl]
 simp only [Option.bind_some, Array.empty_append]
 rfl
theorem xl {P : Program} {t : TypeId} {d : TypeDesc} {M : Mem} {b o : Nat} {v : Value} (hd : P.underlying t = some d) (fy : vP d = false)
  (hl : M.ld ⟨b, o, none⟩ = some v) : bR P (Instr.loadAt t (.pointer (some ⟨b, o, none⟩))) M = some v := by
 show bR P (Sem.bind (Instr.sureAddr _) _) M = _
 rw [dL]
 simp only [Instr.sureAddr, bI, Option.bind_some]
 show bR P (Sem.bind (isAgg t) _) M = _
 rw [dL, kW hd]
 simp only [Option.bind_some, fy, Bool.false_eq_true, if_false]
 show bR P (load _) M = _
 unfold load
 simp only [bR, hl]
theorem yW {P : Program} {t : TypeId} {x : Value} {M : Mem} {K : Value → Prop} (h : Ij P t x M K) :
  ∃ v, bR P (Instr.loadAt t x) M = some v ∧ K v := by
 unfold Ij at h
 cases x <;> try exact h.elim
 rename_i p
 obtain ⟨b, o, hp, h2⟩ := jx h
 subst hp
 clear h
 cases hd : P.underlying t with
 | none => rw [hd] at h2; exact h2.elim
 | some d =>
  rw [hd] at h2
  have agg : vP d = true → Xn P t M b o K → ∃ v, bR P (Instr.loadAt t (.pointer (some ⟨b, o, none⟩))) M = some v ∧ K v := by
   intro fy h
   unfold Xn at h
   split at h
   ·rename_i hl
    split at h
    ·obtain ⟨vs, hvs, h⟩ := vQ h
     exact ⟨_, po hd fy hl.symm hvs, h⟩
    ·unfold D0 at h
     split at h
     ·rename_i vs hvs; exact ⟨_, po hd fy rfl hvs, h⟩
     ·exact h.elim
   ·exact h.elim
  cases d with
  | struct fs => exact agg rfl h2
  | array m e => exact agg rfl h2
  | _ => (obtain ⟨v, hv, h⟩ := pn h2; exact ⟨v, xl hd rfl hv, h⟩)
def aM (M : Mem) (a : Addr) (v : Value) (K : Mem → Prop) : Prop := M.wr a = true ∧ K (M.put a v)
def aX (M : Mem) (o : Obj) (K : Nat → Mem → Prop) : Prop := ∀ b, M b = none → K b (M.set b o)
def D2 (M : Mem) (a : Addr) : List Value → Nat → (Mem → Prop) → Prop
 | [], _, K => K M
 | v :: vs, i, K => yU v (aM M (a.add i) v fun M' => D2 M' a vs (i + 1) K)
def AK : List Value → Nat → List Value → List Value
 | cs, _, [] => cs
 | cs, o, v :: vs => AK (cs.set o v) (o + 1) vs
def Mem.CI (M : Mem) (b o : Nat) (vs : List Value) : Mem := fun i => if i = b then (M i).map (fun x => match x with
 | .cells c e f => .cells (AK c.toList o vs).toArray e f
 | x => x) else M i
def DN (M : Mem) (b o : Nat) (vs : List Value) (n : Nat) (K : Mem → Prop) : Prop :=
 vs.length = n ∧ (∀ v ∈ vs, Value.plainCell v = true) ∧ (∃ c T, M b = some (.cells c T (0, 0)) ∧ o + n ≤ c.size) ∧ K (M.CI b o vs)
def LF (P : Program) (t : TypeId) (v : Value) (M : Mem) (b o : Nat) (K : Mem → Prop) : Prop :=
 match v with
 | .agg cs => if P.cellsOf t ≤ 12 then (if cs.size = P.cellsOf t then D2 M ⟨b, o, none⟩ cs.toList 0 K else False) else DN M b o cs.toList (P.cellsOf t) K
 | _ => False
def Gb (P : Program) (t : TypeId) (x v : Value) (M : Mem) (K : Mem → Prop) : Prop :=
 match x with
 | .pointer p => aE p fun b o =>
  match P.underlying t with
  | some (.struct _) | some (.array _ _) => LF P t v M b o K
  | some _ => if P.cellsOf t = 1 then yU v (aM M ⟨b, o, none⟩ v K) else False
  | none => False
 | _ => False
theorem pq {P : Program} {α β : Type} {s : Sem α} {f : α → Sem β} {M : Mem} {x : α} {K : β → Mem → Prop} {Kp : Value → Mem → Prop}
  (h : bR P s M = some x) (hk : dV P (f x) M K Kp) : dV P (s.bind f) M K Kp := gq P s f (ie P s h hk)
theorem Bw {P : Program} {a : Addr} {Kp : Value → Mem → Prop} : ∀ {vs : List Value} {i : Nat} {M : Mem} {K : Mem → Prop}, D2 M a vs i K →
  dV P (storeCells a vs i) M (fun _ M' => K M') Kp
 | [], i, M, K, h => h
 | v :: vs, i, M, K, h => by
  simp only [D2] at h
  obtain ⟨hp, _, hw, h⟩ := yV h
  unfold storeCells
  refine gq P _ _ ?_
  exact ⟨hp, hw, Bw h⟩
theorem Jv {M : Mem} {b o T : Nat} {c : Array Value} {v : Value} {vs : List Value} (hb : M b = some (.cells c T (0, 0))) :
  (M.put ⟨b, o, none⟩ v).CI b (o + 1) vs = M.CI b o (v :: vs) := by
 funext i
 unfold Mem.CI Mem.put
 by_cases hi : i = b
 ·subst hi; simp [hb, Obj.yC, AK]
 ·simp [hi]
theorem LG {b T : Nat} {K : Mem → Prop} : ∀ {vs : List Value} {o i : Nat} {M : Mem} {c : Array Value}, M b = some (.cells c T (0, 0)) → o + i + vs.length ≤ c.size → (∀ v ∈ vs, Value.plainCell v = true) →
  K (M.CI b (o + i) vs) → D2 M ⟨b, o, none⟩ vs i K
 | [], o, i, M, c, hb, hs, hp, h => by
  have : M.CI b (o + i) [] = M := by
   funext k; unfold Mem.CI; split
   ·rename_i hk; subst hk; simp [hb, AK]
   ·rfl
  rw [this] at h; exact h
 | v :: vs, o, i, M, c, hb, hs, hp, h => by
  simp only [List.length_cons] at hs
  have hpv := hp v (List.mem_cons_self ..)
  have ea : (⟨b, o, none⟩ : Addr).add i = ⟨b, o + i, none⟩ := by unfold Addr.add; split <;> simp_all
  have hw : M.wr ⟨b, o + i, none⟩ = true := by simp [Mem.wr, hb]; omega
  have hb' : (M.put ⟨b, o + i, none⟩ v) b = some (.cells (c.setIfInBounds (o + i) v) T (0, 0)) := by unfold Mem.put; simp [hb, Obj.yC]
  have rest := LG (vs := vs) (o := o) (i := i + 1) (M := M.put ⟨b, o + i, none⟩ v) (K := K) hb' (by simp; omega) (fun u hu => hp u (List.mem_cons_of_mem _ hu)) (by
   rw [show o + (i + 1) = o + i + 1 from rfl, Jv hb]; exact h)
  unfold D2
  rw [ea]
  cases v <;> first | (simp [Value.plainCell] at hpv; done) | exact ⟨hw, rest⟩
theorem D3 {P : Program} {t : TypeId} {x v : Value} {M : Mem} {K : Mem → Prop} {Kp : Value → Mem → Prop} (h : Gb P t x v M K) :
  dV P (Instr.storeAt t x v) M (fun _ M' => K M') Kp := by
 unfold Gb at h
 cases x <;> try exact h.elim
 rename_i p
 obtain ⟨b, o, hp, h2⟩ := jx h
 subst hp
 clear h
 cases hd : P.underlying t with
 | none => rw [hd] at h2; exact h2.elim
 | some d =>
  rw [hd] at h2
  have key : ∀ cs : List Value, v.cells.toList = cs → cs.length = P.cellsOf t → D2 M ⟨b, o, none⟩ cs 0 K →
    dV P (Instr.storeAt t (.pointer (some ⟨b, o, none⟩)) v) M (fun _ M' => K M') Kp := by
   intro cs hcs hl hs
   refine pq (x := ⟨b, o, none⟩) rfl ?_
   unfold storeVar
   refine pq (Bv hd M) ?_
   have hn : ¬ (v.cells.size ≠ P.cellsOf t) := by simp [← hl, ← hcs]
   simp only [hn, if_false]
   rw [hcs]
   exact Bw hs
  have one : (if P.cellsOf t = 1 then yU v (aM M ⟨b, o, none⟩ v K) else False) →
    dV P (Instr.storeAt t (.pointer (some ⟨b, o, none⟩)) v) M (fun _ M' => K M') Kp := by
   intro h
   split at h
   ·rename_i h1
    obtain ⟨hp, hc, hw, hk⟩ := yV h
    refine key [v] (by simp [hc]) (by simp [h1]) ?_
    unfold D2
    cases v <;> first | (simp [Value.plainCell] at hp; done) | exact ⟨hw, hk⟩
   ·exact h.elim
  have agg : LF P t v M b o K → dV P (Instr.storeAt t (.pointer (some ⟨b, o, none⟩)) v) M (fun _ M' => K M') Kp := by
   intro h
   unfold LF at h
   cases v <;> try exact h.elim
   rename_i cs
   simp only at h
   split at h
   ·split at h
    ·rename_i hl; exact key cs.toList rfl (by simpa using hl) h
    ·exact h.elim
   ·obtain ⟨hl, hp, ⟨c, T, hb, ho⟩, hk⟩ := h
    refine key cs.toList rfl hl (LG hb (by rw [hl]; omega) hp ?_)
    exact hk
  cases d with
  | struct fs => exact agg h2
  | array m e => exact agg h2
  | _ => exact one h2
end Go.AF
