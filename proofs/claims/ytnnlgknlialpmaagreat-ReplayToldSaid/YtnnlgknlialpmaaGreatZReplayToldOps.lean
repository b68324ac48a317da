/- A part of proofs about one program. -/
import Derived.Test.YtnnlgknlialpmaaGreatZReplayToldBase
set_option linter.unusedVariables false
namespace Go.AF
def br (P : Program) {α : Type} : Sem α → Mem → Option α
 | .pure a, _ => some a
 | .load _ a k, M => match M.ld a with
  | some v => br P (k v) M
  | none => none
 | .shape r k, M => match M r with
  | some (.cells c elem _) => br P (k (some (elem, c.size))) M
  | _ => none
 | .frozen a k, M => match M a.block with
  | some (.cells _ _ f) => br P (k (decide (f.1 ≤ a.off) && decide (a.off < f.2))) M
  | _ => none
 | .program k, M => br P (k P) M
 | .mark _ k, M => br P k M
 | .store .., _ | .new .., _ | .freeze .., _ | .getObj .., _ | .setObj .., _ | .choose .., _ | .sys .., _ | .halt _, _ => none
theorem cJ (P : Program) {α β : Type} (s : Sem α) (f : α → Sem β) (M : Mem) : br P (s.bind f) M = (br P s M).bind fun a => br P (f a) M := by
 induction s with
 | pure a => rfl
 | load m a k ih =>
  simp only [Sem.bind, br]
  cases M.ld a with
  | none => rfl
  | some v => exact ih v
 | shape r k ih =>
  simp only [Sem.bind, br]
  split
  ·exact ih _
  ·rfl
 | frozen a k ih =>
  simp only [Sem.bind, br]
  split
  ·exact ih _
  ·rfl
 | program k ih => exact ih P
 | mark m k ih => exact ih
 | store m a v k ih => rfl
 | new o k ih => rfl
 | freeze a n k ih => rfl
 | getObj r k ih => rfl
 | setObj r o k ih => rfl
 | choose q k ih => rfl
 | sys c k ih => rfl
 | halt x => rfl
def Mem.le (M M' : Mem) : Prop := ∀ b o, M b = some o → M' b = some o
theorem Mem.Gn {M M' : Mem} (h : M.le M') {a : Addr} {v : Value} (hv : M.ld a = some v) : M'.ld a = some v := by
 unfold Mem.ld at *
 cases hb : M a.block with
 | none => simp [hb] at hv
 | some o => rw [h _ _ hb]; rw [hb] at hv; exact hv
theorem jC (P : Program) {α : Type} (s : Sem α) : ∀ {M M' : Mem} {x : α}, M.le M' → br P s M = some x → br P s M' = some x := by
 induction s with
 | pure a => intro M M' x h hx; exact hx
 | load m a k ih =>
  intro M M' x h hx
  simp only [br] at hx ⊢
  cases hv : M.ld a with
  | none => simp [hv] at hx
  | some v => rw [Mem.Gn h hv]; rw [hv] at hx; exact ih v h hx
 | shape r k ih =>
  intro M M' x h hx
  simp only [br] at hx ⊢
  cases hb : M r with
  | none => simp [hb] at hx
  | some o => rw [h _ _ hb]; rw [hb] at hx; cases o <;> first | exact ih _ h hx | (simp at hx; done)
 | frozen a k ih =>
  intro M M' x h hx
  simp only [br] at hx ⊢
  cases hb : M a.block with
  | none => simp [hb] at hx
  | some o => rw [h _ _ hb]; rw [hb] at hx; cases o <;> first | exact ih _ h hx | (simp at hx; done)
 | program k ih => intro M M' x h hx; exact ih P h hx
 | mark m k ih => intro M M' x h hx; exact ih h hx
 | store m a v k ih => intro M M' x h hx; simp [br] at hx
 | new o k ih => intro M M' x h hx; simp [br] at hx
 | freeze a n k ih => intro M M' x h hx; simp [br] at hx
 | getObj r k ih => intro M M' x h hx; simp [br] at hx
 | setObj r o k ih => intro M M' x h hx; simp [br] at hx
 | choose q k ih => intro M M' x h hx; simp [br] at hx
 | sys c k ih => intro M M' x h hx; simp [br] at hx
 | halt y => intro M M' x h hx; simp [br] at hx
theorem fz (P : Program) {α : Type} (s : Sem α) : ∀ {M : Mem} {x : α} {K : α → Mem → Prop} {Kp : Value → Mem → Prop}, br P s M = some x → K x M → cO P s M K Kp := by
 induction s with
 | pure a => intro M x K Kp hx hk; simp only [br, Option.some.injEq] at hx; subst hx; exact hk
 | load m a k ih =>
  intro M x K Kp hx hk
  simp only [br, cO] at hx ⊢
  split at hx
  ·rename_i v hv; rw [hv]; exact ih v hx hk
  ·simp at hx
 | shape r k ih =>
  intro M x K Kp hx hk
  simp only [br, cO] at hx ⊢
  split at hx
  ·rename_i hb; rw [hb]; exact ih _ hx hk
  ·simp at hx
 | frozen a k ih =>
  intro M x K Kp hx hk
  simp only [br, cO] at hx ⊢
  split at hx
  ·rename_i hb; rw [hb]; exact ih _ hx hk
  ·simp at hx
 | program k ih => intro M x K Kp hx hk; exact ih P hx hk
 | mark m k ih => intro M x K Kp hx hk; exact ih hx hk
 | store m a v k ih => intro M x K Kp hx; simp [br] at hx
 | new o k ih => intro M x K Kp hx; simp [br] at hx
 | freeze a n k ih => intro M x K Kp hx; simp [br] at hx
 | getObj r k ih => intro M x K Kp hx; simp [br] at hx
 | setObj r o k ih => intro M x K Kp hx; simp [br] at hx
 | choose q k ih => intro M x K Kp hx; simp [br] at hx
 | sys c k ih => intro M x K Kp hx; simp [br] at hx
 | halt y => intro M x K Kp hx; simp [br] at hx
def aK (e : Bool) (X Y : Prop) : Prop := match e with | true => X | false => Y
def aE (o : Option Value) (k : IntKind) (K : Int → Prop) : Prop := match o with | some (.int k' n) => if k' = k then K n else False | _ => False
def cY (o : Option Value) (K : Bool → Prop) : Prop := match o with | some (.bool b) => K b | _ => False
def gh (o : Option Value) (K : ByteArray → Prop) : Prop := match o with | some (.string b) => K b | _ => False
def cz (o : Option Value) (K : Option Addr → Prop) : Prop := match o with | some (.pointer p) => K p | _ => False
def ay (o : Option Value) (K : Option Addr → Nat → Nat → Prop) : Prop := match o with | some (.slice A n c) => K A n c | _ => False
def fL (o : Option Value) (K : Value → Prop) : Prop := match o with | some v => K v | none => False
def JC (o : Option (List Value)) (K : List Value → Prop) : Prop := match o with | some v => K v | none => False
def az (p : Option Addr) (K : Nat → Nat → Prop) : Prop := match p with | some ⟨b, o, none⟩ => K b o | _ => False
def xo (v : Value) (X : Prop) : Prop := match v with | .agg _ => False | .tuple _ => False | _ => X
inductive xp where
 | int (k : IntKind) | bool | str | ptr | sl | val
def Pk : TypeDesc → xp
 | .bool => .bool
 | .int k => .int k
 | .string => .str
 | .pointer _ => .ptr
 | .slice _ => .sl
 | _ => .val
def flat (P : Program) : Nat → TypeId → List xp
 | 0, _ => []
 | n + 1, t => match P.underlying t with
  | some (.struct fs) => fs.toList.flatMap fun f => flat P n f.type
  | some (.array m e) => (List.replicate m (flat P n e)).flatten
  | some d => [Pk d]
  | none => []
def zJ (c : xp) (o : Option Value) (K : Value → Prop) : Prop :=
 match c with
 | .int k => aE o k fun n => K (.int k n)
 | .bool => cY o fun b => K (.bool b)
 | .str => gh o fun s => K (.string s)
 | .ptr => cz o fun p => K (.pointer p)
 | .sl => ay o fun A n c => K (.slice A n c)
 | .val => fL o K
def B5 : List xp → List Value → (List Value → Prop) → Prop
 | [], [], K => K []
 | c :: cs, v :: vs, K => zJ c (some v) fun v' => B5 cs vs fun vs' => K (v' :: vs')
 | _, _, _ => False
def B6 (M : Mem) (a : Addr) : List xp → Nat → (List Value → Prop) → Prop
 | [], _, K => K []
 | c :: cs, i, K => zJ c (M.ld (a.add i)) fun v => B6 M a cs (i + 1) fun vs => K (v :: vs)
def Mem.dP (M : Mem) (a : Addr) : Nat → Nat → Option (List Value)
 | _, 0 => some []
 | i, n + 1 => match M.ld (a.add i) with
  | some v => (M.dP a (i + 1) n).map (v :: ·)
  | none => none
theorem lH {c : xp} {o : Option Value} {K : Value → Prop} (h : zJ c o K) : ∃ v, o = some v ∧ K v := by
 cases c <;> simp only [zJ] at h
 case int k =>
  unfold aE at h; split at h
  ·split at h
   ·rename_i n hk; subst hk; exact ⟨_, rfl, h⟩
   ·exact h.elim
  ·exact h.elim
 case bool => unfold cY at h; split at h <;> first | exact ⟨_, rfl, h⟩ | exact h.elim
 case str => unfold gh at h; split at h <;> first | exact ⟨_, rfl, h⟩ | exact h.elim
 case ptr => unfold cz at h; split at h <;> first | exact ⟨_, rfl, h⟩ | exact h.elim
 case sl => unfold ay at h; split at h <;> first | exact ⟨_, rfl, h⟩ | exact h.elim
 case val => unfold fL at h; split at h <;> first | exact ⟨_, rfl, h⟩ | exact h.elim
theorem gu {p : Option Addr} {K : Nat → Nat → Prop} (h : az p K) : ∃ b o, p = some ⟨b, o, none⟩ ∧ K b o := by
 unfold az at h
 split at h
 ·exact ⟨_, _, rfl, h⟩
 ·exact h.elim
theorem uo {v : Value} {X : Prop} (h : xo v X) : Value.plainCell v = true ∧ v.cells = #[v] ∧ X := by
 cases v <;> first | exact h.elim | exact ⟨rfl, rfl, h⟩
theorem aC {P : Program} {t : TypeId} {d : TypeDesc} (h : P.underlying t = some d) (M : Mem) : br P (underlying t) M = some d := by
 show br P (Sem.bind program _) M = _
 simp only [cJ, program, br, Option.bind_some, h]; rfl
theorem bX {P : Program} {t : TypeId} {i : TypeInfo} (h : P.info? t = some i) (M : Mem) : br P (typeInfo t) M = some i := by
 show br P (Sem.bind program _) M = _
 simp only [cJ, program, br, Option.bind_some, h]; rfl
theorem info_of_underlying {P : Program} {t : TypeId} {d : TypeDesc} (h : P.underlying t = some d) : ∃ i, P.info? t = some i := by
 unfold Program.underlying at h
 cases hi : P.info? t with
 | none => simp [hi] at h
 | some i => exact ⟨i, rfl⟩
theorem xq {P : Program} {t : TypeId} {d : TypeDesc} (h : P.underlying t = some d) (M : Mem) : br P (sizeOf t) M = some (P.cellsOf t) := by
 obtain ⟨i, hi⟩ := info_of_underlying h
 show br P (Sem.bind (typeInfo t) _) M = _
 rw [cJ, bX hi]
 simp [Program.cellsOf, hi, br, pure]
theorem be (P : Program) {α : Type} (a : α) (M : Mem) : br P (pure a : Sem α) M = some a := rfl
def rC : TypeDesc → Bool
 | .struct _ => true
 | .array _ _ => true
 | _ => false
theorem iw {P : Program} {t : TypeId} {d : TypeDesc} (h : P.underlying t = some d) (M : Mem) :
  br P (isAgg t) M = some (rC d) := by
 show br P (Sem.bind (underlying t) _) M = _
 rw [cJ, aC h]
 cases d <;> rfl
theorem j0 {P : Program} {M : Mem} {a : Addr} : ∀ (n i : Nat) (acc : Array Value) (vs : List Value), M.dP a i n = some vs →
  br P (loadCellsFrom a i n acc) M = some (acc ++ vs.toArray)
 | 0, i, acc, vs, h => by
  simp only [Mem.dP, Option.some.injEq] at h; subst h
  simp [loadCellsFrom, br, pure]
 | n + 1, i, acc, vs, h => by
  simp only [Mem.dP] at h
  cases hv : M.ld (a.add i) with
  | none => simp [hv] at h
  | some v =>
   simp only [hv] at h
   cases hr : M.dP a (i + 1) n with
   | none => simp [hr] at h
   | some rest =>
    simp only [hr, Option.map_some, Option.some.injEq] at h
    subst h
    show br P (Sem.bind (load (a.add i)) _) M = _
    rw [cJ]
    simp only [load, br, hv, Option.bind_some]
    rw [j0 n (i + 1) (acc.push v) rest hr]
    simp
theorem rD {M : Mem} {a : Addr} : ∀ {cs : List xp} {i : Nat} {K : List Value → Prop}, B6 M a cs i K → ∃ vs, M.dP a i cs.length = some vs ∧ K vs
 | [], i, K, h => ⟨[], rfl, h⟩
 | c :: cs, i, K, h => by
  simp only [B6] at h
  obtain ⟨v, hv, h⟩ := lH h
  obtain ⟨vs, hvs, h⟩ := rD h
  exact ⟨v :: vs, by simp [Mem.dP, hv, hvs], h⟩
def DE (P : Program) (t : TypeId) (x : Value) (M : Mem) (K : Value → Prop) : Prop :=
 match x with
 | .pointer p => az p fun b o =>
  match P.underlying t with
  | some (.struct _) | some (.array _ _) =>
   if (flat P 8 t).length = P.cellsOf t then
    (if P.cellsOf t ≤ 12 then B6 M ⟨b, o, none⟩ (flat P 8 t) 0 fun vs => K (.agg vs.toArray) else JC (M.dP ⟨b, o, none⟩ 0 (P.cellsOf t)) fun vs => K (.agg vs.toArray))
   else False
  | some d => zJ (Pk d) (M.ld ⟨b, o, none⟩) K
  | none => False
 | _ => False
def PT (P : Program) (t : TypeId) (M : Mem) (b o : Nat) (K : Value → Prop) : Prop :=
 if (flat P 8 t).length = P.cellsOf t then
  (if P.cellsOf t ≤ 12 then B6 M ⟨b, o, none⟩ (flat P 8 t) 0 fun vs => K (.agg vs.toArray) else JC (M.dP ⟨b, o, none⟩ 0 (P.cellsOf t)) fun vs => K (.agg vs.toArray))
 else False
theorem lI {P : Program} {t : TypeId} {d : TypeDesc} {M : Mem} {b o m : Nat} {vs : List Value} (hd : P.underlying t = some d) (dD : rC d = true) (hm : P.cellsOf t = m)
  (hl : M.dP ⟨b, o, none⟩ 0 m = some vs) : br P (Instr.loadAt t (.pointer (some ⟨b, o, none⟩))) M = some (.agg vs.toArray) := by
 show br P (Sem.bind (Instr.sureAddr _) _) M = _
 rw [cJ]
 simp only [Instr.sureAddr, be, Option.bind_some]
 show br P (Sem.bind (isAgg t) _) M = _
 rw [cJ, iw hd]
 simp only [Option.bind_some, dD, if_true]
 show br P (Sem.bind (sizeOf t) _) M = _
 rw [cJ, xq hd]
 simp only [Option.bind_some]
 show br P (Sem.bind (loadCells _ _) _) M = _
 rw [cJ]
 unfold loadCells
 rw [hm, j0 m 0 #[] vs hl]
 simp only [Option.bind_some, Array.empty_append]
 rfl
theorem sE {P : Program} {t : TypeId} {d : TypeDesc} {M : Mem} {b o : Nat} {v : Value} (hd : P.underlying t = some d) (dD : rC d = false)
  (hl : M.ld ⟨b, o, none⟩ = some v) : br P (Instr.loadAt t (.pointer (some ⟨b, o, none⟩))) M = some v := by
 show br P (Sem.bind (Instr.sureAddr _) _) M = _
 rw [cJ]
 simp only [Instr.sureAddr, be, Option.bind_some]
 show br P (Sem.bind (isAgg t) _) M = _
 rw [cJ, iw hd]
 simp only [Option.bind_some, dD, Bool.false_eq_true, if_false]
 show br P (load _) M = _
 unfold load
 simp only [br, hl]
theorem uq {P : Program} {t : TypeId} {x : Value} {M : Mem} {K : Value → Prop} (h : DE P t x M K) :
  ∃ v, br P (Instr.loadAt t x) M = some v ∧ K v := by
 unfold DE at h
 cases x <;> try exact h.elim
 rename_i p
 obtain ⟨b, o, hp, h2⟩ := gu h
 subst hp
 clear h
 cases hd : P.underlying t with
 | none => rw [hd] at h2; exact h2.elim
 | some d =>
  rw [hd] at h2
  have agg : rC d = true → PT P t M b o K → ∃ v, br P (Instr.loadAt t (.pointer (some ⟨b, o, none⟩))) M = some v ∧ K v := by
   intro dD h
   unfold PT at h
   split at h
   ·rename_i hl
    split at h
    ·obtain ⟨vs, hvs, h⟩ := rD h
     exact ⟨_, lI hd dD hl.symm hvs, h⟩
    ·unfold JC at h
     split at h
     ·rename_i vs hvs; exact ⟨_, lI hd dD rfl hvs, h⟩
     ·exact h.elim
   ·exact h.elim
  cases d with
  | struct fs => exact agg rfl h2
  | array m e => exact agg rfl h2
  | _ => (obtain ⟨v, hv, h⟩ := lH h2; exact ⟨v, sE hd rfl hv, h⟩)
def aF (M : Mem) (a : Addr) (v : Value) (K : Mem → Prop) : Prop := M.wr a = true ∧ K (M.put a v)
def aX (M : Mem) (o : Obj) (K : Nat → Mem → Prop) : Prop := ∀ b, M b = none → K b (M.set b o)
def zK (M : Mem) (a : Addr) : List Value → Nat → (Mem → Prop) → Prop
 | [], _, K => K M
 | v :: vs, i, K => xo v (aF M (a.add i) v fun M' => zK M' a vs (i + 1) K)
def JD : List Value → Nat → List Value → List Value
 | cs, _, [] => cs
 | cs, o, v :: vs => JD (cs.set o v) (o + 1) vs
def Mem.B7 (M : Mem) (b o : Nat) (vs : List Value) : Mem := fun i => if i = b then (M i).map (fun x => match x with
 | .cells c e f => .cells (JD c.toList o vs).toArray e f
 | x => x) else M i
def Ms (M : Mem) (b o : Nat) (vs : List Value) (n : Nat) (K : Mem → Prop) : Prop :=
 vs.length = n ∧ (∀ v ∈ vs, Value.plainCell v = true) ∧ (∃ c T, M b = some (.cells c T (0, 0)) ∧ o + n ≤ c.size) ∧ K (M.B7 b o vs)
def Gp (P : Program) (t : TypeId) (v : Value) (M : Mem) (b o : Nat) (K : Mem → Prop) : Prop :=
 match v with
 | .agg cs => if P.cellsOf t ≤ 12 then (if cs.size = P.cellsOf t then zK M ⟨b, o, none⟩ cs.toList 0 K else False) else Ms M b o cs.toList (P.cellsOf t) K
 | _ => False
def B8 (P : Program) (t : TypeId) (x v : Value) (M : Mem) (K : Mem → Prop) : Prop :=
 match x with
 | .pointer p => az p fun b o =>
  match P.underlying t with
  | some (.struct _) | some (.array _ _) => Gp P t v M b o K
  | some _ => if P.cellsOf t = 1 then xo v (aF M ⟨b, o, none⟩ v K) else False
  | none => False
 | _ => False
theorem lJ {P : Program} {α β : Type} {s : Sem α} {f : α → Sem β} {M : Mem} {x : α} {K : β → Mem → Prop} {Kp : Value → Mem → Prop}
  (h : br P s M = some x) (hk : cO P (f x) M K Kp) : cO P (s.bind f) M K Kp := eH P s f (fz P s h hk)
theorem xu {P : Program} {a : Addr} {Kp : Value → Mem → Prop} : ∀ {vs : List Value} {i : Nat} {M : Mem} {K : Mem → Prop}, zK M a vs i K →
  cO P (storeCells a vs i) M (fun _ M' => K M') Kp
 | [], i, M, K, h => h
 | v :: vs, i, M, K, h => by
  simp only [zK] at h
  obtain ⟨hp, _, hw, h⟩ := uo h
  unfold storeCells
  refine eH P _ _ ?_
  exact ⟨hp, hw, xu h⟩
theorem Ep {M : Mem} {b o T : Nat} {c : Array Value} {v : Value} {vs : List Value} (hb : M b = some (.cells c T (0, 0))) :
  (M.put ⟨b, o, none⟩ v).B7 b (o + 1) vs = M.B7 b o (v :: vs) := by
 funext i
 unfold Mem.B7 Mem.put
 by_cases hi : i = b
 ·subst hi; simp [hb, Obj.tT, JD]
 ·simp [hi]
theorem Gq {b T : Nat} {K : Mem → Prop} : ∀ {vs : List Value} {o i : Nat} {M : Mem} {c : Array Value}, M b = some (.cells c T (0, 0)) → o + i + vs.length ≤ c.size → (∀ v ∈ vs, Value.plainCell v = true) →
  K (M.B7 b (o + i) vs) → zK M ⟨b, o, none⟩ vs i K
 | [], o, i, M, c, hb, hs, hp, h => by
  have : M.B7 b (o + i) [] = M := by
   funext k; unfold Mem.B7; split
   ·rename_i hk; subst hk; simp [hb, JD]
   ·rfl
  rw [this] at h; exact h
 | v :: vs, o, i, M, c, hb, hs, hp, h => by
  simp only [List.length_cons] at hs
  have hpv := hp v (List.mem_cons_self ..)
  have ea : (⟨b, o, none⟩ : Addr).add i = ⟨b, o + i, none⟩ := by unfold Addr.add; split <;> simp_all
  have hw : M.wr ⟨b, o + i, none⟩ = true := by simp [Mem.wr, hb]; omega
  have hb' : (M.put ⟨b, o + i, none⟩ v) b = some (.cells (c.setIfInBounds (o + i) v) T (0, 0)) := by unfold Mem.put; simp [hb, Obj.tT]
  have rest := Gq (vs := vs) (o := o) (i := i + 1) (M := M.put ⟨b, o + i, none⟩ v) (K := K) hb' (by simp; omega) (fun u hu => hp u (List.mem_cons_of_mem _ hu)) (by
   rw [show o + (i + 1) = o + i + 1 from rfl, Ep hb]; exact h)
  unfold zK
  rw [ea]
  cases v <;> first | (simp [Value.plainCell] at hpv; done) | exact ⟨hw, rest⟩
theorem zL {P : Program} {t : TypeId} {x v : Value} {M : Mem} {K : Mem → Prop} {Kp : Value → Mem → Prop} (h : B8 P t x v M K) :
  cO P (Instr.storeAt t x v) M (fun _ M' => K M') Kp := by
 unfold B8 at h
 cases x <;> try exact h.elim
 rename_i p
 obtain ⟨b, o, hp, h2⟩ := gu h
 subst hp
 clear h
 cases hd : P.underlying t with
 | none => rw [hd] at h2; exact h2.elim
 | some d =>
  rw [hd] at h2
  have key : ∀ cs : List Value, v.cells.toList = cs → cs.length = P.cellsOf t → zK M ⟨b, o, none⟩ cs 0 K →
    cO P (Instr.storeAt t (.pointer (some ⟨b, o, none⟩)) v) M (fun _ M' => K M') Kp := by
   intro cs hcs hl hs
   refine lJ (x := ⟨b, o, none⟩) rfl ?_
   unfold storeVar
   refine lJ (xq hd M) ?_
   have hn : ¬ (v.cells.size ≠ P.cellsOf t) := by simp [← hl, ← hcs]
   simp only [hn, if_false]
   rw [hcs]
   exact xu hs
  have one : (if P.cellsOf t = 1 then xo v (aF M ⟨b, o, none⟩ v K) else False) →
    cO P (Instr.storeAt t (.pointer (some ⟨b, o, none⟩)) v) M (fun _ M' => K M') Kp := by
   intro h
   split at h
   ·rename_i h1
    obtain ⟨hp, hc, hw, hk⟩ := uo h
    refine key [v] (by simp [hc]) (by simp [h1]) ?_
    unfold zK
    cases v <;> first | (simp [Value.plainCell] at hp; done) | exact ⟨hw, hk⟩
   ·exact h.elim
  have agg : Gp P t v M b o K → cO P (Instr.storeAt t (.pointer (some ⟨b, o, none⟩)) v) M (fun _ M' => K M') Kp := by
   intro h
   unfold Gp at h
   cases v <;> try exact h.elim
   rename_i cs
   simp only at h
   split at h
   ·split at h
    ·rename_i hl; exact key cs.toList rfl (by simpa using hl) h
    ·exact h.elim
   ·obtain ⟨hl, hp, ⟨c, T, hb, ho⟩, hk⟩ := h
    refine key cs.toList rfl hl (Gq hb (by rw [hl]; omega) hp ?_)
    exact hk
  cases d with
  | struct fs => exact agg h2
  | array m e => exact agg h2
  | _ => exact one h2
end Go.AF
