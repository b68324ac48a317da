/- A part of proofs about one program. -/
import Derived.Test.YtfjgcljdnhkmaaaGreatZWorldEndsBase
set_option linter.unusedVariables false
namespace Go.AF
def bZ (P : Program) {α : Type} : Sem α → Mem → Option α
 | .pure a, _ => some a
 | .load _ a k, M => match M.ld a with
  | some v => bZ P (k v) M
  | none => none
 | .shape r k, M => match M r with
  | some (.cells c elem _) => bZ P (k (some (elem, c.size))) M
  | _ => none
 | .frozen a k, M => match M a.block with
  | some (.cells _ _ f) => bZ P (k (decide (f.1 ≤ a.off) && decide (a.off < f.2))) M
  | _ => none
 | .program k, M => bZ P (k P) M
 | .mark _ k, M => bZ P k M
 | .store .., _ | .new .., _ | .freeze .., _ | .getObj .., _ | .setObj .., _ | .choose .., _ | .sys .., _ | .halt _, _ => none
theorem eO (P : Program) {α β : Type} (s : Sem α) (f : α → Sem β) (M : Mem) : bZ P (s.bind f) M = (bZ P s M).bind fun a => bZ P (f a) M := by
 induction s with
 | pure a => rfl
 | load m a k ih =>
  simp only [Sem.bind, bZ]
  cases M.ld a with
  | none => rfl
  | some v => exact ih v
 | shape r k ih =>
  simp only [Sem.bind, bZ]
  split
  ·exact ih _
  ·rfl
 | frozen a k ih =>
  simp only [Sem.bind, bZ]
  split
  ·exact ih _
  ·rfl
 | program k ih => exact ih P
 | mark m k ih => exact ih
 | store m a v k ih => rfl
 | new o k ih => rfl
 | freeze a n k ih => rfl
 | getObj r k ih => rfl
 | setObj r o k ih => rfl
 | choose q k ih => rfl
 | sys c k ih => rfl
 | halt x => rfl
def Mem.le (M M' : Mem) : Prop := ∀ b o, M b = some o → M' b = some o
theorem Mem.Q5 {M M' : Mem} (h : M.le M') {a : Addr} {v : Value} (hv : M.ld a = some v) : M'.ld a = some v := by
 unfold Mem.ld at *
 cases hb : M a.block with
 | none => simp [hb] at hv
 | some o => rw [h _ _ hb]; rw [hb] at hv; exact hv
theorem qK (P : Program) {α : Type} (s : Sem α) : ∀ {M M' : Mem} {x : α}, M.le M' → bZ P s M = some x → bZ P s M' = some x := by
 induction s with
 | pure a => intro M M' x h hx; exact hx
 | load m a k ih =>
  intro M M' x h hx
  simp only [bZ] at hx ⊢
  cases hv : M.ld a with
  | none => simp [hv] at hx
  | some v => rw [Mem.Q5 h hv]; rw [hv] at hx; exact ih v h hx
 | shape r k ih =>
  intro M M' x h hx
  simp only [bZ] at hx ⊢
  cases hb : M r with
  | none => simp [hb] at hx
  | some o => rw [h _ _ hb]; rw [hb] at hx; cases o <;> first | exact ih _ h hx | (simp at hx; done)
 | frozen a k ih =>
  intro M M' x h hx
  simp only [bZ] at hx ⊢
  cases hb : M a.block with
  | none => simp [hb] at hx
  | some o => rw [h _ _ hb]; rw [hb] at hx; cases o <;> first | exact ih _ h hx | (simp at hx; done)
 | program k ih => intro M M' x h hx; exact ih P h hx
 | mark m k ih => intro M M' x h hx; exact ih h hx
 | store m a v k ih => intro M M' x h hx; simp [bZ] at hx
 | new o k ih => intro M M' x h hx; simp [bZ] at hx
 | freeze a n k ih => intro M M' x h hx; simp [bZ] at hx
 | getObj r k ih => intro M M' x h hx; simp [bZ] at hx
 | setObj r o k ih => intro M M' x h hx; simp [bZ] at hx
 | choose q k ih => intro M M' x h hx; simp [bZ] at hx
 | sys c k ih => intro M M' x h hx; simp [bZ] at hx
 | halt y => intro M M' x h hx; simp [bZ] at hx
theorem iY (P : Program) {α : Type} (s : Sem α) : ∀ {M : Mem} {x : α} {K : α → Mem → Prop} {Kp : Value → Mem → Prop}, bZ P s M = some x → K x M → eT P s M K Kp := by
 induction s with
 | pure a => intro M x K Kp hx hk; simp only [bZ, Option.some.injEq] at hx; subst hx; exact hk
 | load m a k ih =>
  intro M x K Kp hx hk
  simp only [bZ, eT] at hx ⊢
  split at hx
  ·rename_i v hv; rw [hv]; exact ih v hx hk
  ·simp at hx
 | shape r k ih =>
  intro M x K Kp hx hk
  simp only [bZ, eT] at hx ⊢
  split at hx
  ·rename_i hb; rw [hb]; exact ih _ hx hk
  ·simp at hx
 | frozen a k ih =>
  intro M x K Kp hx hk
  simp only [bZ, eT] at hx ⊢
  split at hx
  ·rename_i hb; rw [hb]; exact ih _ hx hk
  ·simp at hx
 | program k ih => intro M x K Kp hx hk; exact ih P hx hk
 | mark m k ih => intro M x K Kp hx hk; exact ih hx hk
 | store m a v k ih => intro M x K Kp hx; simp [bZ] at hx
 | new o k ih => intro M x K Kp hx; simp [bZ] at hx
 | freeze a n k ih => intro M x K Kp hx; simp [bZ] at hx
 | getObj r k ih => intro M x K Kp hx; simp [bZ] at hx
 | setObj r o k ih => intro M x K Kp hx; simp [bZ] at hx
 | choose q k ih => intro M x K Kp hx; simp [bZ] at hx
 | sys c k ih => intro M x K Kp hx; simp [bZ] at hx
 | halt y => intro M x K Kp hx; simp [bZ] at hx
def aM (e : Bool) (X Y : Prop) : Prop := match e with | true => X | false => Y
def bF (o : Option Value) (k : IntKind) (K : Int → Prop) : Prop := match o with | some (.int k' n) => if k' = k then K n else False | _ => False
def dG (o : Option Value) (K : Bool → Prop) : Prop := match o with | some (.bool b) => K b | _ => False
def fa (o : Option Value) (K : ByteArray → Prop) : Prop := match o with | some (.string b) => K b | _ => False
def dP (o : Option Value) (K : Option Addr → Prop) : Prop := match o with | some (.pointer p) => K p | _ => False
def aF (o : Option Value) (K : Option Addr → Nat → Nat → Prop) : Prop := match o with | some (.slice A n c) => K A n c | _ => False
def eY (o : Option Value) (K : Value → Prop) : Prop := match o with | some v => K v | none => False
def zd (o : Option (List Value)) (K : List Value → Prop) : Prop := match o with | some v => K v | none => False
def aE (p : Option Addr) (K : Nat → Nat → Prop) : Prop := match p with | some ⟨b, o, none⟩ => K b o | _ => False
def DD (v : Value) (X : Prop) : Prop := match v with | .agg _ => False | .tuple _ => False | _ => X
inductive DE where
 | int (k : IntKind) | bool | str | ptr | sl | val
def csh : TypeDesc → DE
 | .bool => .bool
 | .int k => .int k
 | .string => .str
 | .pointer _ => .ptr
 | .slice _ => .sl
 | _ => .val
def flat (P : Program) : Nat → TypeId → List DE
 | 0, _ => []
 | n + 1, t => match P.underlying t with
  | some (.struct fs) => fs.toList.flatMap fun f => flat P n f.type
  | some (.array m e) => (List.replicate m (flat P n e)).flatten
  | some d => [csh d]
  | none => []
def G9 (c : DE) (o : Option Value) (K : Value → Prop) : Prop :=
 match c with
 | .int k => bF o k fun n => K (.int k n)
 | .bool => dG o fun b => K (.bool b)
 | .str => fa o fun s => K (.string s)
 | .ptr => dP o fun p => K (.pointer p)
 | .sl => aF o fun A n c => K (.slice A n c)
 | .val => eY o K
def Kb : List DE → List Value → (List Value → Prop) → Prop
 | [], [], K => K []
 | c :: cs, v :: vs, K => G9 c (some v) fun v' => Kb cs vs fun vs' => K (v' :: vs')
 | _, _, _ => False
def Kc (M : Mem) (a : Addr) : List DE → Nat → (List Value → Prop) → Prop
 | [], _, K => K []
 | c :: cs, i, K => G9 c (M.ld (a.add i)) fun v => Kc M a cs (i + 1) fun vs => K (v :: vs)
def Mem.fT (M : Mem) (a : Addr) : Nat → Nat → Option (List Value)
 | _, 0 => some []
 | i, n + 1 => match M.ld (a.add i) with
  | some v => (M.fT a (i + 1) n).map (v :: ·)
  | none => none
theorem qL {c : DE} {o : Option Value} {K : Value → Prop} (h : G9 c o K) : ∃ v, o = some v ∧ K v := by
 cases c <;> simp only [G9] at h
 case int k =>
  unfold bF at h; split at h
  ·split at h
   ·rename_i n hk; subst hk; exact ⟨_, rfl, h⟩
   ·exact h.elim
  ·exact h.elim
 case bool => unfold dG at h; split at h <;> first | exact ⟨_, rfl, h⟩ | exact h.elim
 case str => unfold fa at h; split at h <;> first | exact ⟨_, rfl, h⟩ | exact h.elim
 case ptr => unfold dP at h; split at h <;> first | exact ⟨_, rfl, h⟩ | exact h.elim
 case sl => unfold aF at h; split at h <;> first | exact ⟨_, rfl, h⟩ | exact h.elim
 case val => unfold eY at h; split at h <;> first | exact ⟨_, rfl, h⟩ | exact h.elim
theorem kf {p : Option Addr} {K : Nat → Nat → Prop} (h : aE p K) : ∃ b o, p = some ⟨b, o, none⟩ ∧ K b o := by
 unfold aE at h
 split at h
 ·exact ⟨_, _, rfl, h⟩
 ·exact h.elim
theorem AR {v : Value} {X : Prop} (h : DD v X) : Value.plainCell v = true ∧ v.cells = #[v] ∧ X := by
 cases v <;> first | exact h.elim | exact ⟨rfl, rfl, h⟩
theorem aP {P : Program} {t : TypeId} {d : TypeDesc} (h : P.underlying t = some d) (M : Mem) : bZ P (underlying t) M = some d := by
 show bZ P (Sem.bind program _) M = _
 simp only [eO, program, bZ, Option.bind_some, h]; rfl
theorem cY {P : Program} {t : TypeId} {i : TypeInfo} (h : P.info? t = some i) (M : Mem) : bZ P (typeInfo t) M = some i := by
 show bZ P (Sem.bind program _) M = _
 simp only [eO, program, bZ, Option.bind_some, h]; rfl
theorem info_of_underlying {P : Program} {t : TypeId} {d : TypeDesc} (h : P.underlying t = some d) : ∃ i, P.info? t = some i := by
 unfold Program.underlying at h
 cases hi : P.info? t with
 | none => simp [hi] at h
 | some i => exact ⟨i, rfl⟩
theorem DF {P : Program} {t : TypeId} {d : TypeDesc} (h : P.underlying t = some d) (M : Mem) : bZ P (sizeOf t) M = some (P.cellsOf t) := by
 obtain ⟨i, hi⟩ := info_of_underlying h
 show bZ P (Sem.bind (typeInfo t) _) M = _
 rw [eO, cY hi]
 simp [Program.cellsOf, hi, bZ, pure]
theorem bQ (P : Program) {α : Type} (a : α) (M : Mem) : bZ P (pure a : Sem α) M = some a := rfl
def xT : TypeDesc → Bool
 | .struct _ => true
 | .array _ _ => true
 | _ => false
theorem lW {P : Program} {t : TypeId} {d : TypeDesc} (h : P.underlying t = some d) (M : Mem) :
  bZ P (isAgg t) M = some (xT d) := by
 show bZ P (Sem.bind (underlying t) _) M = _
 rw [eO, aP h]
 cases d <;> rfl
theorem oR {P : Program} {M : Mem} {a : Addr} : ∀ (n i : Nat) (acc : Array Value) (vs : List Value), M.fT a i n = some vs →
  bZ P (loadCellsFrom a i n acc) M = some (acc ++ vs.toArray)
 | 0, i, acc, vs, h => by
  simp only [Mem.fT, Option.some.injEq] at h; subst h
  simp [loadCellsFrom, bZ, pure]
 | n + 1, i, acc, vs, h => by
  simp only [Mem.fT] at h
  cases hv : M.ld (a.add i) with
  | none => simp [hv] at h
  | some v =>
   simp only [hv] at h
   cases hr : M.fT a (i + 1) n with
   | none => simp [hr] at h
   | some rest =>
    simp only [hr, Option.map_some, Option.some.injEq] at h
    subst h
    show bZ P (Sem.bind (load (a.add i)) _) M = _
    rw [eO]
    simp only [load, bZ, hv, Option.bind_some]
    rw [oR n (i + 1) (acc.push v) rest hr]
    simp
theorem xU {M : Mem} {a : Addr} : ∀ {cs : List DE} {i : Nat} {K : List Value → Prop}, Kc M a cs i K → ∃ vs, M.fT a i cs.length = some vs ∧ K vs
 | [], i, K, h => ⟨[], rfl, h⟩
 | c :: cs, i, K, h => by
  simp only [Kc] at h
  obtain ⟨v, hv, h⟩ := qL h
  obtain ⟨vs, hvs, h⟩ := xU h
  exact ⟨v :: vs, by simp [Mem.fT, hv, hvs], h⟩
def Nw (P : Program) (t : TypeId) (x : Value) (M : Mem) (K : Value → Prop) : Prop :=
 match x with
 | .pointer p => aE p fun b o =>
  match P.underlying t with
  | some (.struct _) | some (.array _ _) =>
   if (flat P 8 t).length = P.cellsOf t then
    (if P.cellsOf t ≤ 12 then Kc M ⟨b, o, none⟩ (flat P 8 t) 0 fun vs => K (.agg vs.toArray) else zd (M.fT ⟨b, o, none⟩ 0 (P.cellsOf t)) fun vs => K (.agg vs.toArray))
   else False
  | some d => G9 (csh d) (M.ld ⟨b, o, none⟩) K
  | none => False
 | _ => False
def aggL (P : Program) (t : TypeId) (M : Mem) (b o : Nat) (K : Value → Prop) : Prop :=
 if (flat P 8 t).length = P.cellsOf t then
  (if P.cellsOf t ≤ 12 then Kc M ⟨b, o, none⟩ (flat P 8 t) 0 fun vs => K (.agg vs.toArray) else zd (M.fT ⟨b, o, none⟩ 0 (P.cellsOf t)) fun vs => K (.agg vs.toArray))
 else False
theorem qM {P : Program} {t : TypeId} {d : TypeDesc} {M : Mem} {b o m : Nat} {vs : List Value} (hd : P.underlying t = some d) (fW : xT d = true) (hm : P.cellsOf t = m)
  (hl : M.fT ⟨b, o, none⟩ 0 m = some vs) : bZ P (Instr.loadAt t (.pointer (some ⟨b, o, none⟩))) M = some (.agg vs.toArray) := by
 show bZ P (Sem.bind (Instr.sureAddr _) _) M = _
 rw [eO]
 simp only [Instr.sureAddr, bQ, Option.bind_some]
 show bZ P (Sem.bind (isAgg t) _) M = _
 rw [eO, lW hd]
 simp only [Option.bind_some, fW, if_true]
 show bZ P (Sem.bind (sizeOf t) _) M = _
 rw [eO, DF hd]
 simp only [Option.bind_some]
 show bZ P (Sem.bind (loadCells _ _) _) M = _
 rw [eO]
 unfold loadCells
 rw [hm, oR m 0 #[] vs hl]
 simp only [Option.bind_some, Array.empty_append]
 rfl
theorem ze {P : Program} {t : TypeId} {d : TypeDesc} {M : Mem} {b o : Nat} {v : Value} (hd : P.underlying t = some d) (fW : xT d = false)
  (hl : M.ld ⟨b, o, none⟩ = some v) : bZ P (Instr.loadAt t (.pointer (some ⟨b, o, none⟩))) M = some v := by
 show bZ P (Sem.bind (Instr.sureAddr _) _) M = _
 rw [eO]
 simp only [Instr.sureAddr, bQ, Option.bind_some]
 show bZ P (Sem.bind (isAgg t) _) M = _
 rw [eO, lW hd]
 simp only [Option.bind_some, fW, Bool.false_eq_true, if_false]
 show bZ P (load _) M = _
 unfold load
 simp only [bZ, hl]
theorem AS {P : Program} {t : TypeId} {x : Value} {M : Mem} {K : Value → Prop} (h : Nw P t x M K) :
  ∃ v, bZ P (Instr.loadAt t x) M = some v ∧ K v := by
 unfold Nw at h
 cases x <;> try exact h.elim
 rename_i p
 obtain ⟨b, o, hp, h2⟩ := kf h
 subst hp
 clear h
 cases hd : P.underlying t with
 | none => rw [hd] at h2; exact h2.elim
 | some d =>
  rw [hd] at h2
  have agg : xT d = true → aggL P t M b o K → ∃ v, bZ P (Instr.loadAt t (.pointer (some ⟨b, o, none⟩))) M = some v ∧ K v := by
   intro fW h
   unfold aggL at h
   split at h
   ·rename_i hl
    split at h
    ·obtain ⟨vs, hvs, h⟩ := xU h
     exact ⟨_, qM hd fW hl.symm hvs, h⟩
    ·unfold zd at h
     split at h
     ·rename_i vs hvs; exact ⟨_, qM hd fW rfl hvs, h⟩
     ·exact h.elim
   ·exact h.elim
  cases d with
  | struct fs => exact agg rfl h2
  | array m e => exact agg rfl h2
  | _ => (obtain ⟨v, hv, h⟩ := qL h2; exact ⟨v, ze hd rfl hv, h⟩)
def b7 (M : Mem) (a : Addr) (v : Value) (K : Mem → Prop) : Prop := M.wr a = true ∧ K (M.put a v)
def aO (M : Mem) (o : Obj) (K : Nat → Mem → Prop) : Prop := ∀ b, M b = none → K b (M.set b o)
def He (M : Mem) (a : Addr) : List Value → Nat → (Mem → Prop) → Prop
 | [], _, K => K M
 | v :: vs, i, K => DD v (b7 M (a.add i) v fun M' => He M' a vs (i + 1) K)
def CQ : List Value → Nat → List Value → List Value
 | cs, _, [] => cs
 | cs, o, v :: vs => CQ (cs.set o v) (o + 1) vs
def Mem.EV (M : Mem) (b o : Nat) (vs : List Value) : Mem := fun i => if i = b then (M i).map (fun x => match x with
 | .cells c e f => .cells (CQ c.toList o vs).toArray e f
 | x => x) else M i
def dO (M : Mem) (b o : Nat) (vs : List Value) (n : Nat) (K : Mem → Prop) : Prop :=
 vs.length = n ∧ (∀ v ∈ vs, Value.plainCell v = true) ∧ (∃ c T, M b = some (.cells c T (0, 0)) ∧ o + n ≤ c.size) ∧ K (M.EV b o vs)
def Q6 (P : Program) (t : TypeId) (v : Value) (M : Mem) (b o : Nat) (K : Mem → Prop) : Prop :=
 match v with
 | .agg cs => if P.cellsOf t ≤ 12 then (if cs.size = P.cellsOf t then He M ⟨b, o, none⟩ cs.toList 0 K else False) else dO M b o cs.toList (P.cellsOf t) K
 | _ => False
def Kd (P : Program) (t : TypeId) (x v : Value) (M : Mem) (K : Mem → Prop) : Prop :=
 match x with
 | .pointer p => aE p fun b o =>
  match P.underlying t with
  | some (.struct _) | some (.array _ _) => Q6 P t v M b o K
  | some _ => if P.cellsOf t = 1 then DD v (b7 M ⟨b, o, none⟩ v K) else False
  | none => False
 | _ => False
theorem qN {P : Program} {α β : Type} {s : Sem α} {f : α → Sem β} {M : Mem} {x : α} {K : β → Mem → Prop} {Kp : Value → Mem → Prop}
  (h : bZ P s M = some x) (hk : eT P (f x) M K Kp) : eT P (s.bind f) M K Kp := gT P s f (iY P s h hk)
theorem DG {P : Program} {a : Addr} {Kp : Value → Mem → Prop} : ∀ {vs : List Value} {i : Nat} {M : Mem} {K : Mem → Prop}, He M a vs i K →
  eT P (storeCells a vs i) M (fun _ M' => K M') Kp
 | [], i, M, K, h => h
 | v :: vs, i, M, K, h => by
  simp only [He] at h
  obtain ⟨hp, _, hw, h⟩ := AR h
  unfold storeCells
  refine gT P _ _ ?_
  exact ⟨hp, hw, DG h⟩
theorem Ox {M : Mem} {b o T : Nat} {c : Array Value} {v : Value} {vs : List Value} (hb : M b = some (.cells c T (0, 0))) :
  (M.put ⟨b, o, none⟩ v).EV b (o + 1) vs = M.EV b o (v :: vs) := by
 funext i
 unfold Mem.EV Mem.put
 by_cases hi : i = b
 ·subst hi; simp [hb, Obj.Ao, CQ]
 ·simp [hi]
theorem Q7 {b T : Nat} {K : Mem → Prop} : ∀ {vs : List Value} {o i : Nat} {M : Mem} {c : Array Value}, M b = some (.cells c T (0, 0)) → o + i + vs.length ≤ c.size → (∀ v ∈ vs, Value.plainCell v = true) →
  K (M.EV b (o + i) vs) → He M ⟨b, o, none⟩ vs i K
 | [], o, i, M, c, hb, hs, hp, h => by
  have : M.EV b (o + i) [] = M := by
   funext k; unfold Mem.EV; split
   ·rename_i hk; subst hk; simp [hb, CQ]
   ·rfl
  rw [this] at h; exact h
 | v :: vs, o, i, M, c, hb, hs, hp, h => by
  simp only [List.length_cons] at hs
  have hpv := hp v (List.mem_cons_self ..)
  have ea : (⟨b, o, none⟩ : Addr).add i = ⟨b, o + i, none⟩ := by unfold Addr.add; split <;> simp_all
  have hw : M.wr ⟨b, o + i, none⟩ = true := by simp [Mem.wr, hb]; omega
  have hb' : (M.put ⟨b, o + i, none⟩ v) b = some (.cells (c.setIfInBounds (o + i) v) T (0, 0)) := by unfold Mem.put; simp [hb, Obj.Ao]
  have rest := Q7 (vs := vs) (o := o) (i := i + 1) (M := M.put ⟨b, o + i, none⟩ v) (K := K) hb' (by simp; omega) (fun u hu => hp u (List.mem_cons_of_mem _ hu)) (by
   rw [show o + (i + 1) = o + i + 1 from rfl, Ox hb]; exact h)
  unfold He
  rw [ea]
  cases v <;> first | (simp [Value.plainCell] at hpv; done) | exact ⟨hw, rest⟩
theorem Hf {P : Program} {t : TypeId} {x v : Value} {M : Mem} {K : Mem → Prop} {Kp : Value → Mem → Prop} (h : Kd P t x v M K) :
  eT P (Instr.storeAt t x v) M (fun _ M' => K M') Kp := by
 unfold Kd at h
 cases x <;> try exact h.elim
 rename_i p
 obtain ⟨b, o, hp, h2⟩ := kf h
 subst hp
 clear h
 cases hd : P.underlying t with
 | none => rw [hd] at h2; exact h2.elim
 | some d =>
  rw [hd] at h2
  have key : ∀ cs : List Value, v.cells.toList = cs → cs.length = P.cellsOf t → He M ⟨b, o, none⟩ cs 0 K →
    eT P (Instr.storeAt t (.pointer (some ⟨b, o, none⟩)) v) M (fun _ M' => K M') Kp := by
   intro cs hcs hl hs
   refine qN (x := ⟨b, o, none⟩) rfl ?_
   unfold storeVar
   refine qN (DF hd M) ?_
   have hn : ¬ (v.cells.size ≠ P.cellsOf t) := by simp [← hl, ← hcs]
   simp only [hn, if_false]
   rw [hcs]
   exact DG hs
  have one : (if P.cellsOf t = 1 then DD v (b7 M ⟨b, o, none⟩ v K) else False) →
    eT P (Instr.storeAt t (.pointer (some ⟨b, o, none⟩)) v) M (fun _ M' => K M') Kp := by
   intro h
   split at h
   ·rename_i h1
    obtain ⟨hp, hc, hw, hk⟩ := AR h
    refine key [v] (by simp [hc]) (by simp [h1]) ?_
    unfold He
    cases v <;> first | (simp [Value.plainCell] at hp; done) | exact ⟨hw, hk⟩
   ·exact h.elim
  have agg : Q6 P t v M b o K → eT P (Instr.storeAt t (.pointer (some ⟨b, o, none⟩)) v) M (fun _ M' => K M') Kp := by
   intro h
   unfold Q6 at h
   cases v <;> try exact h.elim
   rename_i cs
   simp only at h
   split at h
   ·split at h
    ·rename_i hl; exact key cs.toList rfl (by simpa using hl) h
    ·exact h.elim
   ·obtain ⟨hl, hp, ⟨c, T, hb, ho⟩, hk⟩ := h
    refine key cs.toList rfl hl (Q7 hb (by rw [hl]; omega) hp ?_)
    exact hk
  cases d with
  | struct fs => exact agg h2
  | array m e => exact agg h2
  | _ => exact one h2
end Go.AF
