/- A part of proofs about one program. -/
import Derived.Test.YtfjgcljdnhkmaaaGreatZSchedLostBase
set_option linter.unusedVariables false
namespace Go.AF
def bN (P : Program) {α : Type} : Sem α → Mem → Option α
 | .pure a, _ => some a
 | .load _ a k, M => match M.ld a with
  | some v => bN P (k v) M
  | none => none
 | .shape r k, M => match M r with
  | some (.cells c elem _) => bN P (k (some (elem, c.size))) M
  | _ => none
 | .frozen a k, M => match M a.block with
  | some (.cells _ _ f) => bN P (k (decide (f.1 ≤ a.off) && decide (a.off < f.2))) M
  | _ => none
 | .program k, M => bN P (k P) M
 | .mark _ k, M => bN P k M
 | .store .., _ | .new .., _ | .freeze .., _ | .getObj .., _ | .setObj .., _ | .choose .., _ | .sys .., _ | .halt _, _ => none
theorem dJ (P : Program) {α β : Type} (s : Sem α) (f : α → Sem β) (M : Mem) : bN P (s.bind f) M = (bN P s M).bind fun a => bN P (f a) M := by
 induction s with
 | pure a => rfl
 | load m a k ih =>
  simp only [Sem.bind, bN]
  cases M.ld a with
  | none => rfl
  | some v => exact ih v
 | shape r k ih =>
  simp only [Sem.bind, bN]
  split
  ·exact ih _
  ·rfl
 | frozen a k ih =>
  simp only [Sem.bind, bN]
  split
  ·exact ih _
  ·rfl
 | program k ih => exact ih P
 | mark m k ih => exact ih
 | store m a v k ih => rfl
 | new o k ih => rfl
 | freeze a n k ih => rfl
 | getObj r k ih => rfl
 | setObj r o k ih => rfl
 | choose q k ih => rfl
 | sys c k ih => rfl
 | halt x => rfl
def Mem.le (M M' : Mem) : Prop := ∀ b o, M b = some o → M' b = some o
theorem Mem.K9 {M M' : Mem} (h : M.le M') {a : Addr} {v : Value} (hv : M.ld a = some v) : M'.ld a = some v := by
 unfold Mem.ld at *
 cases hb : M a.block with
 | none => simp [hb] at hv
 | some o => rw [h _ _ hb]; rw [hb] at hv; exact hv
theorem l8 (P : Program) {α : Type} (s : Sem α) : ∀ {M M' : Mem} {x : α}, M.le M' → bN P s M = some x → bN P s M' = some x := by
 induction s with
 | pure a => intro M M' x h hx; exact hx
 | load m a k ih =>
  intro M M' x h hx
  simp only [bN] at hx ⊢
  cases hv : M.ld a with
  | none => simp [hv] at hx
  | some v => rw [Mem.K9 h hv]; rw [hv] at hx; exact ih v h hx
 | shape r k ih =>
  intro M M' x h hx
  simp only [bN] at hx ⊢
  cases hb : M r with
  | none => simp [hb] at hx
  | some o => rw [h _ _ hb]; rw [hb] at hx; cases o <;> first | exact ih _ h hx | (simp at hx; done)
 | frozen a k ih =>
  intro M M' x h hx
  simp only [bN] at hx ⊢
  cases hb : M a.block with
  | none => simp [hb] at hx
  | some o => rw [h _ _ hb]; rw [hb] at hx; cases o <;> first | exact ih _ h hx | (simp at hx; done)
 | program k ih => intro M M' x h hx; exact ih P h hx
 | mark m k ih => intro M M' x h hx; exact ih h hx
 | store m a v k ih => intro M M' x h hx; simp [bN] at hx
 | new o k ih => intro M M' x h hx; simp [bN] at hx
 | freeze a n k ih => intro M M' x h hx; simp [bN] at hx
 | getObj r k ih => intro M M' x h hx; simp [bN] at hx
 | setObj r o k ih => intro M M' x h hx; simp [bN] at hx
 | choose q k ih => intro M M' x h hx; simp [bN] at hx
 | sys c k ih => intro M M' x h hx; simp [bN] at hx
 | halt y => intro M M' x h hx; simp [bN] at hx
theorem gV (P : Program) {α : Type} (s : Sem α) : ∀ {M : Mem} {x : α} {K : α → Mem → Prop} {Kp : Value → Mem → Prop}, bN P s M = some x → K x M → dP P s M K Kp := by
 induction s with
 | pure a => intro M x K Kp hx hk; simp only [bN, Option.some.injEq] at hx; subst hx; exact hk
 | load m a k ih =>
  intro M x K Kp hx hk
  simp only [bN, dP] at hx ⊢
  split at hx
  ·rename_i v hv; rw [hv]; exact ih v hx hk
  ·simp at hx
 | shape r k ih =>
  intro M x K Kp hx hk
  simp only [bN, dP] at hx ⊢
  split at hx
  ·rename_i hb; rw [hb]; exact ih _ hx hk
  ·simp at hx
 | frozen a k ih =>
  intro M x K Kp hx hk
  simp only [bN, dP] at hx ⊢
  split at hx
  ·rename_i hb; rw [hb]; exact ih _ hx hk
  ·simp at hx
 | program k ih => intro M x K Kp hx hk; exact ih P hx hk
 | mark m k ih => intro M x K Kp hx hk; exact ih hx hk
 | store m a v k ih => intro M x K Kp hx; simp [bN] at hx
 | new o k ih => intro M x K Kp hx; simp [bN] at hx
 | freeze a n k ih => intro M x K Kp hx; simp [bN] at hx
 | getObj r k ih => intro M x K Kp hx; simp [bN] at hx
 | setObj r o k ih => intro M x K Kp hx; simp [bN] at hx
 | choose q k ih => intro M x K Kp hx; simp [bN] at hx
 | sys c k ih => intro M x K Kp hx; simp [bN] at hx
 | halt y => intro M x K Kp hx; simp [bN] at hx
def aV (e : Bool) (X Y : Prop) : Prop := match e with | true => X | false => Y
def aK (o : Option Value) (k : IntKind) (K : Int → Prop) : Prop := match o with | some (.int k' n) => if k' = k then K n else False | _ => False
def cD (o : Option Value) (K : Bool → Prop) : Prop := match o with | some (.bool b) => K b | _ => False
def fH (o : Option Value) (K : ByteArray → Prop) : Prop := match o with | some (.string b) => K b | _ => False
def bL (o : Option Value) (K : Option Addr → Prop) : Prop := match o with | some (.pointer p) => K p | _ => False
def aD (o : Option Value) (K : Option Addr → Nat → Nat → Prop) : Prop := match o with | some (.slice A n c) => K A n c | _ => False
def fx (o : Option Value) (K : Value → Prop) : Prop := match o with | some v => K v | none => False
def IW (o : Option (List Value)) (K : List Value → Prop) : Prop := match o with | some v => K v | none => False
def aI (p : Option Addr) (K : Nat → Nat → Prop) : Prop := match p with | some ⟨b, o, none⟩ => K b o | _ => False
def Aw (v : Value) (X : Prop) : Prop := match v with | .agg _ => False | .tuple _ => False | _ => X
inductive Ax where
 | int (k : IntKind) | bool | str | ptr | sl | val
def VQ : TypeDesc → Ax
 | .bool => .bool
 | .int k => .int k
 | .string => .str
 | .pointer _ => .ptr
 | .slice _ => .sl
 | _ => .val
def flat (P : Program) : Nat → TypeId → List Ax
 | 0, _ => []
 | n + 1, t => match P.underlying t with
  | some (.struct fs) => fs.toList.flatMap fun f => flat P n f.type
  | some (.array m e) => (List.replicate m (flat P n e)).flatten
  | some d => [VQ d]
  | none => []
def Dk (c : Ax) (o : Option Value) (K : Value → Prop) : Prop :=
 match c with
 | .int k => aK o k fun n => K (.int k n)
 | .bool => cD o fun b => K (.bool b)
 | .str => fH o fun s => K (.string s)
 | .ptr => bL o fun p => K (.pointer p)
 | .sl => aD o fun A n c => K (.slice A n c)
 | .val => fx o K
def Fq : List Ax → List Value → (List Value → Prop) → Prop
 | [], [], K => K []
 | c :: cs, v :: vs, K => Dk c (some v) fun v' => Fq cs vs fun vs' => K (v' :: vs')
 | _, _, _ => False
def Fs (M : Mem) (a : Addr) : List Ax → Nat → (List Value → Prop) → Prop
 | [], _, K => K []
 | c :: cs, i, K => Dk c (M.ld (a.add i)) fun v => Fs M a cs (i + 1) fun vs => K (v :: vs)
def Mem.fy (M : Mem) (a : Addr) : Nat → Nat → Option (List Value)
 | _, 0 => some []
 | i, n + 1 => match M.ld (a.add i) with
  | some v => (M.fy a (i + 1) n).map (v :: ·)
  | none => none
theorem oR {c : Ax} {o : Option Value} {K : Value → Prop} (h : Dk c o K) : ∃ v, o = some v ∧ K v := by
 cases c <;> simp only [Dk] at h
 case int k =>
  unfold aK at h; split at h
  ·split at h
   ·rename_i n hk; subst hk; exact ⟨_, rfl, h⟩
   ·exact h.elim
  ·exact h.elim
 case bool => unfold cD at h; split at h <;> first | exact ⟨_, rfl, h⟩ | exact h.elim
 case str => unfold fH at h; split at h <;> first | exact ⟨_, rfl, h⟩ | exact h.elim
 case ptr => unfold bL at h; split at h <;> first | exact ⟨_, rfl, h⟩ | exact h.elim
 case sl => unfold aD at h; split at h <;> first | exact ⟨_, rfl, h⟩ | exact h.elim
 case val => unfold fx at h; split at h <;> first | exact ⟨_, rfl, h⟩ | exact h.elim
theorem iS {p : Option Addr} {K : Nat → Nat → Prop} (h : aI p K) : ∃ b o, p = some ⟨b, o, none⟩ ∧ K b o := by
 unfold aI at h
 split at h
 ·exact ⟨_, _, rfl, h⟩
 ·exact h.elim
theorem xN {v : Value} {X : Prop} (h : Aw v X) : Value.plainCell v = true ∧ v.cells = #[v] ∧ X := by
 cases v <;> first | exact h.elim | exact ⟨rfl, rfl, h⟩
theorem aN {P : Program} {t : TypeId} {d : TypeDesc} (h : P.underlying t = some d) (M : Mem) : bN P (underlying t) M = some d := by
 show bN P (Sem.bind program _) M = _
 simp only [dJ, program, bN, Option.bind_some, h]; rfl
theorem cz {P : Program} {t : TypeId} {i : TypeInfo} (h : P.info? t = some i) (M : Mem) : bN P (typeInfo t) M = some i := by
 show bN P (Sem.bind program _) M = _
 simp only [dJ, program, bN, Option.bind_some, h]; rfl
theorem info_of_underlying {P : Program} {t : TypeId} {d : TypeDesc} (h : P.underlying t = some d) : ∃ i, P.info? t = some i := by
 unfold Program.underlying at h
 cases hi : P.info? t with
 | none => simp [hi] at h
 | some i => exact ⟨i, rfl⟩
theorem Ay {P : Program} {t : TypeId} {d : TypeDesc} (h : P.underlying t = some d) (M : Mem) : bN P (sizeOf t) M = some (P.cellsOf t) := by
 obtain ⟨i, hi⟩ := info_of_underlying h
 show bN P (Sem.bind (typeInfo t) _) M = _
 rw [dJ, cz hi]
 simp [Program.cellsOf, hi, bN, pure]
theorem bH (P : Program) {α : Type} (a : α) (M : Mem) : bN P (pure a : Sem α) M = some a := rfl
def uR : TypeDesc → Bool
 | .struct _ => true
 | .array _ _ => true
 | _ => false
theorem kB {P : Program} {t : TypeId} {d : TypeDesc} (h : P.underlying t = some d) (M : Mem) :
  bN P (isAgg t) M = some (uR d) := by
 show bN P (Sem.bind (underlying t) _) M = _
 rw [dJ, aN h]
 cases d <;> rfl
theorem mZ {P : Program} {M : Mem} {a : Addr} : ∀ (n i : Nat) (acc : Array Value) (vs : List Value), M.fy a i n = some vs →
  bN P (loadCellsFrom a i n acc) M = some (acc ++ vs.toArray)
 | 0, i, acc, vs, h => by
  simp only [Mem.fy, Option.some.injEq] at h; subst h
  simp [loadCellsFrom, bN, pure]
 | n + 1, i, acc, vs, h => by
  simp only [Mem.fy] at h
  cases hv : M.ld (a.add i) with
  | none => simp [hv] at h
  | some v =>
   simp only [hv] at h
   cases hr : M.fy a (i + 1) n with
   | none => simp [hr] at h
   | some rest =>
    simp only [hr, Option.map_some, Option.some.injEq] at h
    subst h
    show bN P (Sem.bind (load (a.add i)) _) M = _
    rw [dJ]
    simp only [load, bN, hv, Option.bind_some]
    rw [mZ n (i + 1) (acc.push v) rest hr]
    simp
theorem uS {M : Mem} {a : Addr} : ∀ {cs : List Ax} {i : Nat} {K : List Value → Prop}, Fs M a cs i K → ∃ vs, M.fy a i cs.length = some vs ∧ K vs
 | [], i, K, h => ⟨[], rfl, h⟩
 | c :: cs, i, K, h => by
  simp only [Fs] at h
  obtain ⟨v, hv, h⟩ := oR h
  obtain ⟨vs, hvs, h⟩ := uS h
  exact ⟨v :: vs, by simp [Mem.fy, hv, hvs], h⟩
def HB (P : Program) (t : TypeId) (x : Value) (M : Mem) (K : Value → Prop) : Prop :=
 match x with
 | .pointer p => aI p fun b o =>
  match P.underlying t with
  | some (.struct _) | some (.array _ _) =>
   if (flat P 8 t).length = P.cellsOf t then
    (if P.cellsOf t ≤ 12 then Fs M ⟨b, o, none⟩ (flat P 8 t) 0 fun vs => K (.agg vs.toArray) else IW (M.fy ⟨b, o, none⟩ 0 (P.cellsOf t)) fun vs => K (.agg vs.toArray))
   else False
  | some d => Dk (VQ d) (M.ld ⟨b, o, none⟩) K
  | none => False
 | _ => False
def Wx (P : Program) (t : TypeId) (M : Mem) (b o : Nat) (K : Value → Prop) : Prop :=
 if (flat P 8 t).length = P.cellsOf t then
  (if P.cellsOf t ≤ 12 then Fs M ⟨b, o, none⟩ (flat P 8 t) 0 fun vs => K (.agg vs.toArray) else IW (M.fy ⟨b, o, none⟩ 0 (P.cellsOf t)) fun vs => K (.agg vs.toArray))
 else False
theorem oS {P : Program} {t : TypeId} {d : TypeDesc} {M : Mem} {b o m : Nat} {vs : List Value} (hd : P.underlying t = some d) (eW : uR d = true) (hm : P.cellsOf t = m)
  (hl : M.fy ⟨b, o, none⟩ 0 m = some vs) : bN P (Instr.loadAt t (.pointer (some ⟨b, o, none⟩))) M = some (.agg vs.toArray) := by
 show bN P (Sem.bind (Instr.sureAddr _) _) M = _
 rw [dJ]
 simp only [Instr.sureAddr, bH, Option.bind_some]
 show bN P (Sem.bind (isAgg t) _) M = _
 rw [dJ, kB hd]
 simp only [Option.bind_some, eW, if_true]
 show bN P (Sem.bind (sizeOf t) _) M = _
 rw [dJ, Ay hd]
 simp only [Option.bind_some]
 show bN P (Sem.bind (loadCells _ _) _) M = _
 rw [dJ]
 unfold loadCells
 rw [hm, mZ m 0 #[] vs hl]
 simp only [Option.bind_some, Array.empty_append]
 rfl
theorem vT {P : Program} {t : TypeId} {d : TypeDesc} {M : Mem} {b o : Nat} {v : Value} (hd : P.underlying t = some d) (eW : uR d = false)
  (hl : M.ld ⟨b, o, none⟩ = some v) : bN P (Instr.loadAt t (.pointer (some ⟨b, o, none⟩))) M = some v := by
 show bN P (Sem.bind (Instr.sureAddr _) _) M = _
 rw [dJ]
 simp only [Instr.sureAddr, bH, Option.bind_some]
 show bN P (Sem.bind (isAgg t) _) M = _
 rw [dJ, kB hd]
 simp only [Option.bind_some, eW, Bool.false_eq_true, if_false]
 show bN P (load _) M = _
 unfold load
 simp only [bN, hl]
theorem xO {P : Program} {t : TypeId} {x : Value} {M : Mem} {K : Value → Prop} (h : HB P t x M K) :
  ∃ v, bN P (Instr.loadAt t x) M = some v ∧ K v := by
 unfold HB at h
 cases x <;> try exact h.elim
 rename_i p
 obtain ⟨b, o, hp, h2⟩ := iS h
 subst hp
 clear h
 cases hd : P.underlying t with
 | none => rw [hd] at h2; exact h2.elim
 | some d =>
  rw [hd] at h2
  have agg : uR d = true → Wx P t M b o K → ∃ v, bN P (Instr.loadAt t (.pointer (some ⟨b, o, none⟩))) M = some v ∧ K v := by
   intro eW h
   unfold Wx at h
   split at h
   ·rename_i hl
    split at h
    ·obtain ⟨vs, hvs, h⟩ := uS h
     exact ⟨_, oS hd eW hl.symm hvs, h⟩
    ·unfold IW at h
     split at h
     ·rename_i vs hvs; exact ⟨_, oS hd eW rfl hvs, h⟩
     ·exact h.elim
   ·exact h.elim
  cases d with
  | struct fs => exact agg rfl h2
  | array m e => exact agg rfl h2
  | _ => (obtain ⟨v, hv, h⟩ := oR h2; exact ⟨v, vT hd rfl hv, h⟩)
def aO (M : Mem) (a : Addr) (v : Value) (K : Mem → Prop) : Prop := M.wr a = true ∧ K (M.put a v)
def bj (M : Mem) (o : Obj) (K : Nat → Mem → Prop) : Prop := ∀ b, M b = none → K b (M.set b o)
def Dl (M : Mem) (a : Addr) : List Value → Nat → (Mem → Prop) → Prop
 | [], _, K => K M
 | v :: vs, i, K => Aw v (aO M (a.add i) v fun M' => Dl M' a vs (i + 1) K)
def zK : List Value → Nat → List Value → List Value
 | cs, _, [] => cs
 | cs, o, v :: vs => zK (cs.set o v) (o + 1) vs
def Mem.BW (M : Mem) (b o : Nat) (vs : List Value) : Mem := fun i => if i = b then (M i).map (fun x => match x with
 | .cells c e f => .cells (zK c.toList o vs).toArray e f
 | x => x) else M i
def KN (M : Mem) (b o : Nat) (vs : List Value) (n : Nat) (K : Mem → Prop) : Prop :=
 vs.length = n ∧ (∀ v ∈ vs, Value.plainCell v = true) ∧ (∃ c T, M b = some (.cells c T (0, 0)) ∧ o + n ≤ c.size) ∧ K (M.BW b o vs)
def La (P : Program) (t : TypeId) (v : Value) (M : Mem) (b o : Nat) (K : Mem → Prop) : Prop :=
 match v with
 | .agg cs => if P.cellsOf t ≤ 12 then (if cs.size = P.cellsOf t then Dl M ⟨b, o, none⟩ cs.toList 0 K else False) else KN M b o cs.toList (P.cellsOf t) K
 | _ => False
def Ft (P : Program) (t : TypeId) (x v : Value) (M : Mem) (K : Mem → Prop) : Prop :=
 match x with
 | .pointer p => aI p fun b o =>
  match P.underlying t with
  | some (.struct _) | some (.array _ _) => La P t v M b o K
  | some _ => if P.cellsOf t = 1 then Aw v (aO M ⟨b, o, none⟩ v K) else False
  | none => False
 | _ => False
theorem oT {P : Program} {α β : Type} {s : Sem α} {f : α → Sem β} {M : Mem} {x : α} {K : β → Mem → Prop} {Kp : Value → Mem → Prop}
  (h : bN P s M = some x) (hk : dP P (f x) M K Kp) : dP P (s.bind f) M K Kp := fY P s f (gV P s h hk)
theorem Az {P : Program} {a : Addr} {Kp : Value → Mem → Prop} : ∀ {vs : List Value} {i : Nat} {M : Mem} {K : Mem → Prop}, Dl M a vs i K →
  dP P (storeCells a vs i) M (fun _ M' => K M') Kp
 | [], i, M, K, h => h
 | v :: vs, i, M, K, h => by
  simp only [Dl] at h
  obtain ⟨hp, _, hw, h⟩ := xN h
  unfold storeCells
  refine fY P _ _ ?_
  exact ⟨hp, hw, Az h⟩
theorem IX {M : Mem} {b o T : Nat} {c : Array Value} {v : Value} {vs : List Value} (hb : M b = some (.cells c T (0, 0))) :
  (M.put ⟨b, o, none⟩ v).BW b (o + 1) vs = M.BW b o (v :: vs) := by
 funext i
 unfold Mem.BW Mem.put
 by_cases hi : i = b
 ·subst hi; simp [hb, Obj.xn, zK]
 ·simp [hi]
theorem Lb {b T : Nat} {K : Mem → Prop} : ∀ {vs : List Value} {o i : Nat} {M : Mem} {c : Array Value}, M b = some (.cells c T (0, 0)) → o + i + vs.length ≤ c.size → (∀ v ∈ vs, Value.plainCell v = true) →
  K (M.BW b (o + i) vs) → Dl M ⟨b, o, none⟩ vs i K
 | [], o, i, M, c, hb, hs, hp, h => by
  have : M.BW b (o + i) [] = M := by
   funext k; unfold Mem.BW; split
   ·rename_i hk; subst hk; simp [hb, zK]
   ·rfl
  rw [this] at h; exact h
 | v :: vs, o, i, M, c, hb, hs, hp, h => by
  simp only [List.length_cons] at hs
  have hpv := hp v (List.mem_cons_self ..)
  have ea : (⟨b, o, none⟩ : Addr).add i = ⟨b, o + i, none⟩ := by unfold Addr.add; split <;> simp_all
  have hw : M.wr ⟨b, o + i, none⟩ = true := by simp [Mem.wr, hb]; omega
  have hb' : (M.put ⟨b, o + i, none⟩ v) b = some (.cells (c.setIfInBounds (o + i) v) T (0, 0)) := by unfold Mem.put; simp [hb, Obj.xn]
  have rest := Lb (vs := vs) (o := o) (i := i + 1) (M := M.put ⟨b, o + i, none⟩ v) (K := K) hb' (by simp; omega) (fun u hu => hp u (List.mem_cons_of_mem _ hu)) (by
   rw [show o + (i + 1) = o + i + 1 from rfl, IX hb]; exact h)
  unfold Dl
  rw [ea]
  cases v <;> first | (simp [Value.plainCell] at hpv; done) | exact ⟨hw, rest⟩
theorem Dm {P : Program} {t : TypeId} {x v : Value} {M : Mem} {K : Mem → Prop} {Kp : Value → Mem → Prop} (h : Ft P t x v M K) :
  dP P (Instr.storeAt t x v) M (fun _ M' => K M') Kp := by
 unfold Ft at h
 cases x <;> try exact h.elim
 rename_i p
 obtain ⟨b, o, hp, h2⟩ := iS h
 subst hp
 clear h
 cases hd : P.underlying t with
 | none => rw [hd] at h2; exact h2.elim
 | some d =>
  rw [hd] at h2
  have key : ∀ cs : List Value, v.cells.toList = cs → cs.length = P.cellsOf t → Dl M ⟨b, o, none⟩ cs 0 K →
    dP P (Instr.storeAt t (.pointer (some ⟨b, o, none⟩)) v) M (fun _ M' => K M') Kp := by
   intro cs hcs hl hs
   refine oT (x := ⟨b, o, none⟩) rfl ?_
   unfold storeVar
   refine oT (Ay hd M) ?_
   have hn : ¬ (v.cells.size ≠ P.cellsOf t) := by simp [← hl, ← hcs]
   simp only [hn, if_false]
   rw [hcs]
   exact Az hs
  have one : (if P.cellsOf t = 1 then Aw v (aO M ⟨b, o, none⟩ v K) else False) →
    dP P (Instr.storeAt t (.pointer (some ⟨b, o, none⟩)) v) M (fun _ M' => K M') Kp := by
   intro h
   split at h
   ·rename_i h1
    obtain ⟨hp, hc, hw, hk⟩ := xN h
    refine key [v] (by simp [hc]) (by simp [h1]) ?_
    unfold Dl
    cases v <;> first | (simp [Value.plainCell] at hp; done) | exact ⟨hw, hk⟩
   ·exact h.elim
  have agg : La P t v M b o K → dP P (Instr.storeAt t (.pointer (some ⟨b, o, none⟩)) v) M (fun _ M' => K M') Kp := by
   intro h
   unfold La at h
   cases v <;> try exact h.elim
   rename_i cs
   simp only at h
   split at h
   ·split at h
    ·rename_i hl; exact key cs.toList rfl (by simpa using hl) h
    ·exact h.elim
   ·obtain ⟨hl, hp, ⟨c, T, hb, ho⟩, hk⟩ := h
    refine key cs.toList rfl hl (Lb hb (by rw [hl]; omega) hp ?_)
    exact hk
  cases d with
  | struct fs => exact agg h2
  | array m e => exact agg h2
  | _ => exact one h2
end Go.AF
