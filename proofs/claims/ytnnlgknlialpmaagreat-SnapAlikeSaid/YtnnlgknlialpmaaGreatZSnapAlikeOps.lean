/- A part of proofs about one program. -/
import Derived.Test.YtnnlgknlialpmaaGreatZSnapAlikeBase
set_option linter.unusedVariables false
namespace Go.AF
def bQ (P : Program) {α : Type} : Sem α → Mem → Option α
 | .pure a, _ => some a
 | .load _ a k, M => match M.ld a with
  | some v => bQ P (k v) M
  | none => none
 | .shape r k, M => match M r with
  | some (.cells c elem _) => bQ P (k (some (elem, c.size))) M
  | _ => none
 | .frozen a k, M => match M a.block with
  | some (.cells _ _ f) => bQ P (k (decide (f.1 ≤ a.off) && decide (a.off < f.2))) M
  | _ => none
 | .program k, M => bQ P (k P) M
 | .mark _ k, M => bQ P k M
 | .store .., _ | .new .., _ | .freeze .., _ | .getObj .., _ | .setObj .., _ | .choose .., _ | .sys .., _ | .halt _, _ => none
theorem ej (P : Program) {α β : Type} (s : Sem α) (f : α → Sem β) (M : Mem) : bQ P (s.bind f) M = (bQ P s M).bind fun a => bQ P (f a) M := by
 induction s with
 | pure a => rfl
 | load m a k ih =>
  simp only [Sem.bind, bQ]
  cases M.ld a with
  | none => rfl
  | some v => exact ih v
 | shape r k ih =>
  simp only [Sem.bind, bQ]
  split
  ·exact ih _
  ·rfl
 | frozen a k ih =>
  simp only [Sem.bind, bQ]
  split
  ·exact ih _
  ·rfl
 | program k ih => exact ih P
 | mark m k ih => exact ih
 | store m a v k ih => rfl
 | new o k ih => rfl
 | freeze a n k ih => rfl
 | getObj r k ih => rfl
 | setObj r o k ih => rfl
 | choose q k ih => rfl
 | sys c k ih => rfl
 | halt x => rfl
def Mem.le (M M' : Mem) : Prop := ∀ b o, M b = some o → M' b = some o
theorem Mem.Oi {M M' : Mem} (h : M.le M') {a : Addr} {v : Value} (hv : M.ld a = some v) : M'.ld a = some v := by
 unfold Mem.ld at *
 cases hb : M a.block with
 | none => simp [hb] at hv
 | some o => rw [h _ _ hb]; rw [hb] at hv; exact hv
theorem m8 (P : Program) {α : Type} (s : Sem α) : ∀ {M M' : Mem} {x : α}, M.le M' → bQ P s M = some x → bQ P s M' = some x := by
 induction s with
 | pure a => intro M M' x h hx; exact hx
 | load m a k ih =>
  intro M M' x h hx
  simp only [bQ] at hx ⊢
  cases hv : M.ld a with
  | none => simp [hv] at hx
  | some v => rw [Mem.Oi h hv]; rw [hv] at hx; exact ih v h hx
 | shape r k ih =>
  intro M M' x h hx
  simp only [bQ] at hx ⊢
  cases hb : M r with
  | none => simp [hb] at hx
  | some o => rw [h _ _ hb]; rw [hb] at hx; cases o <;> first | exact ih _ h hx | (simp at hx; done)
 | frozen a k ih =>
  intro M M' x h hx
  simp only [bQ] at hx ⊢
  cases hb : M a.block with
  | none => simp [hb] at hx
  | some o => rw [h _ _ hb]; rw [hb] at hx; cases o <;> first | exact ih _ h hx | (simp at hx; done)
 | program k ih => intro M M' x h hx; exact ih P h hx
 | mark m k ih => intro M M' x h hx; exact ih h hx
 | store m a v k ih => intro M M' x h hx; simp [bQ] at hx
 | new o k ih => intro M M' x h hx; simp [bQ] at hx
 | freeze a n k ih => intro M M' x h hx; simp [bQ] at hx
 | getObj r k ih => intro M M' x h hx; simp [bQ] at hx
 | setObj r o k ih => intro M M' x h hx; simp [bQ] at hx
 | choose q k ih => intro M M' x h hx; simp [bQ] at hx
 | sys c k ih => intro M M' x h hx; simp [bQ] at hx
 | halt y => intro M M' x h hx; simp [bQ] at hx
theorem gJ (P : Program) {α : Type} (s : Sem α) : ∀ {M : Mem} {x : α} {K : α → Mem → Prop} {Kp : Value → Mem → Prop}, bQ P s M = some x → K x M → ee P s M K Kp := by
 induction s with
 | pure a => intro M x K Kp hx hk; simp only [bQ, Option.some.injEq] at hx; subst hx; exact hk
 | load m a k ih =>
  intro M x K Kp hx hk
  simp only [bQ, ee] at hx ⊢
  split at hx
  ·rename_i v hv; rw [hv]; exact ih v hx hk
  ·simp at hx
 | shape r k ih =>
  intro M x K Kp hx hk
  simp only [bQ, ee] at hx ⊢
  split at hx
  ·rename_i hb; rw [hb]; exact ih _ hx hk
  ·simp at hx
 | frozen a k ih =>
  intro M x K Kp hx hk
  simp only [bQ, ee] at hx ⊢
  split at hx
  ·rename_i hb; rw [hb]; exact ih _ hx hk
  ·simp at hx
 | program k ih => intro M x K Kp hx hk; exact ih P hx hk
 | mark m k ih => intro M x K Kp hx hk; exact ih hx hk
 | store m a v k ih => intro M x K Kp hx; simp [bQ] at hx
 | new o k ih => intro M x K Kp hx; simp [bQ] at hx
 | freeze a n k ih => intro M x K Kp hx; simp [bQ] at hx
 | getObj r k ih => intro M x K Kp hx; simp [bQ] at hx
 | setObj r o k ih => intro M x K Kp hx; simp [bQ] at hx
 | choose q k ih => intro M x K Kp hx; simp [bQ] at hx
 | sys c k ih => intro M x K Kp hx; simp [bQ] at hx
 | halt y => intro M x K Kp hx; simp [bQ] at hx
def aS (e : Bool) (X Y : Prop) : Prop := match e with | true => X | false => Y
def aK (o : Option Value) (k : IntKind) (K : Int → Prop) : Prop := match o with | some (.int k' n) => if k' = k then K n else False | _ => False
def dH (o : Option Value) (K : Bool → Prop) : Prop := match o with | some (.bool b) => K b | _ => False
def fa (o : Option Value) (K : ByteArray → Prop) : Prop := match o with | some (.string b) => K b | _ => False
def cw (o : Option Value) (K : Option Addr → Prop) : Prop := match o with | some (.pointer p) => K p | _ => False
def az (o : Option Value) (K : Option Addr → Nat → Nat → Prop) : Prop := match o with | some (.slice A n c) => K A n c | _ => False
def fk (o : Option Value) (K : Value → Prop) : Prop := match o with | some v => K v | none => False
def Ig (o : Option (List Value)) (K : List Value → Prop) : Prop := match o with | some v => K v | none => False
def aE (p : Option Addr) (K : Nat → Nat → Prop) : Prop := match p with | some ⟨b, o, none⟩ => K b o | _ => False
def CS (v : Value) (X : Prop) : Prop := match v with | .agg _ => False | .tuple _ => False | _ => X
inductive CT where
 | int (k : IntKind) | bool | str | ptr | sl | val
def Zn : TypeDesc → CT
 | .bool => .bool
 | .int k => .int k
 | .string => .str
 | .pointer _ => .ptr
 | .slice _ => .sl
 | _ => .val
def flat (P : Program) : Nat → TypeId → List CT
 | 0, _ => []
 | n + 1, t => match P.underlying t with
  | some (.struct fs) => fs.toList.flatMap fun f => flat P n f.type
  | some (.array m e) => (List.replicate m (flat P n e)).flatten
  | some d => [Zn d]
  | none => []
def Fx (c : CT) (o : Option Value) (K : Value → Prop) : Prop :=
 match c with
 | .int k => aK o k fun n => K (.int k n)
 | .bool => dH o fun b => K (.bool b)
 | .str => fa o fun s => K (.string s)
 | .ptr => cw o fun p => K (.pointer p)
 | .sl => az o fun A n c => K (.slice A n c)
 | .val => fk o K
def Ih : List CT → List Value → (List Value → Prop) → Prop
 | [], [], K => K []
 | c :: cs, v :: vs, K => Fx c (some v) fun v' => Ih cs vs fun vs' => K (v' :: vs')
 | _, _, _ => False
def Ii (M : Mem) (a : Addr) : List CT → Nat → (List Value → Prop) → Prop
 | [], _, K => K []
 | c :: cs, i, K => Fx c (M.ld (a.add i)) fun v => Ii M a cs (i + 1) fun vs => K (v :: vs)
def Mem.fN (M : Mem) (a : Addr) : Nat → Nat → Option (List Value)
 | _, 0 => some []
 | i, n + 1 => match M.ld (a.add i) with
  | some v => (M.fN a (i + 1) n).map (v :: ·)
  | none => none
theorem pY {c : CT} {o : Option Value} {K : Value → Prop} (h : Fx c o K) : ∃ v, o = some v ∧ K v := by
 cases c <;> simp only [Fx] at h
 case int k =>
  unfold aK at h; split at h
  ·split at h
   ·rename_i n hk; subst hk; exact ⟨_, rfl, h⟩
   ·exact h.elim
  ·exact h.elim
 case bool => unfold dH at h; split at h <;> first | exact ⟨_, rfl, h⟩ | exact h.elim
 case str => unfold fa at h; split at h <;> first | exact ⟨_, rfl, h⟩ | exact h.elim
 case ptr => unfold cw at h; split at h <;> first | exact ⟨_, rfl, h⟩ | exact h.elim
 case sl => unfold az at h; split at h <;> first | exact ⟨_, rfl, h⟩ | exact h.elim
 case val => unfold fk at h; split at h <;> first | exact ⟨_, rfl, h⟩ | exact h.elim
theorem jE {p : Option Addr} {K : Nat → Nat → Prop} (h : aE p K) : ∃ b o, p = some ⟨b, o, none⟩ ∧ K b o := by
 unfold aE at h
 split at h
 ·exact ⟨_, _, rfl, h⟩
 ·exact h.elim
theorem z8 {v : Value} {X : Prop} (h : CS v X) : Value.plainCell v = true ∧ v.cells = #[v] ∧ X := by
 cases v <;> first | exact h.elim | exact ⟨rfl, rfl, h⟩
theorem aH {P : Program} {t : TypeId} {d : TypeDesc} (h : P.underlying t = some d) (M : Mem) : bQ P (underlying t) M = some d := by
 show bQ P (Sem.bind program _) M = _
 simp only [ej, program, bQ, Option.bind_some, h]; rfl
theorem b7 {P : Program} {t : TypeId} {i : TypeInfo} (h : P.info? t = some i) (M : Mem) : bQ P (typeInfo t) M = some i := by
 show bQ P (Sem.bind program _) M = _
 simp only [ej, program, bQ, Option.bind_some, h]; rfl
theorem info_of_underlying {P : Program} {t : TypeId} {d : TypeDesc} (h : P.underlying t = some d) : ∃ i, P.info? t = some i := by
 unfold Program.underlying at h
 cases hi : P.info? t with
 | none => simp [hi] at h
 | some i => exact ⟨i, rfl⟩
theorem CU {P : Program} {t : TypeId} {d : TypeDesc} (h : P.underlying t = some d) (M : Mem) : bQ P (sizeOf t) M = some (P.cellsOf t) := by
 obtain ⟨i, hi⟩ := info_of_underlying h
 show bQ P (Sem.bind (typeInfo t) _) M = _
 rw [ej, b7 hi]
 simp [Program.cellsOf, hi, bQ, pure]
theorem bJ (P : Program) {α : Type} (a : α) (M : Mem) : bQ P (pure a : Sem α) M = some a := rfl
def xh : TypeDesc → Bool
 | .struct _ => true
 | .array _ _ => true
 | _ => false
theorem lM {P : Program} {t : TypeId} {d : TypeDesc} (h : P.underlying t = some d) (M : Mem) :
  bQ P (isAgg t) M = some (xh d) := by
 show bQ P (Sem.bind (underlying t) _) M = _
 rw [ej, aH h]
 cases d <;> rfl
theorem oc {P : Program} {M : Mem} {a : Addr} : ∀ (n i : Nat) (acc : Array Value) (vs : List Value), M.fN a i n = some vs →
  bQ P (loadCellsFrom a i n acc) M = some (acc ++ vs.toArray)
 | 0, i, acc, vs, h => by
  simp only [Mem.fN, Option.some.injEq] at h; subst h
  simp [loadCellsFrom, bQ, pure]
 | n + 1, i, acc, vs, h => by
  simp only [Mem.fN] at h
  cases hv : M.ld (a.add i) with
  | none => simp [hv] at h
  | some v =>
   simp only [hv] at h
   cases hr : M.fN a (i + 1) n with
   | none => simp [hr] at h
   | some rest =>
    simp only [hr, Option.map_some, Option.some.injEq] at h
    subst h
    show bQ P (Sem.bind (load (a.add i)) _) M = _
    rw [ej]
    simp only [load, bQ, hv, Option.bind_some]
    rw [oc n (i + 1) (acc.push v) rest hr]
    simp
theorem xj {M : Mem} {a : Addr} : ∀ {cs : List CT} {i : Nat} {K : List Value → Prop}, Ii M a cs i K → ∃ vs, M.fN a i cs.length = some vs ∧ K vs
 | [], i, K, h => ⟨[], rfl, h⟩
 | c :: cs, i, K, h => by
  simp only [Ii] at h
  obtain ⟨v, hv, h⟩ := pY h
  obtain ⟨vs, hvs, h⟩ := xj h
  exact ⟨v :: vs, by simp [Mem.fN, hv, hvs], h⟩
def Kw (P : Program) (t : TypeId) (x : Value) (M : Mem) (K : Value → Prop) : Prop :=
 match x with
 | .pointer p => aE p fun b o =>
  match P.underlying t with
  | some (.struct _) | some (.array _ _) =>
   if (flat P 8 t).length = P.cellsOf t then
    (if P.cellsOf t ≤ 12 then Ii M ⟨b, o, none⟩ (flat P 8 t) 0 fun vs => K (.agg vs.toArray) else Ig (M.fN ⟨b, o, none⟩ 0 (P.cellsOf t)) fun vs => K (.agg vs.toArray))
   else False
  | some d => Fx (Zn d) (M.ld ⟨b, o, none⟩) K
  | none => False
 | _ => False
def ZZ (P : Program) (t : TypeId) (M : Mem) (b o : Nat) (K : Value → Prop) : Prop :=
 if (flat P 8 t).length = P.cellsOf t then
  (if P.cellsOf t ≤ 12 then Ii M ⟨b, o, none⟩ (flat P 8 t) 0 fun vs => K (.agg vs.toArray) else Ig (M.fN ⟨b, o, none⟩ 0 (P.cellsOf t)) fun vs => K (.agg vs.toArray))
 else False
theorem pZ {P : Program} {t : TypeId} {d : TypeDesc} {M : Mem} {b o m : Nat} {vs : List Value} (hd : P.underlying t = some d) (fI : xh d = true) (hm : P.cellsOf t = m)
  (hl : M.fN ⟨b, o, none⟩ 0 m = some vs) : bQ P (Instr.loadAt t (.pointer (some ⟨b, o, none⟩))) M = some (.agg vs.toArray) := by
 show bQ P (Sem.bind (Instr.sureAddr _) _) M = _
 rw [ej]
 simp only [Instr.sureAddr, bJ, Option.bind_some]
 show bQ P (Sem.bind (isAgg t) _) M = _
 rw [ej, lM hd]
 simp only [Option.bind_some, fI, if_true]
 show bQ P (Sem.bind (sizeOf t) _) M = _
 rw [ej, CU hd]
 simp only [Option.bind_some]
 show bQ P (Sem.bind (loadCells _ _) _) M = _
 rw [ej]
 unfold loadCells
 rw [hm, oc m 0 #[] vs hl]
 simp only [Option.bind_some, Array.empty_append]
 rfl
theorem yo {P : Program} {t : TypeId} {d : TypeDesc} {M : Mem} {b o : Nat} {v : Value} (hd : P.underlying t = some d) (fI : xh d = false)
  (hl : M.ld ⟨b, o, none⟩ = some v) : bQ P (Instr.loadAt t (.pointer (some ⟨b, o, none⟩))) M = some v := by
 show bQ P (Sem.bind (Instr.sureAddr _) _) M = _
 rw [ej]
 simp only [Instr.sureAddr, bJ, Option.bind_some]
 show bQ P (Sem.bind (isAgg t) _) M = _
 rw [ej, lM hd]
 simp only [Option.bind_some, fI, Bool.false_eq_true, if_false]
 show bQ P (load _) M = _
 unfold load
 simp only [bQ, hl]
theorem z9 {P : Program} {t : TypeId} {x : Value} {M : Mem} {K : Value → Prop} (h : Kw P t x M K) :
  ∃ v, bQ P (Instr.loadAt t x) M = some v ∧ K v := by
 unfold Kw at h
 cases x <;> try exact h.elim
 rename_i p
 obtain ⟨b, o, hp, h2⟩ := jE h
 subst hp
 clear h
 cases hd : P.underlying t with
 | none => rw [hd] at h2; exact h2.elim
 | some d =>
  rw [hd] at h2
  have agg : xh d = true → ZZ P t M b o K → ∃ v, bQ P (Instr.loadAt t (.pointer (some ⟨b, o, none⟩))) M = some v ∧ K v := by
   intro fI h
   unfold ZZ at h
   split at h
   ·rename_i hl
    split at h
    ·obtain ⟨vs, hvs, h⟩ := xj h
     exact ⟨_, pZ hd fI hl.symm hvs, h⟩
    ·unfold Ig at h
     split at h
     ·rename_i vs hvs; exact ⟨_, pZ hd fI rfl hvs, h⟩
     ·exact h.elim
   ·exact h.elim
  cases d with
  | struct fs => exact agg rfl h2
  | array m e => exact agg rfl h2
  | _ => (obtain ⟨v, hv, h⟩ := pY h2; exact ⟨v, yo hd rfl hv, h⟩)
def aP (M : Mem) (a : Addr) (v : Value) (K : Mem → Prop) : Prop := M.wr a = true ∧ K (M.put a v)
def aX (M : Mem) (o : Obj) (K : Nat → Mem → Prop) : Prop := ∀ b, M b = none → K b (M.set b o)
def Fy (M : Mem) (a : Addr) : List Value → Nat → (Mem → Prop) → Prop
 | [], _, K => K M
 | v :: vs, i, K => CS v (aP M (a.add i) v fun M' => Fy M' a vs (i + 1) K)
def sw : List Value → Nat → List Value → List Value
 | cs, _, [] => cs
 | cs, o, v :: vs => sw (cs.set o v) (o + 1) vs
def Mem.Aa (M : Mem) (b o : Nat) (vs : List Value) : Mem := fun i => if i = b then (M i).map (fun x => match x with
 | .cells c e f => .cells (sw c.toList o vs).toArray e f
 | x => x) else M i
def Fz (M : Mem) (b o : Nat) (vs : List Value) (n : Nat) (K : Mem → Prop) : Prop :=
 vs.length = n ∧ (∀ v ∈ vs, Value.plainCell v = true) ∧ (∃ c T, M b = some (.cells c T (0, 0)) ∧ o + n ≤ c.size) ∧ K (M.Aa b o vs)
def Oj (P : Program) (t : TypeId) (v : Value) (M : Mem) (b o : Nat) (K : Mem → Prop) : Prop :=
 match v with
 | .agg cs => if P.cellsOf t ≤ 12 then (if cs.size = P.cellsOf t then Fy M ⟨b, o, none⟩ cs.toList 0 K else False) else Fz M b o cs.toList (P.cellsOf t) K
 | _ => False
def Ij (P : Program) (t : TypeId) (x v : Value) (M : Mem) (K : Mem → Prop) : Prop :=
 match x with
 | .pointer p => aE p fun b o =>
  match P.underlying t with
  | some (.struct _) | some (.array _ _) => Oj P t v M b o K
  | some _ => if P.cellsOf t = 1 then CS v (aP M ⟨b, o, none⟩ v K) else False
  | none => False
 | _ => False
theorem qb {P : Program} {α β : Type} {s : Sem α} {f : α → Sem β} {M : Mem} {x : α} {K : β → Mem → Prop} {Kp : Value → Mem → Prop}
  (h : bQ P s M = some x) (hk : ee P (f x) M K Kp) : ee P (s.bind f) M K Kp := eK P s f (gJ P s h hk)
theorem CV {P : Program} {a : Addr} {Kp : Value → Mem → Prop} : ∀ {vs : List Value} {i : Nat} {M : Mem} {K : Mem → Prop}, Fy M a vs i K →
  ee P (storeCells a vs i) M (fun _ M' => K M') Kp
 | [], i, M, K, h => h
 | v :: vs, i, M, K, h => by
  simp only [Fy] at h
  obtain ⟨hp, _, hw, h⟩ := z8 h
  unfold storeCells
  refine eK P _ _ ?_
  exact ⟨hp, hw, CV h⟩
theorem LI {M : Mem} {b o T : Nat} {c : Array Value} {v : Value} {vs : List Value} (hb : M b = some (.cells c T (0, 0))) :
  (M.put ⟨b, o, none⟩ v).Aa b (o + 1) vs = M.Aa b o (v :: vs) := by
 funext i
 unfold Mem.Aa Mem.put
 by_cases hi : i = b
 ·subst hi; simp [hb, Obj.zF, sw]
 ·simp [hi]
theorem Ol {b T : Nat} {K : Mem → Prop} : ∀ {vs : List Value} {o i : Nat} {M : Mem} {c : Array Value}, M b = some (.cells c T (0, 0)) → o + i + vs.length ≤ c.size → (∀ v ∈ vs, Value.plainCell v = true) →
  K (M.Aa b (o + i) vs) → Fy M ⟨b, o, none⟩ vs i K
 | [], o, i, M, c, hb, hs, hp, h => by
  have : M.Aa b (o + i) [] = M := by
   funext k; unfold Mem.Aa; split
   ·rename_i hk; subst hk; simp [hb, sw]
   ·rfl
  rw [this] at h; exact h
 | v :: vs, o, i, M, c, hb, hs, hp, h => by
  simp only [List.length_cons] at hs
  have hpv := hp v (List.mem_cons_self ..)
  have ea : (⟨b, o, none⟩ : Addr).add i = ⟨b, o + i, none⟩ := by unfold Addr.add; split <;> simp_all
  have hw : M.wr ⟨b, o + i, none⟩ = true := by simp [Mem.wr, hb]; omega
  have hb' : (M.put ⟨b, o + i, none⟩ v) b = some (.cells (c.setIfInBounds (o + i) v) T (0, 0)) := by unfold Mem.put; simp [hb, Obj.zF]
  have rest := Ol (vs := vs) (o := o) (i := i + 1) (M := M.put ⟨b, o + i, none⟩ v) (K := K) hb' (by simp; omega) (fun u hu => hp u (List.mem_cons_of_mem _ hu)) (by
   rw [show o + (i + 1) = o + i + 1 from rfl, LI hb]; exact h)
  unfold Fy
  rw [ea]
  cases v <;> first | (simp [Value.plainCell] at hpv; done) | exact ⟨hw, rest⟩
theorem FA {P : Program} {t : TypeId} {x v : Value} {M : Mem} {K : Mem → Prop} {Kp : Value → Mem → Prop} (h : Ij P t x v M K) :
  ee P (Instr.storeAt t x v) M (fun _ M' => K M') Kp := by
 unfold Ij at h
 cases x <;> try exact h.elim
 rename_i p
 obtain ⟨b, o, hp, h2⟩ := jE h
 subst hp
 clear h
 cases hd : P.underlying t with
 | none => rw [hd] at h2; exact h2.elim
 | some d =>
  rw [hd] at h2
  have key : ∀ cs : List Value, v.cells.toList = cs → cs.length = P.cellsOf t → Fy M ⟨b, o, none⟩ cs 0 K →
    ee P (Instr.storeAt t (.pointer (some ⟨b, o, none⟩)) v) M (fun _ M' => K M') Kp := by
   intro cs hcs hl hs
   refine qb (x := ⟨b, o, none⟩) rfl ?_
   unfold storeVar
   refine qb (CU hd M) ?_
   have hn : ¬ (v.cells.size ≠ P.cellsOf t) := by simp [← hl, ← hcs]
   simp only [hn, if_false]
   rw [hcs]
   exact CV hs
  have one : (if P.cellsOf t = 1 then CS v (aP M ⟨b, o, none⟩ v K) else False) →
    ee P (Instr.storeAt t (.pointer (some ⟨b, o, none⟩)) v) M (fun _ M' => K M') Kp := by
   intro h
   split at h
   ·rename_i h1
    obtain ⟨hp, hc, hw, hk⟩ := z8 h
    refine key [v] (by simp [hc]) (by simp [h1]) ?_
    unfold Fy
    cases v <;> first | (simp [Value.plainCell] at hp; done) | exact ⟨hw, hk⟩
   ·exact h.elim
  have agg : Oj P t v M b o K → ee P (Instr.storeAt t (.pointer (some ⟨b, o, none⟩)) v) M (fun _ M' => K M') Kp := by
   intro h
   unfold Oj at h
   cases v <;> try exact h.elim
   rename_i cs
   simp only at h
   split at h
   ·split at h
    ·rename_i hl; exact key cs.toList rfl (by simpa using hl) h
    ·exact h.elim
   ·obtain ⟨hl, hp, ⟨c, T, hb, ho⟩, hk⟩ := h
    refine key cs.toList rfl hl (Ol hb (by rw [hl]; omega) hp ?_)
    exact hk
  cases d with
  | struct fs => exact agg h2
  | array m e => exact agg h2
  | _ => exact one h2
end Go.AF
