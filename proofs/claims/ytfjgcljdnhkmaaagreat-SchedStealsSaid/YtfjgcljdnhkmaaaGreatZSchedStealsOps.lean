/- A part of proofs about functions of one program: a condition over a partial memory that is enough for a call, and what calls answer by it. No condition of its own. -/
import Derived.Test.YtfjgcljdnhkmaaaGreatZSchedStealsBase
set_option linter.unusedVariables false
namespace Go.AF

/-- What a Sem comes to that only reads. -/
def rdS (P : Program) {α : Type} : Sem α → Mem → Option α
  | .pure a, _ => some a
  | .load _ a k, M => match M.ld a with
    | some v => rdS P (k v) M
    | none => none
  | .shape r k, M => match M r with
    | some (.cells c elem _) => rdS P (k (some (elem, c.size))) M
    | _ => none
  | .frozen a k, M => match M a.block with
    | some (.cells _ _ f) => rdS P (k (decide (f.1 ≤ a.off) && decide (a.off < f.2))) M
    | _ => none
  | .program k, M => rdS P (k P) M
  | .mark _ k, M => rdS P k M
  | .store .., _ | .new .., _ | .freeze .., _ | .getObj .., _ | .setObj .., _ | .choose .., _ | .sys .., _ | .halt _, _ => none

theorem rdS_bind (P : Program) {α β : Type} (s : Sem α) (f : α → Sem β) (M : Mem) : rdS P (s.bind f) M = (rdS P s M).bind fun a => rdS P (f a) M := by
  induction s with
  | pure a => rfl
  | load m a k ih =>
    simp only [Sem.bind, rdS]
    cases M.ld a with
    | none => rfl
    | some v => exact ih v
  | shape r k ih =>
    simp only [Sem.bind, rdS]
    split
    · exact ih _
    · rfl
  | frozen a k ih =>
    simp only [Sem.bind, rdS]
    split
    · exact ih _
    · rfl
  | program k ih => exact ih P
  | mark m k ih => exact ih
  | store m a v k ih => rfl
  | new o k ih => rfl
  | freeze a n k ih => rfl
  | getObj r k ih => rfl
  | setObj r o k ih => rfl
  | choose q k ih => rfl
  | sys c k ih => rfl
  | halt x => rfl

def Mem.le (M M' : Mem) : Prop := ∀ b o, M b = some o → M' b = some o

theorem Mem.le_ld {M M' : Mem} (h : M.le M') {a : Addr} {v : Value} (hv : M.ld a = some v) : M'.ld a = some v := by
  unfold Mem.ld at *
  cases hb : M a.block with
  | none => simp [hb] at hv
  | some o => rw [h _ _ hb]; rw [hb] at hv; exact hv

theorem rdS_mono (P : Program) {α : Type} (s : Sem α) : ∀ {M M' : Mem} {x : α}, M.le M' → rdS P s M = some x → rdS P s M' = some x := by
  induction s with
  | pure a => intro M M' x h hx; exact hx
  | load m a k ih =>
    intro M M' x h hx
    simp only [rdS] at hx ⊢
    cases hv : M.ld a with
    | none => simp [hv] at hx
    | some v => rw [Mem.le_ld h hv]; rw [hv] at hx; exact ih v h hx
  | shape r k ih =>
    intro M M' x h hx
    simp only [rdS] at hx ⊢
    cases hb : M r with
    | none => simp [hb] at hx
    | some o => rw [h _ _ hb]; rw [hb] at hx; cases o <;> first | exact ih _ h hx | (simp at hx; done)
  | frozen a k ih =>
    intro M M' x h hx
    simp only [rdS] at hx ⊢
    cases hb : M a.block with
    | none => simp [hb] at hx
    | some o => rw [h _ _ hb]; rw [hb] at hx; cases o <;> first | exact ih _ h hx | (simp at hx; done)
  | program k ih => intro M M' x h hx; exact ih P h hx
  | mark m k ih => intro M M' x h hx; exact ih h hx
  | store m a v k ih => intro M M' x h hx; simp [rdS] at hx
  | new o k ih => intro M M' x h hx; simp [rdS] at hx
  | freeze a n k ih => intro M M' x h hx; simp [rdS] at hx
  | getObj r k ih => intro M M' x h hx; simp [rdS] at hx
  | setObj r o k ih => intro M M' x h hx; simp [rdS] at hx
  | choose q k ih => intro M M' x h hx; simp [rdS] at hx
  | sys c k ih => intro M M' x h hx; simp [rdS] at hx
  | halt y => intro M M' x h hx; simp [rdS] at hx

theorem awp_of_rdS (P : Program) {α : Type} (s : Sem α) : ∀ {M : Mem} {x : α} {K : α → Mem → Prop} {Kp : Value → Mem → Prop}, rdS P s M = some x → K x M → awp P s M K Kp := by
  induction s with
  | pure a => intro M x K Kp hx hk; simp only [rdS, Option.some.injEq] at hx; subst hx; exact hk
  | load m a k ih =>
    intro M x K Kp hx hk
    simp only [rdS, awp] at hx ⊢
    split at hx
    · rename_i v hv; rw [hv]; exact ih v hx hk
    · simp at hx
  | shape r k ih =>
    intro M x K Kp hx hk
    simp only [rdS, awp] at hx ⊢
    split at hx
    · rename_i hb; rw [hb]; exact ih _ hx hk
    · simp at hx
  | frozen a k ih =>
    intro M x K Kp hx hk
    simp only [rdS, awp] at hx ⊢
    split at hx
    · rename_i hb; rw [hb]; exact ih _ hx hk
    · simp at hx
  | program k ih => intro M x K Kp hx hk; exact ih P hx hk
  | mark m k ih => intro M x K Kp hx hk; exact ih hx hk
  | store m a v k ih => intro M x K Kp hx; simp [rdS] at hx
  | new o k ih => intro M x K Kp hx; simp [rdS] at hx
  | freeze a n k ih => intro M x K Kp hx; simp [rdS] at hx
  | getObj r k ih => intro M x K Kp hx; simp [rdS] at hx
  | setObj r o k ih => intro M x K Kp hx; simp [rdS] at hx
  | choose q k ih => intro M x K Kp hx; simp [rdS] at hx
  | sys c k ih => intro M x K Kp hx; simp [rdS] at hx
  | halt y => intro M x K Kp hx; simp [rdS] at hx

/-! ### eliminators: they reduce where the value is known, and stand where it is not -/

def bsp (e : Bool) (X Y : Prop) : Prop := match e with | true => X | false => Y
def exI (o : Option Value) (k : IntKind) (K : Int → Prop) : Prop := match o with | some (.int k' n) => if k' = k then K n else False | _ => False
def exB (o : Option Value) (K : Bool → Prop) : Prop := match o with | some (.bool b) => K b | _ => False
def exS (o : Option Value) (K : ByteArray → Prop) : Prop := match o with | some (.string b) => K b | _ => False
def exP (o : Option Value) (K : Option Addr → Prop) : Prop := match o with | some (.pointer p) => K p | _ => False
def exSl (o : Option Value) (K : Option Addr → Nat → Nat → Prop) : Prop := match o with | some (.slice A n c) => K A n c | _ => False
def exV (o : Option Value) (K : Value → Prop) : Prop := match o with | some v => K v | none => False
def exL (o : Option (List Value)) (K : List Value → Prop) : Prop := match o with | some v => K v | none => False
def nilc (p : Option Addr) (K : Nat → Nat → Prop) : Prop := match p with | some ⟨b, o, none⟩ => K b o | _ => False
def pcell (v : Value) (X : Prop) : Prop := match v with | .agg _ => False | .tuple _ => False | _ => X

inductive CSh where
  | int (k : IntKind) | bool | str | ptr | sl | val

def csh : TypeDesc → CSh
  | .bool => .bool
  | .int k => .int k
  | .string => .str
  | .pointer _ => .ptr
  | .slice _ => .sl
  | _ => .val

def flat (P : Program) : Nat → TypeId → List CSh
  | 0, _ => []
  | n + 1, t => match P.underlying t with
    | some (.struct fs) => fs.toList.flatMap fun f => flat P n f.type
    | some (.array m e) => (List.replicate m (flat P n e)).flatten
    | some d => [csh d]
    | none => []

def exC (c : CSh) (o : Option Value) (K : Value → Prop) : Prop :=
  match c with
  | .int k => exI o k fun n => K (.int k n)
  | .bool => exB o fun b => K (.bool b)
  | .str => exS o fun s => K (.string s)
  | .ptr => exP o fun p => K (.pointer p)
  | .sl => exSl o fun A n c => K (.slice A n c)
  | .val => exV o K

/-- The cells of a known list, each of its shape. -/
def exCs : List CSh → List Value → (List Value → Prop) → Prop
  | [], [], K => K []
  | c :: cs, v :: vs, K => exC c (some v) fun v' => exCs cs vs fun vs' => K (v' :: vs')
  | _, _, _ => False

def ldCs (M : Mem) (a : Addr) : List CSh → Nat → (List Value → Prop) → Prop
  | [], _, K => K []
  | c :: cs, i, K => exC c (M.ld (a.add i)) fun v => ldCs M a cs (i + 1) fun vs => K (v :: vs)

def Mem.lds (M : Mem) (a : Addr) : Nat → Nat → Option (List Value)
  | _, 0 => some []
  | i, n + 1 => match M.ld (a.add i) with
    | some v => (M.lds a (i + 1) n).map (v :: ·)
    | none => none

theorem exC_spec {c : CSh} {o : Option Value} {K : Value → Prop} (h : exC c o K) : ∃ v, o = some v ∧ K v := by
  cases c <;> simp only [exC] at h
  case int k =>
    unfold exI at h; split at h
    · split at h
      · rename_i n hk; subst hk; exact ⟨_, rfl, h⟩
      · exact h.elim
    · exact h.elim
  case bool => unfold exB at h; split at h <;> first | exact ⟨_, rfl, h⟩ | exact h.elim
  case str => unfold exS at h; split at h <;> first | exact ⟨_, rfl, h⟩ | exact h.elim
  case ptr => unfold exP at h; split at h <;> first | exact ⟨_, rfl, h⟩ | exact h.elim
  case sl => unfold exSl at h; split at h <;> first | exact ⟨_, rfl, h⟩ | exact h.elim
  case val => unfold exV at h; split at h <;> first | exact ⟨_, rfl, h⟩ | exact h.elim

theorem nilc_spec {p : Option Addr} {K : Nat → Nat → Prop} (h : nilc p K) : ∃ b o, p = some ⟨b, o, none⟩ ∧ K b o := by
  unfold nilc at h
  split at h
  · exact ⟨_, _, rfl, h⟩
  · exact h.elim

theorem pcell_spec {v : Value} {X : Prop} (h : pcell v X) : Value.plainCell v = true ∧ v.cells = #[v] ∧ X := by
  cases v <;> first | exact h.elim | exact ⟨rfl, rfl, h⟩

theorem rd_underlying {P : Program} {t : TypeId} {d : TypeDesc} (h : P.underlying t = some d) (M : Mem) : rdS P (underlying t) M = some d := by
  show rdS P (Sem.bind program _) M = _
  simp only [rdS_bind, program, rdS, Option.bind_some, h]; rfl

theorem rd_typeInfo {P : Program} {t : TypeId} {i : TypeInfo} (h : P.info? t = some i) (M : Mem) : rdS P (typeInfo t) M = some i := by
  show rdS P (Sem.bind program _) M = _
  simp only [rdS_bind, program, rdS, Option.bind_some, h]; rfl

theorem info_of_underlying {P : Program} {t : TypeId} {d : TypeDesc} (h : P.underlying t = some d) : ∃ i, P.info? t = some i := by
  unfold Program.underlying at h
  cases hi : P.info? t with
  | none => simp [hi] at h
  | some i => exact ⟨i, rfl⟩

theorem rd_sizeOf {P : Program} {t : TypeId} {d : TypeDesc} (h : P.underlying t = some d) (M : Mem) : rdS P (sizeOf t) M = some (P.cellsOf t) := by
  obtain ⟨i, hi⟩ := info_of_underlying h
  show rdS P (Sem.bind (typeInfo t) _) M = _
  rw [rdS_bind, rd_typeInfo hi]
  simp [Program.cellsOf, hi, rdS, pure]

theorem rd_pure (P : Program) {α : Type} (a : α) (M : Mem) : rdS P (pure a : Sem α) M = some a := rfl

def aggD : TypeDesc → Bool
  | .struct _ => true
  | .array _ _ => true
  | _ => false

theorem rd_isAgg {P : Program} {t : TypeId} {d : TypeDesc} (h : P.underlying t = some d) (M : Mem) :
    rdS P (isAgg t) M = some (aggD d) := by
  show rdS P (Sem.bind (underlying t) _) M = _
  rw [rdS_bind, rd_underlying h]
  cases d <;> rfl

theorem rd_loadCells {P : Program} {M : Mem} {a : Addr} : ∀ (n i : Nat) (acc : Array Value) (vs : List Value), M.lds a i n = some vs →
    rdS P (loadCellsFrom a i n acc) M = some (acc ++ vs.toArray)
  | 0, i, acc, vs, h => by
    simp only [Mem.lds, Option.some.injEq] at h; subst h
    simp [loadCellsFrom, rdS, pure]
  | n + 1, i, acc, vs, h => by
    simp only [Mem.lds] at h
    cases hv : M.ld (a.add i) with
    | none => simp [hv] at h
    | some v =>
      simp only [hv] at h
      cases hr : M.lds a (i + 1) n with
      | none => simp [hr] at h
      | some rest =>
        simp only [hr, Option.map_some, Option.some.injEq] at h
        subst h
        show rdS P (Sem.bind (load (a.add i)) _) M = _
        rw [rdS_bind]
        simp only [load, rdS, hv, Option.bind_some]
        rw [rd_loadCells n (i + 1) (acc.push v) rest hr]
        simp

theorem ldCs_spec {M : Mem} {a : Addr} : ∀ {cs : List CSh} {i : Nat} {K : List Value → Prop}, ldCs M a cs i K → ∃ vs, M.lds a i cs.length = some vs ∧ K vs
  | [], i, K, h => ⟨[], rfl, h⟩
  | c :: cs, i, K, h => by
    simp only [ldCs] at h
    obtain ⟨v, hv, h⟩ := exC_spec h
    obtain ⟨vs, hvs, h⟩ := ldCs_spec h
    exact ⟨v :: vs, by simp [Mem.lds, hv, hvs], h⟩

/-! ### a load -/

def loadK (P : Program) (t : TypeId) (x : Value) (M : Mem) (K : Value → Prop) : Prop :=
  match x with
  | .pointer p => nilc p fun b o =>
    match P.underlying t with
    | some (.struct _) | some (.array _ _) =>
      if (flat P 8 t).length = P.cellsOf t then
        (if P.cellsOf t ≤ 40 then ldCs M ⟨b, o, none⟩ (flat P 8 t) 0 fun vs => K (.agg vs.toArray) else exL (M.lds ⟨b, o, none⟩ 0 (P.cellsOf t)) fun vs => K (.agg vs.toArray))
      else False
    | some d => exC (csh d) (M.ld ⟨b, o, none⟩) K
    | none => False
  | _ => False

def aggL (P : Program) (t : TypeId) (M : Mem) (b o : Nat) (K : Value → Prop) : Prop :=
  if (flat P 8 t).length = P.cellsOf t then
    (if P.cellsOf t ≤ 40 then ldCs M ⟨b, o, none⟩ (flat P 8 t) 0 fun vs => K (.agg vs.toArray) else exL (M.lds ⟨b, o, none⟩ 0 (P.cellsOf t)) fun vs => K (.agg vs.toArray))
  else False

theorem rd_load_agg {P : Program} {t : TypeId} {d : TypeDesc} {M : Mem} {b o m : Nat} {vs : List Value} (hd : P.underlying t = some d) (hag : aggD d = true) (hm : P.cellsOf t = m)
    (hl : M.lds ⟨b, o, none⟩ 0 m = some vs) : rdS P (Instr.loadAt t (.pointer (some ⟨b, o, none⟩))) M = some (.agg vs.toArray) := by
  show rdS P (Sem.bind (Instr.sureAddr _) _) M = _
  rw [rdS_bind]
  simp only [Instr.sureAddr, rd_pure, Option.bind_some]
  show rdS P (Sem.bind (isAgg t) _) M = _
  rw [rdS_bind, rd_isAgg hd]
  simp only [Option.bind_some, hag, if_true]
  show rdS P (Sem.bind (sizeOf t) _) M = _
  rw [rdS_bind, rd_sizeOf hd]
  simp only [Option.bind_some]
  show rdS P (Sem.bind (loadCells _ _) _) M = _
  rw [rdS_bind]
  unfold loadCells
  rw [hm, rd_loadCells m 0 #[] vs hl]
  simp only [Option.bind_some, Array.empty_append]
  rfl

theorem rd_load_one {P : Program} {t : TypeId} {d : TypeDesc} {M : Mem} {b o : Nat} {v : Value} (hd : P.underlying t = some d) (hag : aggD d = false)
    (hl : M.ld ⟨b, o, none⟩ = some v) : rdS P (Instr.loadAt t (.pointer (some ⟨b, o, none⟩))) M = some v := by
  show rdS P (Sem.bind (Instr.sureAddr _) _) M = _
  rw [rdS_bind]
  simp only [Instr.sureAddr, rd_pure, Option.bind_some]
  show rdS P (Sem.bind (isAgg t) _) M = _
  rw [rdS_bind, rd_isAgg hd]
  simp only [Option.bind_some, hag, Bool.false_eq_true, if_false]
  show rdS P (load _) M = _
  unfold load
  simp only [rdS, hl]

theorem loadK_spec {P : Program} {t : TypeId} {x : Value} {M : Mem} {K : Value → Prop} (h : loadK P t x M K) :
    ∃ v, rdS P (Instr.loadAt t x) M = some v ∧ K v := by
  unfold loadK at h
  cases x <;> try exact h.elim
  rename_i p
  obtain ⟨b, o, hp, h2⟩ := nilc_spec h
  subst hp
  clear h
  cases hd : P.underlying t with
  | none => rw [hd] at h2; exact h2.elim
  | some d =>
    rw [hd] at h2
    have agg : aggD d = true → aggL P t M b o K → ∃ v, rdS P (Instr.loadAt t (.pointer (some ⟨b, o, none⟩))) M = some v ∧ K v := by
      intro hag h
      unfold aggL at h
      split at h
      · rename_i hl
        split at h
        · obtain ⟨vs, hvs, h⟩ := ldCs_spec h
          exact ⟨_, rd_load_agg hd hag hl.symm hvs, h⟩
        · unfold exL at h
          split at h
          · rename_i vs hvs; exact ⟨_, rd_load_agg hd hag rfl hvs, h⟩
          · exact h.elim
      · exact h.elim
    cases d with
    | struct fs => exact agg rfl h2
    | array m e => exact agg rfl h2
    | _ => (obtain ⟨v, hv, h⟩ := exC_spec h2; exact ⟨v, rd_load_one hd rfl hv, h⟩)

/-! ### a store -/

/-- A cell written, and then. -/
def stc (M : Mem) (a : Addr) (v : Value) (K : Mem → Prop) : Prop := M.wr a = true ∧ K (M.put a v)
/-- A block made, and then. -/
def nwc (M : Mem) (o : Obj) (K : Nat → Mem → Prop) : Prop := ∀ b, M b = none → K b (M.set b o)

def stCs (M : Mem) (a : Addr) : List Value → Nat → (Mem → Prop) → Prop
  | [], _, K => K M
  | v :: vs, i, K => pcell v (stc M (a.add i) v fun M' => stCs M' a vs (i + 1) K)

/-- Cells from a place on, anew. -/
def putL : List Value → Nat → List Value → List Value
  | cs, _, [] => cs
  | cs, o, v :: vs => putL (cs.set o v) (o + 1) vs

def Mem.putC (M : Mem) (b o : Nat) (vs : List Value) : Mem := fun i => if i = b then (M i).map (fun x => match x with
  | .cells c e f => .cells (putL c.toList o vs).toArray e f
  | x => x) else M i

/-- Many cells written at once, and then. -/
def stL (M : Mem) (b o : Nat) (vs : List Value) (n : Nat) (K : Mem → Prop) : Prop :=
  vs.length = n ∧ (∀ v ∈ vs, Value.plainCell v = true) ∧ (∃ c T, M b = some (.cells c T (0, 0)) ∧ o + n ≤ c.size) ∧ K (M.putC b o vs)

def stAgg (P : Program) (t : TypeId) (v : Value) (M : Mem) (b o : Nat) (K : Mem → Prop) : Prop :=
  match v with
  | .agg cs => if P.cellsOf t ≤ 40 then (if cs.size = P.cellsOf t then stCs M ⟨b, o, none⟩ cs.toList 0 K else False) else stL M b o cs.toList (P.cellsOf t) K
  | _ => False

def storeK (P : Program) (t : TypeId) (x v : Value) (M : Mem) (K : Mem → Prop) : Prop :=
  match x with
  | .pointer p => nilc p fun b o =>
    match P.underlying t with
    | some (.struct _) | some (.array _ _) => stAgg P t v M b o K
    | some _ => if P.cellsOf t = 1 then pcell v (stc M ⟨b, o, none⟩ v K) else False
    | none => False
  | _ => False

theorem awp_of_rd_bind {P : Program} {α β : Type} {s : Sem α} {f : α → Sem β} {M : Mem} {x : α} {K : β → Mem → Prop} {Kp : Value → Mem → Prop}
    (h : rdS P s M = some x) (hk : awp P (f x) M K Kp) : awp P (s.bind f) M K Kp := awp_bind P s f (awp_of_rdS P s h hk)

theorem stCs_spec {P : Program} {a : Addr} {Kp : Value → Mem → Prop} : ∀ {vs : List Value} {i : Nat} {M : Mem} {K : Mem → Prop}, stCs M a vs i K →
    awp P (storeCells a vs i) M (fun _ M' => K M') Kp
  | [], i, M, K, h => h
  | v :: vs, i, M, K, h => by
    simp only [stCs] at h
    obtain ⟨hp, _, hw, h⟩ := pcell_spec h
    unfold storeCells
    refine awp_bind P _ _ ?_
    exact ⟨hp, hw, stCs_spec h⟩

theorem putC_step {M : Mem} {b o T : Nat} {c : Array Value} {v : Value} {vs : List Value} (hb : M b = some (.cells c T (0, 0))) :
    (M.put ⟨b, o, none⟩ v).putC b (o + 1) vs = M.putC b o (v :: vs) := by
  funext i
  unfold Mem.putC Mem.put
  by_cases hi : i = b
  · subst hi; simp [hb, Obj.putCell, putL]
  · simp [hi]

theorem stL_cs {b T : Nat} {K : Mem → Prop} : ∀ {vs : List Value} {o i : Nat} {M : Mem} {c : Array Value}, M b = some (.cells c T (0, 0)) → o + i + vs.length ≤ c.size → (∀ v ∈ vs, Value.plainCell v = true) →
    K (M.putC b (o + i) vs) → stCs M ⟨b, o, none⟩ vs i K
  | [], o, i, M, c, hb, hs, hp, h => by
    have : M.putC b (o + i) [] = M := by
      funext k; unfold Mem.putC; split
      · rename_i hk; subst hk; simp [hb, putL]
      · rfl
    rw [this] at h; exact h
  | v :: vs, o, i, M, c, hb, hs, hp, h => by
    simp only [List.length_cons] at hs
    have hpv := hp v (List.mem_cons_self ..)
    have ea : (⟨b, o, none⟩ : Addr).add i = ⟨b, o + i, none⟩ := by unfold Addr.add; split <;> simp_all
    have hw : M.wr ⟨b, o + i, none⟩ = true := by simp [Mem.wr, hb]; omega
    have hb' : (M.put ⟨b, o + i, none⟩ v) b = some (.cells (c.setIfInBounds (o + i) v) T (0, 0)) := by unfold Mem.put; simp [hb, Obj.putCell]
    have rest := stL_cs (vs := vs) (o := o) (i := i + 1) (M := M.put ⟨b, o + i, none⟩ v) (K := K) hb' (by simp; omega) (fun u hu => hp u (List.mem_cons_of_mem _ hu)) (by
      rw [show o + (i + 1) = o + i + 1 from rfl, putC_step hb]; exact h)
    unfold stCs
    rw [ea]
    cases v <;> first | (simp [Value.plainCell] at hpv; done) | exact ⟨hw, rest⟩

theorem storeK_spec {P : Program} {t : TypeId} {x v : Value} {M : Mem} {K : Mem → Prop} {Kp : Value → Mem → Prop} (h : storeK P t x v M K) :
    awp P (Instr.storeAt t x v) M (fun _ M' => K M') Kp := by
  unfold storeK at h
  cases x <;> try exact h.elim
  rename_i p
  obtain ⟨b, o, hp, h2⟩ := nilc_spec h
  subst hp
  clear h
  cases hd : P.underlying t with
  | none => rw [hd] at h2; exact h2.elim
  | some d =>
    rw [hd] at h2
    have key : ∀ cs : List Value, v.cells.toList = cs → cs.length = P.cellsOf t → stCs M ⟨b, o, none⟩ cs 0 K →
        awp P (Instr.storeAt t (.pointer (some ⟨b, o, none⟩)) v) M (fun _ M' => K M') Kp := by
      intro cs hcs hl hs
      refine awp_of_rd_bind (x := ⟨b, o, none⟩) rfl ?_
      unfold storeVar
      refine awp_of_rd_bind (rd_sizeOf hd M) ?_
      have hn : ¬ (v.cells.size ≠ P.cellsOf t) := by simp [← hl, ← hcs]
      simp only [hn, if_false]
      rw [hcs]
      exact stCs_spec hs
    have one : (if P.cellsOf t = 1 then pcell v (stc M ⟨b, o, none⟩ v K) else False) →
        awp P (Instr.storeAt t (.pointer (some ⟨b, o, none⟩)) v) M (fun _ M' => K M') Kp := by
      intro h
      split at h
      · rename_i h1
        obtain ⟨hp, hc, hw, hk⟩ := pcell_spec h
        refine key [v] (by simp [hc]) (by simp [h1]) ?_
        unfold stCs
        cases v <;> first | (simp [Value.plainCell] at hp; done) | exact ⟨hw, hk⟩
      · exact h.elim
    have agg : stAgg P t v M b o K → awp P (Instr.storeAt t (.pointer (some ⟨b, o, none⟩)) v) M (fun _ M' => K M') Kp := by
      intro h
      unfold stAgg at h
      cases v <;> try exact h.elim
      rename_i cs
      simp only at h
      split at h
      · split at h
        · rename_i hl; exact key cs.toList rfl (by simpa using hl) h
        · exact h.elim
      · obtain ⟨hl, hp, ⟨c, T, hb, ho⟩, hk⟩ := h
        refine key cs.toList rfl hl (stL_cs hb (by rw [hl]; omega) hp ?_)
        exact hk
    cases d with
    | struct fs => exact agg h2
    | array m e => exact agg h2
    | _ => exact one h2

end Go.AF
