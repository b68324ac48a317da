/- A part of proofs about one program. -/
import Derived.Test.YtnnlgknlialpmaaGreatZTraceSeenSoundB
set_option linter.unusedVariables false
namespace Go.AF
theorem Iu {M : Mem} {b o T : Nat} {c : Array Value} {fl : Nat × Nat} (h : M b = some (.cells c T fl)) : M.ld ⟨b, o, none⟩ = c[o]? := by
 simp [Mem.ld, h]
theorem Sq {M : Mem} {b o T : Nat} {c : Array Value} (h : M b = some (.cells c T (0, 0))) (ho : o < c.size) : M.wr ⟨b, o, none⟩ = true := by
 simp [Mem.wr, h, ho]
theorem Mg {M : Mem} {b o T : Nat} {c : Array Value} {fl : Nat × Nat} {v : Value} (h : M b = some (.cells c T fl)) : M.put ⟨b, o, none⟩ v = M.set b (.cells (c.setIfInBounds o v) T fl) := by
 funext i
 unfold Mem.put Mem.set
 by_cases hi : i = b
 ·subst hi; simp [h, Obj.yC]
 ·simp [hi]
theorem eV {M : Mem} {b : Nat} {o : Obj} : (M.set b o) b = some o := by simp [Mem.set]
theorem Mh {M : Mem} {b k : Nat} {o : Obj} (h : k ≠ b) : (M.set b o) k = M k := by simp [Mem.set, h]
theorem set_set {M : Mem} {b : Nat} {o o' : Obj} : (M.set b o).set b o' = M.set b o' := by
 funext i; unfold Mem.set; split <;> simp_all
def oE (M M' : Mem) : Prop := ∀ b o, M b = some o → M' b = some o
theorem oE.refl (M : Mem) : oE M M := fun _ _ h => h
theorem oE.trans {A B D : Mem} (h : oE A B) (g : oE B D) : oE A D := fun b o x => g b o (h b o x)
theorem oE.fresh {M M' : Mem} (h : oE M M') {b : Nat} (hb : M' b = none) : M b = none := by
 cases hm : M b with
 | none => rfl
 | some o => rw [h b o hm] at hb; cases hb
theorem oE.set {M M' : Mem} (h : oE M M') {b : Nat} {o : Obj} (hb : M b = none) : oE M (M'.set b o) := fun k x hk => by
 by_cases TC : k = b
 ·subst TC; rw [hb] at hk; cases hk
 ·rw [Mh TC]; exact h k x hk
def nG (L : List Nat) (M M' : Mem) : Prop := ∀ k o, M k = some o → (∃ o', M' k = some o') ∧ (k ∉ L → M' k = some o)
theorem nG.refl (L : List Nat) (M : Mem) : nG L M M := fun k o h => ⟨⟨o, h⟩, fun _ => h⟩
theorem oE.TI {M M' : Mem} (h : oE M M') (L : List Nat) : nG L M M' := fun k o hk => ⟨⟨o, h k o hk⟩, fun _ => h k o hk⟩
theorem nG.keep {M M' : Mem} (h : nG [] M M') : oE M M' := fun k o hk => (h k o hk).2 (by simp)
theorem nG.fresh {L : List Nat} {M M' : Mem} (h : nG L M M') {b : Nat} (hb : M' b = none) : M b = none := by
 cases hm : M b with
 | none => rfl
 | some o => obtain ⟨⟨o', ho⟩, _⟩ := h b o hm; rw [hb] at ho; cases ho
theorem nG.trans {L L' : List Nat} {A B D : Mem} (h : nG L A B) (g : nG L' B D) (hs : ∀ x ∈ L', x ∈ L ∨ A x = none) : nG L A D := fun k o hk => by
 obtain ⟨⟨o1, h1⟩, h2⟩ := h k o hk
 refine ⟨(g k o1 h1).1, fun hn => ?_⟩
 refine (g k o (h2 hn)).2 fun hm => ?_
 rcases hs k hm with h3 | h3
 ·exact hn h3
 ·rw [hk] at h3; cases h3
theorem nG.mono {L L' : List Nat} {A B : Mem} (h : nG L A B) (hs : ∀ x ∈ L, x ∈ L' ∨ A x = none) : nG L' A B := (nG.refl L' A).trans h hs
theorem nG.set {L : List Nat} {M M' : Mem} (h : nG L M M') {b : Nat} {o : Obj} (hb : b ∈ L ∨ M b = none) : nG L M (M'.set b o) := fun k x hk => by
 by_cases TC : k = b
 ·subst TC
  refine ⟨⟨o, eV⟩, fun hn => ?_⟩
  rcases hb with hb | hb
  ·exact absurd hb hn
  ·rw [hb] at hk; cases hk
 ·rw [Mh TC]; exact h k x hk
theorem nG.at {L : List Nat} {M M' : Mem} (h : nG L M M') {k : Nat} {o : Obj} (hk : M k = some o) (hn : k ∉ L) : M' k = some o := (h k o hk).2 hn
def AQ : Option Addr → List Nat
 | none => []
 | some a => [a.block]
def Sl (M : Mem) (A : Option Addr) (l : List Value) : Prop :=
 match A with
 | some ⟨b, o, none⟩ => ∀ i, i < l.length → M.ld ⟨b, o + i, none⟩ = l[i]?
 | none => l = []
 | _ => False
def ud (M : Mem) (z T : Nat) (A : Option Addr) (n c : Nat) (l : List Value) : Prop :=
 l.length = n * z ∧ ((A = none ∧ n = 0 ∧ c = 0) ∨ ∃ b cs, A = some ⟨b, 0, none⟩ ∧ M b = some (.cells cs T (0, 0)) ∧ cs.size = c * z ∧ n ≤ c ∧ ∀ i, i < n * z → cs[i]? = l[i]?)
theorem ud.sl {M : Mem} {z T : Nat} {A : Option Addr} {n c : Nat} {l : List Value} (h : ud M z T A n c l) : Sl M A l := by
 obtain ⟨hl, ⟨rfl, rfl, rfl⟩ | ⟨b, cs, rfl, hb, hs, hn, hc⟩⟩ := h
 ·simpa [Sl] using hl
 ·intro i hi
  rw [Iu hb, Nat.zero_add, hc i (by omega)]
theorem Sl.keep {M M' : Mem} {A : Option Addr} {l : List Value} (h : Sl M A l) (hk : ∀ a o, A = some a → M a.block = some o → M' a.block = some o) : Sl M' A l := by
 match A, h with
 | none, h => exact h
 | some ⟨b, o, none⟩, h =>
  intro i hi
  have := h i hi
  unfold Mem.ld at this ⊢
  cases hb : M b with
  | none => simp [hb] at this; omega
  | some x => simp only [hk _ _ rfl hb]; simpa [hb] using this
theorem Sl.mono {M M' : Mem} {A : Option Addr} {l : List Value} (h : Sl M A l) (hk : oE M M') : Sl M' A l := h.keep fun a o _ ho => hk _ _ ho
theorem bq {P : Program} {α β : Type} {s : Sem α} {f : α → Sem β} {M : Mem} {x : α} {K : β → Mem → Prop} {Kp : Value → Mem → Prop} (h : bR P s M = some x) (hk : dV P (f x) M K Kp) :
  dV P (s >>= f) M K Kp := gq P s f (ie P s h hk)
theorem vX {M : Mem} {b o : Nat} : ∀ (l : List Value) (i : Nat), (∀ j, j < l.length → M.ld ⟨b, o + (i + j), none⟩ = l[j]?) → M.fK ⟨b, o, none⟩ i l.length = some l := by
 intro l
 induction l with
 | nil => intro i h; rfl
 | cons v l ih =>
  intro i h
  have h0 := h 0 (by simp)
  have hr := ih (i + 1) (fun j hj => by
   have := h (j + 1) (by simpa using hj)
   rw [show i + 1 + j = i + (j + 1) from by omega]; simpa using this)
  have XB : M.ld ⟨b, o + i, none⟩ = some v := by simpa using h0
  simp only [List.length_cons, Mem.fK, add_eq, XB, hr, Option.map_some]
theorem lX {n : Int} (h0 : -9223372036854775808 ≤ n) (h : n < 9223372036854775808) : IntKind.wrap .i64 n = n := by
 rw [IntKind.wrap_i64]; omega
theorem mS {n : Nat} (h : n < 9223372036854775808) : IntKind.wrap .i64 (n : Int) = n := lX (by omega) (by omega)
theorem zf {P : Program} {t e : TypeId} {i : TypeInfo} {zv : Value} {n : Nat} {M : Mem} {K : Value → Mem → Prop} {Kp : List PanicEntry → Mem → Prop}
  (hu : P.underlying t = some (.slice e)) (hi : P.info? e = some i) (hz : i.zero = some zv) (hs : zv.cells.size = i.size) (hb : n * i.bytes ≤ 140737488355328) (hn : n < 9223372036854775808)
  (h : ∀ k, M k = none → K (.slice (some ⟨k, 0, none⟩) n n) (M.set k (.cells (List.replicate n zv.cells.toList).flatten.toArray e (0, 0)))) :
  bk P (Instr.makeSlice t (.int .i64 (n : Int)) (.int .i64 (n : Int))) M K Kp := by
 unfold bk Instr.makeSlice
 refine bq (aL hu M) ?_
 simp only
 refine bq (x := (n : Int)) rfl ?_
 refine bq (x := (n : Int)) rfl ?_
 refine bq (cE hi M) ?_
 have hb' : ¬ ((i.bytes : Int) * (n : Int) > 2 ^ 48) := by
  have : ((n * i.bytes : Nat) : Int) = (i.bytes : Int) * (n : Int) := by rw [Int.natCast_mul, Int.mul_comm]
  omega
 simp only [mS hn]
 have c1 : ¬ ((n : Int) < 0) := by omega
 rw [if_neg (by simp [c1]; omega)]
 refine bq (x := ()) ?_ ?_
 ·unfold askRoom roomBytes
  rw [if_neg (by simp only [Int.toNat_natCast]; omega)]; rfl
 refine bq (fN hi M) ?_
 simp only [Int.toNat_natCast]
 have fin : ∀ zero : Array Value, (Array.range (n * i.size)).map (fun x => zero[x % zero.size]!) = (List.replicate n zv.cells.toList).flatten.toArray →
   dV P (newRow e ((Array.range (n * i.size)).map (fun x => zero[x % zero.size]!)) >>= fun a => pure (Value.slice (some a) n n)) M K fun v M' => Kp [{ v, recovered := false }] M' := by
  intro zero hz
  rw [hz]
  exact fun k hk => h k hk
 split
 ·rename_i h0
  refine bq (x := #[]) rfl ?_
  refine fin #[] ?_
  rw [h0]
  rcases Nat.mul_eq_zero.1 h0 with h1 | h1
  ·subst h1; apply Array.ext'; simp
  ·have : zv.cells.toList = [] := by rw [← List.length_eq_zero_iff]; simpa [hs] using h1
   rw [this]; apply Array.ext'; simp
 ·refine bq (x := zv) (by rw [kX]; simp [zeroOf, hi, hz]) ?_
  refine bq (x := zv.cells) rfl ?_
  refine fin zv.cells ?_
  have := kL (zs := zv.cells.toList) (s := i.size) (by simpa using hs) n
  apply Array.ext'
  simpa [hs] using this
theorem g7 {P : Program} {M : Mem} {A : Option Addr} {n c z m : Nat} {l : List Value} (h : Sl M A l) (hl : l.length = m * z) : bR P (Builtin.firstCells z m (.slice A n c)) M = some l.toArray := by
 match A, h with
 | none, h => subst h; rfl
 | some ⟨b, o, none⟩, h =>
  unfold Builtin.firstCells loadCells
  have := ny (P := P) (M := M) (a := ⟨b, o, none⟩) (m * z) 0 #[] l (by
   have := vX (M := M) (b := b) (o := o) l 0 (fun j hj => by rw [Nat.zero_add]; exact h j hj)
   rw [hl] at this; exact this)
  simpa using this
theorem zg {P : Program} {b T : Nat} {Kp : Value → Mem → Prop} : ∀ (vs : List Value) (o i : Nat) (M : Mem) (cs : Array Value) (K : Mem → Prop), M b = some (.cells cs T (0, 0)) → o + i + vs.length ≤ cs.size →
  (∀ v ∈ vs, Value.plainCell v = true) →
  (∀ cs' : Array Value, cs'.size = cs.size → (∀ j, cs'[j]? = if o + i ≤ j ∧ j < o + i + vs.length then vs[j - (o + i)]? else cs[j]?) → K (M.set b (.cells cs' T (0, 0)))) →
  dV P (storeCells ⟨b, o, none⟩ vs i) M (fun _ M' => K M') Kp := by
 intro vs
 induction vs with
 | nil =>
  intro o i M cs K hb _ _ h
  have : M.set b (.cells cs T (0, 0)) = M := by
   funext k; unfold Mem.set; split
   ·rename_i hk; rw [hk, hb]
   ·rfl
  have h1 := h cs rfl (fun j => by
   rw [if_neg]; simp only [List.length_nil]; omega)
  rw [this] at h1
  exact h1
 | cons v vs ih =>
  intro o i M cs K hb hs hp h
  simp only [List.length_cons] at hs
  have ho : o + i < cs.size := by omega
  show dV P (.store .plain ((⟨b, o, none⟩ : Addr).add i) v (storeCells ⟨b, o, none⟩ vs (i + 1))) M _ _
  rw [add_eq]
  refine ⟨hp v (List.mem_cons_self ..), Sq hb ho, ?_⟩
  rw [Mg hb]
  refine ih o (i + 1) _ (cs.setIfInBounds (o + i) v) K eV (by simp; omega) (fun u hu => hp u (List.mem_cons_of_mem _ hu)) fun cs' h1 h2 => ?_
  rw [set_set]
  refine h cs' (by simpa using h1) fun j => ?_
  rw [h2 j]
  simp only [List.length_cons]
  by_cases hj : j = o + i
  ·subst hj
   rw [if_neg (by omega), if_pos (by omega)]
   simp [ho]
  ·by_cases Lr : o + (i + 1) ≤ j ∧ j < o + (i + 1) + vs.length
   ·rw [if_pos Lr, if_pos (by omega)]
    rw [show j - (o + i) = (j - (o + (i + 1))) + 1 from by omega]; simp
   ·rw [if_neg Lr, if_neg (by omega)]
    rw [Array.getElem?_setIfInBounds_ne (Ne.symm hj)]
def Mi (M : Mem) (A A' : Option Addr) : Prop := A' = A ∨ ∃ b, A' = some ⟨b, 0, none⟩ ∧ M b = none
theorem Ez {P : Program} {t t' e ty : TypeId} {i : TypeInfo} {zv : Value} {A B : Option Addr} {n c m d : Nat} {l r : List Value} {M : Mem} {K : Value → Mem → Prop} {Kp : List PanicEntry → Mem → Prop}
  (hu : P.underlying t = some (.slice e)) (Sk : P.underlying t' = some (.slice e)) (hi : P.info? e = some i) (hz : i.zero = some zv) (hs : zv.cells.size = i.size)
  (ho : ud M i.size e A n c l) (hr : Sl M B r) (lq : r.length = m * i.size) (hp : ∀ v ∈ r, Value.plainCell v = true) (hb : (n + m) * i.bytes ≤ 140737488355328) (hby : 0 < i.bytes)
  (h : ∀ A' c' M', ud M' i.size e A' (n + m) c' (l ++ r) → nG (AQ A) M M' → Mi M A A' → K (.slice A' (n + m) c') M') :
  bk P (Builtin.append_ #[t, t'] ty #[.slice A n c, .slice B m d]) M K Kp := by
 unfold bk Builtin.append_
 simp only [List.getElem?_toArray, List.getElem?_cons_zero, List.getElem?_cons_succ]
 refine bq (aL hu M) ?_
 simp only
 refine bq (fN hi M) ?_
 refine bq (aL Sk M) ?_
 refine bq (x := false) rfl ?_
 refine bq (x := m) rfl ?_
 simp only [Bool.not_false, if_true]
 obtain ⟨hl, hA⟩ := ho
 split
 ·rename_i hle
  refine bq (g7 hr lq) ?_
  rcases hA with ⟨rfl, rfl, rfl⟩ | ⟨b, cs, rfl, hM, hcs, hnc, hc⟩
  ·have hm : m = 0 := by omega
   subst hm
   have : r = [] := by simpa using lq
   subst this
   refine h none 0 M ⟨by simpa using hl, .inl ⟨rfl, rfl, rfl⟩⟩ (nG.refl _ _) (.inl rfl)
  ·have hroom : n * i.size + 0 + r.length ≤ cs.size := by
    rw [hcs, lq, Nat.add_zero, ← Nat.add_mul]; exact Nat.mul_le_mul_right _ hle
   refine gq P _ _ ?_
   rw [add_eq, Nat.zero_add]
   refine zg r (n * i.size) 0 M cs _ hM hroom hp fun cs' h1 h2 => ?_
   refine h (some ⟨b, 0, none⟩) c _ ⟨?_, .inr ⟨b, cs', rfl, eV, by rw [h1, hcs], hle, fun j hj => ?_⟩⟩ ((nG.refl _ _).set (.inl (by simp [AQ]))) (.inl rfl)
   ·rw [List.length_append, hl, lq, Nat.add_mul]
   ·rw [h2 j]
    rw [Nat.add_mul] at hj
    by_cases Lr : j < n * i.size
    ·rw [if_neg (by omega), hc j Lr, List.getElem?_append_left (by omega)]
    ·rw [if_pos (by omega), List.getElem?_append_right (by omega), hl]; rfl
 ·rename_i hle
  refine bq (cE hi M) ?_
  rw [if_neg (by simp; omega)]
  refine bq (cE hi M) ?_
  rw [if_neg (by have := growslice_fits (need := n + m) (old := c) (bytes := i.bytes) (by omega) hb; omega)]
  show ∀ q, _
  intro q
  have hcap : n + m ≤ Question.cut (.appendCap (n + m) c e) q := by simp only [Question.cut]; omega
  generalize Question.cut (.appendCap (n + m) c e) q = nc at hcap
  refine bq (x := nc) rfl ?_
  refine bq (cE hi M) ?_
  refine gq P _ _ ?_
  have room : ∀ (X : Prop) , X → dV P (askRoom (nc * i.bytes)) M (fun _ M' => M' = M) (fun _ _ => False) := by
   intro X _
   unfold askRoom
   split
   ·exact rfl
   ·exact rfl
  refine iN P _ (room True trivial) (fun _ M' hM' => ?_) (fun _ _ hf => hf.elim)
  subst hM'
  have WQ : Sl M' A l := ud.sl ⟨hl, hA⟩
  refine bq (g7 WQ hl) ?_
  refine bq (g7 hr lq) ?_
  refine bq (x := zv) (by rw [kX]; simp [zeroOf, hi, hz]) ?_
  intro k hk
  refine h (some ⟨k, 0, none⟩) nc _ ⟨by rw [List.length_append, hl, lq, Nat.add_mul], .inr ⟨k, _, rfl, eV, ?_, hcap, fun j hj => ?_⟩⟩ ((nG.refl _ _).set (.inr hk)) (.inr ⟨k, rfl, hk⟩)
  ·simp only [Array.size_append, List.size_toArray, hl, lq]
   have : (Builtin.zeroCells zv.cells (nc - (n + m))).size = (nc - (n + m)) * i.size := by simp [Builtin.zeroCells, hs]
   rw [this, ← Nat.add_mul, ← Nat.add_mul]; congr 1; omega
  ·rw [Nat.add_mul] at hj
   rw [Array.getElem?_append_left (by simp [hl, lq]; omega)]
   simp
def Pn (M : Mem) (A : Option Addr) : Prop := ∀ x ∈ AQ A, M x = none
theorem Pn.step {M M' : Mem} {L : List Nat} {A A' : Option Addr} (h : Pn M A) (hc : nG L M M') (hf : Mi M' A A') : Pn M A' := by
 rcases hf with rfl | ⟨b, rfl, hb⟩
 ·exact h
 ·intro x hx; simp only [AQ, List.mem_singleton] at hx; subst hx; exact hc.fresh hb
theorem Pn.none (M : Mem) : Pn M none := fun x hx => by simp [AQ] at hx
theorem Pn.back {M M' : Mem} {L : List Nat} {A : Option Addr} (h : Pn M' A) (hc : nG L M M') : Pn M A := fun x hx => hc.fresh (h x hx)
theorem ud.TI {M M' : Mem} {L : List Nat} {z T : Nat} {A : Option Addr} {n c : Nat} {l : List Value} (h : ud M z T A n c l) (hc : nG L M M') (hd : ∀ x ∈ AQ A, x ∉ L) : ud M' z T A n c l := by
 obtain ⟨h1, h2 | ⟨b, cs, h3, h4, h5⟩⟩ := h
 ·exact ⟨h1, .inl h2⟩
 ·exact ⟨h1, .inr ⟨b, cs, h3, hc.at h4 (hd b (by rw [h3]; simp [AQ])), h5⟩⟩
theorem ud.nil (M : Mem) (z T : Nat) : ud M z T none 0 0 [] := ⟨by simp, .inl ⟨rfl, rfl, rfl⟩⟩
theorem Sl.TI {M M' : Mem} {L : List Nat} {A : Option Addr} {l : List Value} (h : Sl M A l) (hc : nG L M M') (hd : ∀ x ∈ AQ A, x ∉ L) : Sl M' A l :=
 h.keep fun a o ha ho => hc.at ho (hd _ (by rw [ha]; simp [AQ]))
end Go.AF
namespace Go.AF
@[simp] theorem XC {k : IntKind} {n : Int} {K : Int → Prop} : aI (some (.int k n)) k K = K n := by simp [aI]
@[simp] theorem XD {t : Bool} {K : Bool → Prop} : c7 (some (.bool t)) K = K t := rfl
@[simp] theorem XE {s : ByteArray} {K : ByteArray → Prop} : fm (some (.string s)) K = K s := rfl
@[simp] theorem XF {p : Option Addr} {K : Option Addr → Prop} : cy (some (.pointer p)) K = K p := rfl
@[simp] theorem WR {A : Option Addr} {n c : Nat} {K : Option Addr → Nat → Nat → Prop} : aB (some (.slice A n c)) K = K A n c := rfl
@[simp] theorem XG {v : Value} {K : Value → Prop} : eN (some v) K = K v := rfl
@[simp] theorem WS {b o : Nat} {K : Nat → Nat → Prop} : aE (some ⟨b, o, none⟩) K = K b o := rfl
@[simp] theorem XH {X Y : Prop} : aP true X Y = X := rfl
@[simp] theorem WU {X Y : Prop} : aP false X Y = Y := rfl
theorem gL {t : Bool} {X Y : Prop} : aP t X Y ↔ (t = true → X) ∧ (t = false → Y) := by cases t <;> simp
theorem aN {p : Prop} [Decidable p] {X Y : Prop} : aP (decide p) X Y ↔ (p → X) ∧ (¬ p → Y) := by rw [gL]; simp
theorem aY {a b : Int} {X Y : Prop} : aP (a == b) X Y ↔ (a = b → X) ∧ (a ≠ b → Y) := by rw [gL]; simp
theorem dJ {a b : Int} {X Y : Prop} : aP (a != b) X Y ↔ (a ≠ b → X) ∧ (a = b → Y) := by rw [gL]; simp
@[simp] theorem XI {v : Value} {l : List Value} : (Array.mk (v :: l))[0]? = some v := rfl
@[simp] theorem XJ {v u : Value} {l : List Value} : (Array.mk (v :: u :: l))[1]? = some u := rfl
@[simp] theorem XK {v u x : Value} {l : List Value} : (Array.mk (v :: u :: x :: l))[2]? = some x := rfl
def iv (n : Int) : Value := .int .i64 n
theorem uu {a b : Nat} : Int.tmod (a : Int) (b : Int) = ((a % b : Nat) : Int) := by
 rw [Int.tmod_eq_emod_of_nonneg (by omega)]; rfl
end Go.AF
namespace Go.AF
def jK (w : World) : Mem := fun k => w.heap[k]?
theorem ya {P : Program} {f : FuncId} {args : Array Value} {w : World} (h : aa P f args (jK w) (fun v M' => v = .bool true ∧ nG [] (jK w) M') (fun _ _ => False)) :
  Calls P f args w fun e w' => e = .returned (.bool true) ∧ Go.RowKit.Below w.heap.size w w' := by
 have hd : (jK w).dj Mem.empty := fun b => .inr rfl
 have hi : ((jK w).union Mem.empty).In (World.Tk w) w := ⟨fun b o hb => (by
  unfold Mem.union at hb
  cases hm : jK w b with
  | some o' => rw [hm] at hb; cases hb; exact hm
  | none => rw [hm] at hb; cases hb), rfl⟩
 refine (h _ Mem.empty w hd hi).mono fun e w' he => ?_
 cases e with
 | returned v =>
  obtain ⟨M', ⟨rfl, hc⟩, hd', hi'⟩ := he
  refine ⟨rfl, ?_⟩
  have old : ∀ k, k < w.heap.size → w'.heap[k]? = w.heap[k]? := fun k hk => by
   have h1 : jK w k = some w.heap[k] := by simp [jK, hk]
   have h2 := hi'.left (hc.at h1 (by simp))
   rw [h2]; simp [hk]
  have he := hi'.2
  simp only [World.Tk, Prod.mk.injEq] at he
  refine ⟨he.1, he.2.1, he.2.2, ?_, old⟩
  rcases Nat.lt_or_ge w'.heap.size w.heap.size with hlt | hge
  ·have := old w'.heap.size hlt
   simp [hlt] at this
  ·exact hge
 | panicked c => obtain ⟨_, hf, _⟩ := he; exact hf.elim
 | outgrown => exact he.elim
end Go.AF
namespace Go.AF
theorem Sl.get {M : Mem} {A : Option Addr} {l : List Value} (h : Sl M A l) {i : Nat} (hi : i < l.length) : ∃ b o, A = some ⟨b, o, none⟩ ∧ M.ld ⟨b, o + i, none⟩ = l[i]? := by
 match A, h with
 | none, h => rw [show l = [] from h] at hi; cases hi
 | some ⟨b, o, none⟩, h => exact ⟨b, o, rfl, h i hi⟩
theorem mask {x y : Int} {m : Nat} (hy : y = (m : Int)) (hm : m < 9223372036854775808) :
  ∃ q : Nat, IntKind.wrap .i64 (((Nat.bitwise and (BitVec.ofInt IntKind.i64.bits x).toNat (BitVec.ofInt IntKind.i64.bits y).toNat) : Nat) : Int) = (q : Int) ∧ q ≤ m := by
 subst hy
 have e : (BitVec.ofInt IntKind.i64.bits (m : Int)).toNat = m := by
  have : IntKind.i64.bits = 64 := rfl
  rw [this]
  simp only [BitVec.ofInt_natCast, BitVec.toNat_ofNat]
  exact Nat.mod_eq_of_lt (by omega)
 rw [e]
 have h : Nat.bitwise and (BitVec.ofInt IntKind.i64.bits x).toNat m ≤ m := Nat.and_le_right (n := (BitVec.ofInt IntKind.i64.bits x).toNat)
 exact ⟨_, mS (by omega), h⟩
theorem aW {n : Nat} (h : n + 1 < 9223372036854775808) : IntKind.wrap .i64 ((n : Int) + 1) = ((n + 1 : Nat) : Int) := by
 rw [← mS (n := n + 1) h]; rfl
end Go.AF
namespace Go.AF
end Go.AF
namespace Go.AF
theorem Sl.take {M : Mem} {A : Option Addr} {l : List Value} (h : Sl M A l) (k : Nat) : Sl M A (l.take k) := by
 match A, h with
 | none, h => rw [show l = [] from h]; simp [Sl]
 | some ⟨b, o, none⟩, h =>
  intro i hi
  rw [List.length_take] at hi
  rw [h i (by omega), List.getElem?_take, if_pos (by omega)]
theorem Sl.lO {M : Mem} {A : Option Addr} {l : List Value} {m c : Nat} (h : Sl M A l) (hc : l.length ≤ c) : Sl M (lO A m c 1) (l.drop m) := by
 unfold Go.AF.lO
 split
 ·rename_i he
  have : l.drop m = [] := List.drop_of_length_le (by omega)
  rw [this]
  match A, h with
  | none, h => rfl
  | some ⟨b, o, none⟩, h => intro i hi; simp at hi
 ·match A, h with
  | none, h => rw [show l = [] from h]; simp [Sl]
  | some ⟨b, o, none⟩, h =>
   rw [Option.map_some, add_eq]
   intro i hi
   rw [List.length_drop] at hi
   rw [show o + m * 1 + i = o + (m + i) from by omega, h (m + i) (by omega), List.getElem?_drop]
theorem ud.some {M : Mem} {z T : Nat} {A : Option Addr} {n c : Nat} {l : List Value} (h : ud M z T A n c l) {x : Nat} (hx : x ∈ AQ A) : ∃ o, M x = .some o := by
 obtain ⟨_, ⟨rfl, _, _⟩ | ⟨b, cs, rfl, hb, _⟩⟩ := h
 ·simp [AQ] at hx
 ·simp only [AQ, List.mem_singleton] at hx; subst hx; exact ⟨_, hb⟩
theorem ud.cap {M : Mem} {z T : Nat} {A : Option Addr} {n c : Nat} {l : List Value} (h : ud M z T A n c l) : n ≤ c := by
 obtain ⟨_, ⟨_, h0, _⟩ | ⟨x, cs, _, _, _, hx, _⟩⟩ := h
 ·omega
 ·exact hx
end Go.AF
namespace Go.AF
def bj (P : Program) (t e z bytes : Nat) (zero : List Value) : Prop :=
 P.underlying t = some (.slice e) ∧ ∃ i zv, P.info? e = some i ∧ i.size = z ∧ i.bytes = bytes ∧ i.zero = some zv ∧ zv.cells.toList = zero ∧ zero.length = z ∧ 0 < bytes
theorem bj.mk' {P : Program} {t e z bytes : Nat} {zv : Value} (h1 : P.underlying t = some (.slice e)) (h2 : (P.info? e).map (fun i => (i.size, i.bytes, i.zero)) = some (z, bytes, some zv)) (h3 : zv.cells.toList.length = z) (h4 : 0 < bytes) :
  bj P t e z bytes zv.cells.toList := by
 refine ⟨h1, ?_⟩
 cases hi : P.info? e with
 | none => rw [hi] at h2; cases h2
 | some i =>
  rw [hi] at h2
  simp only [Option.map_some, Option.some.injEq, Prod.mk.injEq] at h2
  exact ⟨i, zv, rfl, h2.1, h2.2.1, h2.2.2, rfl, h3, h4⟩
theorem bj.make {P : Program} {t e z bytes n : Nat} {zero : List Value} {M : Mem} {K : Value → Mem → Prop} {Kp : List PanicEntry → Mem → Prop} (E : bj P t e z bytes zero) (hb : n * bytes ≤ 140737488355328)
  (h : ∀ k, M k = none → K (.slice (some ⟨k, 0, none⟩) n n) (M.set k (.cells (List.replicate n zero).flatten.toArray e (0, 0)))) :
  bk P (Instr.makeSlice t (.int .i64 (n : Int)) (.int .i64 (n : Int))) M K Kp := by
 obtain ⟨hu, i, zv, hi, hs, hby, hz, rfl, hl, hp⟩ := E
 have hn : n ≤ n * bytes := Nat.le_mul_of_pos_right n hp
 exact zf hu hi hz (by rw [hs, ← hl]; simp) (by rw [hby]; exact hb) (by omega) h
theorem bj.append {P : Program} {t e z bytes ty : Nat} {zero : List Value} {A B : Option Addr} {n c m d : Nat} {l r : List Value} {M : Mem} {K : Value → Mem → Prop} {Kp : List PanicEntry → Mem → Prop} (E : bj P t e z bytes zero)
  (ho : ud M z e A n c l) (hr : Sl M B r) (lq : r.length = m * z) (hp : ∀ v ∈ r, Value.plainCell v = true) (hb : (n + m) * bytes ≤ 140737488355328)
  (h : ∀ A' c' M', ud M' z e A' (n + m) c' (l ++ r) → nG (AQ A) M M' → Mi M A A' → K (.slice A' (n + m) c') M') :
  bk P (Builtin.append_ #[t, t] ty #[.slice A n c, .slice B m d]) M K Kp := by
 obtain ⟨hu, i, zv, hi, hs, hby, hz, rfl, hl, hpos⟩ := E
 refine Ez hu hu hi hz (by rw [hs, ← hl]; simp) (by rw [hs]; exact ho) hr (by rw [hs]; exact lq) hp (by rw [hby]; exact hb) (by omega) ?_
 rw [hs]; exact h
theorem bj.copy {P : Program} {t e z bytes ty : Nat} {zero : List Value} {B : Option Addr} {m k d : Nat} {r : List Value} {M : Mem} {K : Value → Mem → Prop} {Kp : List PanicEntry → Mem → Prop} (E : bj P t e z bytes zero)
  (hk : M k = none) (hr : Sl M B r) (lq : r.length = m * z) (hp : ∀ v ∈ r, Value.plainCell v = true) (hb : m * bytes ≤ 140737488355328)
  (h : ∀ A' c' M', ud M' z e A' m c' r → nG [] M M' → Pn M A' → K (.slice A' m c') M') :
  bk P (Builtin.append_ #[t, t] ty #[.slice (some ⟨k, 0, none⟩) 0 0, .slice B m d]) (M.set k (.cells #[] e (0, 0))) K Kp := by
 have c0 : nG [] M (M.set k (.cells #[] e (0, 0))) := (nG.refl _ _).set (.inr hk)
 refine E.append (l := []) ⟨by simp, .inr ⟨k, #[], rfl, eV, by simp, by omega, by simp⟩⟩ (hr.TI c0 (by simp)) lq hp (by simpa using hb) fun A' c' M' g1 g2 g3 => ?_
 rw [Nat.zero_add] at g1 ⊢
 rw [List.nil_append] at g1
 have f0 : Pn M (some ⟨k, 0, none⟩) := fun x hx => by simp only [AQ, List.mem_singleton] at hx; subst hx; exact hk
 exact h A' c' M' g1 (c0.trans g2 (fun x hx => .inr (f0 x hx))) (f0.step c0 g3)
end Go.AF
namespace Go.AF
@[simp] theorem XL {a b c d : Value} {l : List Value} : (Array.mk (a :: b :: c :: d :: l))[3]? = some d := rfl
@[simp] theorem XM {a b c d e : Value} {l : List Value} : (Array.mk (a :: b :: c :: d :: e :: l))[4]? = some e := rfl
@[simp] theorem XN {a b c d e f : Value} {l : List Value} : (Array.mk (a :: b :: c :: d :: e :: f :: l))[5]? = some f := rfl
end Go.AF
