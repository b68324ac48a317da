/- A part of proofs about one program. -/
import Derived.Test.YtnnlgknlialpmaaGreatZTaperSumsSoundB
set_option linter.unusedVariables false
namespace Go.AF
theorem Kz {M : Mem} {b o T : Nat} {c : Array Value} {fl : Nat × Nat} (h : M b = some (.cells c T fl)) : M.ld ⟨b, o, none⟩ = c[o]? := by
 simp [Mem.ld, h]
theorem U0 {M : Mem} {b o T : Nat} {c : Array Value} (h : M b = some (.cells c T (0, 0))) (ho : o < c.size) : M.wr ⟨b, o, none⟩ = true := by
 simp [Mem.wr, h, ho]
theorem OO {M : Mem} {b o T : Nat} {c : Array Value} {fl : Nat × Nat} {v : Value} (h : M b = some (.cells c T fl)) : M.put ⟨b, o, none⟩ v = M.set b (.cells (c.setIfInBounds o v) T fl) := by
 funext i
 unfold Mem.put Mem.set
 by_cases hi : i = b
 ·subst hi; simp [h, Obj.zG]
 ·simp [hi]
theorem dM {M : Mem} {b : Nat} {o : Obj} : (M.set b o) b = some o := by simp [Mem.set]
theorem OP {M : Mem} {b k : Nat} {o : Obj} (h : k ≠ b) : (M.set b o) k = M k := by simp [Mem.set, h]
theorem set_set {M : Mem} {b : Nat} {o o' : Obj} : (M.set b o).set b o' = M.set b o' := by
 funext i; unfold Mem.set; split <;> simp_all
def oY (M M' : Mem) : Prop := ∀ b o, M b = some o → M' b = some o
theorem oY.refl (M : Mem) : oY M M := fun _ _ h => h
theorem oY.trans {A B D : Mem} (h : oY A B) (g : oY B D) : oY A D := fun b o x => g b o (h b o x)
theorem oY.fresh {M M' : Mem} (h : oY M M') {b : Nat} (hb : M' b = none) : M b = none := by
 cases hm : M b with
 | none => rfl
 | some o => rw [h b o hm] at hb; cases hb
theorem oY.set {M M' : Mem} (h : oY M M') {b : Nat} {o : Obj} (hb : M b = none) : oY M (M'.set b o) := fun k x hk => by
 by_cases V4 : k = b
 ·subst V4; rw [hb] at hk; cases hk
 ·rw [OP V4]; exact h k x hk
def mN (L : List Nat) (M M' : Mem) : Prop := ∀ k o, M k = some o → (∃ o', M' k = some o') ∧ (k ∉ L → M' k = some o)
theorem mN.refl (L : List Nat) (M : Mem) : mN L M M := fun k o h => ⟨⟨o, h⟩, fun _ => h⟩
theorem oY.Wa {M M' : Mem} (h : oY M M') (L : List Nat) : mN L M M' := fun k o hk => ⟨⟨o, h k o hk⟩, fun _ => h k o hk⟩
theorem mN.keep {M M' : Mem} (h : mN [] M M') : oY M M' := fun k o hk => (h k o hk).2 (by simp)
theorem mN.fresh {L : List Nat} {M M' : Mem} (h : mN L M M') {b : Nat} (hb : M' b = none) : M b = none := by
 cases hm : M b with
 | none => rfl
 | some o => obtain ⟨⟨o', ho⟩, _⟩ := h b o hm; rw [hb] at ho; cases ho
theorem mN.trans {L L' : List Nat} {A B D : Mem} (h : mN L A B) (g : mN L' B D) (hs : ∀ x ∈ L', x ∈ L ∨ A x = none) : mN L A D := fun k o hk => by
 obtain ⟨⟨o1, h1⟩, h2⟩ := h k o hk
 refine ⟨(g k o1 h1).1, fun hn => ?_⟩
 refine (g k o (h2 hn)).2 fun hm => ?_
 rcases hs k hm with h3 | h3
 ·exact hn h3
 ·rw [hk] at h3; cases h3
theorem mN.mono {L L' : List Nat} {A B : Mem} (h : mN L A B) (hs : ∀ x ∈ L, x ∈ L' ∨ A x = none) : mN L' A B := (mN.refl L' A).trans h hs
theorem mN.set {L : List Nat} {M M' : Mem} (h : mN L M M') {b : Nat} {o : Obj} (hb : b ∈ L ∨ M b = none) : mN L M (M'.set b o) := fun k x hk => by
 by_cases V4 : k = b
 ·subst V4
  refine ⟨⟨o, dM⟩, fun hn => ?_⟩
  rcases hb with hb | hb
  ·exact absurd hb hn
  ·rw [hb] at hk; cases hk
 ·rw [OP V4]; exact h k x hk
theorem mN.at {L : List Nat} {M M' : Mem} (h : mN L M M') {k : Nat} {o : Obj} (hk : M k = some o) (hn : k ∉ L) : M' k = some o := (h k o hk).2 hn
def yC : Option Addr → List Nat
 | none => []
 | some a => [a.block]
def Sl (M : Mem) (A : Option Addr) (l : List Value) : Prop :=
 match A with
 | some ⟨b, o, none⟩ => ∀ i, i < l.length → M.ld ⟨b, o + i, none⟩ = l[i]?
 | none => l = []
 | _ => False
def sj (M : Mem) (z T : Nat) (A : Option Addr) (n c : Nat) (l : List Value) : Prop :=
 l.length = n * z ∧ ((A = none ∧ n = 0 ∧ c = 0) ∨ ∃ b cs, A = some ⟨b, 0, none⟩ ∧ M b = some (.cells cs T (0, 0)) ∧ cs.size = c * z ∧ n ≤ c ∧ ∀ i, i < n * z → cs[i]? = l[i]?)
theorem sj.sl {M : Mem} {z T : Nat} {A : Option Addr} {n c : Nat} {l : List Value} (h : sj M z T A n c l) : Sl M A l := by
 obtain ⟨hl, ⟨rfl, rfl, rfl⟩ | ⟨b, cs, rfl, hb, hs, hn, hc⟩⟩ := h
 ·simpa [Sl] using hl
 ·intro i hi
  rw [Kz hb, Nat.zero_add, hc i (by omega)]
theorem Sl.keep {M M' : Mem} {A : Option Addr} {l : List Value} (h : Sl M A l) (hk : ∀ a o, A = some a → M a.block = some o → M' a.block = some o) : Sl M' A l := by
 match A, h with
 | none, h => exact h
 | some ⟨b, o, none⟩, h =>
  intro i hi
  have := h i hi
  unfold Mem.ld at this ⊢
  cases hb : M b with
  | none => simp [hb] at this; omega
  | some x => simp only [hk _ _ rfl hb]; simpa [hb] using this
theorem Sl.mono {M M' : Mem} {A : Option Addr} {l : List Value} (h : Sl M A l) (hk : oY M M') : Sl M' A l := h.keep fun a o _ ho => hk _ _ ho
theorem aU {P : Program} {α β : Type} {s : Sem α} {f : α → Sem β} {M : Mem} {x : α} {K : β → Mem → Prop} {Kp : Value → Mem → Prop} (h : bO P s M = some x) (hk : dV P (f x) M K Kp) :
  dV P (s >>= f) M K Kp := eE P s f (gA P s h hk)
theorem rG {M : Mem} {b o : Nat} : ∀ (l : List Value) (i : Nat), (∀ j, j < l.length → M.ld ⟨b, o + (i + j), none⟩ = l[j]?) → M.gd ⟨b, o, none⟩ i l.length = some l := by
 intro l
 induction l with
 | nil => intro i h; rfl
 | cons v l ih =>
  intro i h
  have h0 := h 0 (by simp)
  have hr := ih (i + 1) (fun j hj => by
   have := h (j + 1) (by simpa using hj)
   rw [show i + 1 + j = i + (j + 1) from by omega]; simpa using this)
  have ZX : M.ld ⟨b, o + i, none⟩ = some v := by simpa using h0
  simp only [List.length_cons, Mem.gd, add_eq, ZX, hr, Option.map_some]
theorem mw {n : Int} (h0 : -9223372036854775808 ≤ n) (h : n < 9223372036854775808) : IntKind.wrap .i64 n = n := by
 rw [IntKind.wrap_i64]; omega
theorem m8 {n : Nat} (h : n < 9223372036854775808) : IntKind.wrap .i64 (n : Int) = n := mw (by omega) (by omega)
theorem Av {P : Program} {t e : TypeId} {i : TypeInfo} {zv : Value} {n : Nat} {M : Mem} {K : Value → Mem → Prop} {Kp : List PanicEntry → Mem → Prop}
  (hu : P.underlying t = some (.slice e)) (hi : P.info? e = some i) (hz : i.zero = some zv) (hs : zv.cells.size = i.size) (hb : n * i.bytes ≤ 140737488355328) (hn : n < 9223372036854775808)
  (h : ∀ k, M k = none → K (.slice (some ⟨k, 0, none⟩) n n) (M.set k (.cells (List.replicate n zv.cells.toList).flatten.toArray e (0, 0)))) :
  aX P (Instr.makeSlice t (.int .i64 (n : Int)) (.int .i64 (n : Int))) M K Kp := by
 unfold aX Instr.makeSlice
 refine aU (aH hu M) ?_
 simp only
 refine aU (x := (n : Int)) rfl ?_
 refine aU (x := (n : Int)) rfl ?_
 refine aU (b6 hi M) ?_
 have hb' : ¬ ((i.bytes : Int) * (n : Int) > 2 ^ 48) := by
  have : ((n * i.bytes : Nat) : Int) = (i.bytes : Int) * (n : Int) := by rw [Int.natCast_mul, Int.mul_comm]
  omega
 simp only [m8 hn]
 have c1 : ¬ ((n : Int) < 0) := by omega
 rw [if_neg (by simp [c1]; omega)]
 refine aU (x := ()) ?_ ?_
 ·unfold askRoom roomBytes
  rw [if_neg (by simp only [Int.toNat_natCast]; omega)]; rfl
 refine aU (fq hi M) ?_
 simp only [Int.toNat_natCast]
 have fin : ∀ zero : Array Value, (Array.range (n * i.size)).map (fun x => zero[x % zero.size]!) = (List.replicate n zv.cells.toList).flatten.toArray →
   dV P (newRow e ((Array.range (n * i.size)).map (fun x => zero[x % zero.size]!)) >>= fun a => pure (Value.slice (some a) n n)) M K fun v M' => Kp [{ v, recovered := false }] M' := by
  intro zero hz
  rw [hz]
  exact fun k hk => h k hk
 split
 ·rename_i h0
  refine aU (x := #[]) rfl ?_
  refine fin #[] ?_
  rw [h0]
  rcases Nat.mul_eq_zero.1 h0 with h1 | h1
  ·subst h1; apply Array.ext'; simp
  ·have : zv.cells.toList = [] := by rw [← List.length_eq_zero_iff]; simpa [hs] using h1
   rw [this]; apply Array.ext'; simp
 ·refine aU (x := zv) (by rw [jJ]; simp [zeroOf, hi, hz]) ?_
  refine aU (x := zv.cells) rfl ?_
  refine fin zv.cells ?_
  have := kS (zs := zv.cells.toList) (s := i.size) (by simpa using hs) n
  apply Array.ext'
  simpa [hs] using this
theorem fx {P : Program} {M : Mem} {A : Option Addr} {n c z m : Nat} {l : List Value} (h : Sl M A l) (hl : l.length = m * z) : bO P (Builtin.firstCells z m (.slice A n c)) M = some l.toArray := by
 match A, h with
 | none, h => subst h; rfl
 | some ⟨b, o, none⟩, h =>
  unfold Builtin.firstCells loadCells
  have := nX (P := P) (M := M) (a := ⟨b, o, none⟩) (m * z) 0 #[] l (by
   have := rG (M := M) (b := b) (o := o) l 0 (fun j hj => by rw [Nat.zero_add]; exact h j hj)
   rw [hl] at this; exact this)
  simpa using this
theorem qb {P : Program} {b T : Nat} {Kp : Value → Mem → Prop} : ∀ (vs : List Value) (o i : Nat) (M : Mem) (cs : Array Value) (K : Mem → Prop), M b = some (.cells cs T (0, 0)) → o + i + vs.length ≤ cs.size →
  (∀ v ∈ vs, Value.plainCell v = true) →
  (∀ cs' : Array Value, cs'.size = cs.size → (∀ j, cs'[j]? = if o + i ≤ j ∧ j < o + i + vs.length then vs[j - (o + i)]? else cs[j]?) → K (M.set b (.cells cs' T (0, 0)))) →
  dV P (storeCells ⟨b, o, none⟩ vs i) M (fun _ M' => K M') Kp := by
 intro vs
 induction vs with
 | nil =>
  intro o i M cs K hb _ _ h
  have : M.set b (.cells cs T (0, 0)) = M := by
   funext k; unfold Mem.set; split
   ·rename_i hk; rw [hk, hb]
   ·rfl
  have h1 := h cs rfl (fun j => by
   rw [if_neg]; simp only [List.length_nil]; omega)
  rw [this] at h1
  exact h1
 | cons v vs ih =>
  intro o i M cs K hb hs hp h
  simp only [List.length_cons] at hs
  have ho : o + i < cs.size := by omega
  show dV P (.store .plain ((⟨b, o, none⟩ : Addr).add i) v (storeCells ⟨b, o, none⟩ vs (i + 1))) M _ _
  rw [add_eq]
  refine ⟨hp v (List.mem_cons_self ..), U0 hb ho, ?_⟩
  rw [OO hb]
  refine ih o (i + 1) _ (cs.setIfInBounds (o + i) v) K dM (by simp; omega) (fun u hu => hp u (List.mem_cons_of_mem _ hu)) fun cs' h1 h2 => ?_
  rw [set_set]
  refine h cs' (by simpa using h1) fun j => ?_
  rw [h2 j]
  simp only [List.length_cons]
  by_cases hj : j = o + i
  ·subst hj
   rw [if_neg (by omega), if_pos (by omega)]
   simp [ho]
  ·by_cases KA : o + (i + 1) ≤ j ∧ j < o + (i + 1) + vs.length
   ·rw [if_pos KA, if_pos (by omega)]
    rw [show j - (o + i) = (j - (o + (i + 1))) + 1 from by omega]; simp
   ·rw [if_neg KA, if_neg (by omega)]
    rw [Array.getElem?_setIfInBounds_ne (Ne.symm hj)]
def KB (M : Mem) (A A' : Option Addr) : Prop := A' = A ∨ ∃ b, A' = some ⟨b, 0, none⟩ ∧ M b = none
theorem FV {P : Program} {t t' e ty : TypeId} {i : TypeInfo} {zv : Value} {A B : Option Addr} {n c m d : Nat} {l r : List Value} {M : Mem} {K : Value → Mem → Prop} {Kp : List PanicEntry → Mem → Prop}
  (hu : P.underlying t = some (.slice e)) (RL : P.underlying t' = some (.slice e)) (hi : P.info? e = some i) (hz : i.zero = some zv) (hs : zv.cells.size = i.size)
  (ho : sj M i.size e A n c l) (hr : Sl M B r) (jn : r.length = m * i.size) (hp : ∀ v ∈ r, Value.plainCell v = true) (hb : (n + m) * i.bytes ≤ 140737488355328) (hby : 0 < i.bytes)
  (h : ∀ A' c' M', sj M' i.size e A' (n + m) c' (l ++ r) → mN (yC A) M M' → KB M A A' → K (.slice A' (n + m) c') M') :
  aX P (Builtin.append_ #[t, t'] ty #[.slice A n c, .slice B m d]) M K Kp := by
 unfold aX Builtin.append_
 simp only [List.getElem?_toArray, List.getElem?_cons_zero, List.getElem?_cons_succ]
 refine aU (aH hu M) ?_
 simp only
 refine aU (fq hi M) ?_
 refine aU (aH RL M) ?_
 refine aU (x := false) rfl ?_
 refine aU (x := m) rfl ?_
 simp only [Bool.not_false, if_true]
 obtain ⟨hl, hA⟩ := ho
 split
 ·rename_i hle
  refine aU (fx hr jn) ?_
  rcases hA with ⟨rfl, rfl, rfl⟩ | ⟨b, cs, rfl, hM, hcs, hnc, hc⟩
  ·have hm : m = 0 := by omega
   subst hm
   have : r = [] := by simpa using jn
   subst this
   refine h none 0 M ⟨by simpa using hl, .inl ⟨rfl, rfl, rfl⟩⟩ (mN.refl _ _) (.inl rfl)
  ·have hroom : n * i.size + 0 + r.length ≤ cs.size := by
    rw [hcs, jn, Nat.add_zero, ← Nat.add_mul]; exact Nat.mul_le_mul_right _ hle
   refine eE P _ _ ?_
   rw [add_eq, Nat.zero_add]
   refine qb r (n * i.size) 0 M cs _ hM hroom hp fun cs' h1 h2 => ?_
   refine h (some ⟨b, 0, none⟩) c _ ⟨?_, .inr ⟨b, cs', rfl, dM, by rw [h1, hcs], hle, fun j hj => ?_⟩⟩ ((mN.refl _ _).set (.inl (by simp [yC]))) (.inl rfl)
   ·rw [List.length_append, hl, jn, Nat.add_mul]
   ·rw [h2 j]
    rw [Nat.add_mul] at hj
    by_cases KA : j < n * i.size
    ·rw [if_neg (by omega), hc j KA, List.getElem?_append_left (by omega)]
    ·rw [if_pos (by omega), List.getElem?_append_right (by omega), hl]; rfl
 ·rename_i hle
  refine aU (b6 hi M) ?_
  rw [if_neg (by simp; omega)]
  refine aU (b6 hi M) ?_
  rw [if_neg (by have := growslice_fits (need := n + m) (old := c) (bytes := i.bytes) (by omega) hb; omega)]
  show ∀ q, _
  intro q
  have hcap : n + m ≤ Question.cut (.appendCap (n + m) c e) q := by simp only [Question.cut]; omega
  generalize Question.cut (.appendCap (n + m) c e) q = nc at hcap
  refine aU (x := nc) rfl ?_
  refine aU (b6 hi M) ?_
  refine eE P _ _ ?_
  have room : ∀ (X : Prop) , X → dV P (askRoom (nc * i.bytes)) M (fun _ M' => M' = M) (fun _ _ => False) := by
   intro X _
   unfold askRoom
   split
   ·exact rfl
   ·exact rfl
  refine hU P _ (room True trivial) (fun _ M' ZY => ?_) (fun _ _ hf => hf.elim)
  subst ZY
  have U1 : Sl M' A l := sj.sl ⟨hl, hA⟩
  refine aU (fx U1 hl) ?_
  refine aU (fx hr jn) ?_
  refine aU (x := zv) (by rw [jJ]; simp [zeroOf, hi, hz]) ?_
  intro k hk
  refine h (some ⟨k, 0, none⟩) nc _ ⟨by rw [List.length_append, hl, jn, Nat.add_mul], .inr ⟨k, _, rfl, dM, ?_, hcap, fun j hj => ?_⟩⟩ ((mN.refl _ _).set (.inr hk)) (.inr ⟨k, rfl, hk⟩)
  ·simp only [Array.size_append, List.size_toArray, hl, jn]
   have : (Builtin.zeroCells zv.cells (nc - (n + m))).size = (nc - (n + m)) * i.size := by simp [Builtin.zeroCells, hs]
   rw [this, ← Nat.add_mul, ← Nat.add_mul]; congr 1; omega
  ·rw [Nat.add_mul] at hj
   rw [Array.getElem?_append_left (by simp [hl, jn]; omega)]
   simp
def RN (M : Mem) (A : Option Addr) : Prop := ∀ x ∈ yC A, M x = none
theorem RN.step {M M' : Mem} {L : List Nat} {A A' : Option Addr} (h : RN M A) (hc : mN L M M') (hf : KB M' A A') : RN M A' := by
 rcases hf with rfl | ⟨b, rfl, hb⟩
 ·exact h
 ·intro x hx; simp only [yC, List.mem_singleton] at hx; subst hx; exact hc.fresh hb
theorem RN.none (M : Mem) : RN M none := fun x hx => by simp [yC] at hx
theorem RN.back {M M' : Mem} {L : List Nat} {A : Option Addr} (h : RN M' A) (hc : mN L M M') : RN M A := fun x hx => hc.fresh (h x hx)
theorem sj.Wa {M M' : Mem} {L : List Nat} {z T : Nat} {A : Option Addr} {n c : Nat} {l : List Value} (h : sj M z T A n c l) (hc : mN L M M') (hd : ∀ x ∈ yC A, x ∉ L) : sj M' z T A n c l := by
 obtain ⟨h1, h2 | ⟨b, cs, h3, h4, h5⟩⟩ := h
 ·exact ⟨h1, .inl h2⟩
 ·exact ⟨h1, .inr ⟨b, cs, h3, hc.at h4 (hd b (by rw [h3]; simp [yC])), h5⟩⟩
theorem sj.nil (M : Mem) (z T : Nat) : sj M z T none 0 0 [] := ⟨by simp, .inl ⟨rfl, rfl, rfl⟩⟩
theorem Sl.Wa {M M' : Mem} {L : List Nat} {A : Option Addr} {l : List Value} (h : Sl M A l) (hc : mN L M M') (hd : ∀ x ∈ yC A, x ∉ L) : Sl M' A l :=
 h.keep fun a o ha ho => hc.at ho (hd _ (by rw [ha]; simp [yC]))
end Go.AF
namespace Go.AF
@[simp] theorem ZZ {k : IntKind} {n : Int} {K : Int → Prop} : aK (some (.int k n)) k K = K n := by simp [aK]
@[simp] theorem Z0 {t : Bool} {K : Bool → Prop} : dH (some (.bool t)) K = K t := rfl
@[simp] theorem Z1 {s : ByteArray} {K : ByteArray → Prop} : fz (some (.string s)) K = K s := rfl
@[simp] theorem Z2 {p : Option Addr} {K : Option Addr → Prop} : cv (some (.pointer p)) K = K p := rfl
@[simp] theorem Zc {A : Option Addr} {n c : Nat} {K : Option Addr → Nat → Nat → Prop} : az (some (.slice A n c)) K = K A n c := rfl
@[simp] theorem Z3 {v : Value} {K : Value → Prop} : fC (some v) K = K v := rfl
@[simp] theorem Zd {b o : Nat} {K : Nat → Nat → Prop} : aE (some ⟨b, o, none⟩) K = K b o := rfl
@[simp] theorem Z4 {X Y : Prop} : aQ true X Y = X := rfl
@[simp] theorem Ze {X Y : Prop} : aQ false X Y = Y := rfl
theorem gS {t : Bool} {X Y : Prop} : aQ t X Y ↔ (t = true → X) ∧ (t = false → Y) := by cases t <;> simp
theorem aJ {p : Prop} [Decidable p] {X Y : Prop} : aQ (decide p) X Y ↔ (p → X) ∧ (¬ p → Y) := by rw [gS]; simp
theorem aV {a b : Int} {X Y : Prop} : aQ (a == b) X Y ↔ (a = b → X) ∧ (a ≠ b → Y) := by rw [gS]; simp
theorem fy {a b : Int} {X Y : Prop} : aQ (a != b) X Y ↔ (a ≠ b → X) ∧ (a = b → Y) := by rw [gS]; simp
@[simp] theorem Z5 {v : Value} {l : List Value} : (Array.mk (v :: l))[0]? = some v := rfl
@[simp] theorem Z6 {v u : Value} {l : List Value} : (Array.mk (v :: u :: l))[1]? = some u := rfl
@[simp] theorem Z7 {v u x : Value} {l : List Value} : (Array.mk (v :: u :: x :: l))[2]? = some x := rfl
def iv (n : Int) : Value := .int .i64 n
theorem qc {a b : Nat} : Int.tmod (a : Int) (b : Int) = ((a % b : Nat) : Int) := by
 rw [Int.tmod_eq_emod_of_nonneg (by omega)]; rfl
end Go.AF
namespace Go.AF
def jK (w : World) : Mem := fun k => w.heap[k]?
theorem za {P : Program} {f : FuncId} {args : Array Value} {w : World} (h : aa P f args (jK w) (fun v M' => v = .bool true ∧ mN [] (jK w) M') (fun _ _ => False)) :
  Calls P f args w fun e w' => e = .returned (.bool true) ∧ Go.RowKit.Below w.heap.size w w' := by
 have hd : (jK w).dj Mem.empty := fun b => .inr rfl
 have hi : ((jK w).union Mem.empty).In (World.VN w) w := ⟨fun b o hb => (by
  unfold Mem.union at hb
  cases hm : jK w b with
  | some o' => rw [hm] at hb; cases hb; exact hm
  | none => rw [hm] at hb; cases hb), rfl⟩
 refine (h _ Mem.empty w hd hi).mono fun e w' he => ?_
 cases e with
 | returned v =>
  obtain ⟨M', ⟨rfl, hc⟩, hd', hi'⟩ := he
  refine ⟨rfl, ?_⟩
  have old : ∀ k, k < w.heap.size → w'.heap[k]? = w.heap[k]? := fun k hk => by
   have h1 : jK w k = some w.heap[k] := by simp [jK, hk]
   have h2 := hi'.left (hc.at h1 (by simp))
   rw [h2]; simp [hk]
  have he := hi'.2
  simp only [World.VN, Prod.mk.injEq] at he
  refine ⟨he.1, he.2.1, he.2.2, ?_, old⟩
  rcases Nat.lt_or_ge w'.heap.size w.heap.size with hlt | hge
  ·have := old w'.heap.size hlt
   simp [hlt] at this
  ·exact hge
 | panicked c => obtain ⟨_, hf, _⟩ := he; exact hf.elim
 | outgrown => exact he.elim
end Go.AF
namespace Go.AF
theorem Sl.get {M : Mem} {A : Option Addr} {l : List Value} (h : Sl M A l) {i : Nat} (hi : i < l.length) : ∃ b o, A = some ⟨b, o, none⟩ ∧ M.ld ⟨b, o + i, none⟩ = l[i]? := by
 match A, h with
 | none, h => rw [show l = [] from h] at hi; cases hi
 | some ⟨b, o, none⟩, h => exact ⟨b, o, rfl, h i hi⟩
theorem mask {x y : Int} {m : Nat} (hy : y = (m : Int)) (hm : m < 9223372036854775808) :
  ∃ q : Nat, IntKind.wrap .i64 (((Nat.bitwise and (BitVec.ofInt IntKind.i64.bits x).toNat (BitVec.ofInt IntKind.i64.bits y).toNat) : Nat) : Int) = (q : Int) ∧ q ≤ m := by
 subst hy
 have e : (BitVec.ofInt IntKind.i64.bits (m : Int)).toNat = m := by
  have : IntKind.i64.bits = 64 := rfl
  rw [this]
  simp only [BitVec.ofInt_natCast, BitVec.toNat_ofNat]
  exact Nat.mod_eq_of_lt (by omega)
 rw [e]
 have h : Nat.bitwise and (BitVec.ofInt IntKind.i64.bits x).toNat m ≤ m := Nat.and_le_right (n := (BitVec.ofInt IntKind.i64.bits x).toNat)
 exact ⟨_, m8 (by omega), h⟩
theorem aP {n : Nat} (h : n + 1 < 9223372036854775808) : IntKind.wrap .i64 ((n : Int) + 1) = ((n + 1 : Nat) : Int) := by
 rw [← m8 (n := n + 1) h]; rfl
end Go.AF
namespace Go.AF
end Go.AF
namespace Go.AF
theorem Sl.take {M : Mem} {A : Option Addr} {l : List Value} (h : Sl M A l) (k : Nat) : Sl M A (l.take k) := by
 match A, h with
 | none, h => rw [show l = [] from h]; simp [Sl]
 | some ⟨b, o, none⟩, h =>
  intro i hi
  rw [List.length_take] at hi
  rw [h i (by omega), List.getElem?_take, if_pos (by omega)]
theorem Sl.kx {M : Mem} {A : Option Addr} {l : List Value} {m c : Nat} (h : Sl M A l) (hc : l.length ≤ c) : Sl M (kx A m c 1) (l.drop m) := by
 unfold Go.AF.kx
 split
 ·rename_i he
  have : l.drop m = [] := List.drop_of_length_le (by omega)
  rw [this]
  match A, h with
  | none, h => rfl
  | some ⟨b, o, none⟩, h => intro i hi; simp at hi
 ·match A, h with
  | none, h => rw [show l = [] from h]; simp [Sl]
  | some ⟨b, o, none⟩, h =>
   rw [Option.map_some, add_eq]
   intro i hi
   rw [List.length_drop] at hi
   rw [show o + m * 1 + i = o + (m + i) from by omega, h (m + i) (by omega), List.getElem?_drop]
theorem sj.some {M : Mem} {z T : Nat} {A : Option Addr} {n c : Nat} {l : List Value} (h : sj M z T A n c l) {x : Nat} (hx : x ∈ yC A) : ∃ o, M x = .some o := by
 obtain ⟨_, ⟨rfl, _, _⟩ | ⟨b, cs, rfl, hb, _⟩⟩ := h
 ·simp [yC] at hx
 ·simp only [yC, List.mem_singleton] at hx; subst hx; exact ⟨_, hb⟩
theorem sj.cap {M : Mem} {z T : Nat} {A : Option Addr} {n c : Nat} {l : List Value} (h : sj M z T A n c l) : n ≤ c := by
 obtain ⟨_, ⟨_, h0, _⟩ | ⟨x, cs, _, _, _, hx, _⟩⟩ := h
 ·omega
 ·exact hx
end Go.AF
namespace Go.AF
def bg (P : Program) (t e z bytes : Nat) (zero : List Value) : Prop :=
 P.underlying t = some (.slice e) ∧ ∃ i zv, P.info? e = some i ∧ i.size = z ∧ i.bytes = bytes ∧ i.zero = some zv ∧ zv.cells.toList = zero ∧ zero.length = z ∧ 0 < bytes
theorem bg.mk' {P : Program} {t e z bytes : Nat} {zv : Value} (h1 : P.underlying t = some (.slice e)) (h2 : (P.info? e).map (fun i => (i.size, i.bytes, i.zero)) = some (z, bytes, some zv)) (h3 : zv.cells.toList.length = z) (h4 : 0 < bytes) :
  bg P t e z bytes zv.cells.toList := by
 refine ⟨h1, ?_⟩
 cases hi : P.info? e with
 | none => rw [hi] at h2; cases h2
 | some i =>
  rw [hi] at h2
  simp only [Option.map_some, Option.some.injEq, Prod.mk.injEq] at h2
  exact ⟨i, zv, rfl, h2.1, h2.2.1, h2.2.2, rfl, h3, h4⟩
theorem bg.make {P : Program} {t e z bytes n : Nat} {zero : List Value} {M : Mem} {K : Value → Mem → Prop} {Kp : List PanicEntry → Mem → Prop} (E : bg P t e z bytes zero) (hb : n * bytes ≤ 140737488355328)
  (h : ∀ k, M k = none → K (.slice (some ⟨k, 0, none⟩) n n) (M.set k (.cells (List.replicate n zero).flatten.toArray e (0, 0)))) :
  aX P (Instr.makeSlice t (.int .i64 (n : Int)) (.int .i64 (n : Int))) M K Kp := by
 obtain ⟨hu, i, zv, hi, hs, hby, hz, rfl, hl, hp⟩ := E
 have hn : n ≤ n * bytes := Nat.le_mul_of_pos_right n hp
 exact Av hu hi hz (by rw [hs, ← hl]; simp) (by rw [hby]; exact hb) (by omega) h
theorem bg.append {P : Program} {t e z bytes ty : Nat} {zero : List Value} {A B : Option Addr} {n c m d : Nat} {l r : List Value} {M : Mem} {K : Value → Mem → Prop} {Kp : List PanicEntry → Mem → Prop} (E : bg P t e z bytes zero)
  (ho : sj M z e A n c l) (hr : Sl M B r) (jn : r.length = m * z) (hp : ∀ v ∈ r, Value.plainCell v = true) (hb : (n + m) * bytes ≤ 140737488355328)
  (h : ∀ A' c' M', sj M' z e A' (n + m) c' (l ++ r) → mN (yC A) M M' → KB M A A' → K (.slice A' (n + m) c') M') :
  aX P (Builtin.append_ #[t, t] ty #[.slice A n c, .slice B m d]) M K Kp := by
 obtain ⟨hu, i, zv, hi, hs, hby, hz, rfl, hl, hpos⟩ := E
 refine FV hu hu hi hz (by rw [hs, ← hl]; simp) (by rw [hs]; exact ho) hr (by rw [hs]; exact jn) hp (by rw [hby]; exact hb) (by omega) ?_
 rw [hs]; exact h
theorem bg.copy {P : Program} {t e z bytes ty : Nat} {zero : List Value} {B : Option Addr} {m k d : Nat} {r : List Value} {M : Mem} {K : Value → Mem → Prop} {Kp : List PanicEntry → Mem → Prop} (E : bg P t e z bytes zero)
  (hk : M k = none) (hr : Sl M B r) (jn : r.length = m * z) (hp : ∀ v ∈ r, Value.plainCell v = true) (hb : m * bytes ≤ 140737488355328)
  (h : ∀ A' c' M', sj M' z e A' m c' r → mN [] M M' → RN M A' → K (.slice A' m c') M') :
  aX P (Builtin.append_ #[t, t] ty #[.slice (some ⟨k, 0, none⟩) 0 0, .slice B m d]) (M.set k (.cells #[] e (0, 0))) K Kp := by
 have c0 : mN [] M (M.set k (.cells #[] e (0, 0))) := (mN.refl _ _).set (.inr hk)
 refine E.append (l := []) ⟨by simp, .inr ⟨k, #[], rfl, dM, by simp, by omega, by simp⟩⟩ (hr.Wa c0 (by simp)) jn hp (by simpa using hb) fun A' c' M' g1 g2 g3 => ?_
 rw [Nat.zero_add] at g1 ⊢
 rw [List.nil_append] at g1
 have f0 : RN M (some ⟨k, 0, none⟩) := fun x hx => by simp only [yC, List.mem_singleton] at hx; subst hx; exact hk
 exact h A' c' M' g1 (c0.trans g2 (fun x hx => .inr (f0 x hx))) (f0.step c0 g3)
end Go.AF
namespace Go.AF
@[simp] theorem Z8 {a b c d : Value} {l : List Value} : (Array.mk (a :: b :: c :: d :: l))[3]? = some d := rfl
@[simp] theorem Z9 {a b c d e : Value} {l : List Value} : (Array.mk (a :: b :: c :: d :: e :: l))[4]? = some e := rfl
@[simp] theorem aaa {a b c d e f : Value} {l : List Value} : (Array.mk (a :: b :: c :: d :: e :: f :: l))[5]? = some f := rfl
end Go.AF
