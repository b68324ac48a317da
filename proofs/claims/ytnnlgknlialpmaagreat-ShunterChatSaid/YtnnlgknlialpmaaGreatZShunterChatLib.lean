/- A part of proofs about one program. -/
import Derived.Test.YtnnlgknlialpmaaGreatZShunterChatSoundB
set_option linter.unusedVariables false
namespace Go.AF
theorem Le {M : Mem} {b o T : Nat} {c : Array Value} {fl : Nat × Nat} (h : M b = some (.cells c T fl)) : M.ld ⟨b, o, none⟩ = c[o]? := by
 simp [Mem.ld, h]
theorem Rd {M : Mem} {b o T : Nat} {c : Array Value} (h : M b = some (.cells c T (0, 0))) (ho : o < c.size) : M.wr ⟨b, o, none⟩ = true := by
 simp [Mem.wr, h, ho]
theorem Lf {M : Mem} {b o T : Nat} {c : Array Value} {fl : Nat × Nat} {v : Value} (h : M b = some (.cells c T fl)) : M.put ⟨b, o, none⟩ v = M.set b (.cells (c.setIfInBounds o v) T fl) := by
 funext i
 unfold Mem.put Mem.set
 by_cases hi : i = b
 ·subst hi; simp [h, Obj.wQ]
 ·simp [hi]
theorem di {M : Mem} {b : Nat} {o : Obj} : (M.set b o) b = some o := by simp [Mem.set]
theorem Lg {M : Mem} {b k : Nat} {o : Obj} (h : k ≠ b) : (M.set b o) k = M k := by simp [Mem.set, h]
theorem set_set {M : Mem} {b : Nat} {o o' : Obj} : (M.set b o).set b o' = M.set b o' := by
 funext i; unfold Mem.set; split <;> simp_all
def nB (M M' : Mem) : Prop := ∀ b o, M b = some o → M' b = some o
theorem nB.refl (M : Mem) : nB M M := fun _ _ h => h
theorem nB.trans {A B D : Mem} (h : nB A B) (g : nB B D) : nB A D := fun b o x => g b o (h b o x)
theorem nB.fresh {M M' : Mem} (h : nB M M') {b : Nat} (hb : M' b = none) : M b = none := by
 cases hm : M b with
 | none => rfl
 | some o => rw [h b o hm] at hb; cases hb
theorem nB.set {M M' : Mem} (h : nB M M') {b : Nat} {o : Obj} (hb : M b = none) : nB M (M'.set b o) := fun k x hk => by
 by_cases SB : k = b
 ·subst SB; rw [hb] at hk; cases hk
 ·rw [Lg SB]; exact h k x hk
def mF (L : List Nat) (M M' : Mem) : Prop := ∀ k o, M k = some o → (∃ o', M' k = some o') ∧ (k ∉ L → M' k = some o)
theorem mF.refl (L : List Nat) (M : Mem) : mF L M M := fun k o h => ⟨⟨o, h⟩, fun _ => h⟩
theorem nB.SG {M M' : Mem} (h : nB M M') (L : List Nat) : mF L M M' := fun k o hk => ⟨⟨o, h k o hk⟩, fun _ => h k o hk⟩
theorem mF.keep {M M' : Mem} (h : mF [] M M') : nB M M' := fun k o hk => (h k o hk).2 (by simp)
theorem mF.fresh {L : List Nat} {M M' : Mem} (h : mF L M M') {b : Nat} (hb : M' b = none) : M b = none := by
 cases hm : M b with
 | none => rfl
 | some o => obtain ⟨⟨o', ho⟩, _⟩ := h b o hm; rw [hb] at ho; cases ho
theorem mF.trans {L L' : List Nat} {A B D : Mem} (h : mF L A B) (g : mF L' B D) (hs : ∀ x ∈ L', x ∈ L ∨ A x = none) : mF L A D := fun k o hk => by
 obtain ⟨⟨o1, h1⟩, h2⟩ := h k o hk
 refine ⟨(g k o1 h1).1, fun hn => ?_⟩
 refine (g k o (h2 hn)).2 fun hm => ?_
 rcases hs k hm with h3 | h3
 ·exact hn h3
 ·rw [hk] at h3; cases h3
theorem mF.mono {L L' : List Nat} {A B : Mem} (h : mF L A B) (hs : ∀ x ∈ L, x ∈ L' ∨ A x = none) : mF L' A B := (mF.refl L' A).trans h hs
theorem mF.set {L : List Nat} {M M' : Mem} (h : mF L M M') {b : Nat} {o : Obj} (hb : b ∈ L ∨ M b = none) : mF L M (M'.set b o) := fun k x hk => by
 by_cases SB : k = b
 ·subst SB
  refine ⟨⟨o, di⟩, fun hn => ?_⟩
  rcases hb with hb | hb
  ·exact absurd hb hn
  ·rw [hb] at hk; cases hk
 ·rw [Lg SB]; exact h k x hk
theorem mF.at {L : List Nat} {M M' : Mem} (h : mF L M M') {k : Nat} {o : Obj} (hk : M k = some o) (hn : k ∉ L) : M' k = some o := (h k o hk).2 hn
def zE : Option Addr → List Nat
 | none => []
 | some a => [a.block]
def Sl (M : Mem) (A : Option Addr) (l : List Value) : Prop :=
 match A with
 | some ⟨b, o, none⟩ => ∀ i, i < l.length → M.ld ⟨b, o + i, none⟩ = l[i]?
 | none => l = []
 | _ => False
def sD (M : Mem) (z T : Nat) (A : Option Addr) (n c : Nat) (l : List Value) : Prop :=
 l.length = n * z ∧ ((A = none ∧ n = 0 ∧ c = 0) ∨ ∃ b cs, A = some ⟨b, 0, none⟩ ∧ M b = some (.cells cs T (0, 0)) ∧ cs.size = c * z ∧ n ≤ c ∧ ∀ i, i < n * z → cs[i]? = l[i]?)
theorem sD.sl {M : Mem} {z T : Nat} {A : Option Addr} {n c : Nat} {l : List Value} (h : sD M z T A n c l) : Sl M A l := by
 obtain ⟨hl, ⟨rfl, rfl, rfl⟩ | ⟨b, cs, rfl, hb, hs, hn, hc⟩⟩ := h
 ·simpa [Sl] using hl
 ·intro i hi
  rw [Le hb, Nat.zero_add, hc i (by omega)]
theorem Sl.keep {M M' : Mem} {A : Option Addr} {l : List Value} (h : Sl M A l) (hk : ∀ a o, A = some a → M a.block = some o → M' a.block = some o) : Sl M' A l := by
 match A, h with
 | none, h => exact h
 | some ⟨b, o, none⟩, h =>
  intro i hi
  have := h i hi
  unfold Mem.ld at this ⊢
  cases hb : M b with
  | none => simp [hb] at this; omega
  | some x => simp only [hk _ _ rfl hb]; simpa [hb] using this
theorem Sl.mono {M M' : Mem} {A : Option Addr} {l : List Value} (h : Sl M A l) (hk : nB M M') : Sl M' A l := h.keep fun a o _ ho => hk _ _ ho
theorem aL {P : Program} {α β : Type} {s : Sem α} {f : α → Sem β} {M : Mem} {x : α} {K : β → Mem → Prop} {Kp : Value → Mem → Prop} (h : bF P s M = some x) (hk : da P (f x) M K Kp) :
  da P (s >>= f) M K Kp := cJ P s f (fN P s h hk)
theorem uJ {M : Mem} {b o : Nat} : ∀ (l : List Value) (i : Nat), (∀ j, j < l.length → M.ld ⟨b, o + (i + j), none⟩ = l[j]?) → M.iH ⟨b, o, none⟩ i l.length = some l := by
 intro l
 induction l with
 | nil => intro i h; rfl
 | cons v l ih =>
  intro i h
  have h0 := h 0 (by simp)
  have hr := ih (i + 1) (fun j hj => by
   have := h (j + 1) (by simpa using hj)
   rw [show i + 1 + j = i + (j + 1) from by omega]; simpa using this)
  have h0' : M.ld ⟨b, o + i, none⟩ = some v := by simpa using h0
  simp only [List.length_cons, Mem.iH, add_eq, h0', hr, Option.map_some]
theorem eJ {n : Int} (h0 : -9223372036854775808 ≤ n) (h : n < 9223372036854775808) : IntKind.wrap .i64 n = n := by
 rw [IntKind.wrap_i64]; omega
theorem lI {n : Nat} (h : n < 9223372036854775808) : IntKind.wrap .i64 (n : Int) = n := eJ (by omega) (by omega)
theorem xF {P : Program} {t e : TypeId} {i : TypeInfo} {zv : Value} {n : Nat} {M : Mem} {K : Value → Mem → Prop} {Kp : List PanicEntry → Mem → Prop}
  (hu : P.underlying t = some (.slice e)) (hi : P.info? e = some i) (hz : i.zero = some zv) (hs : zv.cells.size = i.size) (hb : n * i.bytes ≤ 140737488355328) (hn : n < 9223372036854775808)
  (h : ∀ k, M k = none → K (.slice (some ⟨k, 0, none⟩) n n) (M.set k (.cells (List.replicate n zv.cells.toList).flatten.toArray e (0, 0)))) :
  aN P (Instr.makeSlice t (.int .i64 (n : Int)) (.int .i64 (n : Int))) M K Kp := by
 unfold aN Instr.makeSlice
 refine aL (aE hu M) ?_
 simp only
 refine aL (x := (n : Int)) rfl ?_
 refine aL (x := (n : Int)) rfl ?_
 refine aL (cq hi M) ?_
 have hb' : ¬ ((i.bytes : Int) * (n : Int) > 2 ^ 48) := by
  have : ((n * i.bytes : Nat) : Int) = (i.bytes : Int) * (n : Int) := by rw [Int.natCast_mul, Int.mul_comm]
  omega
 simp only [lI hn]
 have c1 : ¬ ((n : Int) < 0) := by omega
 rw [if_neg (by simp [c1]; omega)]
 refine aL (x := ()) ?_ ?_
 ·unfold askRoom roomBytes
  rw [if_neg (by simp only [Int.toNat_natCast]; omega)]; rfl
 refine aL (eU hi M) ?_
 simp only [Int.toNat_natCast]
 have fin : ∀ zero : Array Value, (Array.range (n * i.size)).map (fun x => zero[x % zero.size]!) = (List.replicate n zv.cells.toList).flatten.toArray →
   da P (newRow e ((Array.range (n * i.size)).map (fun x => zero[x % zero.size]!)) >>= fun a => pure (Value.slice (some a) n n)) M K fun v M' => Kp [{ v, recovered := false }] M' := by
  intro zero hz
  rw [hz]
  exact fun k hk => h k hk
 split
 ·rename_i h0
  refine aL (x := #[]) rfl ?_
  refine fin #[] ?_
  rw [h0]
  rcases Nat.mul_eq_zero.1 h0 with h1 | h1
  ·subst h1; apply Array.ext'; simp
  ·have : zv.cells.toList = [] := by rw [← List.length_eq_zero_iff]; simpa [hs] using h1
   rw [this]; apply Array.ext'; simp
 ·refine aL (x := zv) (by rw [iX]; simp [zeroOf, hi, hz]) ?_
  refine aL (x := zv.cells) rfl ?_
  refine fin zv.cells ?_
  have := jI (zs := zv.cells.toList) (s := i.size) (by simpa using hs) n
  apply Array.ext'
  simpa [hs] using this
theorem fB {P : Program} {M : Mem} {A : Option Addr} {n c z m : Nat} {l : List Value} (h : Sl M A l) (hl : l.length = m * z) : bF P (Builtin.firstCells z m (.slice A n c)) M = some l.toArray := by
 match A, h with
 | none, h => subst h; rfl
 | some ⟨b, o, none⟩, h =>
  unfold Builtin.firstCells loadCells
  have := my (P := P) (M := M) (a := ⟨b, o, none⟩) (m * z) 0 #[] l (by
   have := uJ (M := M) (b := b) (o := o) l 0 (fun j hj => by rw [Nat.zero_add]; exact h j hj)
   rw [hl] at this; exact this)
  simpa using this
theorem xG {P : Program} {b T : Nat} {Kp : Value → Mem → Prop} : ∀ (vs : List Value) (o i : Nat) (M : Mem) (cs : Array Value) (K : Mem → Prop), M b = some (.cells cs T (0, 0)) → o + i + vs.length ≤ cs.size →
  (∀ v ∈ vs, Value.plainCell v = true) →
  (∀ cs' : Array Value, cs'.size = cs.size → (∀ j, cs'[j]? = if o + i ≤ j ∧ j < o + i + vs.length then vs[j - (o + i)]? else cs[j]?) → K (M.set b (.cells cs' T (0, 0)))) →
  da P (storeCells ⟨b, o, none⟩ vs i) M (fun _ M' => K M') Kp := by
 intro vs
 induction vs with
 | nil =>
  intro o i M cs K hb _ _ h
  have : M.set b (.cells cs T (0, 0)) = M := by
   funext k; unfold Mem.set; split
   ·rename_i hk; rw [hk, hb]
   ·rfl
  have h1 := h cs rfl (fun j => by
   rw [if_neg]; simp only [List.length_nil]; omega)
  rw [this] at h1
  exact h1
 | cons v vs ih =>
  intro o i M cs K hb hs hp h
  simp only [List.length_cons] at hs
  have ho : o + i < cs.size := by omega
  show da P (.store .plain ((⟨b, o, none⟩ : Addr).add i) v (storeCells ⟨b, o, none⟩ vs (i + 1))) M _ _
  rw [add_eq]
  refine ⟨hp v (List.mem_cons_self ..), Rd hb ho, ?_⟩
  rw [Lf hb]
  refine ih o (i + 1) _ (cs.setIfInBounds (o + i) v) K di (by simp; omega) (fun u hu => hp u (List.mem_cons_of_mem _ hu)) fun cs' h1 h2 => ?_
  rw [set_set]
  refine h cs' (by simpa using h1) fun j => ?_
  rw [h2 j]
  simp only [List.length_cons]
  by_cases hj : j = o + i
  ·subst hj
   rw [if_neg (by omega), if_pos (by omega)]
   simp [ho]
  ·by_cases I9 : o + (i + 1) ≤ j ∧ j < o + (i + 1) + vs.length
   ·rw [if_pos I9, if_pos (by omega)]
    rw [show j - (o + i) = (j - (o + (i + 1))) + 1 from by omega]; simp
   ·rw [if_neg I9, if_neg (by omega)]
    rw [Array.getElem?_setIfInBounds_ne (Ne.symm hj)]
def Lh (M : Mem) (A A' : Option Addr) : Prop := A' = A ∨ ∃ b, A' = some ⟨b, 0, none⟩ ∧ M b = none
theorem Dw {P : Program} {t t' e ty : TypeId} {i : TypeInfo} {zv : Value} {A B : Option Addr} {n c m d : Nat} {l r : List Value} {M : Mem} {K : Value → Mem → Prop} {Kp : List PanicEntry → Mem → Prop}
  (hu : P.underlying t = some (.slice e)) (QZ : P.underlying t' = some (.slice e)) (hi : P.info? e = some i) (hz : i.zero = some zv) (hs : zv.cells.size = i.size)
  (ho : sD M i.size e A n c l) (hr : Sl M B r) (jx : r.length = m * i.size) (hp : ∀ v ∈ r, Value.plainCell v = true) (hb : (n + m) * i.bytes ≤ 140737488355328) (hby : 0 < i.bytes)
  (h : ∀ A' c' M', sD M' i.size e A' (n + m) c' (l ++ r) → mF (zE A) M M' → Lh M A A' → K (.slice A' (n + m) c') M') :
  aN P (Builtin.append_ #[t, t'] ty #[.slice A n c, .slice B m d]) M K Kp := by
 unfold aN Builtin.append_
 simp only [List.getElem?_toArray, List.getElem?_cons_zero, List.getElem?_cons_succ]
 refine aL (aE hu M) ?_
 simp only
 refine aL (eU hi M) ?_
 refine aL (aE QZ M) ?_
 refine aL (x := false) rfl ?_
 refine aL (x := m) rfl ?_
 simp only [Bool.not_false, if_true]
 obtain ⟨hl, hA⟩ := ho
 split
 ·rename_i hle
  refine aL (fB hr jx) ?_
  rcases hA with ⟨rfl, rfl, rfl⟩ | ⟨b, cs, rfl, hM, hcs, hnc, hc⟩
  ·have hm : m = 0 := by omega
   subst hm
   have : r = [] := by simpa using jx
   subst this
   refine h none 0 M ⟨by simpa using hl, .inl ⟨rfl, rfl, rfl⟩⟩ (mF.refl _ _) (.inl rfl)
  ·have hroom : n * i.size + 0 + r.length ≤ cs.size := by
    rw [hcs, jx, Nat.add_zero, ← Nat.add_mul]; exact Nat.mul_le_mul_right _ hle
   refine cJ P _ _ ?_
   rw [add_eq, Nat.zero_add]
   refine xG r (n * i.size) 0 M cs _ hM hroom hp fun cs' h1 h2 => ?_
   refine h (some ⟨b, 0, none⟩) c _ ⟨?_, .inr ⟨b, cs', rfl, di, by rw [h1, hcs], hle, fun j hj => ?_⟩⟩ ((mF.refl _ _).set (.inl (by simp [zE]))) (.inl rfl)
   ·rw [List.length_append, hl, jx, Nat.add_mul]
   ·rw [h2 j]
    rw [Nat.add_mul] at hj
    by_cases I9 : j < n * i.size
    ·rw [if_neg (by omega), hc j I9, List.getElem?_append_left (by omega)]
    ·rw [if_pos (by omega), List.getElem?_append_right (by omega), hl]; rfl
 ·rename_i hle
  refine aL (cq hi M) ?_
  rw [if_neg (by simp; omega)]
  refine aL (cq hi M) ?_
  rw [if_neg (by have := growslice_fits (need := n + m) (old := c) (bytes := i.bytes) (by omega) hb; omega)]
  show ∀ q, _
  intro q
  have hcap : n + m ≤ Question.cut (.appendCap (n + m) c e) q := by simp only [Question.cut]; omega
  generalize Question.cut (.appendCap (n + m) c e) q = nc at hcap
  refine aL (x := nc) rfl ?_
  refine aL (cq hi M) ?_
  refine cJ P _ _ ?_
  have room : ∀ (X : Prop) , X → da P (askRoom (nc * i.bytes)) M (fun _ M' => M' = M) (fun _ _ => False) := by
   intro X _
   unfold askRoom
   split
   ·exact rfl
   ·exact rfl
  refine gZ P _ (room True trivial) (fun _ M' Y1 => ?_) (fun _ _ hf => hf.elim)
  subst Y1
  have Vk : Sl M' A l := sD.sl ⟨hl, hA⟩
  refine aL (fB Vk hl) ?_
  refine aL (fB hr jx) ?_
  refine aL (x := zv) (by rw [iX]; simp [zeroOf, hi, hz]) ?_
  intro k hk
  refine h (some ⟨k, 0, none⟩) nc _ ⟨by rw [List.length_append, hl, jx, Nat.add_mul], .inr ⟨k, _, rfl, di, ?_, hcap, fun j hj => ?_⟩⟩ ((mF.refl _ _).set (.inr hk)) (.inr ⟨k, rfl, hk⟩)
  ·simp only [Array.size_append, List.size_toArray, hl, jx]
   have : (Builtin.zeroCells zv.cells (nc - (n + m))).size = (nc - (n + m)) * i.size := by simp [Builtin.zeroCells, hs]
   rw [this, ← Nat.add_mul, ← Nat.add_mul]; congr 1; omega
  ·rw [Nat.add_mul] at hj
   rw [Array.getElem?_append_left (by simp [hl, jx]; omega)]
   simp
def On (M : Mem) (A : Option Addr) : Prop := ∀ x ∈ zE A, M x = none
theorem On.step {M M' : Mem} {L : List Nat} {A A' : Option Addr} (h : On M A) (hc : mF L M M') (hf : Lh M' A A') : On M A' := by
 rcases hf with rfl | ⟨b, rfl, hb⟩
 ·exact h
 ·intro x hx; simp only [zE, List.mem_singleton] at hx; subst hx; exact hc.fresh hb
theorem On.none (M : Mem) : On M none := fun x hx => by simp [zE] at hx
theorem On.back {M M' : Mem} {L : List Nat} {A : Option Addr} (h : On M' A) (hc : mF L M M') : On M A := fun x hx => hc.fresh (h x hx)
theorem sD.SG {M M' : Mem} {L : List Nat} {z T : Nat} {A : Option Addr} {n c : Nat} {l : List Value} (h : sD M z T A n c l) (hc : mF L M M') (hd : ∀ x ∈ zE A, x ∉ L) : sD M' z T A n c l := by
 obtain ⟨h1, h2 | ⟨b, cs, h3, h4, h5⟩⟩ := h
 ·exact ⟨h1, .inl h2⟩
 ·exact ⟨h1, .inr ⟨b, cs, h3, hc.at h4 (hd b (by rw [h3]; simp [zE])), h5⟩⟩
theorem sD.nil (M : Mem) (z T : Nat) : sD M z T none 0 0 [] := ⟨by simp, .inl ⟨rfl, rfl, rfl⟩⟩
theorem Sl.SG {M M' : Mem} {L : List Nat} {A : Option Addr} {l : List Value} (h : Sl M A l) (hc : mF L M M') (hd : ∀ x ∈ zE A, x ∉ L) : Sl M' A l :=
 h.keep fun a o ha ho => hc.at ho (hd _ (by rw [ha]; simp [zE]))
end Go.AF
namespace Go.AF
@[simp] theorem VZ {k : IntKind} {n : Int} {K : Int → Prop} : aH (some (.int k n)) k K = K n := by simp [aH]
@[simp] theorem V0 {t : Bool} {K : Bool → Prop} : cK (some (.bool t)) K = K t := rfl
@[simp] theorem V1 {s : ByteArray} {K : ByteArray → Prop} : dM (some (.string s)) K = K s := rfl
@[simp] theorem V2 {p : Option Addr} {K : Option Addr → Prop} : b8 (some (.pointer p)) K = K p := rfl
@[simp] theorem Vl {A : Option Addr} {n c : Nat} {K : Option Addr → Nat → Nat → Prop} : az (some (.slice A n c)) K = K A n c := rfl
@[simp] theorem V3 {v : Value} {K : Value → Prop} : dD (some v) K = K v := rfl
@[simp] theorem Vm {b o : Nat} {K : Nat → Nat → Prop} : aF (some ⟨b, o, none⟩) K = K b o := rfl
@[simp] theorem V4 {X Y : Prop} : aM true X Y = X := rfl
@[simp] theorem Vn {X Y : Prop} : aM false X Y = Y := rfl
theorem gf {t : Bool} {X Y : Prop} : aM t X Y ↔ (t = true → X) ∧ (t = false → Y) := by cases t <;> simp
theorem aJ {p : Prop} [Decidable p] {X Y : Prop} : aM (decide p) X Y ↔ (p → X) ∧ (¬ p → Y) := by rw [gf]; simp
theorem bN {a b : Int} {X Y : Prop} : aM (a == b) X Y ↔ (a = b → X) ∧ (a ≠ b → Y) := by rw [gf]; simp
theorem eu {a b : Int} {X Y : Prop} : aM (a != b) X Y ↔ (a ≠ b → X) ∧ (a = b → Y) := by rw [gf]; simp
@[simp] theorem V5 {v : Value} {l : List Value} : (Array.mk (v :: l))[0]? = some v := rfl
@[simp] theorem V6 {v u : Value} {l : List Value} : (Array.mk (v :: u :: l))[1]? = some u := rfl
@[simp] theorem V7 {v u x : Value} {l : List Value} : (Array.mk (v :: u :: x :: l))[2]? = some x := rfl
def iv (n : Int) : Value := .int .i64 n
theorem sQ {a b : Nat} : Int.tmod (a : Int) (b : Int) = ((a % b : Nat) : Int) := by
 rw [Int.tmod_eq_emod_of_nonneg (by omega)]; rfl
end Go.AF
namespace Go.AF
def xH (w : World) : Mem := fun k => w.heap[k]?
theorem wu {P : Program} {f : FuncId} {args : Array Value} {w : World} (h : aa P f args (xH w) (fun v M' => v = .bool true ∧ mF [] (xH w) M') (fun _ _ => False)) :
  Calls P f args w fun e w' => e = .returned (.bool true) ∧ Go.RowKit.Below w.heap.size w w' := by
 have hd : (xH w).dj Mem.empty := fun b => .inr rfl
 have hi : ((xH w).union Mem.empty).In (World.Sf w) w := ⟨fun b o hb => (by
  unfold Mem.union at hb
  cases hm : xH w b with
  | some o' => rw [hm] at hb; cases hb; exact hm
  | none => rw [hm] at hb; cases hb), rfl⟩
 refine (h _ Mem.empty w hd hi).mono fun e w' he => ?_
 cases e with
 | returned v =>
  obtain ⟨M', ⟨rfl, hc⟩, hd', hi'⟩ := he
  refine ⟨rfl, ?_⟩
  have old : ∀ k, k < w.heap.size → w'.heap[k]? = w.heap[k]? := fun k hk => by
   have h1 : xH w k = some w.heap[k] := by simp [xH, hk]
   have h2 := hi'.left (hc.at h1 (by simp))
   rw [h2]; simp [hk]
  have he := hi'.2
  simp only [World.Sf, Prod.mk.injEq] at he
  refine ⟨he.1, he.2.1, he.2.2, ?_, old⟩
  rcases Nat.lt_or_ge w'.heap.size w.heap.size with hlt | hge
  ·have := old w'.heap.size hlt
   simp [hlt] at this
  ·exact hge
 | panicked c => obtain ⟨_, hf, _⟩ := he; exact hf.elim
 | outgrown => exact he.elim
end Go.AF
namespace Go.AF
theorem Sl.get {M : Mem} {A : Option Addr} {l : List Value} (h : Sl M A l) {i : Nat} (hi : i < l.length) : ∃ b o, A = some ⟨b, o, none⟩ ∧ M.ld ⟨b, o + i, none⟩ = l[i]? := by
 match A, h with
 | none, h => rw [show l = [] from h] at hi; cases hi
 | some ⟨b, o, none⟩, h => exact ⟨b, o, rfl, h i hi⟩
theorem mask {x y : Int} {m : Nat} (hy : y = (m : Int)) (hm : m < 9223372036854775808) :
  ∃ q : Nat, IntKind.wrap .i64 (((Nat.bitwise and (BitVec.ofInt IntKind.i64.bits x).toNat (BitVec.ofInt IntKind.i64.bits y).toNat) : Nat) : Int) = (q : Int) ∧ q ≤ m := by
 subst hy
 have e : (BitVec.ofInt IntKind.i64.bits (m : Int)).toNat = m := by
  have : IntKind.i64.bits = 64 := rfl
  rw [this]
  simp only [BitVec.ofInt_natCast, BitVec.toNat_ofNat]
  exact Nat.mod_eq_of_lt (by omega)
 rw [e]
 have h : Nat.bitwise and (BitVec.ofInt IntKind.i64.bits x).toNat m ≤ m := Nat.and_le_right (n := (BitVec.ofInt IntKind.i64.bits x).toNat)
 exact ⟨_, lI (by omega), h⟩
theorem aS {n : Nat} (h : n + 1 < 9223372036854775808) : IntKind.wrap .i64 ((n : Int) + 1) = ((n + 1 : Nat) : Int) := by
 rw [← lI (n := n + 1) h]; rfl
end Go.AF
namespace Go.AF
end Go.AF
namespace Go.AF
theorem Sl.take {M : Mem} {A : Option Addr} {l : List Value} (h : Sl M A l) (k : Nat) : Sl M A (l.take k) := by
 match A, h with
 | none, h => rw [show l = [] from h]; simp [Sl]
 | some ⟨b, o, none⟩, h =>
  intro i hi
  rw [List.length_take] at hi
  rw [h i (by omega), List.getElem?_take, if_pos (by omega)]
theorem Sl.lC {M : Mem} {A : Option Addr} {l : List Value} {m c : Nat} (h : Sl M A l) (hc : l.length ≤ c) : Sl M (lC A m c 1) (l.drop m) := by
 unfold Go.AF.lC
 split
 ·rename_i he
  have : l.drop m = [] := List.drop_of_length_le (by omega)
  rw [this]
  match A, h with
  | none, h => rfl
  | some ⟨b, o, none⟩, h => intro i hi; simp at hi
 ·match A, h with
  | none, h => rw [show l = [] from h]; simp [Sl]
  | some ⟨b, o, none⟩, h =>
   rw [Option.map_some, add_eq]
   intro i hi
   rw [List.length_drop] at hi
   rw [show o + m * 1 + i = o + (m + i) from by omega, h (m + i) (by omega), List.getElem?_drop]
theorem sD.some {M : Mem} {z T : Nat} {A : Option Addr} {n c : Nat} {l : List Value} (h : sD M z T A n c l) {x : Nat} (hx : x ∈ zE A) : ∃ o, M x = .some o := by
 obtain ⟨_, ⟨rfl, _, _⟩ | ⟨b, cs, rfl, hb, _⟩⟩ := h
 ·simp [zE] at hx
 ·simp only [zE, List.mem_singleton] at hx; subst hx; exact ⟨_, hb⟩
theorem sD.cap {M : Mem} {z T : Nat} {A : Option Addr} {n c : Nat} {l : List Value} (h : sD M z T A n c l) : n ≤ c := by
 obtain ⟨_, ⟨_, h0, _⟩ | ⟨x, cs, _, _, _, hx, _⟩⟩ := h
 ·omega
 ·exact hx
end Go.AF
namespace Go.AF
def bu (P : Program) (t e z bytes : Nat) (zero : List Value) : Prop :=
 P.underlying t = some (.slice e) ∧ ∃ i zv, P.info? e = some i ∧ i.size = z ∧ i.bytes = bytes ∧ i.zero = some zv ∧ zv.cells.toList = zero ∧ zero.length = z ∧ 0 < bytes
theorem bu.mk' {P : Program} {t e z bytes : Nat} {zv : Value} (h1 : P.underlying t = some (.slice e)) (h2 : (P.info? e).map (fun i => (i.size, i.bytes, i.zero)) = some (z, bytes, some zv)) (h3 : zv.cells.toList.length = z) (h4 : 0 < bytes) :
  bu P t e z bytes zv.cells.toList := by
 refine ⟨h1, ?_⟩
 cases hi : P.info? e with
 | none => rw [hi] at h2; cases h2
 | some i =>
  rw [hi] at h2
  simp only [Option.map_some, Option.some.injEq, Prod.mk.injEq] at h2
  exact ⟨i, zv, rfl, h2.1, h2.2.1, h2.2.2, rfl, h3, h4⟩
theorem bu.make {P : Program} {t e z bytes n : Nat} {zero : List Value} {M : Mem} {K : Value → Mem → Prop} {Kp : List PanicEntry → Mem → Prop} (E : bu P t e z bytes zero) (hb : n * bytes ≤ 140737488355328)
  (h : ∀ k, M k = none → K (.slice (some ⟨k, 0, none⟩) n n) (M.set k (.cells (List.replicate n zero).flatten.toArray e (0, 0)))) :
  aN P (Instr.makeSlice t (.int .i64 (n : Int)) (.int .i64 (n : Int))) M K Kp := by
 obtain ⟨hu, i, zv, hi, hs, hby, hz, rfl, hl, hp⟩ := E
 have hn : n ≤ n * bytes := Nat.le_mul_of_pos_right n hp
 exact xF hu hi hz (by rw [hs, ← hl]; simp) (by rw [hby]; exact hb) (by omega) h
theorem bu.append {P : Program} {t e z bytes ty : Nat} {zero : List Value} {A B : Option Addr} {n c m d : Nat} {l r : List Value} {M : Mem} {K : Value → Mem → Prop} {Kp : List PanicEntry → Mem → Prop} (E : bu P t e z bytes zero)
  (ho : sD M z e A n c l) (hr : Sl M B r) (jx : r.length = m * z) (hp : ∀ v ∈ r, Value.plainCell v = true) (hb : (n + m) * bytes ≤ 140737488355328)
  (h : ∀ A' c' M', sD M' z e A' (n + m) c' (l ++ r) → mF (zE A) M M' → Lh M A A' → K (.slice A' (n + m) c') M') :
  aN P (Builtin.append_ #[t, t] ty #[.slice A n c, .slice B m d]) M K Kp := by
 obtain ⟨hu, i, zv, hi, hs, hby, hz, rfl, hl, hpos⟩ := E
 refine Dw hu hu hi hz (by rw [hs, ← hl]; simp) (by rw [hs]; exact ho) hr (by rw [hs]; exact jx) hp (by rw [hby]; exact hb) (by omega) ?_
 rw [hs]; exact h
theorem bu.copy {P : Program} {t e z bytes ty : Nat} {zero : List Value} {B : Option Addr} {m k d : Nat} {r : List Value} {M : Mem} {K : Value → Mem → Prop} {Kp : List PanicEntry → Mem → Prop} (E : bu P t e z bytes zero)
  (hk : M k = none) (hr : Sl M B r) (jx : r.length = m * z) (hp : ∀ v ∈ r, Value.plainCell v = true) (hb : m * bytes ≤ 140737488355328)
  (h : ∀ A' c' M', sD M' z e A' m c' r → mF [] M M' → On M A' → K (.slice A' m c') M') :
  aN P (Builtin.append_ #[t, t] ty #[.slice (some ⟨k, 0, none⟩) 0 0, .slice B m d]) (M.set k (.cells #[] e (0, 0))) K Kp := by
 have c0 : mF [] M (M.set k (.cells #[] e (0, 0))) := (mF.refl _ _).set (.inr hk)
 refine E.append (l := []) ⟨by simp, .inr ⟨k, #[], rfl, di, by simp, by omega, by simp⟩⟩ (hr.SG c0 (by simp)) jx hp (by simpa using hb) fun A' c' M' g1 g2 g3 => ?_
 rw [Nat.zero_add] at g1 ⊢
 rw [List.nil_append] at g1
 have f0 : On M (some ⟨k, 0, none⟩) := fun x hx => by simp only [zE, List.mem_singleton] at hx; subst hx; exact hk
 exact h A' c' M' g1 (c0.trans g2 (fun x hx => .inr (f0 x hx))) (f0.step c0 g3)
end Go.AF
namespace Go.AF
@[simp] theorem V8 {a b c d : Value} {l : List Value} : (Array.mk (a :: b :: c :: d :: l))[3]? = some d := rfl
@[simp] theorem V9 {a b c d e : Value} {l : List Value} : (Array.mk (a :: b :: c :: d :: e :: l))[4]? = some e := rfl
@[simp] theorem Wa {a b c d e f : Value} {l : List Value} : (Array.mk (a :: b :: c :: d :: e :: f :: l))[5]? = some f := rfl
end Go.AF
