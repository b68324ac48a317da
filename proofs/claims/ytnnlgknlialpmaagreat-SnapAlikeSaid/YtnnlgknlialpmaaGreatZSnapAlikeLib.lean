/- A part of proofs about one program. -/
import Derived.Test.YtnnlgknlialpmaaGreatZSnapAlikeSoundB
set_option linter.unusedVariables false
namespace Go.AF
theorem KH {M : Mem} {b o T : Nat} {c : Array Value} {fl : Nat × Nat} (h : M b = some (.cells c T fl)) : M.ld ⟨b, o, none⟩ = c[o]? := by
 simp [Mem.ld, h]
theorem UD {M : Mem} {b o T : Nat} {c : Array Value} (h : M b = some (.cells c T (0, 0))) (ho : o < c.size) : M.wr ⟨b, o, none⟩ = true := by
 simp [Mem.wr, h, ho]
theorem OM {M : Mem} {b o T : Nat} {c : Array Value} {fl : Nat × Nat} {v : Value} (h : M b = some (.cells c T fl)) : M.put ⟨b, o, none⟩ v = M.set b (.cells (c.setIfInBounds o v) T fl) := by
 funext i
 unfold Mem.put Mem.set
 by_cases hi : i = b
 ·subst hi; simp [h, Obj.zF]
 ·simp [hi]
theorem dI {M : Mem} {b : Nat} {o : Obj} : (M.set b o) b = some o := by simp [Mem.set]
theorem ON {M : Mem} {b k : Nat} {o : Obj} (h : k ≠ b) : (M.set b o) k = M k := by simp [Mem.set, h]
theorem set_set {M : Mem} {b : Nat} {o o' : Obj} : (M.set b o).set b o' = M.set b o' := by
 funext i; unfold Mem.set; split <;> simp_all
def pA (M M' : Mem) : Prop := ∀ b o, M b = some o → M' b = some o
def mT (L : List Nat) (M M' : Mem) : Prop := ∀ k o, M k = some o → (∃ o', M' k = some o') ∧ (k ∉ L → M' k = some o)
theorem mT.refl (L : List Nat) (M : Mem) : mT L M M := fun k o h => ⟨⟨o, h⟩, fun _ => h⟩
theorem pA.VW {M M' : Mem} (h : pA M M') (L : List Nat) : mT L M M' := fun k o hk => ⟨⟨o, h k o hk⟩, fun _ => h k o hk⟩
theorem mT.set {L : List Nat} {M M' : Mem} (h : mT L M M') {b : Nat} {o : Obj} (hb : b ∈ L ∨ M b = none) : mT L M (M'.set b o) := fun k x hk => by
 by_cases VQ : k = b
 ·subst VQ
  refine ⟨⟨o, dI⟩, fun hn => ?_⟩
  rcases hb with hb | hb
  ·exact absurd hb hn
  ·rw [hb] at hk; cases hk
 ·rw [ON VQ]; exact h k x hk
theorem mT.at {L : List Nat} {M M' : Mem} (h : mT L M M') {k : Nat} {o : Obj} (hk : M k = some o) (hn : k ∉ L) : M' k = some o := (h k o hk).2 hn
def yA : Option Addr → List Nat
 | none => []
 | some a => [a.block]
def Sl (M : Mem) (A : Option Addr) (l : List Value) : Prop :=
 match A with
 | some ⟨b, o, none⟩ => ∀ i, i < l.length → M.ld ⟨b, o + i, none⟩ = l[i]?
 | none => l = []
 | _ => False
def sC (M : Mem) (z T : Nat) (A : Option Addr) (n c : Nat) (l : List Value) : Prop :=
 l.length = n * z ∧ ((A = none ∧ n = 0 ∧ c = 0) ∨ ∃ b cs, A = some ⟨b, 0, none⟩ ∧ M b = some (.cells cs T (0, 0)) ∧ cs.size = c * z ∧ n ≤ c ∧ ∀ i, i < n * z → cs[i]? = l[i]?)
theorem sC.sl {M : Mem} {z T : Nat} {A : Option Addr} {n c : Nat} {l : List Value} (h : sC M z T A n c l) : Sl M A l := by
 obtain ⟨hl, ⟨rfl, rfl, rfl⟩ | ⟨b, cs, rfl, hb, hs, hn, hc⟩⟩ := h
 ·simpa [Sl] using hl
 ·intro i hi
  rw [KH hb, Nat.zero_add, hc i (by omega)]
theorem Sl.keep {M M' : Mem} {A : Option Addr} {l : List Value} (h : Sl M A l) (hk : ∀ a o, A = some a → M a.block = some o → M' a.block = some o) : Sl M' A l := by
 match A, h with
 | none, h => exact h
 | some ⟨b, o, none⟩, h =>
  intro i hi
  have := h i hi
  unfold Mem.ld at this ⊢
  cases hb : M b with
  | none => simp [hb] at this; omega
  | some x => simp only [hk _ _ rfl hb]; simpa [hb] using this
theorem Sl.mono {M M' : Mem} {A : Option Addr} {l : List Value} (h : Sl M A l) (hk : pA M M') : Sl M' A l := h.keep fun a o _ ho => hk _ _ ho
theorem aW {P : Program} {α β : Type} {s : Sem α} {f : α → Sem β} {M : Mem} {x : α} {K : β → Mem → Prop} {Kp : Value → Mem → Prop} (h : bQ P s M = some x) (hk : ee P (f x) M K Kp) :
  ee P (s >>= f) M K Kp := eK P s f (gJ P s h hk)
theorem rR {M : Mem} {b o : Nat} : ∀ (l : List Value) (i : Nat), (∀ j, j < l.length → M.ld ⟨b, o + (i + j), none⟩ = l[j]?) → M.fN ⟨b, o, none⟩ i l.length = some l := by
 intro l
 induction l with
 | nil => intro i h; rfl
 | cons v l ih =>
  intro i h
  have h0 := h 0 (by simp)
  have hr := ih (i + 1) (fun j hj => by
   have := h (j + 1) (by simpa using hj)
   rw [show i + 1 + j = i + (j + 1) from by omega]; simpa using this)
  have h0' : M.ld ⟨b, o + i, none⟩ = some v := by simpa using h0
  simp only [List.length_cons, Mem.fN, add_eq, h0', hr, Option.map_some]
theorem ou {n : Int} (h0 : -9223372036854775808 ≤ n) (h : n < 9223372036854775808) : IntKind.wrap .i64 n = n := by
 rw [IntKind.wrap_i64]; omega
theorem nk {n : Nat} (h : n < 9223372036854775808) : IntKind.wrap .i64 (n : Int) = n := ou (by omega) (by omega)
theorem Au {P : Program} {t e : TypeId} {i : TypeInfo} {zv : Value} {n : Nat} {M : Mem} {K : Value → Mem → Prop} {Kp : List PanicEntry → Mem → Prop}
  (hu : P.underlying t = some (.slice e)) (hi : P.info? e = some i) (hz : i.zero = some zv) (hs : zv.cells.size = i.size) (hb : n * i.bytes ≤ 140737488355328) (hn : n < 9223372036854775808)
  (h : ∀ k, M k = none → K (.slice (some ⟨k, 0, none⟩) n n) (M.set k (.cells (List.replicate n zv.cells.toList).flatten.toArray e (0, 0)))) :
  be P (Instr.makeSlice t (.int .i64 (n : Int)) (.int .i64 (n : Int))) M K Kp := by
 unfold be Instr.makeSlice
 refine aW (aH hu M) ?_
 simp only
 refine aW (x := (n : Int)) rfl ?_
 refine aW (x := (n : Int)) rfl ?_
 refine aW (b7 hi M) ?_
 have hb' : ¬ ((i.bytes : Int) * (n : Int) > 2 ^ 48) := by
  have : ((n * i.bytes : Nat) : Int) = (i.bytes : Int) * (n : Int) := by rw [Int.natCast_mul, Int.mul_comm]
  omega
 simp only [nk hn]
 have c1 : ¬ ((n : Int) < 0) := by omega
 rw [if_neg (by simp [c1]; omega)]
 refine aW (x := ()) ?_ ?_
 ·unfold askRoom roomBytes
  rw [if_neg (by simp only [Int.toNat_natCast]; omega)]; rfl
 refine aW (fC hi M) ?_
 simp only [Int.toNat_natCast]
 have fin : ∀ zero : Array Value, (Array.range (n * i.size)).map (fun x => zero[x % zero.size]!) = (List.replicate n zv.cells.toList).flatten.toArray →
   ee P (newRow e ((Array.range (n * i.size)).map (fun x => zero[x % zero.size]!)) >>= fun a => pure (Value.slice (some a) n n)) M K fun v M' => Kp [{ v, recovered := false }] M' := by
  intro zero hz
  rw [hz]
  exact fun k hk => h k hk
 split
 ·rename_i h0
  refine aW (x := #[]) rfl ?_
  refine fin #[] ?_
  rw [h0]
  rcases Nat.mul_eq_zero.1 h0 with h1 | h1
  ·subst h1; apply Array.ext'; simp
  ·have : zv.cells.toList = [] := by rw [← List.length_eq_zero_iff]; simpa [hs] using h1
   rw [this]; apply Array.ext'; simp
 ·refine aW (x := zv) (by rw [jS]; simp [zeroOf, hi, hz]) ?_
  refine aW (x := zv.cells) rfl ?_
  refine fin zv.cells ?_
  have := lC (zs := zv.cells.toList) (s := i.size) (by simpa using hs) n
  apply Array.ext'
  simpa [hs] using this
theorem fE {P : Program} {M : Mem} {A : Option Addr} {n c z m : Nat} {l : List Value} (h : Sl M A l) (hl : l.length = m * z) : bQ P (Builtin.firstCells z m (.slice A n c)) M = some l.toArray := by
 match A, h with
 | none, h => subst h; rfl
 | some ⟨b, o, none⟩, h =>
  unfold Builtin.firstCells loadCells
  have := oc (P := P) (M := M) (a := ⟨b, o, none⟩) (m * z) 0 #[] l (by
   have := rR (M := M) (b := b) (o := o) l 0 (fun j hj => by rw [Nat.zero_add]; exact h j hj)
   rw [hl] at this; exact this)
  simpa using this
theorem ql {P : Program} {b T : Nat} {Kp : Value → Mem → Prop} : ∀ (vs : List Value) (o i : Nat) (M : Mem) (cs : Array Value) (K : Mem → Prop), M b = some (.cells cs T (0, 0)) → o + i + vs.length ≤ cs.size →
  (∀ v ∈ vs, Value.plainCell v = true) →
  (∀ cs' : Array Value, cs'.size = cs.size → (∀ j, cs'[j]? = if o + i ≤ j ∧ j < o + i + vs.length then vs[j - (o + i)]? else cs[j]?) → K (M.set b (.cells cs' T (0, 0)))) →
  ee P (storeCells ⟨b, o, none⟩ vs i) M (fun _ M' => K M') Kp := by
 intro vs
 induction vs with
 | nil =>
  intro o i M cs K hb _ _ h
  have : M.set b (.cells cs T (0, 0)) = M := by
   funext k; unfold Mem.set; split
   ·rename_i hk; rw [hk, hb]
   ·rfl
  have h1 := h cs rfl (fun j => by
   rw [if_neg]; simp only [List.length_nil]; omega)
  rw [this] at h1
  exact h1
 | cons v vs ih =>
  intro o i M cs K hb hs hp h
  simp only [List.length_cons] at hs
  have ho : o + i < cs.size := by omega
  show ee P (.store .plain ((⟨b, o, none⟩ : Addr).add i) v (storeCells ⟨b, o, none⟩ vs (i + 1))) M _ _
  rw [add_eq]
  refine ⟨hp v (List.mem_cons_self ..), UD hb ho, ?_⟩
  rw [OM hb]
  refine ih o (i + 1) _ (cs.setIfInBounds (o + i) v) K dI (by simp; omega) (fun u hu => hp u (List.mem_cons_of_mem _ hu)) fun cs' h1 h2 => ?_
  rw [set_set]
  refine h cs' (by simpa using h1) fun j => ?_
  rw [h2 j]
  simp only [List.length_cons]
  by_cases hj : j = o + i
  ·subst hj
   rw [if_neg (by omega), if_pos (by omega)]
   simp [ho]
  ·by_cases KI : o + (i + 1) ≤ j ∧ j < o + (i + 1) + vs.length
   ·rw [if_pos KI, if_pos (by omega)]
    rw [show j - (o + i) = (j - (o + (i + 1))) + 1 from by omega]; simp
   ·rw [if_neg KI, if_neg (by omega)]
    rw [Array.getElem?_setIfInBounds_ne (Ne.symm hj)]
def KJ (M : Mem) (A A' : Option Addr) : Prop := A' = A ∨ ∃ b, A' = some ⟨b, 0, none⟩ ∧ M b = none
theorem F4 {P : Program} {t t' e ty : TypeId} {i : TypeInfo} {zv : Value} {A B : Option Addr} {n c m d : Nat} {l r : List Value} {M : Mem} {K : Value → Mem → Prop} {Kp : List PanicEntry → Mem → Prop}
  (hu : P.underlying t = some (.slice e)) (RD : P.underlying t' = some (.slice e)) (hi : P.info? e = some i) (hz : i.zero = some zv) (hs : zv.cells.size = i.size)
  (ho : sC M i.size e A n c l) (hr : Sl M B r) (jv : r.length = m * i.size) (hp : ∀ v ∈ r, Value.plainCell v = true) (hb : (n + m) * i.bytes ≤ 140737488355328) (hby : 0 < i.bytes)
  (h : ∀ A' c' M', sC M' i.size e A' (n + m) c' (l ++ r) → mT (yA A) M M' → KJ M A A' → K (.slice A' (n + m) c') M') :
  be P (Builtin.append_ #[t, t'] ty #[.slice A n c, .slice B m d]) M K Kp := by
 unfold be Builtin.append_
 simp only [List.getElem?_toArray, List.getElem?_cons_zero, List.getElem?_cons_succ]
 refine aW (aH hu M) ?_
 simp only
 refine aW (fC hi M) ?_
 refine aW (aH RD M) ?_
 refine aW (x := false) rfl ?_
 refine aW (x := m) rfl ?_
 simp only [Bool.not_false, if_true]
 obtain ⟨hl, hA⟩ := ho
 split
 ·rename_i hle
  refine aW (fE hr jv) ?_
  rcases hA with ⟨rfl, rfl, rfl⟩ | ⟨b, cs, rfl, hM, hcs, hnc, hc⟩
  ·have hm : m = 0 := by omega
   subst hm
   have : r = [] := by simpa using jv
   subst this
   refine h none 0 M ⟨by simpa using hl, .inl ⟨rfl, rfl, rfl⟩⟩ (mT.refl _ _) (.inl rfl)
  ·have hroom : n * i.size + 0 + r.length ≤ cs.size := by
    rw [hcs, jv, Nat.add_zero, ← Nat.add_mul]; exact Nat.mul_le_mul_right _ hle
   refine eK P _ _ ?_
   rw [add_eq, Nat.zero_add]
   refine ql r (n * i.size) 0 M cs _ hM hroom hp fun cs' h1 h2 => ?_
   refine h (some ⟨b, 0, none⟩) c _ ⟨?_, .inr ⟨b, cs', rfl, dI, by rw [h1, hcs], hle, fun j hj => ?_⟩⟩ ((mT.refl _ _).set (.inl (by simp [yA]))) (.inl rfl)
   ·rw [List.length_append, hl, jv, Nat.add_mul]
   ·rw [h2 j]
    rw [Nat.add_mul] at hj
    by_cases KI : j < n * i.size
    ·rw [if_neg (by omega), hc j KI, List.getElem?_append_left (by omega)]
    ·rw [if_pos (by omega), List.getElem?_append_right (by omega), hl]; rfl
 ·rename_i hle
  refine aW (b7 hi M) ?_
  rw [if_neg (by simp; omega)]
  refine aW (b7 hi M) ?_
  rw [if_neg (by have := growslice_fits (need := n + m) (old := c) (bytes := i.bytes) (by omega) hb; omega)]
  show ∀ q, _
  intro q
  have hcap : n + m ≤ Question.cut (.appendCap (n + m) c e) q := by simp only [Question.cut]; omega
  generalize Question.cut (.appendCap (n + m) c e) q = nc at hcap
  refine aW (x := nc) rfl ?_
  refine aW (b7 hi M) ?_
  refine eK P _ _ ?_
  have room : ∀ (X : Prop) , X → ee P (askRoom (nc * i.bytes)) M (fun _ M' => M' = M) (fun _ _ => False) := by
   intro X _
   unfold askRoom
   split
   ·exact rfl
   ·exact rfl
  refine ir P _ (room True trivial) (fun _ M' hM' => ?_) (fun _ _ hf => hf.elim)
  subst hM'
  have UE : Sl M' A l := sC.sl ⟨hl, hA⟩
  refine aW (fE UE hl) ?_
  refine aW (fE hr jv) ?_
  refine aW (x := zv) (by rw [jS]; simp [zeroOf, hi, hz]) ?_
  intro k hk
  refine h (some ⟨k, 0, none⟩) nc _ ⟨by rw [List.length_append, hl, jv, Nat.add_mul], .inr ⟨k, _, rfl, dI, ?_, hcap, fun j hj => ?_⟩⟩ ((mT.refl _ _).set (.inr hk)) (.inr ⟨k, rfl, hk⟩)
  ·simp only [Array.size_append, List.size_toArray, hl, jv]
   have : (Builtin.zeroCells zv.cells (nc - (n + m))).size = (nc - (n + m)) * i.size := by simp [Builtin.zeroCells, hs]
   rw [this, ← Nat.add_mul, ← Nat.add_mul]; congr 1; omega
  ·rw [Nat.add_mul] at hj
   rw [Array.getElem?_append_left (by simp [hl, jv]; omega)]
   simp
def RF (M : Mem) (A : Option Addr) : Prop := ∀ x ∈ yA A, M x = none
theorem sC.nil (M : Mem) (z T : Nat) : sC M z T none 0 0 [] := ⟨by simp, .inl ⟨rfl, rfl, rfl⟩⟩
end Go.AF
namespace Go.AF
@[simp] theorem exI_some {k : IntKind} {n : Int} {K : Int → Prop} : aK (some (.int k n)) k K = K n := by simp [aK]
@[simp] theorem exB_some {t : Bool} {K : Bool → Prop} : dH (some (.bool t)) K = K t := rfl
@[simp] theorem exS_some {s : ByteArray} {K : ByteArray → Prop} : fa (some (.string s)) K = K s := rfl
@[simp] theorem exP_some {p : Option Addr} {K : Option Addr → Prop} : cw (some (.pointer p)) K = K p := rfl
@[simp] theorem Zu {A : Option Addr} {n c : Nat} {K : Option Addr → Nat → Nat → Prop} : az (some (.slice A n c)) K = K A n c := rfl
@[simp] theorem exV_some {v : Value} {K : Value → Prop} : fk (some v) K = K v := rfl
@[simp] theorem Zv {b o : Nat} {K : Nat → Nat → Prop} : aE (some ⟨b, o, none⟩) K = K b o := rfl
@[simp] theorem bsp_true {X Y : Prop} : aS true X Y = X := rfl
@[simp] theorem Zw {X Y : Prop} : aS false X Y = Y := rfl
theorem g6 {t : Bool} {X Y : Prop} : aS t X Y ↔ (t = true → X) ∧ (t = false → Y) := by cases t <;> simp
theorem aJ {p : Prop} [Decidable p] {X Y : Prop} : aS (decide p) X Y ↔ (p → X) ∧ (¬ p → Y) := by rw [g6]; simp
theorem bh {a b : Int} {X Y : Prop} : aS (a == b) X Y ↔ (a = b → X) ∧ (a ≠ b → Y) := by rw [g6]; simp
theorem fj {a b : Int} {X Y : Prop} : aS (a != b) X Y ↔ (a ≠ b → X) ∧ (a = b → Y) := by rw [g6]; simp
@[simp] theorem lit_get0 {v : Value} {l : List Value} : (Array.mk (v :: l))[0]? = some v := rfl
@[simp] theorem lit_get1 {v u : Value} {l : List Value} : (Array.mk (v :: u :: l))[1]? = some u := rfl
@[simp] theorem lit_get2 {v u x : Value} {l : List Value} : (Array.mk (v :: u :: x :: l))[2]? = some x := rfl
def iv (n : Int) : Value := .int .i64 n
theorem qm {a b : Nat} : Int.tmod (a : Int) (b : Int) = ((a % b : Nat) : Int) := by
 rw [Int.tmod_eq_emod_of_nonneg (by omega)]; rfl
end Go.AF
namespace Go.AF
def jT (w : World) : Mem := fun k => w.heap[k]?
theorem y8 {P : Program} {f : FuncId} {args : Array Value} {w : World} (h : aa P f args (jT w) (fun v M' => v = .bool true ∧ mT [] (jT w) M') (fun _ _ => False)) :
  Calls P f args w fun e w' => e = .returned (.bool true) ∧ Go.RowKit.Below w.heap.size w w' := by
 have hd : (jT w).dj Mem.empty := fun b => .inr rfl
 have hi : ((jT w).union Mem.empty).In (World.VA w) w := ⟨fun b o hb => (by
  unfold Mem.union at hb
  cases hm : jT w b with
  | some o' => rw [hm] at hb; cases hb; exact hm
  | none => rw [hm] at hb; cases hb), rfl⟩
 refine (h _ Mem.empty w hd hi).mono fun e w' he => ?_
 cases e with
 | returned v =>
  obtain ⟨M', ⟨rfl, hc⟩, hd', hi'⟩ := he
  refine ⟨rfl, ?_⟩
  have old : ∀ k, k < w.heap.size → w'.heap[k]? = w.heap[k]? := fun k hk => by
   have h1 : jT w k = some w.heap[k] := by simp [jT, hk]
   have h2 := hi'.left (hc.at h1 (by simp))
   rw [h2]; simp [hk]
  have he := hi'.2
  simp only [World.VA, Prod.mk.injEq] at he
  refine ⟨he.1, he.2.1, he.2.2, ?_, old⟩
  rcases Nat.lt_or_ge w'.heap.size w.heap.size with hlt | hge
  ·have := old w'.heap.size hlt
   simp [hlt] at this
  ·exact hge
 | panicked c => obtain ⟨_, hf, _⟩ := he; exact hf.elim
 | outgrown => exact he.elim
end Go.AF
namespace Go.AF
theorem Sl.get {M : Mem} {A : Option Addr} {l : List Value} (h : Sl M A l) {i : Nat} (hi : i < l.length) : ∃ b o, A = some ⟨b, o, none⟩ ∧ M.ld ⟨b, o + i, none⟩ = l[i]? := by
 match A, h with
 | none, h => rw [show l = [] from h] at hi; cases hi
 | some ⟨b, o, none⟩, h => exact ⟨b, o, rfl, h i hi⟩
theorem mask {x y : Int} {m : Nat} (hy : y = (m : Int)) (hm : m < 9223372036854775808) :
  ∃ q : Nat, IntKind.wrap .i64 (((Nat.bitwise and (BitVec.ofInt IntKind.i64.bits x).toNat (BitVec.ofInt IntKind.i64.bits y).toNat) : Nat) : Int) = (q : Int) ∧ q ≤ m := by
 subst hy
 have e : (BitVec.ofInt IntKind.i64.bits (m : Int)).toNat = m := by
  have : IntKind.i64.bits = 64 := rfl
  rw [this]
  simp only [BitVec.ofInt_natCast, BitVec.toNat_ofNat]
  exact Nat.mod_eq_of_lt (by omega)
 rw [e]
 have h : Nat.bitwise and (BitVec.ofInt IntKind.i64.bits x).toNat m ≤ m := Nat.and_le_right (n := (BitVec.ofInt IntKind.i64.bits x).toNat)
 exact ⟨_, nk (by omega), h⟩
theorem aQ {n : Nat} (h : n + 1 < 9223372036854775808) : IntKind.wrap .i64 ((n : Int) + 1) = ((n + 1 : Nat) : Int) := by
 rw [← nk (n := n + 1) h]; rfl
end Go.AF
namespace Go.AF
end Go.AF
namespace Go.AF
theorem Sl.take {M : Mem} {A : Option Addr} {l : List Value} (h : Sl M A l) (k : Nat) : Sl M A (l.take k) := by
 match A, h with
 | none, h => rw [show l = [] from h]; simp [Sl]
 | some ⟨b, o, none⟩, h =>
  intro i hi
  rw [List.length_take] at hi
  rw [h i (by omega), List.getElem?_take, if_pos (by omega)]
theorem sC.some {M : Mem} {z T : Nat} {A : Option Addr} {n c : Nat} {l : List Value} (h : sC M z T A n c l) {x : Nat} (hx : x ∈ yA A) : ∃ o, M x = .some o := by
 obtain ⟨_, ⟨rfl, _, _⟩ | ⟨b, cs, rfl, hb, _⟩⟩ := h
 ·simp [yA] at hx
 ·simp only [yA, List.mem_singleton] at hx; subst hx; exact ⟨_, hb⟩
theorem sC.cap {M : Mem} {z T : Nat} {A : Option Addr} {n c : Nat} {l : List Value} (h : sC M z T A n c l) : n ≤ c := by
 obtain ⟨_, ⟨_, h0, _⟩ | ⟨x, cs, _, _, _, hx, _⟩⟩ := h
 ·omega
 ·exact hx
end Go.AF
namespace Go.AF
def aY (P : Program) (t e z bytes : Nat) (zero : List Value) : Prop :=
 P.underlying t = some (.slice e) ∧ ∃ i zv, P.info? e = some i ∧ i.size = z ∧ i.bytes = bytes ∧ i.zero = some zv ∧ zv.cells.toList = zero ∧ zero.length = z ∧ 0 < bytes
theorem aY.mk' {P : Program} {t e z bytes : Nat} {zv : Value} (h1 : P.underlying t = some (.slice e)) (h2 : (P.info? e).map (fun i => (i.size, i.bytes, i.zero)) = some (z, bytes, some zv)) (h3 : zv.cells.toList.length = z) (h4 : 0 < bytes) :
  aY P t e z bytes zv.cells.toList := by
 refine ⟨h1, ?_⟩
 cases hi : P.info? e with
 | none => rw [hi] at h2; cases h2
 | some i =>
  rw [hi] at h2
  simp only [Option.map_some, Option.some.injEq, Prod.mk.injEq] at h2
  exact ⟨i, zv, rfl, h2.1, h2.2.1, h2.2.2, rfl, h3, h4⟩
theorem aY.make {P : Program} {t e z bytes n : Nat} {zero : List Value} {M : Mem} {K : Value → Mem → Prop} {Kp : List PanicEntry → Mem → Prop} (E : aY P t e z bytes zero) (hb : n * bytes ≤ 140737488355328)
  (h : ∀ k, M k = none → K (.slice (some ⟨k, 0, none⟩) n n) (M.set k (.cells (List.replicate n zero).flatten.toArray e (0, 0)))) :
  be P (Instr.makeSlice t (.int .i64 (n : Int)) (.int .i64 (n : Int))) M K Kp := by
 obtain ⟨hu, i, zv, hi, hs, hby, hz, rfl, hl, hp⟩ := E
 have hn : n ≤ n * bytes := Nat.le_mul_of_pos_right n hp
 exact Au hu hi hz (by rw [hs, ← hl]; simp) (by rw [hby]; exact hb) (by omega) h
theorem aY.append {P : Program} {t e z bytes ty : Nat} {zero : List Value} {A B : Option Addr} {n c m d : Nat} {l r : List Value} {M : Mem} {K : Value → Mem → Prop} {Kp : List PanicEntry → Mem → Prop} (E : aY P t e z bytes zero)
  (ho : sC M z e A n c l) (hr : Sl M B r) (jv : r.length = m * z) (hp : ∀ v ∈ r, Value.plainCell v = true) (hb : (n + m) * bytes ≤ 140737488355328)
  (h : ∀ A' c' M', sC M' z e A' (n + m) c' (l ++ r) → mT (yA A) M M' → KJ M A A' → K (.slice A' (n + m) c') M') :
  be P (Builtin.append_ #[t, t] ty #[.slice A n c, .slice B m d]) M K Kp := by
 obtain ⟨hu, i, zv, hi, hs, hby, hz, rfl, hl, hpos⟩ := E
 refine F4 hu hu hi hz (by rw [hs, ← hl]; simp) (by rw [hs]; exact ho) hr (by rw [hs]; exact jv) hp (by rw [hby]; exact hb) (by omega) ?_
 rw [hs]; exact h
end Go.AF
namespace Go.AF
@[simp] theorem lit_get3 {a b c d : Value} {l : List Value} : (Array.mk (a :: b :: c :: d :: l))[3]? = some d := rfl
@[simp] theorem lit_get4 {a b c d e : Value} {l : List Value} : (Array.mk (a :: b :: c :: d :: e :: l))[4]? = some e := rfl
@[simp] theorem lit_get5 {a b c d e f : Value} {l : List Value} : (Array.mk (a :: b :: c :: d :: e :: f :: l))[5]? = some f := rfl
end Go.AF
