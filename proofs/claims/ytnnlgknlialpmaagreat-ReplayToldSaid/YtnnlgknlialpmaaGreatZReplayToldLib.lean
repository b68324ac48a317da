/- A part of proofs about one program. -/
import Derived.Test.YtnnlgknlialpmaaGreatZReplayToldSoundB
set_option linter.unusedVariables false
namespace Go.AF
theorem DQ {M : Mem} {b o T : Nat} {c : Array Value} {fl : Nat × Nat} (h : M b = some (.cells c T fl)) : M.ld ⟨b, o, none⟩ = c[o]? := by
 simp [Mem.ld, h]
theorem Lv {M : Mem} {b o T : Nat} {c : Array Value} (h : M b = some (.cells c T (0, 0))) (ho : o < c.size) : M.wr ⟨b, o, none⟩ = true := by
 simp [Mem.wr, h, ho]
theorem GQ {M : Mem} {b o T : Nat} {c : Array Value} {fl : Nat × Nat} {v : Value} (h : M b = some (.cells c T fl)) : M.put ⟨b, o, none⟩ v = M.set b (.cells (c.setIfInBounds o v) T fl) := by
 funext i
 unfold Mem.put Mem.set
 by_cases hi : i = b
 ·subst hi; simp [h, Obj.tT]
 ·simp [hi]
theorem fq {M : Mem} {b : Nat} {o : Obj} : (M.set b o) b = some o := by simp [Mem.set]
theorem GR {M : Mem} {b k : Nat} {o : Obj} (h : k ≠ b) : (M.set b o) k = M k := by simp [Mem.set, h]
theorem set_set {M : Mem} {b : Nat} {o o' : Obj} : (M.set b o).set b o' = M.set b o' := by
 funext i; unfold Mem.set; split <;> simp_all
def kS (M M' : Mem) : Prop := ∀ b o, M b = some o → M' b = some o
theorem kS.refl (M : Mem) : kS M M := fun _ _ h => h
theorem kS.trans {A B D : Mem} (h : kS A B) (g : kS B D) : kS A D := fun b o x => g b o (h b o x)
theorem kS.fresh {M M' : Mem} (h : kS M M') {b : Nat} (hb : M' b = none) : M b = none := by
 cases hm : M b with
 | none => rfl
 | some o => rw [h b o hm] at hb; cases hb
theorem kS.set {M M' : Mem} (h : kS M M') {b : Nat} {o : Obj} (hb : M b = none) : kS M (M'.set b o) := fun k x hk => by
 by_cases MH : k = b
 ·subst MH; rw [hb] at hk; cases hk
 ·rw [GR MH]; exact h k x hk
def j7 (L : List Nat) (M M' : Mem) : Prop := ∀ k o, M k = some o → (∃ o', M' k = some o') ∧ (k ∉ L → M' k = some o)
theorem j7.refl (L : List Nat) (M : Mem) : j7 L M M := fun k o h => ⟨⟨o, h⟩, fun _ => h⟩
theorem kS.MN {M M' : Mem} (h : kS M M') (L : List Nat) : j7 L M M' := fun k o hk => ⟨⟨o, h k o hk⟩, fun _ => h k o hk⟩
theorem j7.keep {M M' : Mem} (h : j7 [] M M') : kS M M' := fun k o hk => (h k o hk).2 (by simp)
theorem j7.fresh {L : List Nat} {M M' : Mem} (h : j7 L M M') {b : Nat} (hb : M' b = none) : M b = none := by
 cases hm : M b with
 | none => rfl
 | some o => obtain ⟨⟨o', ho⟩, _⟩ := h b o hm; rw [hb] at ho; cases ho
theorem j7.trans {L L' : List Nat} {A B D : Mem} (h : j7 L A B) (g : j7 L' B D) (hs : ∀ x ∈ L', x ∈ L ∨ A x = none) : j7 L A D := fun k o hk => by
 obtain ⟨⟨o1, h1⟩, h2⟩ := h k o hk
 refine ⟨(g k o1 h1).1, fun hn => ?_⟩
 refine (g k o (h2 hn)).2 fun hm => ?_
 rcases hs k hm with h3 | h3
 ·exact hn h3
 ·rw [hk] at h3; cases h3
theorem j7.mono {L L' : List Nat} {A B : Mem} (h : j7 L A B) (hs : ∀ x ∈ L, x ∈ L' ∨ A x = none) : j7 L' A B := (j7.refl L' A).trans h hs
theorem j7.set {L : List Nat} {M M' : Mem} (h : j7 L M M') {b : Nat} {o : Obj} (hb : b ∈ L ∨ M b = none) : j7 L M (M'.set b o) := fun k x hk => by
 by_cases MH : k = b
 ·subst MH
  refine ⟨⟨o, fq⟩, fun hn => ?_⟩
  rcases hb with hb | hb
  ·exact absurd hb hn
  ·rw [hb] at hk; cases hk
 ·rw [GR MH]; exact h k x hk
theorem j7.at {L : List Nat} {M M' : Mem} (h : j7 L M M') {k : Nat} {o : Obj} (hk : M k = some o) (hn : k ∉ L) : M' k = some o := (h k o hk).2 hn
def wM : Option Addr → List Nat
 | none => []
 | some a => [a.block]
def Sl (M : Mem) (A : Option Addr) (l : List Value) : Prop :=
 match A with
 | some ⟨b, o, none⟩ => ∀ i, i < l.length → M.ld ⟨b, o + i, none⟩ = l[i]?
 | none => l = []
 | _ => False
def pD (M : Mem) (z T : Nat) (A : Option Addr) (n c : Nat) (l : List Value) : Prop :=
 l.length = n * z ∧ ((A = none ∧ n = 0 ∧ c = 0) ∨ ∃ b cs, A = some ⟨b, 0, none⟩ ∧ M b = some (.cells cs T (0, 0)) ∧ cs.size = c * z ∧ n ≤ c ∧ ∀ i, i < n * z → cs[i]? = l[i]?)
theorem pD.sl {M : Mem} {z T : Nat} {A : Option Addr} {n c : Nat} {l : List Value} (h : pD M z T A n c l) : Sl M A l := by
 obtain ⟨hl, ⟨rfl, rfl, rfl⟩ | ⟨b, cs, rfl, hb, hs, hn, hc⟩⟩ := h
 ·simpa [Sl] using hl
 ·intro i hi
  rw [DQ hb, Nat.zero_add, hc i (by omega)]
theorem Sl.keep {M M' : Mem} {A : Option Addr} {l : List Value} (h : Sl M A l) (hk : ∀ a o, A = some a → M a.block = some o → M' a.block = some o) : Sl M' A l := by
 match A, h with
 | none, h => exact h
 | some ⟨b, o, none⟩, h =>
  intro i hi
  have := h i hi
  unfold Mem.ld at this ⊢
  cases hb : M b with
  | none => simp [hb] at this; omega
  | some x => simp only [hk _ _ rfl hb]; simpa [hb] using this
theorem Sl.mono {M M' : Mem} {A : Option Addr} {l : List Value} (h : Sl M A l) (hk : kS M M') : Sl M' A l := h.keep fun a o _ ho => hk _ _ ho
theorem aQ {P : Program} {α β : Type} {s : Sem α} {f : α → Sem β} {M : Mem} {x : α} {K : β → Mem → Prop} {Kp : Value → Mem → Prop} (h : br P s M = some x) (hk : cO P (f x) M K Kp) :
  cO P (s >>= f) M K Kp := eH P s f (fz P s h hk)
theorem rM {M : Mem} {b o : Nat} : ∀ (l : List Value) (i : Nat), (∀ j, j < l.length → M.ld ⟨b, o + (i + j), none⟩ = l[j]?) → M.dP ⟨b, o, none⟩ i l.length = some l := by
 intro l
 induction l with
 | nil => intro i h; rfl
 | cons v l ih =>
  intro i h
  have h0 := h 0 (by simp)
  have hr := ih (i + 1) (fun j hj => by
   have := h (j + 1) (by simpa using hj)
   rw [show i + 1 + j = i + (j + 1) from by omega]; simpa using this)
  have P8 : M.ld ⟨b, o + i, none⟩ = some v := by simpa using h0
  simp only [List.length_cons, Mem.dP, add_eq, P8, hr, Option.map_some]
theorem j8 {n : Int} (h0 : -9223372036854775808 ≤ n) (h : n < 9223372036854775808) : IntKind.wrap .i64 n = n := by
 rw [IntKind.wrap_i64]; omega
theorem lU {n : Nat} (h : n < 9223372036854775808) : IntKind.wrap .i64 (n : Int) = n := j8 (by omega) (by omega)
theorem uH {P : Program} {t e : TypeId} {i : TypeInfo} {zv : Value} {n : Nat} {M : Mem} {K : Value → Mem → Prop} {Kp : List PanicEntry → Mem → Prop}
  (hu : P.underlying t = some (.slice e)) (hi : P.info? e = some i) (hz : i.zero = some zv) (hs : zv.cells.size = i.size) (hb : n * i.bytes ≤ 140737488355328) (hn : n < 9223372036854775808)
  (h : ∀ k, M k = none → K (.slice (some ⟨k, 0, none⟩) n n) (M.set k (.cells (List.replicate n zv.cells.toList).flatten.toArray e (0, 0)))) :
  bh P (Instr.makeSlice t (.int .i64 (n : Int)) (.int .i64 (n : Int))) M K Kp := by
 unfold bh Instr.makeSlice
 refine aQ (aC hu M) ?_
 simp only
 refine aQ (x := (n : Int)) rfl ?_
 refine aQ (x := (n : Int)) rfl ?_
 refine aQ (bX hi M) ?_
 have hb' : ¬ ((i.bytes : Int) * (n : Int) > 2 ^ 48) := by
  have : ((n * i.bytes : Nat) : Int) = (i.bytes : Int) * (n : Int) := by rw [Int.natCast_mul, Int.mul_comm]
  omega
 simp only [lU hn]
 have c1 : ¬ ((n : Int) < 0) := by omega
 rw [if_neg (by simp [c1]; omega)]
 refine aQ (x := ()) ?_ ?_
 ·unfold askRoom roomBytes
  rw [if_neg (by simp only [Int.toNat_natCast]; omega)]; rfl
 refine aQ (dQ hi M) ?_
 simp only [Int.toNat_natCast]
 have fin : ∀ zero : Array Value, (Array.range (n * i.size)).map (fun x => zero[x % zero.size]!) = (List.replicate n zv.cells.toList).flatten.toArray →
   cO P (newRow e ((Array.range (n * i.size)).map (fun x => zero[x % zero.size]!)) >>= fun a => pure (Value.slice (some a) n n)) M K fun v M' => Kp [{ v, recovered := false }] M' := by
  intro zero hz
  rw [hz]
  exact fun k hk => h k hk
 split
 ·rename_i h0
  refine aQ (x := #[]) rfl ?_
  refine fin #[] ?_
  rw [h0]
  rcases Nat.mul_eq_zero.1 h0 with h1 | h1
  ·subst h1; apply Array.ext'; simp
  ·have : zv.cells.toList = [] := by rw [← List.length_eq_zero_iff]; simpa [hs] using h1
   rw [this]; apply Array.ext'; simp
 ·refine aQ (x := zv) (by rw [iy]; simp [zeroOf, hi, hz]) ?_
  refine aQ (x := zv.cells) rfl ?_
  refine fin zv.cells ?_
  have := ia (zs := zv.cells.toList) (s := i.size) (by simpa using hs) n
  apply Array.ext'
  simpa [hs] using this
theorem fu {P : Program} {M : Mem} {A : Option Addr} {n c z m : Nat} {l : List Value} (h : Sl M A l) (hl : l.length = m * z) : br P (Builtin.firstCells z m (.slice A n c)) M = some l.toArray := by
 match A, h with
 | none, h => subst h; rfl
 | some ⟨b, o, none⟩, h =>
  unfold Builtin.firstCells loadCells
  have := j0 (P := P) (M := M) (a := ⟨b, o, none⟩) (m * z) 0 #[] l (by
   have := rM (M := M) (b := b) (o := o) l 0 (fun j hj => by rw [Nat.zero_add]; exact h j hj)
   rw [hl] at this; exact this)
  simpa using this
theorem uI {P : Program} {b T : Nat} {Kp : Value → Mem → Prop} : ∀ (vs : List Value) (o i : Nat) (M : Mem) (cs : Array Value) (K : Mem → Prop), M b = some (.cells cs T (0, 0)) → o + i + vs.length ≤ cs.size →
  (∀ v ∈ vs, Value.plainCell v = true) →
  (∀ cs' : Array Value, cs'.size = cs.size → (∀ j, cs'[j]? = if o + i ≤ j ∧ j < o + i + vs.length then vs[j - (o + i)]? else cs[j]?) → K (M.set b (.cells cs' T (0, 0)))) →
  cO P (storeCells ⟨b, o, none⟩ vs i) M (fun _ M' => K M') Kp := by
 intro vs
 induction vs with
 | nil =>
  intro o i M cs K hb _ _ h
  have : M.set b (.cells cs T (0, 0)) = M := by
   funext k; unfold Mem.set; split
   ·rename_i hk; rw [hk, hb]
   ·rfl
  have h1 := h cs rfl (fun j => by
   rw [if_neg]; simp only [List.length_nil]; omega)
  rw [this] at h1
  exact h1
 | cons v vs ih =>
  intro o i M cs K hb hs hp h
  simp only [List.length_cons] at hs
  have ho : o + i < cs.size := by omega
  show cO P (.store .plain ((⟨b, o, none⟩ : Addr).add i) v (storeCells ⟨b, o, none⟩ vs (i + 1))) M _ _
  rw [add_eq]
  refine ⟨hp v (List.mem_cons_self ..), Lv hb ho, ?_⟩
  rw [GQ hb]
  refine ih o (i + 1) _ (cs.setIfInBounds (o + i) v) K fq (by simp; omega) (fun u hu => hp u (List.mem_cons_of_mem _ hu)) fun cs' h1 h2 => ?_
  rw [set_set]
  refine h cs' (by simpa using h1) fun j => ?_
  rw [h2 j]
  simp only [List.length_cons]
  by_cases hj : j = o + i
  ·subst hj
   rw [if_neg (by omega), if_pos (by omega)]
   simp [ho]
  ·by_cases MO : o + (i + 1) ≤ j ∧ j < o + (i + 1) + vs.length
   ·rw [if_pos MO, if_pos (by omega)]
    rw [show j - (o + i) = (j - (o + (i + 1))) + 1 from by omega]; simp
   ·rw [if_neg MO, if_neg (by omega)]
    rw [Array.getElem?_setIfInBounds_ne (Ne.symm hj)]
def GS (M : Mem) (A A' : Option Addr) : Prop := A' = A ∨ ∃ b, A' = some ⟨b, 0, none⟩ ∧ M b = none
theorem Al {P : Program} {t t' e ty : TypeId} {i : TypeInfo} {zv : Value} {A B : Option Addr} {n c m d : Nat} {l r : List Value} {M : Mem} {K : Value → Mem → Prop} {Kp : List PanicEntry → Mem → Prop}
  (hu : P.underlying t = some (.slice e)) (Lp : P.underlying t' = some (.slice e)) (hi : P.info? e = some i) (hz : i.zero = some zv) (hs : zv.cells.size = i.size)
  (ho : pD M i.size e A n c l) (hr : Sl M B r) (jr : r.length = m * i.size) (hp : ∀ v ∈ r, Value.plainCell v = true) (hb : (n + m) * i.bytes ≤ 140737488355328) (hby : 0 < i.bytes)
  (h : ∀ A' c' M', pD M' i.size e A' (n + m) c' (l ++ r) → j7 (wM A) M M' → GS M A A' → K (.slice A' (n + m) c') M') :
  bh P (Builtin.append_ #[t, t'] ty #[.slice A n c, .slice B m d]) M K Kp := by
 unfold bh Builtin.append_
 simp only [List.getElem?_toArray, List.getElem?_cons_zero, List.getElem?_cons_succ]
 refine aQ (aC hu M) ?_
 simp only
 refine aQ (dQ hi M) ?_
 refine aQ (aC Lp M) ?_
 refine aQ (x := false) rfl ?_
 refine aQ (x := m) rfl ?_
 simp only [Bool.not_false, if_true]
 obtain ⟨hl, hA⟩ := ho
 split
 ·rename_i hle
  refine aQ (fu hr jr) ?_
  rcases hA with ⟨rfl, rfl, rfl⟩ | ⟨b, cs, rfl, hM, hcs, hnc, hc⟩
  ·have hm : m = 0 := by omega
   subst hm
   have : r = [] := by simpa using jr
   subst this
   refine h none 0 M ⟨by simpa using hl, .inl ⟨rfl, rfl, rfl⟩⟩ (j7.refl _ _) (.inl rfl)
  ·have hroom : n * i.size + 0 + r.length ≤ cs.size := by
    rw [hcs, jr, Nat.add_zero, ← Nat.add_mul]; exact Nat.mul_le_mul_right _ hle
   refine eH P _ _ ?_
   rw [add_eq, Nat.zero_add]
   refine uI r (n * i.size) 0 M cs _ hM hroom hp fun cs' h1 h2 => ?_
   refine h (some ⟨b, 0, none⟩) c _ ⟨?_, .inr ⟨b, cs', rfl, fq, by rw [h1, hcs], hle, fun j hj => ?_⟩⟩ ((j7.refl _ _).set (.inl (by simp [wM]))) (.inl rfl)
   ·rw [List.length_append, hl, jr, Nat.add_mul]
   ·rw [h2 j]
    rw [Nat.add_mul] at hj
    by_cases MO : j < n * i.size
    ·rw [if_neg (by omega), hc j MO, List.getElem?_append_left (by omega)]
    ·rw [if_pos (by omega), List.getElem?_append_right (by omega), hl]; rfl
 ·rename_i hle
  refine aQ (bX hi M) ?_
  rw [if_neg (by simp; omega)]
  refine aQ (bX hi M) ?_
  rw [if_neg (by have := growslice_fits (need := n + m) (old := c) (bytes := i.bytes) (by omega) hb; omega)]
  show ∀ q, _
  intro q
  have hcap : n + m ≤ Question.cut (.appendCap (n + m) c e) q := by simp only [Question.cut]; omega
  generalize Question.cut (.appendCap (n + m) c e) q = nc at hcap
  refine aQ (x := nc) rfl ?_
  refine aQ (bX hi M) ?_
  refine eH P _ _ ?_
  have room : ∀ (X : Prop) , X → cO P (askRoom (nc * i.bytes)) M (fun _ M' => M' = M) (fun _ _ => False) := by
   intro X _
   unfold askRoom
   split
   ·exact rfl
   ·exact rfl
  refine fN P _ (room True trivial) (fun _ M' Tq => ?_) (fun _ _ hf => hf.elim)
  subst Tq
  have Pr : Sl M' A l := pD.sl ⟨hl, hA⟩
  refine aQ (fu Pr hl) ?_
  refine aQ (fu hr jr) ?_
  refine aQ (x := zv) (by rw [iy]; simp [zeroOf, hi, hz]) ?_
  intro k hk
  refine h (some ⟨k, 0, none⟩) nc _ ⟨by rw [List.length_append, hl, jr, Nat.add_mul], .inr ⟨k, _, rfl, fq, ?_, hcap, fun j hj => ?_⟩⟩ ((j7.refl _ _).set (.inr hk)) (.inr ⟨k, rfl, hk⟩)
  ·simp only [Array.size_append, List.size_toArray, hl, jr]
   have : (Builtin.zeroCells zv.cells (nc - (n + m))).size = (nc - (n + m)) * i.size := by simp [Builtin.zeroCells, hs]
   rw [this, ← Nat.add_mul, ← Nat.add_mul]; congr 1; omega
  ·rw [Nat.add_mul] at hj
   rw [Array.getElem?_append_left (by simp [hl, jr]; omega)]
   simp
def Jk (M : Mem) (A : Option Addr) : Prop := ∀ x ∈ wM A, M x = none
theorem Jk.step {M M' : Mem} {L : List Nat} {A A' : Option Addr} (h : Jk M A) (hc : j7 L M M') (hf : GS M' A A') : Jk M A' := by
 rcases hf with rfl | ⟨b, rfl, hb⟩
 ·exact h
 ·intro x hx; simp only [wM, List.mem_singleton] at hx; subst hx; exact hc.fresh hb
theorem Jk.none (M : Mem) : Jk M none := fun x hx => by simp [wM] at hx
theorem Jk.back {M M' : Mem} {L : List Nat} {A : Option Addr} (h : Jk M' A) (hc : j7 L M M') : Jk M A := fun x hx => hc.fresh (h x hx)
theorem pD.MN {M M' : Mem} {L : List Nat} {z T : Nat} {A : Option Addr} {n c : Nat} {l : List Value} (h : pD M z T A n c l) (hc : j7 L M M') (hd : ∀ x ∈ wM A, x ∉ L) : pD M' z T A n c l := by
 obtain ⟨h1, h2 | ⟨b, cs, h3, h4, h5⟩⟩ := h
 ·exact ⟨h1, .inl h2⟩
 ·exact ⟨h1, .inr ⟨b, cs, h3, hc.at h4 (hd b (by rw [h3]; simp [wM])), h5⟩⟩
theorem pD.nil (M : Mem) (z T : Nat) : pD M z T none 0 0 [] := ⟨by simp, .inl ⟨rfl, rfl, rfl⟩⟩
theorem Sl.MN {M M' : Mem} {L : List Nat} {A : Option Addr} {l : List Value} (h : Sl M A l) (hc : j7 L M M') (hd : ∀ x ∈ wM A, x ∉ L) : Sl M' A l :=
 h.keep fun a o ha ho => hc.at ho (hd _ (by rw [ha]; simp [wM]))
end Go.AF
namespace Go.AF
@[simp] theorem P9 {k : IntKind} {n : Int} {K : Int → Prop} : aE (some (.int k n)) k K = K n := by simp [aE]
@[simp] theorem Qa {t : Bool} {K : Bool → Prop} : cY (some (.bool t)) K = K t := rfl
@[simp] theorem Qb {s : ByteArray} {K : ByteArray → Prop} : gh (some (.string s)) K = K s := rfl
@[simp] theorem Qc {p : Option Addr} {K : Option Addr → Prop} : cz (some (.pointer p)) K = K p := rfl
@[simp] theorem Ps {A : Option Addr} {n c : Nat} {K : Option Addr → Nat → Nat → Prop} : ay (some (.slice A n c)) K = K A n c := rfl
@[simp] theorem Qd {v : Value} {K : Value → Prop} : fL (some v) K = K v := rfl
@[simp] theorem Pt {b o : Nat} {K : Nat → Nat → Prop} : az (some ⟨b, o, none⟩) K = K b o := rfl
@[simp] theorem Qe {X Y : Prop} : aK true X Y = X := rfl
@[simp] theorem Pu {X Y : Prop} : aK false X Y = Y := rfl
theorem eZ {t : Bool} {X Y : Prop} : aK t X Y ↔ (t = true → X) ∧ (t = false → Y) := by cases t <;> simp
theorem aH {p : Prop} [Decidable p] {X Y : Prop} : aK (decide p) X Y ↔ (p → X) ∧ (¬ p → Y) := by rw [eZ]; simp
theorem bB {a b : Int} {X Y : Prop} : aK (a == b) X Y ↔ (a = b → X) ∧ (a ≠ b → Y) := by rw [eZ]; simp
theorem bM {a b : Int} {X Y : Prop} : aK (a != b) X Y ↔ (a ≠ b → X) ∧ (a = b → Y) := by rw [eZ]; simp
@[simp] theorem Qf {v : Value} {l : List Value} : (Array.mk (v :: l))[0]? = some v := rfl
@[simp] theorem Qg {v u : Value} {l : List Value} : (Array.mk (v :: u :: l))[1]? = some u := rfl
@[simp] theorem Qh {v u x : Value} {l : List Value} : (Array.mk (v :: u :: x :: l))[2]? = some x := rfl
def iv (n : Int) : Value := .int .i64 n
theorem uJ {a b : Nat} : Int.tmod (a : Int) (b : Int) = ((a % b : Nat) : Int) := by
 rw [Int.tmod_eq_emod_of_nonneg (by omega)]; rfl
end Go.AF
namespace Go.AF
def jI (w : World) : Mem := fun k => w.heap[k]?
theorem tr {P : Program} {f : FuncId} {args : Array Value} {w : World} (h : aa P f args (jI w) (fun v M' => v = .bool true ∧ j7 [] (jI w) M') (fun _ _ => False)) :
  Calls P f args w fun e w' => e = .returned (.bool true) ∧ Go.RowKit.Below w.heap.size w w' := by
 have hd : (jI w).dj Mem.empty := fun b => .inr rfl
 have hi : ((jI w).union Mem.empty).In (World.Mp w) w := ⟨fun b o hb => (by
  unfold Mem.union at hb
  cases hm : jI w b with
  | some o' => rw [hm] at hb; cases hb; exact hm
  | none => rw [hm] at hb; cases hb), rfl⟩
 refine (h _ Mem.empty w hd hi).mono fun e w' he => ?_
 cases e with
 | returned v =>
  obtain ⟨M', ⟨rfl, hc⟩, hd', hi'⟩ := he
  refine ⟨rfl, ?_⟩
  have old : ∀ k, k < w.heap.size → w'.heap[k]? = w.heap[k]? := fun k hk => by
   have h1 : jI w k = some w.heap[k] := by simp [jI, hk]
   have h2 := hi'.left (hc.at h1 (by simp))
   rw [h2]; simp [hk]
  have he := hi'.2
  simp only [World.Mp, Prod.mk.injEq] at he
  refine ⟨he.1, he.2.1, he.2.2, ?_, old⟩
  rcases Nat.lt_or_ge w'.heap.size w.heap.size with hlt | hge
  ·have := old w'.heap.size hlt
   simp [hlt] at this
  ·exact hge
 | panicked c => obtain ⟨_, hf, _⟩ := he; exact hf.elim
 | outgrown => exact he.elim
end Go.AF
namespace Go.AF
theorem Sl.get {M : Mem} {A : Option Addr} {l : List Value} (h : Sl M A l) {i : Nat} (hi : i < l.length) : ∃ b o, A = some ⟨b, o, none⟩ ∧ M.ld ⟨b, o + i, none⟩ = l[i]? := by
 match A, h with
 | none, h => rw [show l = [] from h] at hi; cases hi
 | some ⟨b, o, none⟩, h => exact ⟨b, o, rfl, h i hi⟩
theorem aV {n : Nat} (h : n + 1 < 9223372036854775808) : IntKind.wrap .i64 ((n : Int) + 1) = ((n + 1 : Nat) : Int) := by
 rw [← lU (n := n + 1) h]; rfl
end Go.AF
namespace Go.AF
end Go.AF
namespace Go.AF
theorem Sl.take {M : Mem} {A : Option Addr} {l : List Value} (h : Sl M A l) (k : Nat) : Sl M A (l.take k) := by
 match A, h with
 | none, h => rw [show l = [] from h]; simp [Sl]
 | some ⟨b, o, none⟩, h =>
  intro i hi
  rw [List.length_take] at hi
  rw [h i (by omega), List.getElem?_take, if_pos (by omega)]
theorem Sl.iO {M : Mem} {A : Option Addr} {l : List Value} {m c : Nat} (h : Sl M A l) (hc : l.length ≤ c) : Sl M (iO A m c 1) (l.drop m) := by
 unfold Go.AF.iO
 split
 ·rename_i he
  have : l.drop m = [] := List.drop_of_length_le (by omega)
  rw [this]
  match A, h with
  | none, h => rfl
  | some ⟨b, o, none⟩, h => intro i hi; simp at hi
 ·match A, h with
  | none, h => rw [show l = [] from h]; simp [Sl]
  | some ⟨b, o, none⟩, h =>
   rw [Option.map_some, add_eq]
   intro i hi
   rw [List.length_drop] at hi
   rw [show o + m * 1 + i = o + (m + i) from by omega, h (m + i) (by omega), List.getElem?_drop]
theorem pD.some {M : Mem} {z T : Nat} {A : Option Addr} {n c : Nat} {l : List Value} (h : pD M z T A n c l) {x : Nat} (hx : x ∈ wM A) : ∃ o, M x = .some o := by
 obtain ⟨_, ⟨rfl, _, _⟩ | ⟨b, cs, rfl, hb, _⟩⟩ := h
 ·simp [wM] at hx
 ·simp only [wM, List.mem_singleton] at hx; subst hx; exact ⟨_, hb⟩
theorem pD.cap {M : Mem} {z T : Nat} {A : Option Addr} {n c : Nat} {l : List Value} (h : pD M z T A n c l) : n ≤ c := by
 obtain ⟨_, ⟨_, h0, _⟩ | ⟨x, cs, _, _, _, hx, _⟩⟩ := h
 ·omega
 ·exact hx
end Go.AF
namespace Go.AF
def bn (P : Program) (t e z bytes : Nat) (zero : List Value) : Prop :=
 P.underlying t = some (.slice e) ∧ ∃ i zv, P.info? e = some i ∧ i.size = z ∧ i.bytes = bytes ∧ i.zero = some zv ∧ zv.cells.toList = zero ∧ zero.length = z ∧ 0 < bytes
theorem bn.mk' {P : Program} {t e z bytes : Nat} {zv : Value} (h1 : P.underlying t = some (.slice e)) (h2 : (P.info? e).map (fun i => (i.size, i.bytes, i.zero)) = some (z, bytes, some zv)) (h3 : zv.cells.toList.length = z) (h4 : 0 < bytes) :
  bn P t e z bytes zv.cells.toList := by
 refine ⟨h1, ?_⟩
 cases hi : P.info? e with
 | none => rw [hi] at h2; cases h2
 | some i =>
  rw [hi] at h2
  simp only [Option.map_some, Option.some.injEq, Prod.mk.injEq] at h2
  exact ⟨i, zv, rfl, h2.1, h2.2.1, h2.2.2, rfl, h3, h4⟩
theorem bn.make {P : Program} {t e z bytes n : Nat} {zero : List Value} {M : Mem} {K : Value → Mem → Prop} {Kp : List PanicEntry → Mem → Prop} (E : bn P t e z bytes zero) (hb : n * bytes ≤ 140737488355328)
  (h : ∀ k, M k = none → K (.slice (some ⟨k, 0, none⟩) n n) (M.set k (.cells (List.replicate n zero).flatten.toArray e (0, 0)))) :
  bh P (Instr.makeSlice t (.int .i64 (n : Int)) (.int .i64 (n : Int))) M K Kp := by
 obtain ⟨hu, i, zv, hi, hs, hby, hz, rfl, hl, hp⟩ := E
 have hn : n ≤ n * bytes := Nat.le_mul_of_pos_right n hp
 exact uH hu hi hz (by rw [hs, ← hl]; simp) (by rw [hby]; exact hb) (by omega) h
theorem bn.append {P : Program} {t e z bytes ty : Nat} {zero : List Value} {A B : Option Addr} {n c m d : Nat} {l r : List Value} {M : Mem} {K : Value → Mem → Prop} {Kp : List PanicEntry → Mem → Prop} (E : bn P t e z bytes zero)
  (ho : pD M z e A n c l) (hr : Sl M B r) (jr : r.length = m * z) (hp : ∀ v ∈ r, Value.plainCell v = true) (hb : (n + m) * bytes ≤ 140737488355328)
  (h : ∀ A' c' M', pD M' z e A' (n + m) c' (l ++ r) → j7 (wM A) M M' → GS M A A' → K (.slice A' (n + m) c') M') :
  bh P (Builtin.append_ #[t, t] ty #[.slice A n c, .slice B m d]) M K Kp := by
 obtain ⟨hu, i, zv, hi, hs, hby, hz, rfl, hl, hpos⟩ := E
 refine Al hu hu hi hz (by rw [hs, ← hl]; simp) (by rw [hs]; exact ho) hr (by rw [hs]; exact jr) hp (by rw [hby]; exact hb) (by omega) ?_
 rw [hs]; exact h
theorem bn.copy {P : Program} {t e z bytes ty : Nat} {zero : List Value} {B : Option Addr} {m k d : Nat} {r : List Value} {M : Mem} {K : Value → Mem → Prop} {Kp : List PanicEntry → Mem → Prop} (E : bn P t e z bytes zero)
  (hk : M k = none) (hr : Sl M B r) (jr : r.length = m * z) (hp : ∀ v ∈ r, Value.plainCell v = true) (hb : m * bytes ≤ 140737488355328)
  (h : ∀ A' c' M', pD M' z e A' m c' r → j7 [] M M' → Jk M A' → K (.slice A' m c') M') :
  bh P (Builtin.append_ #[t, t] ty #[.slice (some ⟨k, 0, none⟩) 0 0, .slice B m d]) (M.set k (.cells #[] e (0, 0))) K Kp := by
 have c0 : j7 [] M (M.set k (.cells #[] e (0, 0))) := (j7.refl _ _).set (.inr hk)
 refine E.append (l := []) ⟨by simp, .inr ⟨k, #[], rfl, fq, by simp, by omega, by simp⟩⟩ (hr.MN c0 (by simp)) jr hp (by simpa using hb) fun A' c' M' g1 g2 g3 => ?_
 rw [Nat.zero_add] at g1 ⊢
 rw [List.nil_append] at g1
 have f0 : Jk M (some ⟨k, 0, none⟩) := fun x hx => by simp only [wM, List.mem_singleton] at hx; subst hx; exact hk
 exact h A' c' M' g1 (c0.trans g2 (fun x hx => .inr (f0 x hx))) (f0.step c0 g3)
end Go.AF
namespace Go.AF
@[simp] theorem Qi {a b c d : Value} {l : List Value} : (Array.mk (a :: b :: c :: d :: l))[3]? = some d := rfl
@[simp] theorem Qj {a b c d e : Value} {l : List Value} : (Array.mk (a :: b :: c :: d :: e :: l))[4]? = some e := rfl
@[simp] theorem Qk {a b c d e f : Value} {l : List Value} : (Array.mk (a :: b :: c :: d :: e :: f :: l))[5]? = some f := rfl
end Go.AF
