/- A part of proofs about functions of one program: a condition over a partial memory that is enough for a call, and what calls answer by it. No condition of its own. -/
import Derived.Test.YtodeolmcinekoaaAux
set_option linter.unusedVariables false
/- Texts, and their bytes. -/
namespace Go.AF
/-- A text's bytes. -/
def bytesOf (s : ByteArray) : List Int := s.data.toList.map fun b => (b.toNat : Int)
def strCells (s : ByteArray) : List Value := s.data.toList.map fun b => .int .u8 b.toNat
theorem strCells_eq (s : ByteArray) : strCells s = u8E.cells (bytesOf s) := by
  unfold strCells bytesOf Enc.cells
  rw [List.flatMap_map]
  show _ = s.data.toList.flatMap fun b => [Value.int .u8 (b.toNat : Int)]
  induction s.data.toList with
  | nil => rfl
  | cons a l ih => simp only [List.map_cons, List.flatMap_cons, ih]; rfl
theorem strCells_len (s : ByteArray) : (strCells s).length = s.size := by simp [strCells]
theorem strCells_plain (s : ByteArray) : ∀ v ∈ strCells s, Value.plainCell v = true := fun v hv => by
  obtain ⟨b, _, rfl⟩ := List.mem_map.1 hv; rfl
theorem bytesOf_len (s : ByteArray) : (bytesOf s).length = s.size := by simp [bytesOf]
/-- The text of bytes. -/
def strOf (l : List Int) : ByteArray := ⟨(l.map fun n => UInt8.ofNat n.toNat).toArray⟩
theorem strOf_nil : strOf [] = ⟨#[]⟩ := rfl
theorem strOf_app (l m : List Int) : strOf (l ++ m) = strOf l ++ strOf m := by
  apply ByteArray.ext; simp [strOf]
theorem strOf_size (l : List Int) : (strOf l).size = l.length := by simp [strOf, ByteArray.size]
theorem bytesOf_strOf {l : List Int} (h : ∀ n ∈ l, 0 ≤ n ∧ n < 256) : bytesOf (strOf l) = l := by
  unfold bytesOf strOf
  simp only [List.map_map]
  conv => rhs; rw [← List.map_id l]
  refine List.map_congr_left fun n hn => ?_
  obtain ⟨h1, h2⟩ := h n hn
  obtain ⟨k, rfl⟩ := Int.eq_ofNat_of_zero_le h1
  simp only [Function.comp, Int.toNat_natCast, id]
  rw [UInt8.toNat_ofNat']
  have : k % 256 = k := Nat.mod_eq_of_lt (by omega)
  exact congrArg _ this
theorem strOf_bytesOf (s : ByteArray) : strOf (bytesOf s) = s := by
  apply ByteArray.ext
  unfold strOf bytesOf
  simp only [List.map_map]
  have : (s.data.toList.map ((fun n : Int => UInt8.ofNat n.toNat) ∘ fun b => (b.toNat : Int))) = s.data.toList := by
    conv => rhs; rw [← List.map_id s.data.toList]
    exact List.map_congr_left fun b _ => by simp
  rw [this]
theorem strAt_of {l : List Int} {i : Nat} {n : Int} (h : ∀ n ∈ l, 0 ≤ n ∧ n < 256) (hi : l[i]? = some n) : strAt (strOf l) i = n := by
  unfold strAt strOf
  have hl := (List.getElem?_eq_some_iff.1 hi).1
  obtain ⟨h1, h2⟩ := h n (List.mem_of_getElem? hi)
  obtain ⟨k, rfl⟩ := Int.eq_ofNat_of_zero_le h1
  have : ((l.map fun n => UInt8.ofNat n.toNat).toArray).getD i 0 = UInt8.ofNat k := by
    rw [Array.getD_eq_getD_getElem?]
    simp [hi]
  rw [this, UInt8.toNat_ofNat']
  have : k % 256 = k := Nat.mod_eq_of_lt (by omega)
  exact congrArg _ this
theorem bytesOf_bd (s : ByteArray) : ∀ n ∈ bytesOf s, 0 ≤ n ∧ n < 256 := fun n hn => by
  obtain ⟨b, _, rfl⟩ := List.mem_map.1 hn
  have := b.toNat_lt; omega

theorem semK_appendStr {P : Program} {t t' e ty : TypeId} {i : TypeInfo} {zv : Value} {A : Option Addr} {n c : Nat} {l : List Value} {s : ByteArray} {M : Mem} {K : Value → Mem → Prop} {Kp : List PanicEntry → Mem → Prop}
    (hu : P.underlying t = some (.slice e)) (hu' : P.underlying t' = some .string) (hi : P.info? e = some i) (hz : i.zero = some zv) (hs : zv.cells.size = i.size)
    (ho : Own M i.size e A n c l) (hsz : i.size = 1) (hb : (n + s.size) * i.bytes ≤ 140737488355328) (hby : 0 < i.bytes)
    (h : ∀ A' c' M', Own M' i.size e A' (n + s.size) c' (l ++ strCells s) → Chg (blk A) M M' → Fresh M A A' → K (.slice A' (n + s.size) c') M') :
    semK P (Builtin.append_ #[t, t'] ty #[.slice A n c, .string s]) M K Kp := by
  have hr : ∀ M : Mem, rdS P (Builtin.firstCells i.size s.size (.string s)) M = some (strCells s).toArray := fun M => by
    unfold Builtin.firstCells strCells
    have e : s.extract 0 s.size = s := ByteArray.extract_zero_size
    simp only [e, rd_pure, Option.some.injEq]
    apply Array.ext'; simp
  have hrl : (strCells s).length = s.size * i.size := by rw [hsz, Nat.mul_one, strCells_len]
  have hp : ∀ v ∈ strCells s, Value.plainCell v = true := strCells_plain s
  generalize hm : s.size = m at *
  generalize strCells s = r at *
  unfold semK Builtin.append_
  simp only [List.getElem?_toArray, List.getElem?_cons_zero, List.getElem?_cons_succ]
  refine awp_run (rd_underlying hu M) ?_
  simp only
  refine awp_run (rd_sizeOfI hi M) ?_
  refine awp_run (rd_underlying hu' M) ?_
  refine awp_run (x := false) rfl ?_
  refine awp_run (x := m) (by rw [← hm]; rfl) ?_
  simp only [Bool.not_false, if_true]
  obtain ⟨hl, hA⟩ := ho
  split
  · rename_i hle
    refine awp_run (hr _) ?_
    rcases hA with ⟨rfl, rfl, rfl⟩ | ⟨b, cs, rfl, hM, hcs, hnc, hc⟩
    · have hm : m = 0 := by omega
      subst hm
      have : r = [] := by simpa using hrl
      subst this
      refine h none 0 M ⟨by simpa using hl, .inl ⟨rfl, rfl, rfl⟩⟩ (Chg.refl _ _) (.inl rfl)
    · have hroom : n * i.size + 0 + r.length ≤ cs.size := by
        rw [hcs, hrl, Nat.add_zero, ← Nat.add_mul]; exact Nat.mul_le_mul_right _ hle
      refine awp_bind P _ _ ?_
      rw [add_eq, Nat.zero_add]
      refine awp_storeCells r (n * i.size) 0 M cs _ hM hroom hp fun cs' h1 h2 => ?_
      refine h (some ⟨b, 0, none⟩) c _ ⟨?_, .inr ⟨b, cs', rfl, set_same, by rw [h1, hcs], hle, fun j hj => ?_⟩⟩ ((Chg.refl _ _).set (.inl (by simp [blk]))) (.inl rfl)
      · rw [List.length_append, hl, hrl, Nat.add_mul]
      · rw [h2 j]
        rw [Nat.add_mul] at hj
        by_cases hj2 : j < n * i.size
        · rw [if_neg (by omega), hc j hj2, List.getElem?_append_left (by omega)]
        · rw [if_pos (by omega), List.getElem?_append_right (by omega), hl]; rfl
  · rename_i hle
    refine awp_run (rd_typeInfo hi M) ?_
    rw [if_neg (by simp; omega)]
    refine awp_run (rd_typeInfo hi M) ?_
    rw [if_neg (by have := growslice_fits (need := n + m) (old := c) (bytes := i.bytes) (by omega) hb; omega)]
    show ∀ q, _
    intro q
    have hcap : n + m ≤ Question.cut (.appendCap (n + m) c e) q := by simp only [Question.cut]; omega
    generalize Question.cut (.appendCap (n + m) c e) q = nc at hcap
    refine awp_run (x := nc) rfl ?_
    refine awp_run (rd_typeInfo hi M) ?_
    refine awp_bind P _ _ ?_
    have room : ∀ (X : Prop) , X → awp P (askRoom (nc * i.bytes)) M (fun _ M' => M' = M) (fun _ _ => False) := by
      intro X _
      unfold askRoom
      split
      · exact rfl
      · exact rfl
    refine awp_mono P _ (room True trivial) (fun _ M' hM' => ?_) (fun _ _ hf => hf.elim)
    subst hM'
    have hol : Sl M' A l := Own.sl ⟨hl, hA⟩
    refine awp_run (rd_firstCells hol hl) ?_
    refine awp_run (hr _) ?_
    refine awp_run (x := zv) (by rw [zeroInfo]; simp [zeroOf, hi, hz]) ?_
    intro k hk
    refine h (some ⟨k, 0, none⟩) nc _ ⟨by rw [List.length_append, hl, hrl, Nat.add_mul], .inr ⟨k, _, rfl, set_same, ?_, hcap, fun j hj => ?_⟩⟩ ((Chg.refl _ _).set (.inr hk)) (.inr ⟨k, rfl, hk⟩)
    · simp only [Array.size_append, List.size_toArray, hl, hrl]
      have : (Builtin.zeroCells zv.cells (nc - (n + m))).size = (nc - (n + m)) * i.size := by simp [Builtin.zeroCells, hs]
      rw [this, ← Nat.add_mul, ← Nat.add_mul]; congr 1; omega
    · rw [Nat.add_mul] at hj
      rw [Array.getElem?_append_left (by simp [hl, hrl]; omega)]
      simp


/-! ### conversions -/
theorem rd_pushes {P : Program} {M : Mem} : ∀ (l : List Int) (s0 : ByteArray), rdS P (forIn (u8E.cells l) s0 fun c r => match c with
    | .int .u8 n => (pure (ForInStep.yield (r.push (UInt8.ofNat n.toNat))) : Sem (ForInStep ByteArray))
    | _ => (do stuck "bytesToString: byte expected"; pure (ForInStep.yield r))) M = some (s0 ++ strOf l)
  | [], s0 => by
    have e : s0 ++ strOf [] = s0 := by apply ByteArray.ext; simp [strOf]
    rw [e]; rfl
  | n :: l, s0 => by
    have e : s0 ++ strOf (n :: l) = s0.push (UInt8.ofNat n.toNat) ++ strOf l := by apply ByteArray.ext; simp [strOf]
    rw [e, Enc.cells_cons]
    show rdS P (forIn (Value.int .u8 n :: u8E.cells l) s0 _) M = _
    rw [List.forIn_cons]
    exact rd_pushes l (s0.push (UInt8.ofNat n.toNat))
theorem semK_toString {P : Program} {st bt e : TypeId} {A : Option Addr} {n c : Nat} {l : List Int} {M : Mem} {K : Value → Mem → Prop} {Kp : List PanicEntry → Mem → Prop}
    (h1 : P.underlying bt = some (.slice e)) (h2 : P.underlying st = some .string) (h3 : P.underlying e = some (.int .u8)) (hs : Sl M A (u8E.cells l)) (hn : n = l.length) (k : K (.string (strOf l)) M) :
    semK P (convert bt st (.slice A n c)) M K Kp := by
  subst hn
  unfold semK
  refine awp_of_rdS P _ (x := Value.string (strOf l)) ?_ k
  unfold convert
  simp only [rd_bind, rd_underlying h1 M, rd_underlying h2 M, rd_underlying h3 M, Option.bind_some]
  unfold Conv.bytesToString
  match A, hs with
  | none, hs =>
    have : l = [] := by
      have := congrArg List.length (show u8E.cells l = [] from hs)
      rw [Enc.cells_len] at this
      cases l with
      | nil => rfl
      | cons a l => simp [u8E] at this
    subst this; rfl
  | some ⟨b, o, none⟩, hs =>
    have hl : (u8E.cells l).length = l.length * 1 := Enc.cells_len
    have hr := rd_firstCells (P := P) (M := M) (A := some ⟨b, o, none⟩) (n := l.length) (c := c) (z := 1) (m := l.length) hs hl
    unfold Builtin.firstCells at hr
    rw [Nat.mul_one] at hr
    simp only [rd_bind, hr, Option.bind_some]
    have hp := rd_pushes (P := P) (M := M) l ByteArray.empty
    have e : ByteArray.empty ++ strOf l = strOf l := ByteArray.ext (by rw [ByteArray.data_append]; exact Array.empty_append)
    rw [e] at hp
    simp only [List.forIn_toArray]
    erw [hp]; rfl
theorem Hp.toBytes {R : Mem} {L : List HP} {M : Mem} {P : Program} {st bt e : TypeId} {s : ByteArray} {K : Value → Mem → Prop} {Kp : List PanicEntry → Mem → Prop} (h : Hp R L M)
    (h1 : P.underlying bt = some (.slice e)) (h2 : P.underlying st = some .string) (h3 : P.underlying e = some (.int .u8))
    (k : ∀ R' A c M', R.le R' → RS u8E R' A c (bytesOf s) → Hp R' L M' → K (.slice A (bytesOf s).length c) M') :
    semK P (convert st bt (.string s)) M K Kp := by
  unfold semK convert
  refine awp_run (rd_underlying h2 M) ?_
  refine awp_run (rd_underlying h1 M) ?_
  simp only
  refine awp_run (rd_underlying h3 M) ?_
  simp only
  unfold Conv.stringToBytes
  show ∀ q, _
  intro q
  have hcap : s.size ≤ Question.cut (.appendCap s.size 0 e) q := by simp only [Question.cut]; omega
  generalize Question.cut (.appendCap s.size 0 e) q = nc at hcap
  intro b hb
  have hcs : ∀ j, j < (u8E.cells (bytesOf s)).length → (s.data.map (fun b => Value.int .u8 (b.toNat : Int)) ++ Array.replicate (nc - s.size) (Value.int .u8 0))[j]? = (u8E.cells (bytesOf s))[j]? := fun j hj => by
    rw [← strCells_eq] at hj ⊢
    rw [strCells_len] at hj
    rw [Array.getElem?_append_left (by simpa using hj)]
    simp [strCells]
  generalize hc0 : (s.data.map (fun b => Value.int .u8 (b.toNat : Int)) ++ Array.replicate (nc - s.size) (Value.int .u8 0)) = cs at hcs
  show awp P (markStringish ⟨b, 0, none⟩ >>= fun _ => pure (Value.slice (some ⟨b, 0, none⟩) s.size nc)) (M.set b (.cells cs e (0, 0))) K _
  unfold markStringish
  refine awp_bind P _ _ ?_
  refine awp_bind P _ _ ?_
  unfold shape
  simp only [awp, set_same, freeze, pure]
  refine ⟨by decide, rfl, ?_⟩
  have hf : (M.set b (.cells cs e (0, 0))).freeze ⟨b, cs.size, none⟩ 1 = M.set b (.cells cs e (cs.size, cs.size + 1)) := by
    funext i
    simp only [Mem.freeze, Mem.set]
    by_cases hi : i = b
    · simp [hi]
    · simp [hi]
  show K _ ((M.set b (.cells cs e (0, 0))).freeze ⟨b, cs.size, none⟩ 1)
  rw [hf]
  have h4 : Hp R (ob b (.cells cs e (cs.size, cs.size + 1)) :: L) (M.set b (.cells cs e (cs.size, cs.size + 1))) := h.new hb (by unfold ob; show (single b _) b = _; simp [single])
  obtain ⟨R', X, hX, g1, g2, g3⟩ := h4.seal
  have := k R' (some ⟨b, 0, none⟩) nc _ g1 ⟨fun j hj => ?_, by rw [bytesOf_len]; exact hcap⟩ g3
  · rwa [bytesOf_len] at this
  · have hb2 : R' b = some (.cells cs e (cs.size, cs.size + 1)) := g2 b _ (by unfold ob at hX; exact hX)
    rw [Nat.zero_add, ← hcs j hj]
    unfold Mem.ld
    simp only [hb2]; simp
section
variable {R : Mem} {L L' L'' : List HP} {M : Mem} {T : Nat} {A : Option Addr} {c : Nat} {l : List Int}
theorem Hp.rowAppendStr {P : Program} {t t' ty : Nat} {s : ByteArray} {K : Value → Mem → Prop} {Kp : List PanicEntry → Mem → Prop}
    (h : Hp R L M) [ha : RowAt A L Int u8E T c l L'] (El : ElemOk P t T 1 1 [.int .u8 0]) (hu : P.underlying t' = some .string) (hb : l.length + s.size ≤ 140737488355328)
    (g : ∀ A' c' M', Hp R (rowP u8E T A' c' (l ++ bytesOf s) :: L') M' → K (.slice A' (l ++ bytesOf s).length c') M') :
    semK P (Builtin.append_ #[t, t'] ty #[.slice A l.length c, .string s]) M K Kp := by
  have h2 : Hp R (own 1 T A l.length c (u8E.cells l) :: L') M := by
    have := h.pick ha.pick; unfold rowP at this; exact this
  obtain ⟨hu2, i, zv, hi, hs, hby, hz, hzz, hl, hpos⟩ := El
  have ho := h2.own_at
  refine semK_appendStr hu2 hu hi hz (by rw [hs, ← hl, ← hzz]; simp) (by rw [hs]; exact ho) hs (by rw [hby]; simpa using hb) (by omega) fun A' c' M' h1 hc h3 => ?_
  have := g A' c' M' (by
    unfold rowP
    rw [List.length_append, bytesOf_len, Enc.cells_app, ← strCells_eq]
    rw [hs] at h1
    refine h2.change (Q := own 1 T A' (l.length + s.size) c' (u8E.cells l ++ strCells s)) (D := blk A) (D' := blk A') Hp.own_dom hc (fun x hx => ?_) (by unfold own; exact h1.rst)
    rcases h3 with rfl | ⟨b, rfl, hb⟩
    · exact .inl hx
    · simp only [blk, List.mem_singleton] at hx; subst hx; exact .inr hb)
  rwa [List.length_append, bytesOf_len] at this
end
end Go.AF
