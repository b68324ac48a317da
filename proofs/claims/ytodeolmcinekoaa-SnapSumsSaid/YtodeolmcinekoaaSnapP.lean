/- A part of proofs about functions of one program: a condition over a partial memory that is enough for a call, and what calls answer by it. No condition of its own. -/
import Derived.Test.YtodeolmcinekoaaCrcM
import Derived.Test.YtodeolmcinekoaaChan2
import Derived.Test.YtodeolmcinekoaaAux
import Derived.Test.YtodeolmcinekoaaVSnap
/- Numbers as bytes, and their sums: the program's and the document's. -/
namespace Go.Proofs
open Go.AF
set_option linter.unusedVariables false
set_option maxRecDepth 100000
set_option maxHeartbeats 1000000
attribute [local irreducible] exI exB exS exP exSl exV nilc stc nwc semK semU bsp
theorem el_u8 : ElemOk Try.prog 151 5 1 1 [.int .u8 0] := ElemOk.mk' (zv := .int .u8 0) (by kernel_rfl) (by kernel_rfl) rfl (by omega)
theorem ul_bytes : Try.prog.underlying 151 = some (.slice 5) := by kernel_rfl
theorem ul_byte : Try.prog.underlying 5 = some (.int .u8) := by kernel_rfl
theorem ul_string : Try.prog.underlying 9 = some .string := by kernel_rfl
section
variable {R : Mem} {L L' : List HP} {M : Mem} {K : Value → Mem → Prop} {Kp : List PanicEntry → Mem → Prop}
theorem w8 {n : Nat} : IntKind.wrap .u8 (n : Int) = ((n % 256 : Nat) : Int) := by
  unfold IntKind.wrap
  simp only [IntKind.signed, Bool.false_and, Bool.false_eq_true, if_false, IntKind.bits]
  omega
theorem ofInt8 {n : Nat} (h : n < 256) : (BitVec.ofInt IntKind.u8.bits (n : Int)).toNat = n := by
  have : IntKind.u8.bits = 8 := rfl
  rw [this]; simp only [BitVec.ofInt_natCast, BitVec.toNat_ofNat]; exact Nat.mod_eq_of_lt (by omega)
theorem leb_Put {n : Nat} (h : Hp R L M) (hn : n < 18446744073709551616) (k : ∀ M', Hp R L M' → K (.string (strOf (lebN n))) M') : ACalls Try.prog 81 #[.int .u64 (n : Int)] M K Kp := by
  refine vc_leb_Put ⟨fun d ws M => ∃ (m : Nat) (A : Option Addr) (c : Nat) (l : List Int), ws = [.int .u64 (m : Int), .slice A l.length c] ∧ d = m ∧ m < 18446744073709551616 ∧ l ++ lebN m = lebN n ∧ l.length ≤ 100 ∧
    Hp R (rowP u8E 5 A c l :: L) M, ⟨_, n, none, 0, [], rfl, rfl, hn, rfl, by simp, h.row_nil _ _⟩, ?_⟩
  clear h
  rintro d _ _ A _ c M ⟨m, _, _, l, he, hd, hm, hl, hll, h⟩
  simp only [List.cons.injEq, Value.int.injEq, Value.slice.injEq, and_true, true_and] at he
  obtain ⟨rfl, rfl, rfl, rfl⟩ := he
  have hlen : (lebN n).length ≤ 10 := lebN_len 9 n (by have : (128 : Nat) ^ (9 + 1) = 1180591620717411303424 := rfl; omega)
  refine bsp_dec.2 ⟨fun hge => ?_, fun hlt => ?_⟩
  · have e := lebN_ge (n := m) (by omega)
    have e1 : IntKind.wrap .u8 (((Nat.bitwise or (BitVec.ofInt IntKind.u8.bits (IntKind.u8.wrap (m : Int))).toNat (BitVec.ofInt IntKind.u8.bits 128).toNat) : Nat) : Int) = ((m % 128 + 128 : Nat) : Int) := by
      rw [show IntKind.u8.wrap (m : Int) = ((m % 256 : Nat) : Int) from w8, ofInt8 (Nat.mod_lt _ (by omega))]
      have : (BitVec.ofInt IntKind.u8.bits 128).toNat = 128 := rfl
      rw [this]
      have h2 : Nat.bitwise or (m % 256) 128 = m % 128 + 128 := or128
      rw [h2, w8]
      exact congrArg _ (by omega)
    rw [e1]
    have hl2 : l.length < 10 := by
      have := congrArg List.length hl
      rw [List.length_append] at this
      have hp : 0 < (lebN m).length := by rw [e]; simp
      omega
    have e2 : Int.fdiv (m : Int) 128 = ((m / 128 : Nat) : Int) := by rw [Int.fdiv_eq_ediv_of_nonneg _ (by omega)]; omega
    rw [e2]
    repeat (first | (refine s_nwc h ?_; clear h; intro kb M h) | (refine s_stc h ?_; clear h; intro M h) | refine t_exI h ?_ | refine t_exB h ?_ | refine t_exS h ?_ | refine t_exP h ?_ | refine t_exSl h ?_ | refine t_exV h ?_ | refine u_exI ?_ | refine u_exB ?_ | refine u_exS ?_ | refine u_exP ?_ | refine u_exSl ?_ | refine u_exV ?_ | refine u_nilc ?_ | (apply Exists.intro; (repeat apply Exists.intro); refine And.intro rfl ?_) | (refine And.intro ?_ ?_; first | exact trivial | exact rfl | exact t_ld h | (refine lds_s (t_ld h) ?_; (repeat (refine lds_s (t_ld h) ?_)); exact lds_nil) | omega) | refine u_bspT ?_ | refine u_bspF ?_)
    refine h.rowAppend1 el_u8 [((m % 128 + 128 : Nat) : Int)] rfl rfl (by simp; omega) ?_
    clear h
    intro A' c' M h
    repeat (first | (refine s_nwc h ?_; clear h; intro kb M h) | (refine s_stc h ?_; clear h; intro M h) | refine t_exI h ?_ | refine t_exB h ?_ | refine t_exS h ?_ | refine t_exP h ?_ | refine t_exSl h ?_ | refine t_exV h ?_ | refine u_exI ?_ | refine u_exB ?_ | refine u_exS ?_ | refine u_exP ?_ | refine u_exSl ?_ | refine u_exV ?_ | refine u_nilc ?_ | (apply Exists.intro; (repeat apply Exists.intro); refine And.intro rfl ?_) | (refine And.intro ?_ ?_; first | exact trivial | exact rfl | exact t_ld h | (refine lds_s (t_ld h) ?_; (repeat (refine lds_s (t_ld h) ?_)); exact lds_nil) | omega) | refine u_bspT ?_ | refine u_bspF ?_)
    refine ⟨m / 128, by omega, m / 128, A', c', _, rfl, rfl, by omega, ?_, by simp; omega, h.fin1⟩
    rw [← hl, e]; simp
  · have e := lebN_lt (n := m) (by omega)
    have e1 : IntKind.wrap .u8 (m : Int) = (m : Int) := by rw [w8]; exact congrArg _ (by omega)
    rw [e1]
    repeat (first | (refine s_nwc h ?_; clear h; intro kb M h) | (refine s_stc h ?_; clear h; intro M h) | refine t_exI h ?_ | refine t_exB h ?_ | refine t_exS h ?_ | refine t_exP h ?_ | refine t_exSl h ?_ | refine t_exV h ?_ | refine u_exI ?_ | refine u_exB ?_ | refine u_exS ?_ | refine u_exP ?_ | refine u_exSl ?_ | refine u_exV ?_ | refine u_nilc ?_ | (apply Exists.intro; (repeat apply Exists.intro); refine And.intro rfl ?_) | (refine And.intro ?_ ?_; first | exact trivial | exact rfl | exact t_ld h | (refine lds_s (t_ld h) ?_; (repeat (refine lds_s (t_ld h) ?_)); exact lds_nil) | omega) | refine u_bspT ?_ | refine u_bspF ?_)
    refine h.rowAppend1 el_u8 [(m : Int)] rfl rfl (by simp; omega) ?_
    clear h
    intro A' c' M h
    repeat (first | (refine s_nwc h ?_; clear h; intro kb M h) | (refine s_stc h ?_; clear h; intro M h) | refine t_exI h ?_ | refine t_exB h ?_ | refine t_exS h ?_ | refine t_exP h ?_ | refine t_exSl h ?_ | refine t_exV h ?_ | refine u_exI ?_ | refine u_exB ?_ | refine u_exS ?_ | refine u_exP ?_ | refine u_exSl ?_ | refine u_exV ?_ | refine u_nilc ?_ | (apply Exists.intro; (repeat apply Exists.intro); refine And.intro rfl ?_) | (refine And.intro ?_ ?_; first | exact trivial | exact rfl | exact t_ld h | (refine lds_s (t_ld h) ?_; (repeat (refine lds_s (t_ld h) ?_)); exact lds_nil) | omega) | refine u_bspT ?_ | refine u_bspF ?_)
    rw [e] at hl
    rw [hl] at h ⊢
    refine semK_toString ul_bytes ul_string ul_byte (h.src (A := A') M h) rfl ?_
    exact u_exS (k _ h.fin0)
theorem leb_Zig {x : Int} (hx : -9223372036854775808 ≤ x ∧ x < 9223372036854775808) (h : Hp R L M) (k : K (.int .u64 (zigN x : Nat)) M) : ACalls Try.prog 82 #[.int .i64 x] M K Kp := by
  refine vc_leb_Zig ?_
  have : IntKind.wrap .u64 (((Nat.bitwise bne
    (BitVec.ofInt IntKind.u64.bits (IntKind.u64.wrap (IntKind.i64.wrap (x * 2 ^ min (Int.toNat 1) IntKind.i64.bits)))).toNat
    (BitVec.ofInt IntKind.u64.bits (IntKind.u64.wrap (x.fdiv (2 ^ min (Int.toNat 63) IntKind.i64.bits)))).toNat) : Nat) : Int) = (zigN x : Nat) := by
    have p1 : (2 : Int) ^ min (Int.toNat 1) IntKind.i64.bits = 2 := rfl
    have p2 : (2 : Int) ^ min (Int.toNat 63) IntKind.i64.bits = 9223372036854775808 := rfl
    have hb : IntKind.u64.bits = 64 := rfl
    rw [p1, p2, hb]
    have o64 : ∀ n : Nat, n < 18446744073709551616 → (BitVec.ofInt 64 (n : Int)).toNat = n := fun n hn => by
      simp only [BitVec.ofInt_natCast, BitVec.toNat_ofNat]; exact Nat.mod_eq_of_lt (by omega)
    by_cases h0 : 0 ≤ x
    · have a1 : IntKind.u64.wrap (IntKind.i64.wrap (x * 2)) = ((2 * x.toNat : Nat) : Int) := by rw [IntKind.wrap_u64, IntKind.wrap_i64]; omega
      have a2 : IntKind.u64.wrap (x.fdiv 9223372036854775808) = ((0 : Nat) : Int) := by rw [Int.fdiv_eq_ediv_of_nonneg _ (by omega), IntKind.wrap_u64]; omega
      rw [a1, a2, o64 _ (by omega), o64 _ (by omega)]
      have a3 : Nat.bitwise bne (2 * x.toNat) 0 = 2 * x.toNat := Nat.xor_zero _
      rw [a3, w64 (by omega)]
      unfold zigN; rw [if_pos h0]; omega
    · have a1 : IntKind.u64.wrap (IntKind.i64.wrap (x * 2)) = ((18446744073709551616 + 2 * x).toNat : Int) := by rw [IntKind.wrap_u64, IntKind.wrap_i64]; omega
      have a2 : IntKind.u64.wrap (x.fdiv 9223372036854775808) = ((18446744073709551615 : Nat) : Int) := by rw [Int.fdiv_eq_ediv_of_nonneg _ (by omega), IntKind.wrap_u64]; omega
      rw [a1, a2, o64 _ (by omega), o64 _ (by omega)]
      generalize hz : (18446744073709551616 + 2 * x).toNat = z
      have hz2 : z < 18446744073709551616 := by omega
      have a3 : Nat.bitwise bne z 18446744073709551615 = 18446744073709551615 - z := by
        have h1 : BitVec.ofNat 64 z ^^^ BitVec.allOnes 64 = ~~~ (BitVec.ofNat 64 z) := BitVec.xor_allOnes
        have h2 := congrArg BitVec.toNat h1
        rw [BitVec.toNat_xor, BitVec.toNat_not, BitVec.toNat_allOnes, BitVec.toNat_ofNat, Nat.mod_eq_of_lt (by omega)] at h2
        exact h2
      rw [a3, w64 (by omega)]
      unfold zigN; rw [if_neg h0]; omega
  rw [this]; exact k
theorem ref01_Zig {x : Int} (hx : -9223372036854775808 ≤ x ∧ x < 9223372036854775808) (h : Hp R L M) (k : K (.int .u64 (zigN x : Nat)) M) : ACalls Try.prog 85 #[.int .i64 x] M K Kp := by
  refine vc_shunterref01_Zig ?_
  refine bsp_dec.2 ⟨fun h0 => ?_, fun h0 => ?_⟩
  · have : IntKind.wrap .u64 (2 * IntKind.wrap .u64 x) = (zigN x : Nat) := by
      rw [IntKind.wrap_u64, IntKind.wrap_u64]; unfold zigN; rw [if_pos (by omega)]; omega
    rw [this]; exact k
  · have : IntKind.wrap .u64 (IntKind.wrap .u64 (2 * IntKind.wrap .u64 (IntKind.wrap .i64 (0 - IntKind.wrap .i64 (x + 1)))) + 1) = (zigN x : Nat) := by
      rw [wrap_in (n := x + 1) (by omega) (by omega), wrap_in (by omega) (by omega), IntKind.wrap_u64, IntKind.wrap_u64, IntKind.wrap_u64]; unfold zigN; rw [if_neg (by omega)]; omega
    rw [this]; exact k
theorem ref01_Put : ∀ {n : Nat} {L : List HP} {K : Value → Mem → Prop} {M : Mem}, Hp R L M → n < 18446744073709551616 → (∀ M', Hp R L M' → K (.string (strOf (lebN n))) M') → ACalls Try.prog 84 #[.int .u64 (n : Int)] M K Kp := by
  intro n
  induction n using Nat.strongRecOn with
  | ind n ih =>
  intro L K M h hn k
  refine vc_shunterref01_Put ?_
  refine bsp_dec.2 ⟨fun hlt => ?_, fun hge => ?_⟩
  · have e := lebN_lt (n := n) (by omega)
    have e1 : IntKind.wrap .u8 (n : Int) = (n : Int) := by rw [w8]; exact congrArg _ (by omega)
    rw [e1]
    repeat (first | (refine s_nwc h ?_; clear h; intro kb M h) | (refine s_stc h ?_; clear h; intro M h) | refine t_exI h ?_ | refine t_exB h ?_ | refine t_exS h ?_ | refine t_exP h ?_ | refine t_exSl h ?_ | refine t_exV h ?_ | refine u_exI ?_ | refine u_exB ?_ | refine u_exS ?_ | refine u_exP ?_ | refine u_exSl ?_ | refine u_exV ?_ | refine u_nilc ?_ | (apply Exists.intro; (repeat apply Exists.intro); refine And.intro rfl ?_) | (refine And.intro ?_ ?_; first | exact trivial | exact rfl | exact t_ld h | (refine lds_s (t_ld h) ?_; (repeat (refine lds_s (t_ld h) ?_)); exact lds_nil) | omega) | refine u_bspT ?_ | refine u_bspF ?_)
    replace h := (h.pt kb).row_pt (E := u8E) (l := [(n : Int)]) rfl
    refine semK_toString ul_bytes ul_string ul_byte (h.src (A := some ⟨kb, 0, none⟩) M h) rfl ?_
    rw [e] at k
    exact u_exS (k _ h.fin0)
  have e := lebN_ge (n := n) (by omega)
  have e1 : IntKind.wrap .u8 (IntKind.wrap .u8 (Int.tmod (n : Int) 128) + 128) = ((n % 128 + 128 : Nat) : Int) := by
    have : Int.tmod (n : Int) 128 = ((n % 128 : Nat) : Int) := rfl
    rw [this, w8, show (((n % 128 % 256 : Nat) : Int) + 128) = ((n % 128 % 256 + 128 : Nat) : Int) from by simp, w8]
    exact congrArg _ (by omega)
  have e2 : IntKind.wrap .u64 (Int.tdiv (n : Int) 128) = ((n / 128 : Nat) : Int) := by
    have : Int.tdiv (n : Int) 128 = ((n / 128 : Nat) : Int) := rfl
    rw [this, w64 (by omega)]
  rw [e1, e2]
  have hlen : (lebN (n / 128)).length ≤ 10 := lebN_len 9 _ (by have : (128 : Nat) ^ (9 + 1) = 1180591620717411303424 := rfl; omega)
  have hs : strOf [((n % 128 + 128 : Nat) : Int)] ++ strOf (lebN (n / 128)) = strOf (lebN n) := by rw [e, ← strOf_app]; rfl
  have hsz : (strOf [((n % 128 + 128 : Nat) : Int)]).size + (strOf (lebN (n / 128))).size ≤ 9223372036854775807 := by rw [strOf_size, strOf_size]; simp; omega
  refine ⟨fun ws M => ws = [.string (strOf (lebN n))] ∧ Hp R L M, ⟨by omega, by omega, ?_, ?_, trivial⟩, ?_⟩
  · refine s_nwc h ?_
    intro kb M h
    replace h := (h.pt kb).row_pt (E := u8E) (l := [((n % 128 + 128 : Nat) : Int)]) rfl
    refine ⟨?_, ?_, trivial⟩
    · refine semK_toString ul_bytes ul_string ul_byte (h.src (A := some ⟨kb, 0, none⟩) M h) rfl ?_
      refine u_exS ?_
      refine ih (n / 128) (by omega) h (by omega) fun M' h' => ?_
      exact u_exS ⟨hsz, by rw [hs], h'.fin0⟩
    · refine ih (n / 128) (by omega) h (by omega) fun M' h' => ?_
      refine u_exS ?_
      refine semK_toString ul_bytes ul_string ul_byte (h'.src (A := some ⟨kb, 0, none⟩) M' h') rfl ?_
      exact u_exS ⟨hsz, by rw [hs], h'.fin0⟩
  · refine ih (n / 128) (by omega) h (by omega) fun M h => ?_
    refine u_exS ?_
    refine s_nwc h ?_
    intro kb M h
    replace h := (h.pt kb).row_pt (E := u8E) (l := [((n % 128 + 128 : Nat) : Int)]) rfl
    refine semK_toString ul_bytes ul_string ul_byte (h.src (A := some ⟨kb, 0, none⟩) M h) rfl ?_
    exact u_exS ⟨hsz, by rw [hs], h.fin0⟩
  · rintro _ s M ⟨e, h⟩
    simp only [List.cons.injEq, Value.string.injEq, and_true] at e
    subst e
    exact k _ h
/-- The document's sum. -/
theorem ref03_Sum {l : List Int} (h : Hp R L M) (hl : ∀ n ∈ l, 0 ≤ n ∧ n < 256) (hs : l.length ≤ 1000000) (k : K (.int .u32 (crcOf l : Nat)) M) : ACalls Try.prog 86 #[.string (strOf l)] M K Kp := by
  have k' := fun (_ : Unit) => k
  clear k
  refine vc_shunterref03_Sum ⟨fun d ws M' => ∃ i : Nat, ws = [.int .u32 (crcF 4294967295 (l.take i) : Nat), .int .i64 (i : Int)] ∧ d = l.length - i ∧ i ≤ l.length ∧ M' = M, ⟨_, 0, rfl, rfl, by omega, rfl⟩, ?_⟩
  rintro d _ _ ii M1 ⟨i, he, hd, hi, rfl⟩
  simp only [List.cons.injEq, Value.int.injEq, and_true, true_and] at he
  obtain ⟨rfl, rfl⟩ := he
  have hlt : crcF 4294967295 (l.take i) < 4294967296 := crcF_lt (fun n hn => hl n (List.mem_of_mem_take hn)) (by omega)
  rw [strOf_size]
  refine bsp_dec.2 ⟨fun hil => ?_, fun hge => ?_⟩
  · obtain ⟨b, hb⟩ := idx_ex (l := l) (i := i) (by omega)
    have hb2 := hl b (List.mem_of_getElem? hb)
    rw [Int.toNat_natCast, strAt_of hl hb]
    obtain ⟨q, rfl⟩ := Int.eq_ofNat_of_zero_le hb2.1
    have hstep : crcF 4294967295 (l.take (i + 1)) = crcB (crcF 4294967295 (l.take i)) q := by rw [take_snoc hb, crcF_snoc, Int.toNat_natCast]
    generalize crcF 4294967295 (l.take i) = x at *
    rw [w32 (n := q) (by omega)]
    refine ⟨by omega, hil, ?_⟩
    have hz : x ^^^ q < 4294967296 := Nat.xor_lt_two_pow (n := 32) hlt (by omega)
    refine ⟨fun d ws M' => ∃ j : Nat, ws = [.int .u32 ((crcI j (x ^^^ q) ^^^ (q / 2 ^ j) : Nat) : Int), .int .u32 ((q / 2 ^ j : Nat) : Int), .int .i64 (j : Int)] ∧ d = 8 - j ∧ j ≤ 8 ∧ M' = M1, ⟨_, 0, by
      have e : crcI 0 (x ^^^ q) ^^^ (q / 2 ^ 0) = x := by simp [crcI, Nat.xor_assoc]
      rw [e]; simp, rfl, by omega, rfl⟩, ?_⟩
    rintro d2 _ _ _ jj M2 ⟨j, he, hd2, hj, rfl⟩
    simp only [List.cons.injEq, Value.int.injEq, and_true, true_and] at he
    obtain ⟨rfl, rfl, rfl⟩ := he
    have hI := crcI_lt hz j
    have hq : q / 2 ^ j ≤ q := Nat.div_le_self ..
    have hx : crcI j (x ^^^ q) ^^^ (q / 2 ^ j) < 4294967296 := Nat.xor_lt_two_pow (n := 32) hI (by omega)
    have hq2 : q / 2 ^ j / 2 = q / 2 ^ (j + 1) := by rw [Nat.div_div_eq_div_mul, ← Nat.pow_succ]
    have hT : crcI (j + 1) (x ^^^ q) = crcT (crcI j (x ^^^ q)) := rfl
    have hb2' : q / 2 ^ j < 4294967296 := by omega
    refine bsp_dec.2 ⟨fun hj8 => ?_, fun hj8 => ?_⟩
    · rw [wrap_succ (by omega)]
      have hxb : (crcI j (x ^^^ q) ^^^ (q / 2 ^ j)) ^^^ (q / 2 ^ j) = crcI j (x ^^^ q) := by rw [Nat.xor_assoc, Nat.xor_self, Nat.xor_zero]
      generalize crcI j (x ^^^ q) = I at *
      generalize q / 2 ^ j = b at *
      have hodd := xor_odd (I ^^^ b) b
      rw [hxb] at hodd
      have hhalf := xor_half I b
      generalize hX : I ^^^ b = X at *
      have e1 : (IntKind.wrap .u32 ((X : Int) + (b : Int))).tmod 2 = ((I % 2 : Nat) : Int) := by
        rw [IntKind.wrap_u32, Int.tmod_eq_emod_of_nonneg (by omega)]; omega
      have e2 : IntKind.wrap .u32 ((X : Int).tdiv 2) = ((X / 2 : Nat) : Int) := by
        have : (X : Int).tdiv 2 = ((X / 2 : Nat) : Int) := rfl
        rw [this, w32 (by omega)]
      have e3 : IntKind.wrap .u32 ((b : Int).tdiv 2) = ((b / 2 : Nat) : Int) := by
        have : (b : Int).tdiv 2 = ((b / 2 : Nat) : Int) := rfl
        rw [this, w32 (by omega)]
      have e4 : (match BinOp.quo with | BinOp.quo => IntKind.u32.wrap ((X : Int).tdiv 2) | x_1 => (X : Int).tmod 2) = ((X / 2 : Nat) : Int) := e2
      rw [e1, e2, e3]
      refine ⟨by omega, by omega, by omega, ?_⟩
      refine bsp_eq.2 ⟨fun ho => ?_, fun ho => ?_⟩
      · have ho2 : I % 2 = 1 := by omega
        refine ⟨8 - (j + 1), by omega, j + 1, ?_, rfl, by omega, rfl⟩
        have e5 := xor32 (a := X / 2) (b := 3988292384) (by omega) (by omega)
        rw [hT, ← hq2]
        refine congrArg (fun v => [Value.int .u32 v, Value.int .u32 ((b / 2 : Nat) : Int), Value.int .i64 ((j + 1 : Nat) : Int)]) (Eq.trans e5 (congrArg _ ?_))
        unfold crcT
        rw [if_pos ho2, hhalf, Nat.xor_assoc, Nat.xor_assoc, Nat.xor_comm (b / 2)]; rfl
      · have ho2 : ¬ I % 2 = 1 := by omega
        refine ⟨8 - (j + 1), by omega, j + 1, ?_, rfl, by omega, rfl⟩
        rw [hT, ← hq2]
        unfold crcT
        rw [if_neg ho2, hhalf]
    · obtain rfl : j = 8 := by omega
      have e : crcI 8 (x ^^^ q) ^^^ (q / 2 ^ 8) = crcB x q := by
        rw [show (2 : Nat) ^ 8 = 256 from rfl, show q / 256 = 0 from by omega, Nat.xor_zero]; rfl
      rw [e, wrap_succ (by omega)]
      exact ⟨l.length - (i + 1), by omega, i + 1, by rw [hstep], rfl, by omega, rfl⟩
  · obtain rfl : i = l.length := by omega
    rw [List.take_length] at hlt ⊢
    have e : IntKind.wrap .u32 (4294967295 - ((crcF 4294967295 l : Nat) : Int)) = ((crcOf l : Nat) : Int) := by
      unfold crcOf
      rw [show (4294967295 - ((crcF 4294967295 l : Nat) : Int)) = ((4294967295 - crcF 4294967295 l : Nat) : Int) from by omega]
      exact w32 (by omega)
    rw [e]; exact k' ()

theorem row_all {α : Type} {E : Enc α} {T c : Nat} {b : Nat} {l : List α} {G : List Value → Prop} (h : Hp R L M) [hp : RowAt (some ⟨b, 0, none⟩) L α E T c l L'] {n : Nat} (hn : l.length * E.z = n) (g : G (E.cells l)) : exL (M.lds ⟨b, 0, none⟩ 0 n) G := by
  subst hn
  have hs := h.src (A := some ⟨b, 0, none⟩) M h
  have := lds_of_sl (M := M) (b := b) (o := 0) (E.cells l) 0 (fun j hj => by rw [Nat.zero_add]; exact hs j hj)
  rw [Enc.cells_len] at this
  rw [this]; exact g
theorem putL_eq : ∀ (vs cs : List Value) (o : Nat), o + vs.length ≤ cs.length → putL cs o vs = cs.take o ++ vs ++ cs.drop (o + vs.length)
  | [], cs, o, _ => by simp [putL]
  | v :: vs, cs, o, h => by
    rw [List.length_cons] at h
    rw [putL, putL_eq vs (cs.set o v) (o + 1) (by rw [List.length_set]; omega)]
    rw [List.length_cons, show o + 1 + vs.length = o + (vs.length + 1) from by omega, List.drop_set_of_lt (by omega)]
    have : (cs.set o v).take (o + 1) = cs.take o ++ [v] := by
      rw [List.take_add_one, List.getElem?_set_self (by omega), List.take_set_of_le (Nat.le_refl o)]; rfl
    rw [this, List.append_assoc, List.append_assoc, List.append_assoc]; rfl
theorem putL_all {cs vs : List Value} (h : vs.length = cs.length) : putL cs 0 vs = vs := by
  rw [putL_eq vs cs 0 (by omega)]; simp [h]
theorem s_stL {b T n : Nat} {cs vs : List Value} {G : Mem → Prop} (h : Hp R L M) [hp : PtAt b L cs T L'] (hc : cs.length = n) (hv : vs.length = n) (hpl : ∀ v ∈ vs, Value.plainCell v = true) (k : ∀ M', Hp R (pt b vs T :: L') M' → G M') : stL M b 0 vs n G := by
  have h2 := h.pick hp.pick
  have hb := h2.pt_at
  refine ⟨hv, hpl, ⟨cs.toArray, T, hb, by simp [hc]⟩, k _ ?_⟩
  have : M.putC b 0 vs = M.set b (.cells vs.toArray T (0, 0)) := by
    funext i
    unfold Mem.putC Mem.set
    by_cases hi : i = b
    · subst hi
      rw [if_pos rfl, if_pos rfl, hb]
      have e : putL cs 0 vs = vs := putL_all (by omega)
      show some (Obj.cells (putL cs.toArray.toList 0 vs).toArray T (0, 0)) = _
      rw [show cs.toArray.toList = cs from rfl, e]
    · rw [if_neg hi, if_neg hi]
  rw [this]
  exact h2.set (x := .cells cs.toArray T (0, 0)) (fun A ha => by unfold pt at ha; exact ha) fun A ha => by unfold pt; exact set_same

theorem crc_table (h : Hp R L M) (k : ∀ M', Hp R L M' → K (.agg ⟨u32E.cells ((List.range 256).map fun i => ((crcI 8 i : Nat) : Int))⟩) M') : ACalls Try.prog 111 #[] M K Kp := by
  refine vc_crc_table ?_
  refine s_nwc h ?_
  clear h; intro k1 M h
  refine s_nwc h ?_
  clear h; intro k3 M h
  replace h := (h.pt k3).row_pt (E := u32E) (l := (List.range 256).map fun _ => 0) rfl
  refine ⟨fun d ws M => ∃ i : Nat, ws = [.int .i64 (i : Int)] ∧ d = 256 - i ∧ i ≤ 256 ∧
    Hp R (rowP u32E 194 (some ⟨k3, 0, none⟩) 256 ((List.range 256).map fun j => if j < i then ((crcI 8 j : Nat) : Int) else 0) :: pt k1 (u32E.cells ((List.range 256).map fun _ => 0)) 194 :: L) M, ⟨_, 0, rfl, rfl, by omega, h⟩, ?_⟩
  clear h
  rintro d _ ii M ⟨i, he, hd, hi, h⟩
  simp only [List.cons.injEq, Value.int.injEq, and_true, true_and] at he
  subst he
  refine bsp_dec.2 ⟨fun hlt => ?_, fun hge => ?_⟩
  · rw [w32 (n := i) (by omega)]
    have hI : ∀ j, crcI j i < 4294967296 := fun j => crcI_lt (by omega) j
    refine ⟨fun d2 ws M' => ∃ j : Nat, ws = [.int .u32 (crcI j i : Nat), .int .i64 (j : Int)] ∧ d2 = 8 - j ∧ j ≤ 8 ∧ M' = M, ⟨_, 0, rfl, rfl, by omega, rfl⟩, ?_⟩
    rintro d2 _ _ jj M2 ⟨j, he, hd2, hj, rfl⟩
    simp only [List.cons.injEq, Value.int.injEq, and_true, true_and] at he
    obtain ⟨rfl, rfl⟩ := he
    refine bsp_dec.2 ⟨fun hj8 => ?_, fun hj8 => ?_⟩
    · have hT : crcI (j + 1) i = crcT (crcI j i) := rfl
      have hIj := hI j
      rw [wrap_succ (by omega)]
      generalize crcI j i = x at *
      have e1 : IntKind.wrap .u32 (((Nat.bitwise and (BitVec.ofInt IntKind.u32.bits (x : Int)).toNat (BitVec.ofInt IntKind.u32.bits 1).toNat) : Nat) : Int) = ((x % 2 : Nat) : Int) := by
        rw [ofInt32 hIj, show (BitVec.ofInt IntKind.u32.bits 1).toNat = 1 from rfl]
        have : Nat.bitwise and x 1 = x % 2 := Nat.and_one_is_mod x
        rw [this, w32 (by omega)]
      have p1 : (2 : Int) ^ min (Int.toNat 1) IntKind.u32.bits = 2 := rfl
      have e2 : Int.fdiv (x : Int) 2 = ((x / 2 : Nat) : Int) := by rw [Int.fdiv_eq_ediv_of_nonneg _ (by omega)]; omega
      rw [e1, p1, e2]
      refine bsp_eq.2 ⟨fun ho => ?_, fun ho => ?_⟩
      · refine ⟨8 - (j + 1), by omega, j + 1, ?_, rfl, by omega, rfl⟩
        have e5 := xor32 (a := x / 2) (b := 3988292384) (by omega) (by omega)
        rw [hT]
        refine congrArg (fun v => [Value.int .u32 v, Value.int .i64 ((j + 1 : Nat) : Int)]) (Eq.trans e5 (congrArg _ ?_))
        unfold crcT
        rw [if_pos (by omega)]; rfl
      · refine ⟨8 - (j + 1), by omega, j + 1, ?_, rfl, by omega, rfl⟩
        rw [hT]
        unfold crcT
        rw [if_neg (by omega)]
    · obtain rfl : j = 8 := by omega
      refine ⟨by omega, by omega, ?_⟩
      simp only [Int.toNat_natCast]
      refine s_row (a' := ((crcI 8 i : Nat) : Int)) i 0 h (rm_at (by omega)) (by decide) rfl (by simp [u32E]) ?_
      clear h; intro M h
      rw [wrap_succ (by omega)]
      refine ⟨256 - (i + 1), by omega, i + 1, rfl, rfl, by omega, ?_⟩
      rw [rm_set, rm_congr (g := fun j => if j < i + 1 then ((crcI 8 j : Nat) : Int) else 0)] at h
      · exact h
      · intro j _
        by_cases h1 : j = i
        · subst h1; simp
        · simp only [h1, if_false]
          by_cases h2 : j < i
          · rw [if_pos h2, if_pos (by omega)]
          · rw [if_neg h2, if_neg (by omega)]
  · obtain rfl : i = 256 := by omega
    rw [rm_congr (g := fun j => ((crcI 8 j : Nat) : Int)) (fun j hj => by simp [hj])] at h
    generalize hl : (List.range 256).map (fun i => ((crcI 8 i : Nat) : Int)) = l at *
    have hll : l.length = 256 := by rw [← hl]; simp
    refine row_all h (by rw [hll]; rfl) ?_
    refine s_stL h (by rw [Enc.cells_len]; simp; rfl) (by show (u32E.cells l).length = 256; rw [Enc.cells_len, hll]; rfl) (fun v hv => Enc.cells_plain v hv) ?_
    clear h; intro M h
    have h2 := (h.pt k1).row_pt (E := u32E) (l := l) rfl
    refine row_all h2 (by rw [hll]; rfl) ?_
    exact k _ h2.fin0
end
end Go.Proofs
