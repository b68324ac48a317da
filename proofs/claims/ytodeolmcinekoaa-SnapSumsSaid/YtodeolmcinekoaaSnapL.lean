/- A part of proofs about functions of one program: a condition over a partial memory that is enough for a call, and what calls answer by it. No condition of its own. -/
import Derived.Test.YtodeolmcinekoaaSnapP
import Derived.Test.YtodeolmcinekoaaArgs
namespace Go.Proofs
open Go.AF
set_option linter.unusedVariables false
set_option maxRecDepth 100000
set_option maxHeartbeats 1000000
attribute [local irreducible] exI exB exS exP exSl exV nilc stc nwc semK semU bsp
section
variable {R : Mem} {L L' : List HP} {M : Mem} {K : Value → Mem → Prop} {Kp : List PanicEntry → Mem → Prop}
theorem ones32 : (BitVec.ofInt IntKind.u32.bits (if IntKind.u32.signed = true then -1 else IntKind.u32.max)).toNat = 4294967295 := by decide
theorem inv32 {x : Nat} (h : x < 4294967296) : IntKind.wrap .u32 (((Nat.bitwise bne (BitVec.ofInt IntKind.u32.bits (if IntKind.u32.signed = true then -1 else IntKind.u32.max)).toNat (BitVec.ofInt IntKind.u32.bits (x : Int)).toNat) : Nat) : Int) = ((4294967295 - x : Nat) : Int) := by
  rw [ones32, ofInt32 h]
  have : Nat.bitwise bne 4294967295 x = 4294967295 - x := not32 h
  rw [this, w32 (by omega)]
theorem crc_Add {x : Nat} {l : List Int} (hx : x < 4294967296) (hl : ∀ n ∈ l, 0 ≤ n ∧ n < 256) (hs : l.length ≤ 1000000) (h : Hp R L M)
    (k : ∀ R' M', R.le R' → Hp R' L M' → K (.agg #[.int .u32 (4294967295 - crcF (4294967295 - x) l : Nat)]) M') : ACalls Try.prog 106 #[.agg #[.int .u32 (x : Int)], .string (strOf l)] M K Kp := by
  refine vc_crc_State_Add ?_
  refine s_nwc h ?_
  clear h; intro k1 M h
  refine s_nwc h ?_
  clear h; intro k3 M h
  refine crc_table h ?_
  clear h; intro M h
  refine ⟨_, by rw [Enc.cells_len]; simp; rfl, rfl, ?_⟩
  refine s_nwc h ?_
  clear h; intro k8 M h
  refine s_stL h rfl (by show (u32E.cells _).length = 256; rw [Enc.cells_len]; simp; rfl) (fun v hv => Enc.cells_plain v hv) ?_
  clear h; intro M h
  refine t_exI h ?_
  refine h.toBytes ul_bytes ul_string ul_byte fun R1 A c M' g1 hA h' => ?_
  clear h
  have h := h'
  clear h'
  rw [bytesOf_strOf hl] at hA ⊢
  rw [inv32 hx]
  refine u_exSl ?_
  refine ⟨fun d ws M => ∃ i : Nat, ws = [.int .u32 (crcF (4294967295 - x) (l.take i) : Nat), .int .i64 (i : Int)] ∧ d = l.length - i ∧ i ≤ l.length ∧
    Hp R1 (pt k8 (u32E.cells ((List.range 256).map fun i => ((crcI 8 i : Nat) : Int))) 194 :: pt k3 [.int .u32 0] 188 :: L) M, ⟨_, 0, rfl, rfl, by omega, h.sub (by repeat (first | exact Sub.refl | refine Sub.cons (by first | exact Pick.here | exact (.there .here) | exact (.there (.there .here)) | exact (.there (.there (.there .here))) | exact (.there (.there (.there (.there .here)))) | exact (.there (.there (.there (.there (.there .here))))) | exact (.there (.there (.there (.there (.there (.there .here)))))) | exact (.there (.there (.there (.there (.there (.there (.there .here))))))) | exact (.there (.there (.there (.there (.there (.there (.there (.there .here)))))))) | exact (.there (.there (.there (.there (.there (.there (.there (.there (.there .here))))))))) | exact (.there (.there (.there (.there (.there (.there (.there (.there (.there (.there .here)))))))))) | exact (.there (.there (.there (.there (.there (.there (.there (.there (.there (.there (.there .here))))))))))) | exact (.there (.there (.there (.there (.there (.there (.there (.there (.there (.there (.there (.there .here)))))))))))) | exact (.there (.there (.there (.there (.there (.there (.there (.there (.there (.there (.there (.there (.there .here))))))))))))) | exact (.there (.there (.there (.there (.there (.there (.there (.there (.there (.there (.there (.there (.there (.there .here)))))))))))))) | exact (.there (.there (.there (.there (.there (.there (.there (.there (.there (.there (.there (.there (.there (.there (.there .here)))))))))))))))) ?_ | refine Sub.drop ?_))⟩, ?_⟩
  clear h
  rintro d _ _ ii M ⟨i, he, hd, hi, h⟩
  simp only [List.cons.injEq, Value.int.injEq, and_true, true_and] at he
  obtain ⟨rfl, rfl⟩ := he
  have hlt : crcF (4294967295 - x) (l.take i) < 4294967296 := crcF_lt (fun n hn => hl n (List.mem_of_mem_take hn)) (by omega)
  refine bsp_dec.2 ⟨fun hil => ?_, fun hge => ?_⟩
  · obtain ⟨b, hb⟩ := idx_ex (l := l) (i := i) (by omega)
    have hb2 := hl b (List.mem_of_getElem? hb)
    obtain ⟨q, rfl⟩ := Int.eq_ofNat_of_zero_le hb2.1
    have hstep : crcF (4294967295 - x) (l.take (i + 1)) = crcB (crcF (4294967295 - x) (l.take i)) q := by rw [take_snoc hb, crcF_snoc, Int.toNat_natCast]
    generalize crcF (4294967295 - x) (l.take i) = y at *
    obtain ⟨b1, o1, rfl⟩ := hA.some (by omega) (by decide)
    refine ⟨by omega, hil, ?_⟩
    refine u_nilc ?_
    simp only [Int.toNat_natCast]
    refine v_exI (hA.src.at h (i := i) (j := 0) hb rfl (by simp [u8E])) ?_
    have e1 : IntKind.wrap .u8 (((Nat.bitwise bne (BitVec.ofInt IntKind.u8.bits (IntKind.u8.wrap (y : Int))).toNat (BitVec.ofInt IntKind.u8.bits (q : Int)).toNat) : Nat) : Int) = (((y ^^^ q) % 256 : Nat) : Int) := by
      rw [show IntKind.u8.wrap (y : Int) = ((y % 256 : Nat) : Int) from w8, ofInt8 (Nat.mod_lt _ (by omega)), ofInt8 (by omega), w8]
      have h1 := Nat.xor_mod_two_pow (a := y) (b := q) (n := 8)
      have h2 := Nat.xor_mod_two_pow (a := y % 256) (b := q) (n := 8)
      rw [show (2 : Nat) ^ 8 = 256 from rfl] at h1 h2
      have h3 : Nat.bitwise bne (y % 256) q = (y % 256) ^^^ q := rfl
      rw [h3, h1, h2, Nat.mod_mod]
    rw [e1]
    have hz := Nat.mod_lt (y ^^^ q) (show 256 > 0 by omega)
    have htab := crcB_table (x := y) (b := q) (by omega)
    generalize (y ^^^ q) % 256 = z at *
    refine ⟨by omega, by omega, ?_⟩
    simp only [Int.toNat_natCast]
    have s8 : ∀ L', Src R1 (pt k8 (u32E.cells ((List.range 256).map fun i => ((crcI 8 i : Nat) : Int))) 194 :: L') (some ⟨k8, 0, none⟩) (u32E.cells ((List.range 256).map fun i => ((crcI 8 i : Nat) : Int))) := fun L' => Src.pt .here
    refine v_exI ((s8 _).at h (i := z) (j := 0) (rm_at hz) rfl (by simp [u32E])) ?_
    have hzI : crcI 8 z < 4294967296 := crcI_lt (by omega) 8
    have e2 : (y : Int).fdiv (2 ^ min (Int.toNat 8) IntKind.u32.bits) = ((y / 256 : Nat) : Int) := by
      rw [show (2 : Int) ^ min (Int.toNat 8) IntKind.u32.bits = 256 from rfl, Int.fdiv_eq_ediv_of_nonneg _ (by omega)]; omega
    rw [e2, xor32 (by omega) hzI, htab, ← hstep, wrap_succ (by omega)]
    exact ⟨l.length - (i + 1), by omega, i + 1, rfl, rfl, by omega, h⟩
  · obtain rfl : i = l.length := by omega
    rw [List.take_length] at hlt ⊢
    rw [inv32 hlt]
    repeat (first | (refine s_nwc h ?_; clear h; intro kb M h) | (refine s_stc h ?_; clear h; intro M h) | refine t_exI h ?_ | refine t_exB h ?_ | refine t_exS h ?_ | refine t_exP h ?_ | refine t_exSl h ?_ | refine t_exV h ?_ | refine u_exI ?_ | refine u_exB ?_ | refine u_exS ?_ | refine u_exP ?_ | refine u_exSl ?_ | refine u_exV ?_ | refine u_nilc ?_ | (apply Exists.intro; (repeat apply Exists.intro); refine And.intro rfl ?_) | (refine And.intro ?_ ?_; first | exact trivial | exact rfl | exact t_ld h | (refine lds_s (t_ld h) ?_; (repeat (refine lds_s (t_ld h) ?_)); exact lds_nil) | omega) | refine u_bspT ?_ | refine u_bspF ?_)
    exact k R1 _ g1 h.fin0

theorem crc_Of {b c : Nat} {l : List Int} (hl : ∀ n ∈ l, 0 ≤ n ∧ n < 256) (hs : l.length ≤ 1000000) (h : Hp R L M) [o : LdAt b 0 L (.string (strOf l))]
    (k : ∀ R' M', R.le R' → Hp R' L M' → K (.int .u32 (crcOf l : Nat)) M') : ACalls Try.prog 83 #[.slice (some ⟨b, 0, none⟩) 1 c] M K Kp := by
  refine vc_crc_Of ?_
  refine s_nwc h ?_
  clear h; intro k1 M h
  refine ⟨fun d ws M => ∃ (i : Nat) (R' : Mem), ws = [.int .i64 (i : Int)] ∧ d = 1 - i ∧ i ≤ 1 ∧ R.le R' ∧ Hp R' (pt k1 [.int .u32 (if i = 0 then 0 else crcOf l : Nat)] 188 :: L) M, ⟨_, 0, R, rfl, rfl, by omega, Mem.le_refl R, h⟩, ?_⟩
  clear h
  rintro d _ ii M ⟨i, R1, he, hd, hi, g1, h⟩
  simp only [List.cons.injEq, Value.int.injEq, and_true, true_and] at he
  subst he
  refine bsp_dec.2 ⟨fun hil => ?_, fun hge => ?_⟩
  · obtain rfl : i = 0 := by omega
    refine ⟨by omega, hil, u_nilc ?_⟩
    have : (M.ld ⟨b, 0 + Int.toNat ((0 : Nat) : Int), none⟩) = some (.string (strOf l)) := o.ld R1 M h.drop
    refine v_exS this ?_
    refine t_exI h ?_
    refine crc_Add (x := 0) (by omega) hl hs h fun R2 M' g2 h' => ?_
    clear h
    have h := h'
    clear h'
    refine ⟨_, rfl, ?_⟩
    refine s_stc h ?_
    clear h; intro M h
    exact ⟨0, by omega, 1, R2, by rw [wrap_succ (by omega)], rfl, by omega, Mem.le_trans g1 g2, h⟩
  · obtain rfl : i = 1 := by omega
    refine t_exI h ?_
    refine vc_crc_State_Sum ?_
    repeat (first | (refine s_nwc h ?_; clear h; intro kb M h) | (refine s_stc h ?_; clear h; intro M h) | refine t_exI h ?_ | refine t_exB h ?_ | refine t_exS h ?_ | refine t_exP h ?_ | refine t_exSl h ?_ | refine t_exV h ?_ | refine u_exI ?_ | refine u_exB ?_ | refine u_exS ?_ | refine u_exP ?_ | refine u_exSl ?_ | refine u_exV ?_ | refine u_nilc ?_ | (apply Exists.intro; (repeat apply Exists.intro); refine And.intro rfl ?_) | (refine And.intro ?_ ?_; first | exact trivial | exact rfl | exact t_ld h | (refine lds_s (t_ld h) ?_; (repeat (refine lds_s (t_ld h) ?_)); exact lds_nil) | omega) | refine u_bspT ?_ | refine u_bspF ?_)
    exact k _ _ g1 h.fin0

theorem digB_len {l : List Int} (hl : ∀ x ∈ l, -9223372036854775808 ≤ x ∧ x < 9223372036854775808) : (digB l).length ≤ 10 * l.length := by
  induction l with
  | nil => simp [digB]
  | cons a l ih =>
    have := ih fun x hx => hl x (List.mem_cons_of_mem _ hx)
    have h1 := hl a (List.mem_cons_self ..)
    have h2 : zigN a < 18446744073709551616 := by unfold zigN; split <;> omega
    have h3 := lebN_len 9 (zigN a) (by have : (128 : Nat) ^ (9 + 1) = 1180591620717411303424 := rfl; omega)
    have e : digB (a :: l) = lebN (zigN a) ++ digB l := rfl
    rw [e, List.length_append, List.length_cons]; omega
theorem zigN_lt {a : Int} (h1 : -9223372036854775808 ≤ a ∧ a < 9223372036854775808) : zigN a < 18446744073709551616 := by unfold zigN; split <;> omega

theorem snap_Digest {B : Option Addr} {n c : Nat} {l : List Int} (h : Hp R L M) (hB : 0 < l.length → Src R L B (intE.cells l)) (hn : n = l.length) (hs : l.length ≤ 10000) (hl : ∀ x ∈ l, -9223372036854775808 ≤ x ∧ x < 9223372036854775808)
    (k : ∀ R' M', R.le R' → Hp R' L M' → K (.int .u32 (crcOf (digB l) : Nat)) M') : ACalls Try.prog 49 #[.slice B n c] M K Kp := by
  subst hn
  refine vc_snap_Digest ?_
  repeat (first | (refine s_nwc h ?_; clear h; intro kb M h) | (refine s_stc h ?_; clear h; intro M h) | refine t_exI h ?_ | refine t_exB h ?_ | refine t_exS h ?_ | refine t_exP h ?_ | refine t_exSl h ?_ | refine t_exV h ?_ | refine u_exI ?_ | refine u_exB ?_ | refine u_exS ?_ | refine u_exP ?_ | refine u_exSl ?_ | refine u_exV ?_ | refine u_nilc ?_ | (apply Exists.intro; (repeat apply Exists.intro); refine And.intro rfl ?_) | (refine And.intro ?_ ?_; first | exact trivial | exact rfl | exact t_ld h | (refine lds_s (t_ld h) ?_; (repeat (refine lds_s (t_ld h) ?_)); exact lds_nil) | omega) | refine u_bspT ?_ | refine u_bspF ?_)
  replace h := (h.pt kb).row_pt (E := u8E) (l := []) rfl
  refine ⟨fun d ws M => ∃ (i : Nat) (A : Option Addr) (c : Nat), ws = [.slice A (digB (l.take i)).length c, .int .i64 (i : Int)] ∧ d = l.length - i ∧ i ≤ l.length ∧
      Hp R (rowP u8E 5 A c (digB (l.take i)) :: L) M, ⟨_, 0, _, _, rfl, rfl, by omega, h⟩, ?_⟩
  clear h
  rintro d _ A n c ii M ⟨i, _, _, he, hd, hi, h⟩
  simp only [List.cons.injEq, Value.int.injEq, Value.slice.injEq, and_true, true_and] at he
  obtain ⟨⟨rfl, rfl, rfl⟩, rfl⟩ := he
  have hlen := digB_len (l := l.take i) fun x hx => hl x (List.mem_of_mem_take hx)
  have htl : (l.take i).length ≤ l.length := List.length_take_le' ..
  refine bsp_dec.2 ⟨fun hlt => ?_, fun hge => ?_⟩
  · obtain ⟨a, ha⟩ := idx_ex (l := l) (i := i) (by omega)
    have ha2 := hl a (List.mem_of_getElem? ha)
    have hz := zigN_lt ha2
    have hstep : digB (l.take (i + 1)) = digB (l.take i) ++ lebN (zigN a) := by rw [take_snoc ha, digB_snoc]
    have h3 := lebN_len 9 (zigN a) (by have : (128 : Nat) ^ (9 + 1) = 1180591620717411303424 := rfl; omega)
    have hB := hB (by omega)
    obtain ⟨b1, o1, rfl⟩ := hB.cons.someE h (by omega) (by decide)
    repeat (first | (refine s_nwc h ?_; clear h; intro kb M h) | (refine s_stc h ?_; clear h; intro M h) | refine t_exI h ?_ | refine t_exB h ?_ | refine t_exS h ?_ | refine t_exP h ?_ | refine t_exSl h ?_ | refine t_exV h ?_ | refine u_exI ?_ | refine u_exB ?_ | refine u_exS ?_ | refine u_exP ?_ | refine u_exSl ?_ | refine u_exV ?_ | refine u_nilc ?_ | (apply Exists.intro; (repeat apply Exists.intro); refine And.intro rfl ?_) | (refine And.intro ?_ ?_; first | exact trivial | exact rfl | exact t_ld h | (refine lds_s (t_ld h) ?_; (repeat (refine lds_s (t_ld h) ?_)); exact lds_nil) | omega) | refine u_bspT ?_ | refine u_bspF ?_)
    simp only [Int.toNat_natCast]
    refine v_exI (hB.cons.at h (i := i) (j := 0) ha rfl (by simp [intE])) ?_
    refine leb_Zig ha2 h ?_
    refine u_exI ?_
    refine leb_Put h hz ?_
    clear h; intro M h
    refine u_exS ?_
    refine Hp.rowAppendStr h el_u8 ul_string (by rw [strOf_size]; omega) ?_
    clear h; intro A' c' M h
    rw [bytesOf_strOf (lebN_bd _), ← hstep] at h ⊢
    refine u_exSl ?_
    rw [wrap_succ (by omega)]
    exact ⟨l.length - (i + 1), by omega, i + 1, A', c', rfl, rfl, by omega, h⟩
  · obtain rfl : i = l.length := by omega
    rw [List.take_length] at h hlen ⊢
    refine semK_toString ul_bytes ul_string ul_byte (h.src (A := A) M h) rfl ?_
    refine u_exS ?_
    refine s_nwc h ?_
    clear h; intro k30 M h
    refine crc_Of (l := digB l) (digB_bd l) (by omega) h fun R' M' g h' => ?_
    exact u_exI (k R' M' g h'.fin0)

theorem ref19_Digest {B : Option Addr} {n c : Nat} {l : List Int} (h : Hp R L M) (hB : 0 < l.length → Src R L B (intE.cells l)) (hn : n = l.length) (hs : l.length ≤ 10000) (hl : ∀ x ∈ l, -9223372036854775808 ≤ x ∧ x < 9223372036854775808)
    (k : ∀ M', Hp R L M' → K (.int .u32 (crcOf (digB l) : Nat)) M') : ACalls Try.prog 50 #[.slice B n c] M K Kp := by
  subst hn
  refine vc_shunterref19_Digest ⟨fun d ws M => ∃ (i : Nat), ws = [.string (strOf (digB (l.take i))), .int .i64 (i : Int)] ∧ d = l.length - i ∧ i ≤ l.length ∧ Hp R L M, ⟨_, 0, rfl, rfl, by omega, h⟩, ?_⟩
  clear h
  rintro d _ s ii M ⟨i, he, hd, hi, h⟩
  simp only [List.cons.injEq, Value.int.injEq, Value.string.injEq, and_true, true_and] at he
  obtain ⟨rfl, rfl⟩ := he
  have hlen := digB_len (l := l.take i) fun x hx => hl x (List.mem_of_mem_take hx)
  have htl : (l.take i).length ≤ l.length := List.length_take_le' ..
  refine bsp_dec.2 ⟨fun hlt => ?_, fun hge => ?_⟩
  · obtain ⟨a, ha⟩ := idx_ex (l := l) (i := i) (by omega)
    have ha2 := hl a (List.mem_of_getElem? ha)
    have hz := zigN_lt ha2
    have hstep : digB (l.take (i + 1)) = digB (l.take i) ++ lebN (zigN a) := by rw [take_snoc ha, digB_snoc]
    have h3 := lebN_len 9 (zigN a) (by have : (128 : Nat) ^ (9 + 1) = 1180591620717411303424 := rfl; omega)
    have hB := hB (by omega)
    obtain ⟨b1, o1, rfl⟩ := hB.someE h (by omega) (by decide)
    repeat (first | (refine s_nwc h ?_; clear h; intro kb M h) | (refine s_stc h ?_; clear h; intro M h) | refine t_exI h ?_ | refine t_exB h ?_ | refine t_exS h ?_ | refine t_exP h ?_ | refine t_exSl h ?_ | refine t_exV h ?_ | refine u_exI ?_ | refine u_exB ?_ | refine u_exS ?_ | refine u_exP ?_ | refine u_exSl ?_ | refine u_exV ?_ | refine u_nilc ?_ | (apply Exists.intro; (repeat apply Exists.intro); refine And.intro rfl ?_) | (refine And.intro ?_ ?_; first | exact trivial | exact rfl | exact t_ld h | (refine lds_s (t_ld h) ?_; (repeat (refine lds_s (t_ld h) ?_)); exact lds_nil) | omega) | refine u_bspT ?_ | refine u_bspF ?_)
    simp only [Int.toNat_natCast]
    refine v_exI (hB.at h (i := i) (j := 0) ha rfl (by simp [intE])) ?_
    refine ref01_Zig ha2 h ?_
    refine u_exI ?_
    refine ref01_Put h hz ?_
    clear h; intro M h
    refine u_exS ⟨by rw [strOf_size, strOf_size]; omega, ?_⟩
    rw [wrap_succ (by omega)]
    exact ⟨l.length - (i + 1), by omega, i + 1, by rw [hstep, strOf_app], rfl, by omega, h⟩
  · obtain rfl : i = l.length := by omega
    rw [List.take_length] at hlen ⊢
    refine ref03_Sum h (digB_bd l) (by omega) ?_
    exact u_exI (k _ h)

theorem law19_awake (h : Hp R L M) (k : ∀ R' M', R.le R' → Hp R' L M' → K (.bool true) M') : ACalls Try.prog 48 #[] M K Kp := by
  refine vc_shunterlaw19_awake ?_
  refine snap_Digest (l := []) h (fun _ => Src.nil R L) rfl (by simp) (by simp) fun R1 M' g1 h' => ?_
  clear h
  have h := h'
  clear h'
  have e : crcOf (digB []) = 0 := by decide
  rw [e]
  repeat (first | (refine s_nwc h ?_; clear h; intro kb M h) | (refine s_stc h ?_; clear h; intro M h) | refine t_exI h ?_ | refine t_exB h ?_ | refine t_exS h ?_ | refine t_exP h ?_ | refine t_exSl h ?_ | refine t_exV h ?_ | refine u_exI ?_ | refine u_exB ?_ | refine u_exS ?_ | refine u_exP ?_ | refine u_exSl ?_ | refine u_exV ?_ | refine u_nilc ?_ | (apply Exists.intro; (repeat apply Exists.intro); refine And.intro rfl ?_) | (refine And.intro ?_ ?_; first | exact trivial | exact rfl | exact t_ld h | (refine lds_s (t_ld h) ?_; (repeat (refine lds_s (t_ld h) ?_)); exact lds_nil) | omega) | refine u_bspT ?_ | refine u_bspF ?_)
  replace h := (h.pt kb).row_pt (E := intE) (l := [0]) rfl
  refine snap_Digest (l := [0]) h (fun _ => Src.row) rfl (by simp) (by simp) fun R2 M' g2 h' => ?_
  clear h
  have h := h'
  clear h'
  have e : crcOf (digB [0]) = 3523407757 := by
    have e1 : digB [0] = [0] := by
      show lebN (zigN 0) ++ [] = [0]
      rw [List.append_nil, lebN_lt (by decide)]; rfl
    rw [e1]; decide
  rw [e]
  repeat (first | (refine s_nwc h ?_; clear h; intro kb M h) | (refine s_stc h ?_; clear h; intro M h) | refine t_exI h ?_ | refine t_exB h ?_ | refine t_exS h ?_ | refine t_exP h ?_ | refine t_exSl h ?_ | refine t_exV h ?_ | refine u_exI ?_ | refine u_exB ?_ | refine u_exS ?_ | refine u_exP ?_ | refine u_exSl ?_ | refine u_exV ?_ | refine u_nilc ?_ | (apply Exists.intro; (repeat apply Exists.intro); refine And.intro rfl ?_) | (refine And.intro ?_ ?_; first | exact trivial | exact rfl | exact t_ld h | (refine lds_s (t_ld h) ?_; (repeat (refine lds_s (t_ld h) ?_)); exact lds_nil) | omega) | refine u_bspT ?_ | refine u_bspF ?_)
  exact k _ _ (Mem.le_trans g1 g2) h.fin0

theorem snapSums {A : Option Addr} {n c : Nat} {M0 : Mem} (hs1 : ArgSl M0 A n c [.i64]) (k : ∀ M', Chg [] M0 M' → K (.bool true) M') :
    ACalls Try.prog 11 #[.slice A n c] M0 K Kp := by
  obtain ⟨raw, rfl, hc, hrl, hB, hw⟩ := hs1
  refine vc_shunterlaw19_SnapSums ?_
  have h := Hp.start M0
  have hc0 : 0 < raw.length → slA A 0 (Int.toNat ((c : Nat) : Int)) 1 = A := fun h0 => by unfold slA; split <;> first | rfl | (obtain ⟨b, o, rfl⟩ := (hB h0).some' (by rw [Enc.cells_len]; exact Nat.mul_pos h0 (by decide)); rfl)
  have hcell : ∀ r : List (Nat → Int), (kE [.i64]).cells r = intE.cells (r.map (· 0)) := fun r => by
    induction r with
    | nil => rfl
    | cons a r ih => rw [Enc.cells_cons, List.map_cons, Enc.cells_cons, ih]; rfl
  have hlen : (Int.toNat (if (30 : Int) < ((raw.length : Nat) : Int) then 30 else ((raw.length : Nat) : Int))) - 0 = ((raw.take 30).map (· 0)).length := by
    rw [List.length_map, List.length_take]; split <;> omega
  refine ⟨by omega, by omega, by split <;> omega, by split <;> omega, by omega, by split <;> omega, ?_⟩
  have hbd : ∀ x ∈ (raw.take 30).map (· 0), -9223372036854775808 ≤ x ∧ x < 9223372036854775808 := fun x hx => by
    obtain ⟨g, hg, rfl⟩ := List.mem_map.1 hx
    have := hw g (List.mem_of_mem_take hg) 0 .i64 rfl
    simp only [Lit.wf, Bool.and_eq_true, decide_eq_true_eq, IntKind.min, IntKind.max, IntKind.signed, IntKind.bits] at this
    simp only [if_true] at this
    omega
  have hsrc : ∀ (R1 : Mem) (L : List HP), M0.le R1 → 0 < ((raw.take 30).map (· 0)).length → Src R1 L (slA A 0 (Int.toNat ((c : Nat) : Int)) 1) (intE.cells ((raw.take 30).map (· 0))) := fun R1 L g h0 => by
    have h1 : 0 < raw.length := by rw [List.length_map, List.length_take] at h0; omega
    rw [hc0 h1, ← hcell]
    have := Src.ro (L := L) ((hB h1).le g)
    have h2 := this.take (30 * 1)
    have h3 := (kE [.i64]).cells_take (l := raw) (k := 30)
    rw [show (kE [IntKind.i64]).z = 1 from rfl] at h3
    rwa [h3] at h2
  rw [hlen]
  generalize (raw.take 30).map (· 0) = l at *
  have hl30 : l.length ≤ 30 := by rw [← hlen]; split <;> omega
  refine law19_awake h fun R1 M g1 h' => ?_
  clear h
  have h := h'
  clear h'
  repeat (first | (refine s_nwc h ?_; clear h; intro kb M h) | (refine s_stc h ?_; clear h; intro M h) | refine t_exI h ?_ | refine t_exB h ?_ | refine t_exS h ?_ | refine t_exP h ?_ | refine t_exSl h ?_ | refine t_exV h ?_ | refine u_exI ?_ | refine u_exB ?_ | refine u_exS ?_ | refine u_exP ?_ | refine u_exSl ?_ | refine u_exV ?_ | refine u_nilc ?_ | (apply Exists.intro; (repeat apply Exists.intro); refine And.intro rfl ?_) | (refine And.intro ?_ ?_; first | exact trivial | exact rfl | exact t_ld h | (refine lds_s (t_ld h) ?_; (repeat (refine lds_s (t_ld h) ?_)); exact lds_nil) | omega) | refine u_bspT ?_ | refine u_bspF ?_)
  refine snap_Digest h (hsrc R1 _ g1) rfl (by omega) hbd fun R2 M g2 h' => ?_
  clear h
  have h := h'
  clear h'
  refine u_exI ?_
  refine ref19_Digest h (hsrc R2 _ (Mem.le_trans g1 g2)) rfl (by omega) hbd fun M h' => ?_
  refine u_exI ?_
  rw [beq_self_eq_true]
  exact k _ (h'.done (Mem.le_trans g1 g2))
end
end Go.Proofs
