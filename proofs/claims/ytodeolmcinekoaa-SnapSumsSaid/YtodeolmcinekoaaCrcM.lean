/- A part of proofs about functions of one program: a condition over a partial memory that is enough for a call, and what calls answer by it. No condition of its own. -/
import Derived.Test.YtodeolmcinekoaaStr
/- Numbers as bytes, and sums of bytes: what they are, without a program. -/
namespace Go.AF
set_option linter.unusedVariables false
set_option maxRecDepth 100000
/-- A number, seven bits a byte. -/
def lebN (n : Nat) : List Int := if h : n < 128 then [(n : Int)] else ((n % 128 + 128 : Nat) : Int) :: lebN (n / 128)
termination_by n
decreasing_by omega
theorem lebN_lt {n : Nat} (h : n < 128) : lebN n = [(n : Int)] := by rw [lebN, dif_pos h]
theorem lebN_ge {n : Nat} (h : ¬ n < 128) : lebN n = ((n % 128 + 128 : Nat) : Int) :: lebN (n / 128) := by rw [lebN, dif_neg h]
theorem lebN_bd : ∀ (n : Nat), ∀ x ∈ lebN n, 0 ≤ x ∧ x < 256 := by
  intro n
  induction n using Nat.strongRecOn with
  | ind n ih =>
    intro x hx
    by_cases h : n < 128
    · rw [lebN_lt h] at hx; simp only [List.mem_singleton] at hx; subst hx; omega
    · rw [lebN_ge h] at hx
      rcases List.mem_cons.1 hx with rfl | hx
      · omega
      · exact ih (n / 128) (by omega) x hx
theorem lebN_len : ∀ (k n : Nat), n < 128 ^ (k + 1) → (lebN n).length ≤ k + 1
  | 0, n, h => by rw [lebN_lt (by simpa using h)]; simp
  | k + 1, n, h => by
    by_cases hn : n < 128
    · rw [lebN_lt hn]; simp
    · rw [lebN_ge hn, List.length_cons]
      have := lebN_len k (n / 128) (by rw [Nat.pow_succ] at h; exact Nat.div_lt_of_lt_mul (by rw [Nat.mul_comm]; exact h))
      omega
/-- A number with a sign as one without. -/
def zigN (n : Int) : Nat := if 0 ≤ n then (2 * n).toNat else (-2 * n - 1).toNat
theorem or128 {n : Nat} : (n % 256) ||| 128 = n % 128 + 128 := by
  have : ∀ k : Fin 256, k.val ||| 128 = k.val % 128 + 128 := by decide
  have h := this ⟨n % 256, Nat.mod_lt _ (by omega)⟩
  simp only at h
  rw [h]; omega

/-! ### sums -/
def crcP : Nat := 3988292384
def crcT (x : Nat) : Nat := if x % 2 = 1 then (x / 2) ^^^ crcP else x / 2
def crcI : Nat → Nat → Nat
  | 0, x => x
  | k + 1, x => crcT (crcI k x)
def crcB (x b : Nat) : Nat := crcI 8 (x ^^^ b)
theorem xor_half (a b : Nat) : (a ^^^ b) / 2 = (a / 2) ^^^ (b / 2) := by
  have := Nat.xor_div_two_pow (a := a) (b := b) (n := 1)
  simpa using this
theorem xor_odd (a b : Nat) : (a ^^^ b) % 2 = (a + b) % 2 := by
  have := Nat.xor_mod_two_pow (a := a) (b := b) (n := 1)
  rw [Nat.pow_one] at this
  rw [this]
  have ha := Nat.mod_lt a (show 2 > 0 by omega)
  have hb := Nat.mod_lt b (show 2 > 0 by omega)
  rw [Nat.add_mod]
  generalize a % 2 = x at *
  generalize b % 2 = y at *
  obtain rfl | rfl : x = 0 ∨ x = 1 := by omega
  · obtain rfl | rfl : y = 0 ∨ y = 1 := by omega
    · rfl
    · rfl
  · obtain rfl | rfl : y = 0 ∨ y = 1 := by omega
    · rfl
    · rfl
theorem crcT_xor (a b : Nat) : crcT (a ^^^ b) = crcT a ^^^ crcT b := by
  unfold crcT
  rw [xor_half]
  have := xor_odd a b
  by_cases ha : a % 2 = 1
  · by_cases hb : b % 2 = 1
    · rw [if_neg (by omega), if_pos ha, if_pos hb]
      rw [Nat.xor_comm (b / 2) crcP, Nat.xor_assoc, ← Nat.xor_assoc crcP crcP, Nat.xor_self, Nat.zero_xor]
    · rw [if_pos (by omega), if_pos ha, if_neg hb]
      rw [Nat.xor_assoc, Nat.xor_comm (b / 2), ← Nat.xor_assoc]
  · by_cases hb : b % 2 = 1
    · rw [if_pos (by omega), if_neg ha, if_pos hb, Nat.xor_assoc]
    · rw [if_neg (by omega), if_neg ha, if_neg hb]
theorem crcI_xor (a b : Nat) : ∀ k, crcI k (a ^^^ b) = crcI k a ^^^ crcI k b
  | 0 => rfl
  | k + 1 => by rw [crcI, crcI_xor a b k, crcT_xor]; rfl
theorem crcI_even {w : Nat} : ∀ k, w % 2 ^ k = 0 → crcI k w = w / 2 ^ k
  | 0, _ => by simp [crcI]
  | k + 1, h => by
    have h1 : w % 2 ^ k = 0 := by
      have : 2 ^ k ∣ w := Nat.dvd_trans ⟨2, by rw [Nat.pow_succ]⟩ (Nat.dvd_of_mod_eq_zero h)
      exact Nat.mod_eq_zero_of_dvd this
    rw [crcI, crcI_even k h1, crcT]
    have h2 : w / 2 ^ k % 2 = 0 := by
      obtain ⟨q, rfl⟩ := Nat.dvd_of_mod_eq_zero h
      rw [Nat.pow_succ, Nat.mul_assoc, Nat.mul_div_cancel_left _ (Nat.two_pow_pos k)]
      exact Nat.mul_mod_right ..
    rw [if_neg (by omega), Nat.div_div_eq_div_mul, ← Nat.pow_succ]
/-- By a table. -/
theorem crcB_table {x b : Nat} (hb : b < 256) : (x / 256) ^^^ crcI 8 ((x ^^^ b) % 256) = crcB x b := by
  unfold crcB
  generalize hz : x ^^^ b = z
  have h1 : z / 256 = x / 256 := by
    have := Nat.xor_div_two_pow (a := x) (b := b) (n := 8)
    rw [hz, show (2 : Nat) ^ 8 = 256 from rfl, show b / 256 = 0 from by omega, Nat.xor_zero] at this
    exact this
  have h2 : (z ^^^ (z % 256)) % 2 ^ 8 = 0 := by
    rw [Nat.xor_mod_two_pow, show (2 : Nat) ^ 8 = 256 from rfl, Nat.mod_mod, Nat.xor_self]
  have h3 : (z ^^^ (z % 256)) / 2 ^ 8 = z / 256 := by
    rw [Nat.xor_div_two_pow, show (2 : Nat) ^ 8 = 256 from rfl, show z % 256 / 256 = 0 from by omega, Nat.xor_zero]
  have h4 : z = (z ^^^ (z % 256)) ^^^ (z % 256) := by rw [Nat.xor_assoc, Nat.xor_self, Nat.xor_zero]
  have h5 : crcI 8 z = crcI 8 (z ^^^ (z % 256)) ^^^ crcI 8 (z % 256) := by
    conv => lhs; rw [h4]
    exact crcI_xor _ _ 8
  rw [h5, crcI_even 8 h2, h3, h1]
theorem crcT_lt {x : Nat} (h : x < 4294967296) : crcT x < 4294967296 := by
  unfold crcT
  split
  · exact Nat.xor_lt_two_pow (n := 32) (by omega) (by decide)
  · omega
theorem crcI_lt {x : Nat} (h : x < 4294967296) : ∀ k, crcI k x < 4294967296
  | 0 => h
  | k + 1 => crcT_lt (crcI_lt h k)
theorem crcB_lt {x b : Nat} (h : x < 4294967296) (hb : b < 256) : crcB x b < 4294967296 := crcI_lt (Nat.xor_lt_two_pow (n := 32) h (by omega)) 8
def crcF (x : Nat) (l : List Int) : Nat := l.foldl (fun x b => crcB x b.toNat) x
def crcOf (l : List Int) : Nat := 4294967295 - crcF 4294967295 l
theorem crcF_lt : ∀ {l : List Int} {x : Nat}, (∀ n ∈ l, 0 ≤ n ∧ n < 256) → x < 4294967296 → crcF x l < 4294967296
  | [], x, _, h => h
  | b :: l, x, hl, h => crcF_lt (l := l) (fun n hn => hl n (List.mem_cons_of_mem _ hn)) (crcB_lt h (by have := hl b (List.mem_cons_self ..); omega))
theorem crcF_snoc (x : Nat) (l : List Int) (b : Int) : crcF x (l ++ [b]) = crcB (crcF x l) b.toNat := by simp [crcF]
/-- What numbers' bytes are. -/
def digB (l : List Int) : List Int := l.flatMap fun n => lebN (zigN n)
theorem digB_snoc (l : List Int) (n : Int) : digB (l ++ [n]) = digB l ++ lebN (zigN n) := by simp [digB]
theorem digB_bd (l : List Int) : ∀ n ∈ digB l, 0 ≤ n ∧ n < 256 := fun n hn => by
  obtain ⟨m, _, h⟩ := List.mem_flatMap.1 hn; exact lebN_bd _ n h
/-! ### machine words -/
theorem w32 {n : Nat} (h : n < 4294967296) : IntKind.wrap .u32 (n : Int) = n := by rw [IntKind.wrap_u32]; omega
theorem w64 {n : Nat} (h : n < 18446744073709551616) : IntKind.wrap .u64 (n : Int) = n := by rw [IntKind.wrap_u64]; omega
theorem ofInt32 {n : Nat} (h : n < 4294967296) : (BitVec.ofInt IntKind.u32.bits (n : Int)).toNat = n := by
  have : IntKind.u32.bits = 32 := rfl
  rw [this]; simp only [BitVec.ofInt_natCast, BitVec.toNat_ofNat]; exact Nat.mod_eq_of_lt (by omega)
theorem xor32 {a b : Nat} (ha : a < 4294967296) (hb : b < 4294967296) : IntKind.wrap .u32 (((Nat.bitwise bne (BitVec.ofInt IntKind.u32.bits (a : Int)).toNat (BitVec.ofInt IntKind.u32.bits (b : Int)).toNat) : Nat) : Int) = ((a ^^^ b : Nat) : Int) := by
  rw [ofInt32 ha, ofInt32 hb]
  exact w32 (Nat.xor_lt_two_pow (n := 32) ha hb)
theorem not32 {a : Nat} (ha : a < 4294967296) : (4294967295 ^^^ a : Nat) = 4294967295 - a := by
  have h1 : BitVec.allOnes 32 ^^^ BitVec.ofNat 32 a = ~~~ (BitVec.ofNat 32 a) := BitVec.allOnes_xor
  have h2 := congrArg BitVec.toNat h1
  rw [BitVec.toNat_xor, BitVec.toNat_not, BitVec.toNat_allOnes, BitVec.toNat_ofNat, Nat.mod_eq_of_lt (by omega)] at h2
  exact h2
end Go.AF
