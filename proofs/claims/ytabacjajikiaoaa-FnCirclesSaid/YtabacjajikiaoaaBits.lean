/- The bit operations of Go's integers at the masks of floating-point words, as plain arithmetic. -/
import Derived.Laws.Entries
namespace Go.Fl

theorem toNat_ofInt (n w : Nat) (h : n < 2 ^ w) : (BitVec.ofInt w (n : Int)).toNat = n := by
  rw [BitVec.ofInt_natCast, BitVec.toNat_ofNat, Nat.mod_eq_of_lt h]

theorem wrap_u64 (n : Nat) (h : n < 2 ^ 64) : IntKind.u64.wrap (n : Int) = n := by
  unfold IntKind.wrap
  simp [IntKind.bits, IntKind.signed]
  omega
theorem wrap_i64 (n : Nat) (h : n < 2 ^ 63) : IntKind.i64.wrap (n : Int) = n := by
  unfold IntKind.wrap
  simp [IntKind.bits, IntKind.signed]
  omega

theorem bits_and_nat (k : IntKind) (x y : Nat) (hx : x < 2 ^ k.bits) (hy : y < 2 ^ k.bits) : bits .and k (x : Int) (y : Int) = k.wrap ((x &&& y : Nat) : Int) := by
  simp only [bits]
  rw [BitVec.toNat_and, toNat_ofInt _ _ hx, toNat_ofInt _ _ hy]
theorem bits_or_nat (k : IntKind) (x y : Nat) (hx : x < 2 ^ k.bits) (hy : y < 2 ^ k.bits) : bits .or k (x : Int) (y : Int) = k.wrap ((x ||| y : Nat) : Int) := by
  simp only [bits]
  rw [BitVec.toNat_or, toNat_ofInt _ _ hx, toNat_ofInt _ _ hy]
theorem bits_andNot_nat (k : IntKind) (x y : Nat) (hx : x < 2 ^ k.bits) (hy : y < 2 ^ k.bits) : bits .andNot k (x : Int) (y : Int) = k.wrap ((x &&& (2 ^ k.bits - 1 - y) : Nat) : Int) := by
  simp only [bits]
  rw [BitVec.toNat_and, BitVec.toNat_not, toNat_ofInt _ _ hx, toNat_ofInt _ _ hy]

theorem and_pow (n i : Nat) : n &&& 2 ^ i = n / 2 ^ i % 2 * 2 ^ i := by
  rw [← Nat.shiftLeft_eq]
  refine Nat.eq_of_testBit_eq fun j => ?_
  rw [Nat.testBit_and, Nat.testBit_two_pow, Nat.testBit_shiftLeft, show n / 2 ^ i % 2 = n / 2 ^ i % 2 ^ 1 by rw [Nat.pow_one], Nat.testBit_mod_two_pow, ← Nat.shiftRight_eq_div_pow, Nat.testBit_shiftRight]
  by_cases h : i = j
  · subst h; simp
  · by_cases h2 : j ≥ i
    · simp [h, show ¬ j - i < 1 by omega]
    · simp [h, h2]

def top : Nat := 9223372036854775808
theorem top_eq : top = 2 ^ 63 := by decide
theorem top_int : (9223372036854775808 : Int) = (top : Int) := rfl

theorem toNat_ofInt_mod (n w : Nat) : (BitVec.ofInt w (n : Int)).toNat = n % 2 ^ w := by
  rw [BitVec.ofInt_natCast, BitVec.toNat_ofNat]

/-- 'x &^ (1 << 63)'. -/
theorem bits_andNot63' (b : Nat) : bits .andNot .u64 (b : Int) 9223372036854775808 = ((b % 2 ^ 63 : Nat) : Int) := by
  rw [top_int]
  simp only [bits]
  rw [BitVec.toNat_and, BitVec.toNat_not, toNat_ofInt_mod, toNat_ofInt _ _ (by decide), show 2 ^ IntKind.u64.bits - 1 - top = 2 ^ 63 - 1 by decide, Nat.and_two_pow_sub_one_eq_mod, show b % 2 ^ IntKind.u64.bits % 2 ^ 63 = b % 2 ^ 63 from Nat.mod_mod_of_dvd b (by decide), wrap_u64 _ (by omega)]
theorem bits_andNot63 (b : Nat) : (bits .andNot .u64 (b : Int) 9223372036854775808).toNat = b % 2 ^ 63 := by
  rw [bits_andNot63' b, Int.toNat_natCast]

/-- 'x & (1 << 63)'. -/
theorem bits_and63 (b : Nat) : bits .and .u64 (b : Int) 9223372036854775808 = ((b / 2 ^ 63 % 2 * 2 ^ 63 : Nat) : Int) := by
  rw [top_int]
  simp only [bits]
  rw [BitVec.toNat_and, toNat_ofInt_mod, toNat_ofInt _ _ (by decide), top_eq, and_pow, show b % 2 ^ IntKind.u64.bits / 2 ^ 63 % 2 = b / 2 ^ 63 % 2 by show b % 2 ^ 64 / 2 ^ 63 % 2 = _; omega, wrap_u64 _ (by omega)]

/-- 'x | y' where the bits are apart. -/
theorem bits_or63 (x s : Nat) (hx : x < 2 ^ 63) (hs : s < 2) : (bits .or .u64 (x : Int) ((s * 2 ^ 63 : Nat) : Int)).toNat = s * 2 ^ 63 + x := by
  rw [bits_or_nat .u64 x _ (Nat.lt_trans hx (by decide)) (show s * 2 ^ 63 < 2 ^ 64 by omega), Nat.or_comm, ← Nat.shiftLeft_eq, ← Nat.shiftLeft_add_eq_or_of_lt hx, wrap_u64 _ (by rw [Nat.shiftLeft_eq]; omega), Int.toNat_natCast]

def mask : Nat := 2139095040
theorem mask_int : (2139095040 : Int) = (mask : Int) := rfl
theorem and_mask (n : Nat) : n &&& mask = n / 2 ^ 23 % 2 ^ 8 * 2 ^ 23 := by
  have e : mask = (2 ^ 8 - 1) <<< 23 := by decide
  rw [← Nat.shiftLeft_eq, ← Nat.and_two_pow_sub_one_eq_mod, e]
  refine Nat.eq_of_testBit_eq fun i => ?_
  simp only [Nat.testBit_and, Nat.testBit_shiftLeft, ← Nat.shiftRight_eq_div_pow, Nat.testBit_shiftRight]
  by_cases hi : i ≥ 23
  · simp [hi, show 23 + (i - 23) = i by omega]
  · simp [hi]

/-- 'n & 0x7f800000', 'n & (1 << 31)' of a word of 32 bits. -/
theorem bits_exp (n : Nat) (h : n < 2 ^ 32) : bits .and .i64 (n : Int) 2139095040 = ((n / 2 ^ 23 % 2 ^ 8 * 2 ^ 23 : Nat) : Int) := by
  have h2 := Nat.mod_lt (n / 2 ^ 23) (Nat.two_pow_pos 8)
  rw [mask_int, bits_and_nat .i64 n mask (Nat.lt_trans h (by decide)) (by decide), and_mask, wrap_i64 _ (by omega)]
theorem bits_sign (n : Nat) (h : n < 2 ^ 32) : bits .and .i64 (n : Int) 2147483648 = ((n / 2 ^ 31 * 2 ^ 31 : Nat) : Int) := by
  have h2 : n / 2 ^ 31 < 2 := Nat.div_lt_of_lt_mul (by omega)
  rw [show (2147483648 : Int) = ((2 ^ 31 : Nat) : Int) by decide, bits_and_nat .i64 n (2 ^ 31) (Nat.lt_trans h (by decide)) (by decide), and_pow, Nat.mod_eq_of_lt h2, wrap_i64 _ (by omega)]
end Go.Fl
