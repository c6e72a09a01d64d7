/- Bits: masks taken away, masks higher up. -/
import Derived.Test.YtjhibcebipjbcaaAbBits
set_option linter.unusedSimpArgs false
namespace Go.Ab
theorem nat_and_up (a j k : Nat) : a &&& ((2 ^ j - 1) * 2 ^ k) = (a / 2 ^ k % 2 ^ j) * 2 ^ k := by
  apply Nat.eq_of_testBit_eq
  intro i
  rw [Nat.testBit_and, Nat.testBit_mul_two_pow, Nat.testBit_mul_two_pow, Nat.testBit_mod_two_pow, Nat.testBit_div_two_pow, Nat.testBit_two_pow_sub_one]
  by_cases h : k ≤ i
  · simp [h]
    rw [Bool.and_comm]
  · simp [h]
theorem bv_andNot (x y : BitVec 64) : x &&& ~~~y = x - (x &&& y) := by
  have h : (x &&& ~~~y) + (x &&& y) = x := by
    rw [BitVec.add_eq_or_of_and_eq_zero]
    · ext i hi
      simp
      cases x[i] <;> cases y[i] <;> rfl
    · ext i hi
      simp
      cases x[i] <;> cases y[i] <;> simp
  exact BitVec.eq_sub_iff_add_eq.2 h
/-- bits taken away -/
theorem andNot_sub (a b : Int) (h0 : 0 ≤ a) (h1 : a ≤ 9223372036854775807) : IntKind.wrap .i64 ((BitVec.ofInt 64 a &&& ~~~BitVec.ofInt 64 b).toNat : Int) = a - IntKind.wrap .i64 ((BitVec.ofInt 64 a &&& BitVec.ofInt 64 b).toNat : Int) := by
  rw [bv_andNot]
  have hle : BitVec.ofInt 64 a &&& BitVec.ofInt 64 b ≤ BitVec.ofInt 64 a := by
    rw [BitVec.le_def, BitVec.toNat_and]
    exact Nat.and_le_left
  rw [BitVec.toNat_sub_of_le hle]
  have ha : (BitVec.ofInt 64 a).toNat = a.toNat := by
    rw [BitVec.toNat_ofInt, Int.emod_eq_of_lt h0 (by omega)]
  have hle' := BitVec.le_def.1 hle
  rw [ha] at hle' ⊢
  rw [wrap_id (by omega) (by omega), wrap_id (by omega) (by omega)]
  omega
theorem andNot_mask (j : Nat) (hj : j ≤ 62) (a : Int) (h0 : 0 ≤ a) (h1 : a ≤ 9223372036854775807) : IntKind.wrap .i64 ((BitVec.ofInt 64 a &&& ~~~BitVec.ofInt 64 (2 ^ j - 1)).toNat : Int) = a - a % 2 ^ j := by
  rw [andNot_sub a _ h0 h1, and_mask j hj]
theorem andNot1 (a : Int) (h0 : 0 ≤ a) (h1 : a ≤ 9223372036854775807) : IntKind.wrap .i64 ((BitVec.ofInt 64 a &&& ~~~BitVec.ofInt 64 (1 : Int)).toNat : Int) = a - a % 2 := andNot_mask 1 (by omega) a h0 h1
theorem andNot255 (a : Int) (h0 : 0 ≤ a) (h1 : a ≤ 9223372036854775807) : IntKind.wrap .i64 ((BitVec.ofInt 64 a &&& ~~~BitVec.ofInt 64 (255 : Int)).toNat : Int) = a - a % 256 := andNot_mask 8 (by omega) a h0 h1
theorem andNot65535 (a : Int) (h0 : 0 ≤ a) (h1 : a ≤ 9223372036854775807) : IntKind.wrap .i64 ((BitVec.ofInt 64 a &&& ~~~BitVec.ofInt 64 (65535 : Int)).toNat : Int) = a - a % 65536 := andNot_mask 16 (by omega) a h0 h1
/-- a mask higher up -/
theorem and_up (j k : Nat) (hj : j + k ≤ 62) (a : Int) (h0 : 0 ≤ a) (h1 : a ≤ 9223372036854775807) : IntKind.wrap .i64 ((BitVec.ofInt 64 a &&& BitVec.ofInt 64 ((2 ^ j - 1) * 2 ^ k)).toNat : Int) = a / 2 ^ k % 2 ^ j * 2 ^ k := by
  have hp : (2 : Nat) ^ (j + k) ≤ 2 ^ 62 := Nat.pow_le_pow_right (by omega) hj
  have hpos : 0 < (2 : Nat) ^ j := Nat.pow_pos (by omega)
  have hposk : 0 < (2 : Nat) ^ k := Nat.pow_pos (by omega)
  have hc : ((2 : Int) ^ j - 1) * 2 ^ k = (((2 ^ j - 1) * 2 ^ k : Nat) : Int) := by
    rw [Int.natCast_mul, Int.natCast_sub (by omega)]
    simp
  have hlt : (2 ^ j - 1) * 2 ^ k < 2 ^ 62 := by
    have : (2 ^ j - 1) * 2 ^ k < 2 ^ j * 2 ^ k := Nat.mul_lt_mul_of_pos_right (by omega) hposk
    rw [← Nat.pow_add] at this
    omega
  rw [nat_and, hc, Int.emod_eq_of_lt h0 (by omega), Int.emod_eq_of_lt (by omega) (by omega), Int.toNat_natCast, nat_and_up]
  have e : (((a.toNat / 2 ^ k % 2 ^ j * 2 ^ k : Nat)) : Int) = a / 2 ^ k % 2 ^ j * 2 ^ k := by
    rw [Int.natCast_mul, Int.natCast_emod, Int.natCast_ediv, Int.toNat_of_nonneg h0]
    simp
  rw [e]
  have hm := Int.emod_nonneg (a / 2 ^ k) (show (2 : Int) ^ j ≠ 0 by have := Int.natCast_pos.2 hpos; simp at this; omega)
  apply wrap_id
  · rw [← e]; omega
  · rw [← e]
    have : a.toNat / 2 ^ k % 2 ^ j * 2 ^ k ≤ a.toNat / 2 ^ k * 2 ^ k := Nat.mul_le_mul_right _ (Nat.mod_le _ _)
    have h2 : a.toNat / 2 ^ k * 2 ^ k ≤ a.toNat := Nat.div_mul_le_self _ _
    omega
theorem and65280 (a : Int) (h0 : 0 ≤ a) (h1 : a ≤ 9223372036854775807) : IntKind.wrap .i64 ((BitVec.ofInt 64 a &&& BitVec.ofInt 64 (65280 : Int)).toNat : Int) = a / 256 % 256 * 256 := and_up 8 8 (by omega) a h0 h1
theorem andNot65280 (a : Int) (h0 : 0 ≤ a) (h1 : a ≤ 9223372036854775807) : IntKind.wrap .i64 ((BitVec.ofInt 64 a &&& ~~~BitVec.ofInt 64 (65280 : Int)).toNat : Int) = a - a / 256 % 256 * 256 := by
  rw [andNot_sub a _ h0 h1, and65280 a h0 h1]
end Go.Ab
