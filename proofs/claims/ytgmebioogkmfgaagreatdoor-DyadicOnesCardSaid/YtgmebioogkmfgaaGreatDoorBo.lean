/- Plain facts on Go's operations on the bits of an int, at the masks that the package bits uses. Conditions: where one is asked, it stands in the fact. -/
import Derived.Test.YtgmebioogkmfgaaGreatDoorPt
import Derived.Laws.BitsAllLaws
namespace Go.Pt

theorem toNat_ofInt64 (x : Int) : ((BitVec.ofInt 64 x).toNat : Int) = x % 18446744073709551616 := by
  rw [BitVec.toNat_ofInt]
  have : (0 : Int) ≤ x % 18446744073709551616 := Int.emod_nonneg _ (by decide)
  exact Int.toNat_of_nonneg this

theorem wrap_i64_of {x : Int} (h0 : 0 ≤ x) (h : x < 9223372036854775808) : IntKind.i64.wrap x = x := by
  simp [IntKind.wrap, IntKind.bits, IntKind.signed]
  omega

theorem and_mask_aux (x : Int) (k : Nat) (hk : k ≤ 62) : bits .and .i64 x ((2 ^ k - 1 : Nat) : Int) = x % ((2 ^ k : Nat) : Int) := by
  have hp : 2 ^ k ≤ 2 ^ 62 := Nat.pow_le_pow_right (by omega) hk
  have hp0 := Nat.two_pow_pos k
  have e : ((BitVec.ofInt 64 x &&& BitVec.ofInt 64 ((2 ^ k - 1 : Nat) : Int)).toNat : Int) = x % ((2 ^ k : Nat) : Int) := by
    rw [BitVec.toNat_and, BitVec.ofInt_natCast, BitVec.toNat_ofNat, Nat.mod_eq_of_lt (show 2 ^ k - 1 < 2 ^ 64 by omega), Nat.and_two_pow_sub_one_eq_mod, Int.natCast_emod, toNat_ofInt64]
    exact Int.emod_emod_of_dvd _ (by
      have : (2 ^ k : Nat) ∣ 2 ^ 64 := Nat.pow_dvd_pow 2 (by omega)
      exact Int.natCast_dvd_natCast.2 this)
  show IntKind.i64.wrap ((BitVec.ofInt 64 x &&& BitVec.ofInt 64 ((2 ^ k - 1 : Nat) : Int)).toNat : Int) = _
  have h0 : (0 : Int) ≤ x % ((2 ^ k : Nat) : Int) := Int.emod_nonneg _ (by omega)
  have h1 : x % ((2 ^ k : Nat) : Int) < ((2 ^ k : Nat) : Int) := Int.emod_lt_of_pos _ (by omega)
  rw [e]
  exact wrap_i64_of h0 (by omega)

theorem and_2047 (x : Int) : bits .and .i64 x 2047 = x % 2048 := and_mask_aux x 11 (by omega)
theorem and_frac (x : Int) : bits .and .i64 x 4503599627370495 = x % 4503599627370496 := and_mask_aux x 52 (by omega)
theorem and_255 (x : Int) : bits .and .i64 x 255 = x % 256 := and_mask_aux x 8 (by omega)
theorem and_frac3 (x : Int) : bits .and .i64 x 8388607 = x % 8388608 := and_mask_aux x 23 (by omega)
theorem and_one (x : Int) : bits .and .i64 x 1 = x % 2 := and_mask_aux x 1 (by omega)

theorem or_high (t : Nat) (k : Nat) (hk : k ≤ 61) (ht : t < 2 ^ k) : bits .or .i64 (t : Int) ((2 ^ k : Nat) : Int) = (t : Int) + ((2 ^ k : Nat) : Int) := by
  have hp : 2 ^ k ≤ 2 ^ 61 := Nat.pow_le_pow_right (by omega) hk
  have e : t ||| 2 ^ k = t + 2 ^ k := by
    rw [Nat.or_comm, Nat.add_comm]
    have := Nat.two_pow_add_eq_or_of_lt ht 1
    simpa using this.symm
  show IntKind.i64.wrap ((BitVec.ofInt 64 (t : Int) ||| BitVec.ofInt 64 ((2 ^ k : Nat) : Int)).toNat : Int) = _
  rw [BitVec.toNat_or, BitVec.ofInt_natCast, BitVec.ofInt_natCast, BitVec.toNat_ofNat, BitVec.toNat_ofNat, Nat.mod_eq_of_lt (show t < 2 ^ 64 by omega), Nat.mod_eq_of_lt (show 2 ^ k < 2 ^ 64 by omega), e]
  rw [wrap_i64_of (by omega) (by omega)]
  omega

theorem or_frac (x : Int) : bits .or .i64 (x % 4503599627370496) 4503599627370496 = x % 4503599627370496 + 4503599627370496 := by
  obtain ⟨t, ht⟩ := Int.eq_ofNat_of_zero_le (show 0 ≤ x % 4503599627370496 by omega)
  rw [ht]
  exact or_high t 52 (by omega) (by omega)

theorem or_frac3 (x : Int) : bits .or .i64 (x % 8388608) 8388608 = x % 8388608 + 8388608 := by
  obtain ⟨t, ht⟩ := Int.eq_ofNat_of_zero_le (show 0 ≤ x % 8388608 by omega)
  rw [ht]
  exact or_high t 23 (by omega) (by omega)

theorem xor_low (x : Nat) (h : x < 2 ^ 64) : x ^^^ 2 ^ 63 = if x < 2 ^ 63 then x + 2 ^ 63 else x - 2 ^ 63 := by
  by_cases c : x < 2 ^ 63
  · rw [if_pos c]
    have := Nat.two_pow_add_eq_or_of_lt c 1
    have e : x ^^^ 2 ^ 63 = x ||| 2 ^ 63 := by
      apply Nat.eq_of_testBit_eq
      intro i
      simp only [Nat.testBit_xor, Nat.testBit_or, Nat.testBit_two_pow]
      by_cases hi : 63 = i
      · subst hi; simp [Nat.testBit_lt_two_pow c]
      · simp [hi]
    rw [e, Nat.or_comm]
    simpa [Nat.add_comm] using this.symm
  · rw [if_neg c]
    obtain ⟨y, rfl⟩ : ∃ y, x = 2 ^ 63 + y := ⟨x - 2 ^ 63, by omega⟩
    have hy : y < 2 ^ 63 := by omega
    have e1 : 2 ^ 63 + y = 2 ^ 63 ||| y := by
      have := Nat.two_pow_add_eq_or_of_lt hy 1
      simpa using this
    rw [Nat.add_sub_cancel_left]
    apply Nat.eq_of_testBit_eq
    intro i
    rw [e1]
    simp only [Nat.testBit_xor, Nat.testBit_or, Nat.testBit_two_pow]
    by_cases hi : 63 = i
    · subst hi; simp [Nat.testBit_lt_two_pow hy]
    · simp [hi]

theorem xor_sign {b : Int} (h : I64 b) : bits .xor .i64 b (-9223372036854775808) = if b < 0 then b + 9223372036854775808 else b - 9223372036854775808 := by
  unfold I64 at h
  have e : (BitVec.ofInt 64 (-9223372036854775808)).toNat = 2 ^ 63 := by decide
  have hb := toNat_ofInt64 b
  show IntKind.i64.wrap ((BitVec.ofInt 64 b ^^^ BitVec.ofInt 64 (-9223372036854775808)).toNat : Int) = _
  rw [BitVec.toNat_xor, e, xor_low _ (BitVec.isLt _)]
  generalize (BitVec.ofInt 64 b).toNat = u at *
  simp only [IntKind.wrap, IntKind.bits, IntKind.signed]
  by_cases hn : b < 0
  · rw [if_pos hn, if_neg (by omega)]; simp; omega
  · rw [if_neg hn, if_pos (by omega)]; simp; omega

theorem andNot_low (x : Nat) (h : x < 2 ^ 64) : x &&& (2 ^ 63 - 1) = if x < 2 ^ 63 then x else x - 2 ^ 63 := by
  rw [Nat.and_two_pow_sub_one_eq_mod]
  split <;> omega

theorem andNot_sign {b : Int} (h : I64 b) : bits .andNot .i64 b (-9223372036854775808) = if b < 0 then b + 9223372036854775808 else b := by
  unfold I64 at h
  have e : (~~~ (BitVec.ofInt 64 (-9223372036854775808))).toNat = 2 ^ 63 - 1 := by decide
  have hb := toNat_ofInt64 b
  show IntKind.i64.wrap ((BitVec.ofInt 64 b &&& ~~~ (BitVec.ofInt 64 (-9223372036854775808))).toNat : Int) = _
  rw [BitVec.toNat_and, e, andNot_low _ (BitVec.isLt _)]
  generalize (BitVec.ofInt 64 b).toNat = u at *
  simp only [IntKind.wrap, IntKind.bits, IntKind.signed]
  by_cases hn : b < 0
  · rw [if_pos hn, if_neg (by omega)]; simp; omega
  · rw [if_neg hn, if_pos (by omega)]; simp; omega

theorem xor_all {b : Int} (h : I64 b) : bits .xor .i64 b (-1) = -b - 1 := by
  unfold I64 at h
  have hb := toNat_ofInt64 b
  have e : BitVec.ofInt 64 (-1) = BitVec.allOnes 64 := by decide
  show IntKind.i64.wrap ((BitVec.ofInt 64 b ^^^ BitVec.ofInt 64 (-1)).toNat : Int) = _
  rw [e, BitVec.xor_allOnes, BitVec.toNat_not]
  have hl := (BitVec.ofInt 64 b).isLt
  generalize (BitVec.ofInt 64 b).toNat = u at *
  simp only [IntKind.wrap, IntKind.bits, IntKind.signed]
  simp; omega

theorem xor_all' {b : Int} (h : I64 b) : bits .xor .i64 (-1) b = -b - 1 := by
  rw [← xor_all h]
  show IntKind.i64.wrap ((BitVec.ofInt 64 (-1) ^^^ BitVec.ofInt 64 b).toNat : Int) = IntKind.i64.wrap ((BitVec.ofInt 64 b ^^^ BitVec.ofInt 64 (-1)).toNat : Int)
  rw [BitVec.xor_comm]
end Go.Pt
