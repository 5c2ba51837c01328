/- What a call of Ldexp comes to, at a number that is no less than 1 or is 0. Condition: it stands in each fact. -/
import Derived.Test.YtgphmlllngichaaGreatDoorW5
namespace Go.Pt

theorem ord_pos {r u : Nat} (hr : r ≤ 9218868437227405312) (hu : u ≤ 9218868437227405312) : FloatKind.f64.format.order r u = some (compare (r : Int) u) :=
  Ieee.double.order_words (by decide) false false (by rw [infRung_eq]; exact hr) (by rw [infRung_eq]; exact hu)

theorem toNat_ofNat64 {x : Nat} (h : x < 18446744073709551616) : (BitVec.ofInt 64 (x : Int)).toNat = x := by
  rw [BitVec.ofInt_natCast, BitVec.toNat_ofNat]; exact Nat.mod_eq_of_lt (by omega)

theorem wrap_u64_of {x : Int} (h0 : 0 ≤ x) (h : x < 18446744073709551616) : IntKind.u64.wrap x = x := by
  rw [IntKind.wrap_u64]; omega

theorem andNot_abs {r : Nat} (h : r < 9223372036854775808) : bits .andNot .u64 (r : Int) 9223372036854775808 = r := by
  have e : (~~~ (BitVec.ofInt 64 9223372036854775808)).toNat = 2 ^ 63 - 1 := by decide
  show IntKind.u64.wrap ((BitVec.ofInt 64 (r : Int) &&& ~~~ (BitVec.ofInt 64 9223372036854775808)).toNat : Int) = _
  rw [BitVec.toNat_and, e, Nat.and_two_pow_sub_one_eq_mod, toNat_ofNat64 (by omega), Nat.mod_eq_of_lt (by omega)]
  exact wrap_u64_of (by omega) (by omega)

theorem andNot_field {r : Nat} (h : r < 9223372036854775808) : bits .andNot .u64 (r : Int) 9218868437227405312 = ((r % 4503599627370496 : Nat) : Int) := by
  have e : (~~~ (BitVec.ofInt 64 9218868437227405312)).toNat = 2 ^ 63 ||| (2 ^ 52 - 1) := by decide
  show IntKind.u64.wrap ((BitVec.ofInt 64 (r : Int) &&& ~~~ (BitVec.ofInt 64 9218868437227405312)).toNat : Int) = _
  have k : r &&& (2 ^ 63 ||| (2 ^ 52 - 1)) = r % 2 ^ 52 := by
    apply Nat.eq_of_testBit_eq
    intro i
    rw [Nat.testBit_and, Nat.testBit_or, Nat.testBit_two_pow, Nat.testBit_two_pow_sub_one, Nat.testBit_mod_two_pow]
    by_cases hi : 63 = i
    · subst hi; rw [Nat.testBit_lt_two_pow (show r < 2 ^ 63 by omega)]; simp
    · simp [hi, Bool.and_comm]
  rw [BitVec.toNat_and, e, toNat_ofNat64 (by omega), k]
  exact wrap_u64_of (by omega) (by omega)

theorem or_field {t q : Nat} (ht : t < 4503599627370496) (hq : q < 2048) : bits .or .u64 (t : Int) ((q * 4503599627370496 : Nat) : Int) = ((q * 4503599627370496 + t : Nat) : Int) := by
  show IntKind.u64.wrap ((BitVec.ofInt 64 (t : Int) ||| BitVec.ofInt 64 ((q * 4503599627370496 : Nat) : Int)).toNat : Int) = _
  have k := Nat.two_pow_add_eq_or_of_lt (show t < 2 ^ 52 by omega) q
  rw [BitVec.toNat_or, toNat_ofNat64 (by omega), toNat_ofNat64 (by omega), Nat.or_comm, show q * 4503599627370496 = 2 ^ 52 * q by omega, ← k]
  exact wrap_u64_of (by omega) (by omega)

theorem and_abs {r : Nat} (h : r < 9223372036854775808) : bits .and .u64 (r : Int) 9223372036854775808 = 0 := by
  show IntKind.u64.wrap ((BitVec.ofInt 64 (r : Int) &&& BitVec.ofInt 64 9223372036854775808).toNat : Int) = _
  have k : r &&& 2 ^ 63 = 0 := by
    apply Nat.eq_of_testBit_eq
    intro i
    rw [Nat.testBit_and, Nat.testBit_two_pow]
    by_cases hi : 63 = i
    · subst hi; rw [Nat.testBit_lt_two_pow (show r < 2 ^ 63 by omega)]; simp
    · simp [hi]
  rw [BitVec.toNat_and, toNat_ofNat64 (by omega), show (BitVec.ofInt 64 9223372036854775808).toNat = 2 ^ 63 by decide, k]
  exact wrap_u64_of (by omega) (by omega)

/-- What Ldexp owes: the number, where there is one. -/
def LdOK (r : Nat) (e : Int) (z : Nat) : Prop := z ≤ 9218868437227405312 ∧ ∀ u, u < 9218868437227405312 → Ieee.double.At (Ieee.double.mg r) (-1074 + Ieee.double.up r + e) u → z = u

theorem up_of {r : Nat} (h : 4503599627370496 ≤ r) : (Ieee.double.up r : Int) = (r : Int) / 4503599627370496 - 1 := by
  unfold Ieee.Format.up; rw [binade_eq]; omega
theorem mg_of {r : Nat} (h : 4503599627370496 ≤ r) : Ieee.double.mg r = 4503599627370496 + r % 4503599627370496 := by
  unfold Ieee.Format.mg; rw [binade_eq, if_neg (by omega)]

theorem mul_pow {o : Nat} {c : Int} (h : Ieee.double.read o = .number false 4503599627370496 c) {x : Nat} (hx : x < 9218868437227405312) :
    floatBits .mul .f64 o x = some (Ieee.double.nearest false (4503599627370496 * Ieee.double.mg x) (c + (-1074 + Ieee.double.up x))) := by
  show Ieee.double.mul o x = _
  unfold Ieee.Format.mul
  rw [h, show x = Ieee.double.word false x from rfl, Ieee.double.read_word false (by rw [infRung_eq]; exact hx)]
  rfl

theorem nearest_le_inf (f : Ieee.Format) (m : Nat) (p : Int) : f.nearest false m p ≤ f.infRung := by
  unfold Ieee.Format.nearest
  split
  · exact Nat.zero_le _
  · exact Nat.min_le_right _ _
theorem nearest_le (m : Nat) (p : Int) : Ieee.double.nearest false m p ≤ 9218868437227405312 := by
  have h := nearest_le_inf Ieee.double m p
  rw [infRung_eq] at h
  exact h

theorem deq_52 (m : Nat) (p : Int) : Ieee.Deq (4503599627370496 * m) p m (p + 52) := by
  have e : (4503599627370496 : Nat) = 2 ^ 52 := by decide
  rw [e, Nat.mul_comm]
  exact Ieee.Deq.shift m 52 p

/-- The product by a power of 2, where it is a number of the format. -/
theorem mul_ld {o : Nat} {c : Int} (h : Ieee.double.read o = .number false 4503599627370496 c) {x r : Nat} {e : Int} (hx : x < 9218868437227405312)
    (hm : Ieee.double.mg x = Ieee.double.mg r) (hp : c + 52 + Ieee.double.up x = Ieee.double.up r + e) :
    ∃ z, floatBits .mul .f64 o x = some z ∧ LdOK r e z := by
  refine ⟨_, mul_pow h hx, nearest_le _ _, fun u hu ha => ?_⟩
  have g : Ieee.double.At (4503599627370496 * Ieee.double.mg x) (c + (-1074 + Ieee.double.up x)) u := by
    unfold Ieee.Format.At at *
    refine (deq_52 _ _).trans ?_
    rw [hm, show c + (-1074 + (Ieee.double.up x : Int)) + 52 = -1074 + Ieee.double.up r + e by omega]
    exact ha
  exact Ieee.double.nearest_at false (by rw [infRung_eq]; exact hu) g

theorem read_one : Ieee.double.read 4607182418800017408 = .number false 4503599627370496 (-52) := by decide
theorem read_tiny : Ieee.double.read 4368491638549381120 = .number false 4503599627370496 (-105) := by decide

theorem ld_under {r : Nat} {e : Int} (hr : 4503599627370496 ≤ r) (h : (r : Int) / 4503599627370496 - 1023 + e < -1075) : LdOK r e 0 := by
  refine ⟨by omega, fun u _ ha => ?_⟩
  exfalso
  obtain ⟨a, c, h1, h2⟩ := ha
  have hu := up_of hr
  have hm := mg_of hr
  rw [least_eq] at h2
  have hc : a + 54 ≤ c := by omega
  obtain ⟨d, rfl⟩ : ∃ d, c = 54 + d + a := ⟨c - a - 54, by omega⟩
  rw [Nat.pow_add, ← Nat.mul_assoc] at h1
  have h3 := Nat.eq_of_mul_eq_mul_right (Nat.two_pow_pos a) h1
  rw [Nat.pow_add] at h3
  have hd := Nat.two_pow_pos d
  by_cases z : Ieee.double.mg u = 0
  · rw [z, Nat.zero_mul] at h3; omega
  · have k1 : 2 ^ 54 * 1 ≤ 2 ^ 54 * 2 ^ d := Nat.mul_le_mul_left _ hd
    have k2 : 1 * (2 ^ 54 * 2 ^ d) ≤ Ieee.double.mg u * (2 ^ 54 * 2 ^ d) := Nat.mul_le_mul_right _ (by omega)
    omega

theorem ld_over {r : Nat} {e : Int} (hr : 4503599627370496 ≤ r) (h : 1023 < (r : Int) / 4503599627370496 - 1023 + e) : LdOK r e 9218868437227405312 := by
  refine ⟨Nat.le_refl _, fun u hu0 ha => ?_⟩
  exfalso
  obtain ⟨a, c, h1, h2⟩ := ha
  have hu := up_of hr
  have hm := mg_of hr
  have hl := Ieee.double.mg_lt u
  rw [least_eq] at h2
  rw [binade_eq] at hl
  have k : Ieee.double.up u ≤ 2045 := by unfold Ieee.Format.up; rw [binade_eq]; omega
  have hc : c + 1 ≤ a := by omega
  obtain ⟨d, rfl⟩ : ∃ d, a = 1 + d + c := ⟨a - c - 1, by omega⟩
  rw [Nat.pow_add, ← Nat.mul_assoc] at h1
  have h3 := Nat.eq_of_mul_eq_mul_right (Nat.two_pow_pos c) h1
  rw [Nat.pow_add] at h3
  have hd := Nat.two_pow_pos d
  have k1 : 2 ^ 1 * 1 ≤ 2 ^ 1 * 2 ^ d := Nat.mul_le_mul_left _ hd
  have k2 : Ieee.double.mg r * 2 ≤ Ieee.double.mg r * (2 ^ 1 * 2 ^ d) := Nat.mul_le_mul_left _ (by omega)
  omega

theorem ld_mid {r : Nat} {e : Int} (hr : 4503599627370496 ≤ r) (h1 : -1022 ≤ (r : Int) / 4503599627370496 - 1023 + e) (h2 : (r : Int) / 4503599627370496 - 1023 + e ≤ 1023) :
    ∃ z, floatBits .mul .f64 4607182418800017408 (bits .or .u64 ((r : Int) % 4503599627370496) ((e + ((r : Int) / 4503599627370496 - 1023) + 1023) * 4503599627370496)).toNat = some z ∧ LdOK r e z := by
  obtain ⟨q, hq⟩ := Int.eq_ofNat_of_zero_le (show 0 ≤ e + ((r : Int) / 4503599627370496 - 1023) + 1023 by omega)
  have hq1 : 1 ≤ q := by omega
  have hq2 : q ≤ 2046 := by omega
  have hb : bits .or .u64 ((r : Int) % 4503599627370496) ((q : Int) * 4503599627370496) = ((q * 4503599627370496 + r % 4503599627370496 : Nat) : Int) := by
    have := or_field (t := r % 4503599627370496) (q := q) (by omega) (by omega)
    rw [show (r : Int) % 4503599627370496 = ((r % 4503599627370496 : Nat) : Int) by omega, show (q : Int) * 4503599627370496 = ((q * 4503599627370496 : Nat) : Int) by omega]
    exact this
  rw [hq, hb, Int.toNat_natCast]
  have n := Ieee.double.norm_rung (m := 4503599627370496 + r % 4503599627370496) (q := q - 1) (by rw [binade_eq]; omega) (Or.inl (by rw [binade_eq]; omega))
  rw [binade_eq, show (q - 1) * 4503599627370496 + (4503599627370496 + r % 4503599627370496) = q * 4503599627370496 + r % 4503599627370496 by omega] at n
  have hu := up_of hr
  exact mul_ld read_one (by omega) (by rw [n.1, mg_of hr]) (by rw [n.2]; omega)

theorem ld_low {r : Nat} {e : Int} (hr : 4503599627370496 ≤ r) (h1 : -1075 ≤ (r : Int) / 4503599627370496 - 1023 + e) (h2 : (r : Int) / 4503599627370496 - 1023 + e < -1022) :
    ∃ z, floatBits .mul .f64 4368491638549381120 (bits .or .u64 ((r : Int) % 4503599627370496) ((e + ((r : Int) / 4503599627370496 - 1023) + 53 + 1023) * 4503599627370496)).toNat = some z ∧ LdOK r e z := by
  obtain ⟨q, hq⟩ := Int.eq_ofNat_of_zero_le (show 0 ≤ e + ((r : Int) / 4503599627370496 - 1023) + 53 + 1023 by omega)
  have hq1 : 1 ≤ q := by omega
  have hq2 : q ≤ 2046 := by omega
  have hb : bits .or .u64 ((r : Int) % 4503599627370496) ((q : Int) * 4503599627370496) = ((q * 4503599627370496 + r % 4503599627370496 : Nat) : Int) := by
    have := or_field (t := r % 4503599627370496) (q := q) (by omega) (by omega)
    rw [show (r : Int) % 4503599627370496 = ((r % 4503599627370496 : Nat) : Int) by omega, show (q : Int) * 4503599627370496 = ((q * 4503599627370496 : Nat) : Int) by omega]
    exact this
  rw [hq, hb, Int.toNat_natCast]
  have n := Ieee.double.norm_rung (m := 4503599627370496 + r % 4503599627370496) (q := q - 1) (by rw [binade_eq]; omega) (Or.inl (by rw [binade_eq]; omega))
  rw [binade_eq, show (q - 1) * 4503599627370496 + (4503599627370496 + r % 4503599627370496) = q * 4503599627370496 + r % 4503599627370496 by omega] at n
  have hu := up_of hr
  exact mul_ld read_tiny (by omega) (by rw [n.1, mg_of hr]) (by rw [n.2]; omega)

end Go.Pt
namespace Go.Proofs.YtgphmlllngichaaGreatDoor
open Go.RowKit Go.Pt
attribute [local go_sem] and_2047 and_frac and_255 and_frac3 and_one or_frac or_frac3

set_option maxHeartbeats 400000 in
theorem absF_any (r : Nat) (h : r < 9223372036854775808) (w : World) :
    Calls Tryz.prog 207 #[.float .f64 r] w fun e w' => e = .returned (.float .f64 r) ∧ w = w' := by
  go_enter Tryz.func207, Tryz.ntmps207
  go_wp2
  go_ret
  exact ⟨rf (by rw [andNot_abs h]; rfl), rfl⟩

set_option maxHeartbeats 400000 in
theorem isInf_fin (r : Nat) (hr : r < 9218868437227405312) (w : World) :
    Calls Tryz.prog 191 #[.float .f64 r, .int .i64 0] w fun e w' => e = .returned (.bool false) ∧ w = w' := by
  have h := absF_any r (by omega)
  have o : (FloatKind.f64.format.order r 9218868437227405311 == some .gt) = false := by
    rw [ord_pos (by omega) (by omega), cmp_gt]; exact decide_eq_false (by omega)
  have HO := Lib.hid o; clear o
  go_enter Tryz.func191, Tryz.ntmps191
  go_wp2_with (go_at_call 207; refine (h _).mono ?_; rintro e w' ⟨rfl, rfl⟩)
  go_ret
  exact ⟨rb HO.out, rfl⟩

set_option maxHeartbeats 400000 in
theorem isInf_inf (w : World) :
    Calls Tryz.prog 191 #[.float .f64 9218868437227405312, .int .i64 0] w fun e w' => e = .returned (.bool true) ∧ w = w' := by
  have h := absF_any 9218868437227405312 (by omega)
  have o : (FloatKind.f64.format.order 9218868437227405312 9218868437227405311 == some .gt) = true := by
    rw [ord_pos (by omega) (by omega), cmp_gt]; exact decide_eq_true (by omega)
  have HO := Lib.hid o; clear o
  go_enter Tryz.func191, Tryz.ntmps191
  go_wp2_with (go_at_call 207; refine (h _).mono ?_; rintro e w' ⟨rfl, rfl⟩)
  go_ret
  exact ⟨rb HO.out, rfl⟩

theorem rtfi {a a' : Nat} {b b' : Int} (h1 : a = a') (h2 : b = b') : Ending.returned (.tuple #[.float .f64 a, .int .i64 b]) = .returned (.tuple #[.float .f64 a', .int .i64 b']) := by rw [h1, h2]

set_option maxHeartbeats 400000 in
theorem normalize_any (r : Nat) (hr : 4503599627370496 ≤ r) (hr2 : r < 9218868437227405312) (w : World) :
    Calls Tryz.prog 193 #[.float .f64 r] w fun e w' => e = .returned (.tuple #[.float .f64 r, .int .i64 0]) ∧ w = w' := by
  have h := absF_any r (by omega)
  have o : (FloatKind.f64.format.order r 4503599627370496 == some .lt) = false := by
    rw [ord_pos (by omega) (by omega), cmp_lt]; exact decide_eq_false (by omega)
  go_enter Tryz.func193, Tryz.ntmps193
  go_wp2_with (go_at_call 207; refine (h _).mono ?_; rintro e w' ⟨rfl, rfl⟩)
  go_ret2
  exact ⟨rfl, rfl⟩

theorem isN_pos {r : Nat} (h : r ≤ 9218868437227405312) : isN r = false := by
  unfold isN; rw [ord_pos h h, Int.compare_eq_eq.2 rfl]; rfl

def Ld (r : Nat) (e : Int) (w : World) (en : Ending) (w' : World) : Prop := ∃ z, en = .returned (.float .f64 z) ∧ LdOK r e z ∧ w = w'

end Go.Proofs.YtgphmlllngichaaGreatDoor
