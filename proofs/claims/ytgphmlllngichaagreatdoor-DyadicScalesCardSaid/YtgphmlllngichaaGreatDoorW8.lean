/- What Join and Join32 come to: the pattern whose value is the whole number times the power of 2, where there is one. The walks of the reference's two. Condition: it stands in each fact. -/
import Derived.Test.YtgphmlllngichaaGreatDoorW7
namespace Go.Pt
open Classical in
/-- The rung of a number, where the format has it. -/
noncomputable def jn (f : Ieee.Format) (m : Nat) (e : Int) : Option Nat := if h : ∃ r, r < f.infRung ∧ f.At m e r then some (Classical.choose h) else none

theorem jn_some {f : Ieee.Format} {m r : Nat} {e : Int} (hr : r < f.infRung) (h : f.At m e r) : jn f m e = some r := by
  have hx : ∃ r, r < f.infRung ∧ f.At m e r := ⟨r, hr, h⟩
  unfold jn
  rw [dif_pos hx]
  exact congrArg some ((Classical.choose_spec hx).2.inj h)

theorem jn_none {f : Ieee.Format} {m : Nat} {e : Int} (h : ∀ r, r < f.infRung → ¬ f.At m e r) : jn f m e = none := by
  unfold jn
  rw [dif_neg]
  rintro ⟨r, hr, ha⟩
  exact h r hr ha

/-- The pattern that Join gives. -/
noncomputable def jv64 (n : Bool) (m e : Int) : Int := if m < 0 then 0 else match jn Ieee.double m.toNat e with | some r => (if n then -9223372036854775808 else 0) + (r : Int) | none => 0
/-- Whether there is one. -/
noncomputable def jo64 (m e : Int) : Bool := if m < 0 then false else (jn Ieee.double m.toNat e).isSome

theorem j64_neg (n : Bool) {m : Int} (e : Int) (h : m < 0) : jv64 n m e = 0 ∧ jo64 m e = false := by
  unfold jv64 jo64; rw [if_pos h, if_pos h]; exact ⟨rfl, rfl⟩
theorem j64_none (n : Bool) {m e : Int} (h : 0 < m) (k : ∀ r, ¬ Ieee.double.At m.toNat e r) : jv64 n m e = 0 ∧ jo64 m e = false := by
  unfold jv64 jo64
  have hm : ¬ m < 0 := by omega
  rw [if_neg hm, if_neg hm, jn_none (fun r _ => k r)]; exact ⟨rfl, rfl⟩
theorem j64_hit (n : Bool) {m e : Int} {r : Nat} (h : 0 ≤ m) (hr : r < Ieee.double.infRung) (k : Ieee.double.At m.toNat e r) : jv64 n m e = (if n then -9223372036854775808 else 0) + (r : Int) ∧ jo64 m e = true := by
  unfold jv64 jo64
  have hm : ¬ m < 0 := by omega
  rw [if_neg hm, if_neg hm, jn_some hr k]; exact ⟨rfl, rfl⟩
theorem at_zero64 (e : Int) : Ieee.double.At 0 e 0 := by
  unfold Ieee.Format.At
  rw [show Ieee.double.mg 0 = 0 from rfl]
  exact Ieee.Deq.zero _ _
theorem j64_zero (n : Bool) (e : Int) : jv64 n 0 e = (if n then -9223372036854775808 else 0) ∧ jo64 0 e = true := by
  have := j64_hit n (m := 0) (e := e) (r := 0) (by omega) (by rw [infRung_eq]; omega) (at_zero64 e)
  rw [this.1]
  exact ⟨by simp, this.2⟩
theorem far64 {m e : Int} (h0 : 0 < m) (h1 : m < 9223372036854775808) (h : e < -2000 ∨ 2000 < e) {r : Nat} (hr : r < Ieee.double.infRung) : ¬ Ieee.double.At m.toNat e r := by
  rintro ⟨a, c, k1, k2⟩
  have hl := Ieee.double.mg_lt r
  have hu : Ieee.double.up r ≤ 2045 := by unfold Ieee.Format.up; rw [infRung_eq] at hr; rw [binade_eq]; omega
  rw [least_eq] at k2
  rw [binade_eq] at hl
  rcases h with h | h
  · obtain ⟨d, rfl⟩ : ∃ d, c = 64 + d + a := ⟨c - a - 64, by omega⟩
    rw [Nat.pow_add, ← Nat.mul_assoc] at k1
    have k3 := Nat.eq_of_mul_eq_mul_right (Nat.two_pow_pos a) k1
    rw [Nat.pow_add] at k3
    have hd := Nat.two_pow_pos d
    by_cases z : Ieee.double.mg r = 0
    · rw [z, Nat.zero_mul] at k3; omega
    · have g1 : 2 ^ 64 * 1 ≤ 2 ^ 64 * 2 ^ d := Nat.mul_le_mul_left _ hd
      have g2 : 1 * (2 ^ 64 * 2 ^ d) ≤ Ieee.double.mg r * (2 ^ 64 * 2 ^ d) := Nat.mul_le_mul_right _ (by omega)
      omega
  · obtain ⟨d, rfl⟩ : ∃ d, a = 64 + d + c := ⟨a - c - 64, by omega⟩
    rw [Nat.pow_add, ← Nat.mul_assoc] at k1
    have k3 := Nat.eq_of_mul_eq_mul_right (Nat.two_pow_pos c) k1
    rw [Nat.pow_add] at k3
    have hd := Nat.two_pow_pos d
    have g1 : 2 ^ 64 * 1 ≤ 2 ^ 64 * 2 ^ d := Nat.mul_le_mul_left _ hd
    have g2 : 1 * (2 ^ 64 * 2 ^ d) ≤ m.toNat * (2 ^ 64 * 2 ^ d) := Nat.mul_le_mul_right _ (by omega)
    omega
theorem j64_far (n : Bool) {m e : Int} (h0 : 0 < m) (h1 : m < 9223372036854775808) (h : e < -2000 ∨ 2000 < e) : jv64 n m e = 0 ∧ jo64 m e = false := by
  unfold jv64 jo64
  have hm : ¬ m < 0 := by omega
  rw [if_neg hm, if_neg hm, jn_none (fun r hr => far64 h0 h1 h hr)]; exact ⟨rfl, rfl⟩
theorem at_rung64 {M E m e : Int} (h1 : 0 < M) (h2 : M < 2 * 4503599627370496) (h3 : -1074 ≤ E) (h5 : 4503599627370496 ≤ M ∨ E = -1074) (h6 : Ieee.Deq m.toNat e M.toNat E) :
    Ieee.double.At m.toNat e ((E + 1074) * 4503599627370496 + M).toNat := by
  have := Ieee.double.at_norm (m := M.toNat) (p := E) (by rw [binade_eq]; omega) (by rw [least_eq]; exact h3) (by rw [binade_eq, least_eq]; omega)
  rw [least_eq, binade_eq, show (E - (-1074)).toNat * 4503599627370496 + M.toNat = ((E + 1074) * 4503599627370496 + M).toNat by omega] at this
  exact h6.trans this
theorem j64_some (n : Bool) {M E m e : Int} (h0 : 0 ≤ m) (h1 : 0 < M) (h2 : M < 2 * 4503599627370496) (h3 : -1074 ≤ E) (h4 : E ≤ 971) (h5 : 4503599627370496 ≤ M ∨ E = -1074) (h6 : Ieee.Deq m.toNat e M.toNat E) :
    jv64 n m e = (if n then -9223372036854775808 else 0) + ((E + 1074) * 4503599627370496 + M) ∧ jo64 m e = true := by
  have := j64_hit n h0 (by rw [infRung_eq]; omega) (at_rung64 h1 h2 h3 h5 h6)
  rw [Int.toNat_of_nonneg (by omega)] at this
  exact this
theorem j64_high (n : Bool) {M E m e : Int} (h0 : 0 ≤ m) (h1 : 0 < M) (h2 : M < 2 * 4503599627370496) (h3 : -1074 ≤ E) (h4 : 971 < E) (h5 : 4503599627370496 ≤ M ∨ E = -1074) (h6 : Ieee.Deq m.toNat e M.toNat E) :
    jv64 n m e = 0 ∧ jo64 m e = false := by
  have k : ∀ r, r < Ieee.double.infRung → ¬ Ieee.double.At m.toNat e r := by
    intro r hr ha
    have := ha.inj (at_rung64 h1 h2 h3 h5 h6)
    rw [infRung_eq] at hr
    omega
  unfold jv64 jo64
  have hm : ¬ m < 0 := by omega
  rw [if_neg hm, if_neg hm, jn_none k]; exact ⟨rfl, rfl⟩

/-- The pattern that Join gives. -/
noncomputable def jv32 (n : Bool) (m e : Int) : Int := if m < 0 then 0 else match jn Ieee.single m.toNat e with | some r => (if n then 2147483648 else 0) + (r : Int) | none => 0
/-- Whether there is one. -/
noncomputable def jo32 (m e : Int) : Bool := if m < 0 then false else (jn Ieee.single m.toNat e).isSome

theorem j32_neg (n : Bool) {m : Int} (e : Int) (h : m < 0) : jv32 n m e = 0 ∧ jo32 m e = false := by
  unfold jv32 jo32; rw [if_pos h, if_pos h]; exact ⟨rfl, rfl⟩
theorem j32_none (n : Bool) {m e : Int} (h : 0 < m) (k : ∀ r, ¬ Ieee.single.At m.toNat e r) : jv32 n m e = 0 ∧ jo32 m e = false := by
  unfold jv32 jo32
  have hm : ¬ m < 0 := by omega
  rw [if_neg hm, if_neg hm, jn_none (fun r _ => k r)]; exact ⟨rfl, rfl⟩
theorem j32_hit (n : Bool) {m e : Int} {r : Nat} (h : 0 ≤ m) (hr : r < Ieee.single.infRung) (k : Ieee.single.At m.toNat e r) : jv32 n m e = (if n then 2147483648 else 0) + (r : Int) ∧ jo32 m e = true := by
  unfold jv32 jo32
  have hm : ¬ m < 0 := by omega
  rw [if_neg hm, if_neg hm, jn_some hr k]; exact ⟨rfl, rfl⟩
theorem at_zero32 (e : Int) : Ieee.single.At 0 e 0 := by
  unfold Ieee.Format.At
  rw [show Ieee.single.mg 0 = 0 from rfl]
  exact Ieee.Deq.zero _ _
theorem j32_zero (n : Bool) (e : Int) : jv32 n 0 e = (if n then 2147483648 else 0) ∧ jo32 0 e = true := by
  have := j32_hit n (m := 0) (e := e) (r := 0) (by omega) (by rw [infRung3_eq]; omega) (at_zero32 e)
  rw [this.1]
  exact ⟨by simp, this.2⟩
theorem far32 {m e : Int} (h0 : 0 < m) (h1 : m < 9223372036854775808) (h : e < -2000 ∨ 2000 < e) {r : Nat} (hr : r < Ieee.single.infRung) : ¬ Ieee.single.At m.toNat e r := by
  rintro ⟨a, c, k1, k2⟩
  have hl := Ieee.single.mg_lt r
  have hu : Ieee.single.up r ≤ 253 := by unfold Ieee.Format.up; rw [infRung3_eq] at hr; rw [binade3_eq]; omega
  rw [least3_eq] at k2
  rw [binade3_eq] at hl
  rcases h with h | h
  · obtain ⟨d, rfl⟩ : ∃ d, c = 64 + d + a := ⟨c - a - 64, by omega⟩
    rw [Nat.pow_add, ← Nat.mul_assoc] at k1
    have k3 := Nat.eq_of_mul_eq_mul_right (Nat.two_pow_pos a) k1
    rw [Nat.pow_add] at k3
    have hd := Nat.two_pow_pos d
    by_cases z : Ieee.single.mg r = 0
    · rw [z, Nat.zero_mul] at k3; omega
    · have g1 : 2 ^ 64 * 1 ≤ 2 ^ 64 * 2 ^ d := Nat.mul_le_mul_left _ hd
      have g2 : 1 * (2 ^ 64 * 2 ^ d) ≤ Ieee.single.mg r * (2 ^ 64 * 2 ^ d) := Nat.mul_le_mul_right _ (by omega)
      omega
  · obtain ⟨d, rfl⟩ : ∃ d, a = 64 + d + c := ⟨a - c - 64, by omega⟩
    rw [Nat.pow_add, ← Nat.mul_assoc] at k1
    have k3 := Nat.eq_of_mul_eq_mul_right (Nat.two_pow_pos c) k1
    rw [Nat.pow_add] at k3
    have hd := Nat.two_pow_pos d
    have g1 : 2 ^ 64 * 1 ≤ 2 ^ 64 * 2 ^ d := Nat.mul_le_mul_left _ hd
    have g2 : 1 * (2 ^ 64 * 2 ^ d) ≤ m.toNat * (2 ^ 64 * 2 ^ d) := Nat.mul_le_mul_right _ (by omega)
    omega
theorem j32_far (n : Bool) {m e : Int} (h0 : 0 < m) (h1 : m < 9223372036854775808) (h : e < -2000 ∨ 2000 < e) : jv32 n m e = 0 ∧ jo32 m e = false := by
  unfold jv32 jo32
  have hm : ¬ m < 0 := by omega
  rw [if_neg hm, if_neg hm, jn_none (fun r hr => far32 h0 h1 h hr)]; exact ⟨rfl, rfl⟩
theorem at_rung32 {M E m e : Int} (h1 : 0 < M) (h2 : M < 2 * 8388608) (h3 : -149 ≤ E) (h5 : 8388608 ≤ M ∨ E = -149) (h6 : Ieee.Deq m.toNat e M.toNat E) :
    Ieee.single.At m.toNat e ((E + 149) * 8388608 + M).toNat := by
  have := Ieee.single.at_norm (m := M.toNat) (p := E) (by rw [binade3_eq]; omega) (by rw [least3_eq]; exact h3) (by rw [binade3_eq, least3_eq]; omega)
  rw [least3_eq, binade3_eq, show (E - (-149)).toNat * 8388608 + M.toNat = ((E + 149) * 8388608 + M).toNat by omega] at this
  exact h6.trans this
theorem j32_some (n : Bool) {M E m e : Int} (h0 : 0 ≤ m) (h1 : 0 < M) (h2 : M < 2 * 8388608) (h3 : -149 ≤ E) (h4 : E ≤ 104) (h5 : 8388608 ≤ M ∨ E = -149) (h6 : Ieee.Deq m.toNat e M.toNat E) :
    jv32 n m e = (if n then 2147483648 else 0) + ((E + 149) * 8388608 + M) ∧ jo32 m e = true := by
  have := j32_hit n h0 (by rw [infRung3_eq]; omega) (at_rung32 h1 h2 h3 h5 h6)
  rw [Int.toNat_of_nonneg (by omega)] at this
  exact this
theorem j32_high (n : Bool) {M E m e : Int} (h0 : 0 ≤ m) (h1 : 0 < M) (h2 : M < 2 * 8388608) (h3 : -149 ≤ E) (h4 : 104 < E) (h5 : 8388608 ≤ M ∨ E = -149) (h6 : Ieee.Deq m.toNat e M.toNat E) :
    jv32 n m e = 0 ∧ jo32 m e = false := by
  have k : ∀ r, r < Ieee.single.infRung → ¬ Ieee.single.At m.toNat e r := by
    intro r hr ha
    have := ha.inj (at_rung32 h1 h2 h3 h5 h6)
    rw [infRung3_eq] at hr
    omega
  unfold jv32 jo32
  have hm : ¬ m < 0 := by omega
  rw [if_neg hm, if_neg hm, jn_none k]; exact ⟨rfl, rfl⟩

end Go.Pt
namespace Go.Proofs.YtgphmlllngichaaGreatDoor
open Go.RowKit Go.Pt
attribute [local go_sem] and_2047 and_frac and_255 and_frac3 and_one or_frac or_frac3

theorem rib {a a' : Int} {b b' : Bool} (h1 : a = a') (h2 : b = b') : Ending.returned (.tuple #[.int .i64 a, .bool b]) = .returned (.tuple #[.int .i64 a', .bool b']) := by rw [h1, h2]

end Go.Proofs.YtgphmlllngichaaGreatDoor
