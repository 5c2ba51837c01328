/- Join of the package bits and of its reference. Condition: it stands in each fact. -/
import Derived.Test.YtgmebioogkmfgaaDoorQB
namespace Go.Pt

/-- A number halved k times. -/
def Hv (m e M E : Int) : Prop := 0 < M ∧ ∃ k : Nat, k ≤ 62 ∧ m = M * 2 ^ k ∧ E = e + k

theorem Hv.start {m e : Int} (h : 0 < m) : Hv m e m e := ⟨h, 0, by omega, by simp, by simp⟩

theorem Hv.bound {m e M E : Int} (h : Hv m e M E) : 0 < M ∧ M ≤ m ∧ e ≤ E ∧ E ≤ e + 62 := by
  obtain ⟨h0, k, hk, rfl, rfl⟩ := h
  have : (1 : Int) ≤ 2 ^ k := by have := Nat.two_pow_pos k; exact_mod_cast this
  refine ⟨h0, ?_, by omega, by omega⟩
  calc M = M * 1 := by omega
    _ ≤ M * 2 ^ k := Int.mul_le_mul_of_nonneg_left this (by omega)

theorem Hv.step {m e M E : Int} (h : Hv m e M E) (hm : m < 9223372036854775808) (h2 : M % 2 = 0) : Hv m e (M / 2) (E + 1) := by
  obtain ⟨h0, k, hk, rfl, rfl⟩ := h
  obtain ⟨H, rfl⟩ : ∃ H, M = H * 2 := ⟨M / 2, by omega⟩
  have e1 : H * 2 * 2 ^ k = H * 2 ^ (k + 1) := by rw [Int.pow_succ, Int.mul_assoc, Int.mul_comm 2]
  rw [Int.mul_ediv_cancel _ (by decide)]
  refine ⟨by omega, k + 1, ?_, e1, by omega⟩
  by_cases c : k + 1 ≤ 62
  · exact c
  · exfalso
    have k62 : k = 62 := by omega
    subst k62
    have : (1 : Int) * 2 ^ (62 + 1) ≤ H * 2 ^ (62 + 1) := Int.mul_le_mul_of_nonneg_right (by omega) (by decide)
    rw [e1] at hm
    have e3 : (2 : Int) ^ (62 + 1) = 9223372036854775808 := by decide
    omega

theorem Hv.deq {m e M E : Int} (h : Hv m e M E) : Ieee.Deq m.toNat e M.toNat E := by
  obtain ⟨h0, k, hk, rfl, rfl⟩ := h
  obtain ⟨H, rfl⟩ := Int.eq_ofNat_of_zero_le (show 0 ≤ M by omega)
  have : ((H : Int) * 2 ^ k).toNat = H * 2 ^ k := by
    have : ((H : Int) * 2 ^ k) = ((H * 2 ^ k : Nat) : Int) := by push_cast; rfl
    rw [this, Int.toNat_natCast]
  rw [this, Int.toNat_natCast]
  exact Ieee.Deq.shift _ _ _

/-- A number doubled at the cost of its place. -/
def Db (low bin m e M E : Int) : Prop := 0 < M ∧ M < 2 * bin ∧ low ≤ E ∧ E ≤ e ∧ Ieee.Deq m.toNat e M.toNat E

theorem Db.step {low bin m e M E : Int} (h : Db low bin m e M E) (c1 : low < E) (c2 : M < bin) : Db low bin m e (M + M) (E - 1) := by
  obtain ⟨h1, h2, h3, h4, h5⟩ := h
  refine ⟨by omega, by omega, by omega, by omega, h5.trans ?_⟩
  have := Ieee.Deq.shift M.toNat 1 (E - 1)
  rw [show M.toNat * 2 ^ 1 = (M + M).toNat by omega, show E - 1 + ((1 : Nat) : Int) = E by omega] at this
  exact this.symm

end Go.Pt
namespace Go.Proofs.YtgmebioogkmfgaaDoor
open Go.RowKit Go.Pt
attribute [local go_sem] and_2047 and_frac and_255 and_frac3 and_one or_frac or_frac3

def Red (m e : Int) (w : World) (en : Ending) (w' : World) : Prop := ∃ M E : Int, en = .returned (.tuple #[.int .i64 M, .int .i64 E]) ∧ Hv m e M E ∧ M % 2 = 1 ∧ w = w'

def Sh64 (m e : Int) (w : World) (en : Ending) (w' : World) : Prop :=
  (∃ M E : Int, en = .returned (.tuple #[.int .i64 M, .int .i64 E, .bool true]) ∧ 0 < M ∧ M < 2 * 4503599627370496 ∧ -1074 ≤ E ∧ E ≤ e + 62 ∧ (4503599627370496 ≤ M ∨ E = -1074) ∧ Ieee.Deq m.toNat e M.toNat E ∧ w = w') ∨
  (en = .returned (.tuple #[.int .i64 0, .int .i64 0, .bool false]) ∧ (∀ r, ¬ Ieee.double.At m.toNat e r) ∧ w = w')

def Sh32 (m e : Int) (w : World) (en : Ending) (w' : World) : Prop :=
  (∃ M E : Int, en = .returned (.tuple #[.int .i64 M, .int .i64 E, .bool true]) ∧ 0 < M ∧ M < 2 * 8388608 ∧ -149 ≤ E ∧ E ≤ e + 62 ∧ (8388608 ≤ M ∨ E = -149) ∧ Ieee.Deq m.toNat e M.toNat E ∧ w = w') ∨
  (en = .returned (.tuple #[.int .i64 0, .int .i64 0, .bool false]) ∧ (∀ r, ¬ Ieee.single.At m.toNat e r) ∧ w = w')

end Go.Proofs.YtgmebioogkmfgaaDoor

namespace Go.Pt
open Classical in
/-- The rung of a number, where the format has it. -/
noncomputable def jn (f : Ieee.Format) (m : Nat) (e : Int) : Option Nat := if h : ∃ r, r < f.infRung ∧ f.At m e r then some (Classical.choose h) else none

theorem jn_some {f : Ieee.Format} {m r : Nat} {e : Int} (hr : r < f.infRung) (h : f.At m e r) : jn f m e = some r := by
  have hx : ∃ r, r < f.infRung ∧ f.At m e r := ⟨r, hr, h⟩
  unfold jn
  rw [dif_pos hx]
  exact congrArg some ((Classical.choose_spec hx).2.inj h)

theorem jn_none {f : Ieee.Format} {m : Nat} {e : Int} (h : ∀ r, r < f.infRung → ¬ f.At m e r) : jn f m e = none := by
  unfold jn
  rw [dif_neg]
  rintro ⟨r, hr, ha⟩
  exact h r hr ha

/-- The pattern that Join gives. -/
noncomputable def jv64 (n : Bool) (m e : Int) : Int := if m < 0 then 0 else match jn Ieee.double m.toNat e with | some r => (if n then -9223372036854775808 else 0) + (r : Int) | none => 0
/-- Whether there is one. -/
noncomputable def jo64 (m e : Int) : Bool := if m < 0 then false else (jn Ieee.double m.toNat e).isSome

theorem j64_neg (n : Bool) {m : Int} (e : Int) (h : m < 0) : jv64 n m e = 0 ∧ jo64 m e = false := by
  unfold jv64 jo64; rw [if_pos h, if_pos h]; exact ⟨rfl, rfl⟩
theorem j64_none (n : Bool) {m e : Int} (h : 0 < m) (k : ∀ r, ¬ Ieee.double.At m.toNat e r) : jv64 n m e = 0 ∧ jo64 m e = false := by
  unfold jv64 jo64
  have hm : ¬ m < 0 := by omega
  rw [if_neg hm, if_neg hm, jn_none (fun r _ => k r)]; exact ⟨rfl, rfl⟩
theorem j64_hit (n : Bool) {m e : Int} {r : Nat} (h : 0 ≤ m) (hr : r < Ieee.double.infRung) (k : Ieee.double.At m.toNat e r) : jv64 n m e = (if n then -9223372036854775808 else 0) + (r : Int) ∧ jo64 m e = true := by
  unfold jv64 jo64
  have hm : ¬ m < 0 := by omega
  rw [if_neg hm, if_neg hm, jn_some hr k]; exact ⟨rfl, rfl⟩
theorem at_zero64 (e : Int) : Ieee.double.At 0 e 0 := by
  unfold Ieee.Format.At
  rw [show Ieee.double.mg 0 = 0 from rfl]
  exact Ieee.Deq.zero _ _
theorem j64_zero (n : Bool) (e : Int) : jv64 n 0 e = (if n then -9223372036854775808 else 0) ∧ jo64 0 e = true := by
  have := j64_hit n (m := 0) (e := e) (r := 0) (by omega) (by rw [infRung_eq]; omega) (at_zero64 e)
  rw [this.1]
  exact ⟨by simp, this.2⟩
theorem far64 {m e : Int} (h0 : 0 < m) (h1 : m < 9223372036854775808) (h : e < -2000 ∨ 2000 < e) {r : Nat} (hr : r < Ieee.double.infRung) : ¬ Ieee.double.At m.toNat e r := by
  rintro ⟨a, c, k1, k2⟩
  have hl := Ieee.double.mg_lt r
  have hu : Ieee.double.up r ≤ 2045 := by unfold Ieee.Format.up; rw [infRung_eq] at hr; rw [binade_eq]; omega
  rw [least_eq] at k2
  rw [binade_eq] at hl
  rcases h with h | h
  · obtain ⟨d, rfl⟩ : ∃ d, c = 64 + d + a := ⟨c - a - 64, by omega⟩
    rw [Nat.pow_add, ← Nat.mul_assoc] at k1
    have k3 := Nat.eq_of_mul_eq_mul_right (Nat.two_pow_pos a) k1
    rw [Nat.pow_add] at k3
    have hd := Nat.two_pow_pos d
    by_cases z : Ieee.double.mg r = 0
    · rw [z, Nat.zero_mul] at k3; omega
    · have g1 : 2 ^ 64 * 1 ≤ 2 ^ 64 * 2 ^ d := Nat.mul_le_mul_left _ hd
      have g2 : 1 * (2 ^ 64 * 2 ^ d) ≤ Ieee.double.mg r * (2 ^ 64 * 2 ^ d) := Nat.mul_le_mul_right _ (by omega)
      omega
  · obtain ⟨d, rfl⟩ : ∃ d, a = 64 + d + c := ⟨a - c - 64, by omega⟩
    rw [Nat.pow_add, ← Nat.mul_assoc] at k1
    have k3 := Nat.eq_of_mul_eq_mul_right (Nat.two_pow_pos c) k1
    rw [Nat.pow_add] at k3
    have hd := Nat.two_pow_pos d
    have g1 : 2 ^ 64 * 1 ≤ 2 ^ 64 * 2 ^ d := Nat.mul_le_mul_left _ hd
    have g2 : 1 * (2 ^ 64 * 2 ^ d) ≤ m.toNat * (2 ^ 64 * 2 ^ d) := Nat.mul_le_mul_right _ (by omega)
    omega
theorem j64_far (n : Bool) {m e : Int} (h0 : 0 < m) (h1 : m < 9223372036854775808) (h : e < -2000 ∨ 2000 < e) : jv64 n m e = 0 ∧ jo64 m e = false := by
  unfold jv64 jo64
  have hm : ¬ m < 0 := by omega
  rw [if_neg hm, if_neg hm, jn_none (fun r hr => far64 h0 h1 h hr)]; exact ⟨rfl, rfl⟩
theorem at_rung64 {M E m e : Int} (h1 : 0 < M) (h2 : M < 2 * 4503599627370496) (h3 : -1074 ≤ E) (h5 : 4503599627370496 ≤ M ∨ E = -1074) (h6 : Ieee.Deq m.toNat e M.toNat E) :
    Ieee.double.At m.toNat e ((E + 1074) * 4503599627370496 + M).toNat := by
  have := Ieee.double.at_norm (m := M.toNat) (p := E) (by rw [binade_eq]; omega) (by rw [least_eq]; exact h3) (by rw [binade_eq, least_eq]; omega)
  rw [least_eq, binade_eq, show (E - (-1074)).toNat * 4503599627370496 + M.toNat = ((E + 1074) * 4503599627370496 + M).toNat by omega] at this
  exact h6.trans this
theorem j64_some (n : Bool) {M E m e : Int} (h0 : 0 ≤ m) (h1 : 0 < M) (h2 : M < 2 * 4503599627370496) (h3 : -1074 ≤ E) (h4 : E ≤ 971) (h5 : 4503599627370496 ≤ M ∨ E = -1074) (h6 : Ieee.Deq m.toNat e M.toNat E) :
    jv64 n m e = (if n then -9223372036854775808 else 0) + ((E + 1074) * 4503599627370496 + M) ∧ jo64 m e = true := by
  have := j64_hit n h0 (by rw [infRung_eq]; omega) (at_rung64 h1 h2 h3 h5 h6)
  rw [Int.toNat_of_nonneg (by omega)] at this
  exact this
theorem j64_high (n : Bool) {M E m e : Int} (h0 : 0 ≤ m) (h1 : 0 < M) (h2 : M < 2 * 4503599627370496) (h3 : -1074 ≤ E) (h4 : 971 < E) (h5 : 4503599627370496 ≤ M ∨ E = -1074) (h6 : Ieee.Deq m.toNat e M.toNat E) :
    jv64 n m e = 0 ∧ jo64 m e = false := by
  have k : ∀ r, r < Ieee.double.infRung → ¬ Ieee.double.At m.toNat e r := by
    intro r hr ha
    have := ha.inj (at_rung64 h1 h2 h3 h5 h6)
    rw [infRung_eq] at hr
    omega
  unfold jv64 jo64
  have hm : ¬ m < 0 := by omega
  rw [if_neg hm, if_neg hm, jn_none k]; exact ⟨rfl, rfl⟩

/-- The pattern that Join gives. -/
noncomputable def jv32 (n : Bool) (m e : Int) : Int := if m < 0 then 0 else match jn Ieee.single m.toNat e with | some r => (if n then 2147483648 else 0) + (r : Int) | none => 0
/-- Whether there is one. -/
noncomputable def jo32 (m e : Int) : Bool := if m < 0 then false else (jn Ieee.single m.toNat e).isSome

theorem j32_neg (n : Bool) {m : Int} (e : Int) (h : m < 0) : jv32 n m e = 0 ∧ jo32 m e = false := by
  unfold jv32 jo32; rw [if_pos h, if_pos h]; exact ⟨rfl, rfl⟩
theorem j32_none (n : Bool) {m e : Int} (h : 0 < m) (k : ∀ r, ¬ Ieee.single.At m.toNat e r) : jv32 n m e = 0 ∧ jo32 m e = false := by
  unfold jv32 jo32
  have hm : ¬ m < 0 := by omega
  rw [if_neg hm, if_neg hm, jn_none (fun r _ => k r)]; exact ⟨rfl, rfl⟩
theorem j32_hit (n : Bool) {m e : Int} {r : Nat} (h : 0 ≤ m) (hr : r < Ieee.single.infRung) (k : Ieee.single.At m.toNat e r) : jv32 n m e = (if n then 2147483648 else 0) + (r : Int) ∧ jo32 m e = true := by
  unfold jv32 jo32
  have hm : ¬ m < 0 := by omega
  rw [if_neg hm, if_neg hm, jn_some hr k]; exact ⟨rfl, rfl⟩
theorem at_zero32 (e : Int) : Ieee.single.At 0 e 0 := by
  unfold Ieee.Format.At
  rw [show Ieee.single.mg 0 = 0 from rfl]
  exact Ieee.Deq.zero _ _
theorem j32_zero (n : Bool) (e : Int) : jv32 n 0 e = (if n then 2147483648 else 0) ∧ jo32 0 e = true := by
  have := j32_hit n (m := 0) (e := e) (r := 0) (by omega) (by rw [infRung3_eq]; omega) (at_zero32 e)
  rw [this.1]
  exact ⟨by simp, this.2⟩
theorem far32 {m e : Int} (h0 : 0 < m) (h1 : m < 9223372036854775808) (h : e < -2000 ∨ 2000 < e) {r : Nat} (hr : r < Ieee.single.infRung) : ¬ Ieee.single.At m.toNat e r := by
  rintro ⟨a, c, k1, k2⟩
  have hl := Ieee.single.mg_lt r
  have hu : Ieee.single.up r ≤ 253 := by unfold Ieee.Format.up; rw [infRung3_eq] at hr; rw [binade3_eq]; omega
  rw [least3_eq] at k2
  rw [binade3_eq] at hl
  rcases h with h | h
  · obtain ⟨d, rfl⟩ : ∃ d, c = 64 + d + a := ⟨c - a - 64, by omega⟩
    rw [Nat.pow_add, ← Nat.mul_assoc] at k1
    have k3 := Nat.eq_of_mul_eq_mul_right (Nat.two_pow_pos a) k1
    rw [Nat.pow_add] at k3
    have hd := Nat.two_pow_pos d
    by_cases z : Ieee.single.mg r = 0
    · rw [z, Nat.zero_mul] at k3; omega
    · have g1 : 2 ^ 64 * 1 ≤ 2 ^ 64 * 2 ^ d := Nat.mul_le_mul_left _ hd
      have g2 : 1 * (2 ^ 64 * 2 ^ d) ≤ Ieee.single.mg r * (2 ^ 64 * 2 ^ d) := Nat.mul_le_mul_right _ (by omega)
      omega
  · obtain ⟨d, rfl⟩ : ∃ d, a = 64 + d + c := ⟨a - c - 64, by omega⟩
    rw [Nat.pow_add, ← Nat.mul_assoc] at k1
    have k3 := Nat.eq_of_mul_eq_mul_right (Nat.two_pow_pos c) k1
    rw [Nat.pow_add] at k3
    have hd := Nat.two_pow_pos d
    have g1 : 2 ^ 64 * 1 ≤ 2 ^ 64 * 2 ^ d := Nat.mul_le_mul_left _ hd
    have g2 : 1 * (2 ^ 64 * 2 ^ d) ≤ m.toNat * (2 ^ 64 * 2 ^ d) := Nat.mul_le_mul_right _ (by omega)
    omega
theorem j32_far (n : Bool) {m e : Int} (h0 : 0 < m) (h1 : m < 9223372036854775808) (h : e < -2000 ∨ 2000 < e) : jv32 n m e = 0 ∧ jo32 m e = false := by
  unfold jv32 jo32
  have hm : ¬ m < 0 := by omega
  rw [if_neg hm, if_neg hm, jn_none (fun r hr => far32 h0 h1 h hr)]; exact ⟨rfl, rfl⟩
theorem at_rung32 {M E m e : Int} (h1 : 0 < M) (h2 : M < 2 * 8388608) (h3 : -149 ≤ E) (h5 : 8388608 ≤ M ∨ E = -149) (h6 : Ieee.Deq m.toNat e M.toNat E) :
    Ieee.single.At m.toNat e ((E + 149) * 8388608 + M).toNat := by
  have := Ieee.single.at_norm (m := M.toNat) (p := E) (by rw [binade3_eq]; omega) (by rw [least3_eq]; exact h3) (by rw [binade3_eq, least3_eq]; omega)
  rw [least3_eq, binade3_eq, show (E - (-149)).toNat * 8388608 + M.toNat = ((E + 149) * 8388608 + M).toNat by omega] at this
  exact h6.trans this
theorem j32_some (n : Bool) {M E m e : Int} (h0 : 0 ≤ m) (h1 : 0 < M) (h2 : M < 2 * 8388608) (h3 : -149 ≤ E) (h4 : E ≤ 104) (h5 : 8388608 ≤ M ∨ E = -149) (h6 : Ieee.Deq m.toNat e M.toNat E) :
    jv32 n m e = (if n then 2147483648 else 0) + ((E + 149) * 8388608 + M) ∧ jo32 m e = true := by
  have := j32_hit n h0 (by rw [infRung3_eq]; omega) (at_rung32 h1 h2 h3 h5 h6)
  rw [Int.toNat_of_nonneg (by omega)] at this
  exact this
theorem j32_high (n : Bool) {M E m e : Int} (h0 : 0 ≤ m) (h1 : 0 < M) (h2 : M < 2 * 8388608) (h3 : -149 ≤ E) (h4 : 104 < E) (h5 : 8388608 ≤ M ∨ E = -149) (h6 : Ieee.Deq m.toNat e M.toNat E) :
    jv32 n m e = 0 ∧ jo32 m e = false := by
  have k : ∀ r, r < Ieee.single.infRung → ¬ Ieee.single.At m.toNat e r := by
    intro r hr ha
    have := ha.inj (at_rung32 h1 h2 h3 h5 h6)
    rw [infRung3_eq] at hr
    omega
  unfold jv32 jo32
  have hm : ¬ m < 0 := by omega
  rw [if_neg hm, if_neg hm, jn_none k]; exact ⟨rfl, rfl⟩

end Go.Pt
namespace Go.Proofs.YtgmebioogkmfgaaDoor
open Go.RowKit Go.Pt
attribute [local go_sem] and_2047 and_frac and_255 and_frac3 and_one or_frac or_frac3

theorem rib {a a' : Int} {b b' : Bool} (h1 : a = a') (h2 : b = b') : Ending.returned (.tuple #[.int .i64 a, .bool b]) = .returned (.tuple #[.int .i64 a', .bool b']) := by rw [h1, h2]

end Go.Proofs.YtgmebioogkmfgaaDoor

namespace Go.Pt

def clampI (e : Int) : Int := if e < -3000 then -3000 else if 3000 < e then 3000 else e

theorem rg_nat {x : Nat} (h : x < 9223372036854775808) : rg (x : Int) = x := by unfold rg; omega

theorem fin_nat {x : Nat} (h : x < 9218868437227405312) : cl (x : Int) < 3 := by
  rw [cl_fin, rg_nat (by omega)]; unfold inf; omega

theorem mag_nat {x : Nat} (h : x < 9218868437227405312) : pmag (x : Int) = Ieee.double.mg x ∧ pexp (x : Int) = -1074 + Ieee.double.up x := by
  have c := fin_nat h
  have c0 := cl_bd (x : Int)
  unfold pmag pexp Ieee.Format.mg Ieee.Format.up
  rw [binade_eq]
  have e := cl_eq (x : Int)
  rw [rg_nat (by omega)] at e
  unfold inf at e
  have f1 := fld_rg (x : Int)
  have f2 := frc_rg (x : Int)
  rw [rg_nat (by omega)] at f1 f2
  by_cases k : x < 4503599627370496
  · have : cl (x : Int) < 2 := by rw [e]; repeat' split
                                  all_goals omega
    rw [if_pos this, if_pos this, if_pos k, f2]
    omega
  · have : cl (x : Int) = 2 := by
      rw [e]
      rw [if_neg (by omega), if_neg (by omega), if_pos (by omega)]
    rw [this]
    simp only [show ¬ (2 : Int) < 2 by omega, if_false, if_true]
    rw [if_neg k, f1, f2]
    omega

theorem mg_zero {x : Nat} (h : Ieee.double.mg x = 0) : x = 0 := by
  apply Ieee.double.val_inj
  rw [Ieee.double.val_zero]; unfold Ieee.Format.val; rw [h, Nat.zero_mul]

open Classical in
/-- Is the float with the word x just the number? -/
noncomputable def sm (x : Nat) (m e : Int) : Bool := decide (x < 9218868437227405312 ∧ Ieee.double.At m.toNat (clampI e) x)

theorem sm_inf (m e : Int) : sm 9218868437227405312 m e = false := by
  unfold sm; simp
theorem sm_true {x : Nat} {m e : Int} (h : x < 9218868437227405312) (k : Ieee.double.At m.toNat (clampI e) x) : sm x m e = true := by
  unfold sm; simp [h, k]
theorem sm_false {x : Nat} {m e : Int} (k : ¬ Ieee.double.At m.toNat (clampI e) x) : sm x m e = false := by
  unfold sm; simp [k]
theorem at_zero_left {e : Int} {x : Nat} (h : Ieee.double.At 0 e x) : x = 0 := mg_zero h.zero_left
theorem at_zero_right {m : Nat} {e : Int} (h : Ieee.double.At m e 0) : m = 0 := by
  have := h.symm
  rw [show Ieee.double.mg 0 = 0 from rfl] at this
  exact this.zero_left

theorem sm_odd {x : Nat} {m e M E M2 E2 : Int} (h : x < 9218868437227405312) (h1 : Hv m (clampI e) M E) (o1 : M % 2 = 1) (h2 : Hv (pmag (x : Int)) (pexp (x : Int)) M2 E2) (o2 : M2 % 2 = 1) :
    sm x m e = ((M == M2) && (E == E2)) := by
  have d1 := h1.deq
  have d2 := h2.deq
  rw [(mag_nat h).1, (mag_nat h).2, Int.toNat_natCast] at d2
  have p1 := h1.1
  have p2 := h2.1
  by_cases k : M = M2 ∧ E = E2
  · obtain ⟨rfl, rfl⟩ := k
    rw [sm_true h (d1.trans d2.symm)]; simp
  · have : sm x m e = false := by
      apply sm_false
      intro ha
      have g := Ieee.Format.deq_odd (o := M.toNat) (u := M2.toNat) (by omega) (by omega) ((d1.symm.trans ha).trans d2)
      exact k ⟨by omega, g.2⟩
    rw [this]
    by_cases k1 : M = M2
    · rw [beq_iff_eq.2 k1, beq_eq_false_iff_ne.2 (fun c => k ⟨k1, c⟩)]; rfl
    · rw [beq_eq_false_iff_ne.2 k1]; rfl

/-! ### The float of a whole number -/
theorem cut_bd (n d : Nat) : Ieee.Toward.even.cut false n d ≤ n / 1 <<< min d (n.log2 + 2) + 1 := by
  unfold Ieee.Toward.cut
  simp only
  have : ∀ b : Bool, b.toNat ≤ 1 := by intro b; cases b <;> decide
  exact Nat.add_le_add_left (this _) _

theorem floatOf_bd {m : Nat} (h0 : 0 < m) (h1 : m < 9223372036854775808) : 4503599627370496 ≤ Ieee.double.nearest false m 0 ∧ Ieee.double.nearest false m 0 < 9218868437227405312 := by
  have hl : m.log2 ≤ 62 := by
    have : m.log2 < 63 := (Nat.log2_lt (by omega)).2 (by omega)
    omega
  have h2 : m < 2 ^ (m.log2 + 1) := Nat.lt_log2_self
  unfold Ieee.Format.nearest
  rw [if_neg (by omega)]
  dsimp only
  rw [least_eq, infRung_eq, binade_eq, show ((Ieee.double.fractionBits : Nat) : Int) = 52 from rfl]
  generalize hk : m.log2 = k at *
  rw [show max ((0 : Int) + (k : Int) - 52) (-1074) = (k : Int) - 52 by omega]
  have hc : Ieee.Toward.even.cut false (m <<< (0 - ((k : Int) - 52)).toNat) ((k : Int) - 52 - 0).toNat ≤ 9007199254740993 := by
    refine Nat.le_trans (cut_bd _ _) ?_
    apply Nat.add_le_add_right
    by_cases c : k ≤ 52
    · rw [show ((k : Int) - 52 - 0).toNat = 0 by omega, Nat.zero_min, Nat.shiftLeft_zero, Nat.div_one, Nat.shiftLeft_eq, show (0 - ((k : Int) - 52)).toNat = 52 - k by omega]
      have : m * 2 ^ (52 - k) < 2 ^ (k + 1) * 2 ^ (52 - k) := Nat.mul_lt_mul_of_pos_right h2 (Nat.two_pow_pos _)
      rw [← Nat.pow_add, show k + 1 + (52 - k) = 53 by omega] at this
      omega
    · rw [show (0 - ((k : Int) - 52)).toNat = 0 by omega, Nat.shiftLeft_zero, show ((k : Int) - 52 - 0).toNat = k - 52 by omega, hk, Nat.min_eq_left (by omega), Nat.one_shiftLeft]
      have : m / 2 ^ (k - 52) < 2 ^ 53 := by
        rw [Nat.div_lt_iff_lt_mul (Nat.two_pow_pos _), ← Nat.pow_add, show 53 + (k - 52) = k + 1 by omega]
        exact h2
      omega
  generalize Ieee.Toward.even.cut false (m <<< (0 - ((k : Int) - 52)).toNat) ((k : Int) - 52 - 0).toNat = z at hc ⊢
  unfold Ieee.Format.word
  simp only [Bool.false_eq_true, if_false]
  have e : ((k : Int) - 52 - -1074).toNat = k + 1022 := by omega
  rw [e, Nat.min_eq_left (by omega)]
  omega

theorem deq_add {m n : Nat} {p q : Int} (h : Ieee.Deq m p n q) (d : Int) : Ieee.Deq m (p + d) n (q + d) := by
  obtain ⟨a, c, h1, h2⟩ := h; exact ⟨a, c, h1, by omega⟩

theorem odd_part {m : Nat} (h : 0 < m) : ∃ o k : Nat, o % 2 = 1 ∧ m = o * 2 ^ k := by
  induction m using Nat.strongRecOn with
  | _ m ih =>
    by_cases c : m % 2 = 1
    · exact ⟨m, 0, c, by simp⟩
    · obtain ⟨o, k, h1, h2⟩ := ih (m / 2) (by omega) (by omega)
      exact ⟨o, k + 1, h1, by rw [Nat.pow_succ, ← Nat.mul_assoc, ← h2]; omega⟩

/-- Where a number is one of the format, the float of its whole part is exact. -/
theorem floatOf_exact {m u : Nat} {e : Int} (h0 : 0 < m) (h1 : m < 9223372036854775808) (h : Ieee.double.At m e u) : Ieee.double.At m 0 (Ieee.double.nearest false m 0) := by
  obtain ⟨o, k, ho, rfl⟩ := odd_part h0
  have d : Ieee.Deq (o * 2 ^ k) e o (e + k) := Ieee.Deq.shift _ _ _
  have g := Ieee.Format.At.odd ho (d.symm.trans h)
  have hk : k ≤ 62 := by
    by_cases c : k ≤ 62
    · exact c
    · exfalso
      have : 2 ^ 63 ≤ 2 ^ k := Nat.pow_le_pow_right (by omega) (by omega)
      have : 1 * 2 ^ k ≤ o * 2 ^ k := Nat.mul_le_mul_right _ (by omega)
      omega
  obtain ⟨r, r1, r2⟩ := Ieee.double.at_make (m := o) (p := (0 : Int) + k) g.2 (by rw [least_eq]; omega) (by rw [least_eq, binade_eq, infRung_eq]; omega)
  have r3 : Ieee.double.At (o * 2 ^ k) 0 r := (Ieee.Deq.shift _ _ _).trans r2
  rw [Ieee.double.nearest_at false r1 r3]
  exact r3

/-- What same tells of what Ldexp gives. -/
theorem ld_same {m : Nat} {e : Int} {z : Nat} (h0 : 0 < m) (h1 : m < 9223372036854775808) (hz : LdOK (Ieee.double.nearest false m 0) (clampI e) z) :
    (sm z m e = true → z < 9218868437227405312 ∧ jn Ieee.double m e = some z) ∧ (sm z m e = false → jn Ieee.double m e = none) := by
  constructor
  · intro hs
    have k : z < 9218868437227405312 ∧ Ieee.double.At m (clampI e) z := by
      unfold sm at hs; simpa using hs
    by_cases c : clampI e = e
    · rw [c] at k
      exact ⟨k.1, jn_some (by rw [infRung_eq]; exact k.1) k.2⟩
    · exfalso
      have c2 : clampI e < -2000 ∨ 2000 < clampI e := by unfold clampI at *; split at c <;> (try split at c) <;> (repeat' split) <;> omega
      exact far64 (m := (m : Int)) (by omega) (by omega) c2 (by rw [infRung_eq]; exact k.1) (by rw [Int.toNat_natCast]; exact k.2)
  · intro hs
    apply jn_none
    intro u hu ha
    rw [infRung_eq] at hu
    by_cases c : e < -2000 ∨ 2000 < e
    · exact far64 (m := (m : Int)) (by omega) (by omega) c (by rw [infRung_eq]; exact hu) (by rw [Int.toNat_natCast]; exact ha)
    · have ce : clampI e = e := by unfold clampI; rw [if_neg (by omega), if_neg (by omega)]
      have x := floatOf_exact h0 h1 ha
      have y : Ieee.double.At (Ieee.double.mg (Ieee.double.nearest false m 0)) (-1074 + Ieee.double.up (Ieee.double.nearest false m 0) + e) u := by
        have := deq_add (show Ieee.Deq m 0 _ _ from x) e
        rw [least_eq, Int.zero_add] at this
        exact this.symm.trans ha
      rw [ce] at hz
      have := hz.2 u hu y
      subst this
      rw [sm_true hu (by rw [ce]; exact ha)] at hs
      exact absurd hs (by decide)

end Go.Pt
namespace Go.Proofs.YtgmebioogkmfgaaDoor
open Go.RowKit Go.Pt
attribute [local go_sem] and_2047 and_frac and_255 and_frac3 and_one or_frac or_frac3

theorem ofD_nat {x : Nat} (h : x ≤ 9218868437227405312) : ofD x = x := by
  have e : wd (x : Int) = x := by unfold wd; rw [IntKind.wrap_u64]; omega
  have k := ofD_wd (b := (x : Int)) (by unfold I64; omega)
  rw [e] at k
  rw [k]
  unfold told
  rw [if_neg]
  intro c
  have := (cl_nan _).1 c
  rw [rg_nat (by omega)] at this
  unfold inf at this
  omega

end Go.Proofs.YtgmebioogkmfgaaDoor

namespace Go.Pt

theorem floatOf_nat {m : Int} (h : 0 ≤ m) : floatOfInt .f64 m = Ieee.double.nearest false m.toNat 0 := by
  show FloatKind.f64.encode (.number (decide (m < 0)) m.natAbs 0) = _
  rw [decide_eq_false (by omega), show m.natAbs = m.toNat by omega]
  rfl

theorem or_sign {x : Nat} (h : x < 9223372036854775808) : bits .or .u64 (x : Int) 9223372036854775808 = ((x + 9223372036854775808 : Nat) : Int) := by
  show IntKind.u64.wrap ((BitVec.ofInt 64 (x : Int) ||| BitVec.ofInt 64 9223372036854775808).toNat : Int) = _
  have k := Nat.two_pow_add_eq_or_of_lt (show x < 2 ^ 63 by omega) 1
  rw [Nat.mul_one] at k
  rw [BitVec.toNat_or, toNat_ofNat64 (by omega), show (BitVec.ofInt 64 9223372036854775808).toNat = 2 ^ 63 by decide, Nat.or_comm, ← k, wrap_u64_of (by omega) (by omega)]
  omega

theorem j64_from {m e : Int} (n : Bool) {z : Nat} (h0 : 0 < m) (h1 : m < 9223372036854775808) (hz : LdOK (Ieee.double.nearest false m.toNat 0) (clampI e) z) :
    (sm z m e = true → z < 9218868437227405312 ∧ jv64 n m e = (if n then -9223372036854775808 else 0) + (z : Int) ∧ jo64 m e = true) ∧ (sm z m e = false → jv64 n m e = 0 ∧ jo64 m e = false) := by
  have k := ld_same (m := m.toNat) (e := e) (z := z) (by omega) (by omega) hz
  rw [Int.toNat_of_nonneg (by omega)] at k
  have hm : ¬ m < 0 := by omega
  unfold jv64 jo64
  rw [if_neg hm, if_neg hm]
  constructor
  · intro hs
    obtain ⟨k1, k2⟩ := k.1 hs
    rw [k2]
    exact ⟨k1, rfl, rfl⟩
  · intro hs
    rw [k.2 hs]
    exact ⟨rfl, rfl⟩

end Go.Pt
namespace Go.Proofs.YtgmebioogkmfgaaDoor
open Go.RowKit Go.Pt
attribute [local go_sem] and_2047 and_frac and_255 and_frac3 and_one or_frac or_frac3

theorem ofD_neg {x : Nat} (h : x < 9218868437227405312) : ofD (x + 9223372036854775808) = (x : Int) - 9223372036854775808 := by
  have e : wd ((x : Int) - 9223372036854775808) = x + 9223372036854775808 := by unfold wd; rw [IntKind.wrap_u64]; omega
  have k := ofD_wd (b := (x : Int) - 9223372036854775808) (by unfold I64; omega)
  rw [e] at k
  rw [k]
  unfold told
  rw [if_neg]
  intro c
  have := (cl_nan _).1 c
  unfold inf rg at this
  omega

end Go.Proofs.YtgmebioogkmfgaaDoor
