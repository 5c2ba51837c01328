/- What the calls of reduced and shifted come to: loops that halve and double. Condition: it stands in each fact. -/
import Derived.Test.YtgphmlllngichaaGreatDoorW6
namespace Go.Pt

/-- A number halved k times. -/
def Hv (m e M E : Int) : Prop := 0 < M ∧ ∃ k : Nat, k ≤ 62 ∧ m = M * 2 ^ k ∧ E = e + k

theorem Hv.start {m e : Int} (h : 0 < m) : Hv m e m e := ⟨h, 0, by omega, by simp, by simp⟩

theorem Hv.bound {m e M E : Int} (h : Hv m e M E) : 0 < M ∧ M ≤ m ∧ e ≤ E ∧ E ≤ e + 62 := by
  obtain ⟨h0, k, hk, rfl, rfl⟩ := h
  have : (1 : Int) ≤ 2 ^ k := by have := Nat.two_pow_pos k; exact_mod_cast this
  refine ⟨h0, ?_, by omega, by omega⟩
  calc M = M * 1 := by omega
    _ ≤ M * 2 ^ k := Int.mul_le_mul_of_nonneg_left this (by omega)

theorem Hv.step {m e M E : Int} (h : Hv m e M E) (hm : m < 9223372036854775808) (h2 : M % 2 = 0) : Hv m e (M / 2) (E + 1) := by
  obtain ⟨h0, k, hk, rfl, rfl⟩ := h
  obtain ⟨H, rfl⟩ : ∃ H, M = H * 2 := ⟨M / 2, by omega⟩
  have e1 : H * 2 * 2 ^ k = H * 2 ^ (k + 1) := by rw [Int.pow_succ, Int.mul_assoc, Int.mul_comm 2]
  rw [Int.mul_ediv_cancel _ (by decide)]
  refine ⟨by omega, k + 1, ?_, e1, by omega⟩
  by_cases c : k + 1 ≤ 62
  · exact c
  · exfalso
    have k62 : k = 62 := by omega
    subst k62
    have : (1 : Int) * 2 ^ (62 + 1) ≤ H * 2 ^ (62 + 1) := Int.mul_le_mul_of_nonneg_right (by omega) (by decide)
    rw [e1] at hm
    have e3 : (2 : Int) ^ (62 + 1) = 9223372036854775808 := by decide
    omega

theorem Hv.deq {m e M E : Int} (h : Hv m e M E) : Ieee.Deq m.toNat e M.toNat E := by
  obtain ⟨h0, k, hk, rfl, rfl⟩ := h
  obtain ⟨H, rfl⟩ := Int.eq_ofNat_of_zero_le (show 0 ≤ M by omega)
  have : ((H : Int) * 2 ^ k).toNat = H * 2 ^ k := by
    have : ((H : Int) * 2 ^ k) = ((H * 2 ^ k : Nat) : Int) := by push_cast; rfl
    rw [this, Int.toNat_natCast]
  rw [this, Int.toNat_natCast]
  exact Ieee.Deq.shift _ _ _

/-- A number doubled at the cost of its place. -/
def Db (low bin m e M E : Int) : Prop := 0 < M ∧ M < 2 * bin ∧ low ≤ E ∧ E ≤ e ∧ Ieee.Deq m.toNat e M.toNat E

theorem Db.step {low bin m e M E : Int} (h : Db low bin m e M E) (c1 : low < E) (c2 : M < bin) : Db low bin m e (M + M) (E - 1) := by
  obtain ⟨h1, h2, h3, h4, h5⟩ := h
  refine ⟨by omega, by omega, by omega, by omega, h5.trans ?_⟩
  have := Ieee.Deq.shift M.toNat 1 (E - 1)
  rw [show M.toNat * 2 ^ 1 = (M + M).toNat by omega, show E - 1 + ((1 : Nat) : Int) = E by omega] at this
  exact this.symm

end Go.Pt
namespace Go.Proofs.YtgphmlllngichaaGreatDoor
open Go.RowKit Go.Pt
attribute [local go_sem] and_2047 and_frac and_255 and_frac3 and_one or_frac or_frac3

def Red (m e : Int) (w : World) (en : Ending) (w' : World) : Prop := ∃ M E : Int, en = .returned (.tuple #[.int .i64 M, .int .i64 E]) ∧ Hv m e M E ∧ M % 2 = 1 ∧ w = w'

def Sh64 (m e : Int) (w : World) (en : Ending) (w' : World) : Prop :=
  (∃ M E : Int, en = .returned (.tuple #[.int .i64 M, .int .i64 E, .bool true]) ∧ 0 < M ∧ M < 2 * 4503599627370496 ∧ -1074 ≤ E ∧ E ≤ e + 62 ∧ (4503599627370496 ≤ M ∨ E = -1074) ∧ Ieee.Deq m.toNat e M.toNat E ∧ w = w') ∨
  (en = .returned (.tuple #[.int .i64 0, .int .i64 0, .bool false]) ∧ (∀ r, ¬ Ieee.double.At m.toNat e r) ∧ w = w')

def Sh32 (m e : Int) (w : World) (en : Ending) (w' : World) : Prop :=
  (∃ M E : Int, en = .returned (.tuple #[.int .i64 M, .int .i64 E, .bool true]) ∧ 0 < M ∧ M < 2 * 8388608 ∧ -149 ≤ E ∧ E ≤ e + 62 ∧ (8388608 ≤ M ∨ E = -149) ∧ Ieee.Deq m.toNat e M.toNat E ∧ w = w') ∨
  (en = .returned (.tuple #[.int .i64 0, .int .i64 0, .bool false]) ∧ (∀ r, ¬ Ieee.single.At m.toNat e r) ∧ w = w')

end Go.Proofs.YtgphmlllngichaaGreatDoor
