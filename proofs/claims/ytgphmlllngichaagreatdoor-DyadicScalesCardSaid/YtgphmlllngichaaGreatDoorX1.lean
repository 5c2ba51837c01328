/- What the calls of Join and Ulp come to; the walks of turned and joined. Condition: it stands in each fact. -/
import Derived.Test.YtgphmlllngichaaGreatDoorW9
namespace Go.Pt

theorem floatOf_nat {m : Int} (h : 0 ≤ m) : floatOfInt .f64 m = Ieee.double.nearest false m.toNat 0 := by
  show FloatKind.f64.encode (.number (decide (m < 0)) m.natAbs 0) = _
  rw [decide_eq_false (by omega), show m.natAbs = m.toNat by omega]
  rfl

theorem or_sign {x : Nat} (h : x < 9223372036854775808) : bits .or .u64 (x : Int) 9223372036854775808 = ((x + 9223372036854775808 : Nat) : Int) := by
  show IntKind.u64.wrap ((BitVec.ofInt 64 (x : Int) ||| BitVec.ofInt 64 9223372036854775808).toNat : Int) = _
  have k := Nat.two_pow_add_eq_or_of_lt (show x < 2 ^ 63 by omega) 1
  rw [Nat.mul_one] at k
  rw [BitVec.toNat_or, toNat_ofNat64 (by omega), show (BitVec.ofInt 64 9223372036854775808).toNat = 2 ^ 63 by decide, Nat.or_comm, ← k, wrap_u64_of (by omega) (by omega)]
  omega

theorem j64_from {m e : Int} (n : Bool) {z : Nat} (h0 : 0 < m) (h1 : m < 9223372036854775808) (hz : LdOK (Ieee.double.nearest false m.toNat 0) (clampI e) z) :
    (sm z m e = true → z < 9218868437227405312 ∧ jv64 n m e = (if n then -9223372036854775808 else 0) + (z : Int) ∧ jo64 m e = true) ∧ (sm z m e = false → jv64 n m e = 0 ∧ jo64 m e = false) := by
  have k := ld_same (m := m.toNat) (e := e) (z := z) (by omega) (by omega) hz
  rw [Int.toNat_of_nonneg (by omega)] at k
  have hm : ¬ m < 0 := by omega
  unfold jv64 jo64
  rw [if_neg hm, if_neg hm]
  constructor
  · intro hs
    obtain ⟨k1, k2⟩ := k.1 hs
    rw [k2]
    exact ⟨k1, rfl, rfl⟩
  · intro hs
    rw [k.2 hs]
    exact ⟨rfl, rfl⟩

end Go.Pt
namespace Go.Proofs.YtgphmlllngichaaGreatDoor
open Go.RowKit Go.Pt
attribute [local go_sem] and_2047 and_frac and_255 and_frac3 and_one or_frac or_frac3

theorem ofD_neg {x : Nat} (h : x < 9218868437227405312) : ofD (x + 9223372036854775808) = (x : Int) - 9223372036854775808 := by
  have e : wd ((x : Int) - 9223372036854775808) = x + 9223372036854775808 := by unfold wd; rw [IntKind.wrap_u64]; omega
  have k := ofD_wd (b := (x : Int) - 9223372036854775808) (by unfold I64; omega)
  rw [e] at k
  rw [k]
  unfold told
  rw [if_neg]
  intro c
  have := (cl_nan _).1 c
  unfold inf rg at this
  omega

end Go.Proofs.YtgphmlllngichaaGreatDoor
