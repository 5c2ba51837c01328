/- What the calls of Join and Ulp come to; the walks of turned and joined. Condition: it stands in each fact. -/
import Derived.Test.YtehfnpbplkbdhaaDoorW9
namespace Go.Pt

theorem floatOf_nat {m : Int} (h : 0 ≤ m) : floatOfInt .f64 m = Ieee.double.nearest false m.toNat 0 := by
  show FloatKind.f64.encode (.number (decide (m < 0)) m.natAbs 0) = _
  rw [decide_eq_false (by omega), show m.natAbs = m.toNat by omega]
  rfl

theorem or_sign {x : Nat} (h : x < 9223372036854775808) : bits .or .u64 (x : Int) 9223372036854775808 = ((x + 9223372036854775808 : Nat) : Int) := by
  show IntKind.u64.wrap ((BitVec.ofInt 64 (x : Int) ||| BitVec.ofInt 64 9223372036854775808).toNat : Int) = _
  have k := Nat.two_pow_add_eq_or_of_lt (show x < 2 ^ 63 by omega) 1
  rw [Nat.mul_one] at k
  rw [BitVec.toNat_or, toNat_ofNat64 (by omega), show (BitVec.ofInt 64 9223372036854775808).toNat = 2 ^ 63 by decide, Nat.or_comm, ← k, wrap_u64_of (by omega) (by omega)]
  omega

theorem j64_from {m e : Int} (n : Bool) {z : Nat} (h0 : 0 < m) (h1 : m < 9223372036854775808) (hz : LdOK (Ieee.double.nearest false m.toNat 0) (clampI e) z) :
    (sm z m e = true → z < 9218868437227405312 ∧ jv64 n m e = (if n then -9223372036854775808 else 0) + (z : Int) ∧ jo64 m e = true) ∧ (sm z m e = false → jv64 n m e = 0 ∧ jo64 m e = false) := by
  have k := ld_same (m := m.toNat) (e := e) (z := z) (by omega) (by omega) hz
  rw [Int.toNat_of_nonneg (by omega)] at k
  have hm : ¬ m < 0 := by omega
  unfold jv64 jo64
  rw [if_neg hm, if_neg hm]
  constructor
  · intro hs
    obtain ⟨k1, k2⟩ := k.1 hs
    rw [k2]
    exact ⟨k1, rfl, rfl⟩
  · intro hs
    rw [k.2 hs]
    exact ⟨rfl, rfl⟩

end Go.Pt
namespace Go.Proofs.YtehfnpbplkbdhaaDoor
open Go.RowKit Go.Pt
attribute [local go_sem] and_2047 and_frac and_255 and_frac3 and_one or_frac or_frac3

set_option maxHeartbeats 400000 in
theorem copysign_neg (x : Nat) (h : x < 9223372036854775808) (w : World) :
    Calls Tryd.prog 53 #[.float .f64 x, .float .f64 13830554455654793216] w fun e w' => e = .returned (.float .f64 (x + 9223372036854775808)) ∧ w = w' := by
  go_enter Tryd.func53, Tryd.ntmps53
  go_wp2
  go_ret
  refine ⟨rf ?_, rfl⟩
  rw [andNot_abs h, show bits .and .u64 13830554455654793216 9223372036854775808 = 9223372036854775808 by decide, or_sign h, Int.toNat_natCast]

theorem ofD_neg {x : Nat} (h : x < 9218868437227405312) : ofD (x + 9223372036854775808) = (x : Int) - 9223372036854775808 := by
  have e : wd ((x : Int) - 9223372036854775808) = x + 9223372036854775808 := by unfold wd; rw [IntKind.wrap_u64]; omega
  have k := ofD_wd (b := (x : Int) - 9223372036854775808) (by unfold I64; omega)
  rw [e] at k
  rw [k]
  unfold told
  rw [if_neg]
  intro c
  have := (cl_nan _).1 c
  unfold inf rg at this
  omega

set_option maxHeartbeats 1000000 in
theorem join_any (n : Bool) (m e : Int) (h1 : m < 9223372036854775808) (w : World) :
    Calls Tryd.prog 30 #[.bool n, .int .i64 m, .int .i64 e] w fun en w' => en = .returned (.tuple #[.int .i64 (jv64 n m e), .bool (jo64 m e)]) ∧ w = w' := by
  by_cases c0 : m < 0
  · have F := j64_neg n e c0
    have HF := Lib.hid F; clear F
    go_enter Tryd.func30, Tryd.ntmps30
    go_wp2
    go_ret2
    exact ⟨rib HF.out.1.symm HF.out.2.symm, rfl⟩
  · have q3 : -3000 ≤ clampI e ∧ clampI e ≤ 3000 := by unfold clampI; split <;> (try split) <;> omega
    by_cases cz : m = 0
    · subst cz
      have F := j64_zero n e
      have HF := Lib.hid F; clear F
      have hf : floatOfInt .f64 0 = 0 := by decide
      have hs : sm 0 0 e = true := sm_true (by omega) (at_zero64 _)
      have o1 : ofD 0 = 0 := ofD_nat (x := 0) (by omega)
      have o2 : ofD 9223372036854775808 = -9223372036854775808 := by
        have := ofD_neg (x := 0) (by omega)
        simpa using this
      cases n
      · go_enter Tryd.func30, Tryd.ntmps30
        go_wp2_with (first | (go_at_call 51; refine (clamp_any _ _).mono ?_; rintro e w' ⟨rfl, rfl⟩) | (go_at_call 50; refine (ldexpTop_zero _ _).mono ?_; rintro e w' ⟨rfl, rfl⟩) | (go_at_call 52; refine (same_any' _ _ _ (by omega) (by omega) (by omega) _).mono ?_; rintro e w' ⟨rfl, rfl⟩) | (go_at_call 54; refine (of_any _ _).mono ?_; rintro e w' ⟨rfl, rfl⟩))
        go_ret2
        exact ⟨rib HF.out.1.symm HF.out.2.symm, rfl⟩
      · go_enter Tryd.func30, Tryd.ntmps30
        go_wp2_with (first | (go_at_call 51; refine (clamp_any _ _).mono ?_; rintro e w' ⟨rfl, rfl⟩) | (go_at_call 50; refine (ldexpTop_zero _ _).mono ?_; rintro e w' ⟨rfl, rfl⟩) | (go_at_call 52; refine (same_any' _ _ _ (by omega) (by omega) (by omega) _).mono ?_; rintro e w' ⟨rfl, rfl⟩) | (go_at_call 54; refine (of_any _ _).mono ?_; rintro e w' ⟨rfl, rfl⟩) | (go_at_call 53; refine (copysign_neg _ (by omega) _).mono ?_; rintro e w' ⟨rfl, rfl⟩))
        go_ret2
        exact ⟨rib HF.out.1.symm HF.out.2.symm, rfl⟩
    · have hp : 0 < m := by omega
      have hf := floatOf_nat (m := m) (by omega)
      obtain ⟨r1, r2⟩ := floatOf_bd (m := m.toNat) (by omega) (by omega)
      have J := fun z => j64_from (e := e) (z := z) n hp h1
      have HJ := Lib.hid J; clear J
      generalize hR : Ieee.double.nearest false m.toNat 0 = R at *
      have q4 := q3.1
      have q5 := q3.2
      clear q3 cz c0 hR
      go_enter Tryd.func30, Tryd.ntmps30
      go_wp2_with (first | (go_at_call 51; refine (clamp_any _ _).mono ?_; rintro e w' ⟨rfl, rfl⟩))
      refine (ldexpTop_any _ _ r1 r2 q4 q5 _).mono ?_
      rintro en w1 ⟨z, rfl, hz, rfl⟩
      have F := HJ.out z hz
      have hz1 := hz.1
      clear hz HJ
      have HF := Lib.hid F; clear F
      go_wp2_with fail
      refine (same_any' _ _ _ hz1 (by omega) h1 _).mono ?_
      rintro en w1 ⟨rfl, rfl⟩
      cases hs : sm z m e
      · have G := HF.out.2 hs
        have HG := Lib.hid G; clear G
        go_wp2
        go_ret2
        exact ⟨rib HG.out.1.symm HG.out.2.symm, rfl⟩
      · have G := HF.out.1 hs
        have hz2 := G.1
        have HG := Lib.hid G.2; clear G
        have o1 := ofD_nat hz1
        have o2 := ofD_neg hz2
        cases n
        · go_wp2_with (first | (go_at_call 54; refine (of_any _ _).mono ?_; rintro e w' ⟨rfl, rfl⟩))
          go_ret2
          exact ⟨rib (by rw [HG.out.1]; simp) HG.out.2.symm, rfl⟩
        · go_wp2_with (first | (go_at_call 54; refine (of_any _ _).mono ?_; rintro e w' ⟨rfl, rfl⟩) | (go_at_call 53; refine (copysign_neg _ (by omega) _).mono ?_; rintro e w' ⟨rfl, rfl⟩))
          go_ret2
          exact ⟨rib (by rw [HG.out.1]; simp; omega) HG.out.2.symm, rfl⟩

end Go.Proofs.YtehfnpbplkbdhaaDoor
