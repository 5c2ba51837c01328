/- What the calls of same and Join come to. Condition: it stands in each fact. -/
import Derived.Test.YtgphmlllngichaaGreatDoorW8
namespace Go.Pt

def clampI (e : Int) : Int := if e < -3000 then -3000 else if 3000 < e then 3000 else e

theorem rg_nat {x : Nat} (h : x < 9223372036854775808) : rg (x : Int) = x := by unfold rg; omega

theorem fin_nat {x : Nat} (h : x < 9218868437227405312) : cl (x : Int) < 3 := by
  rw [cl_fin, rg_nat (by omega)]; unfold inf; omega

theorem mag_nat {x : Nat} (h : x < 9218868437227405312) : pmag (x : Int) = Ieee.double.mg x ∧ pexp (x : Int) = -1074 + Ieee.double.up x := by
  have c := fin_nat h
  have c0 := cl_bd (x : Int)
  unfold pmag pexp Ieee.Format.mg Ieee.Format.up
  rw [binade_eq]
  have e := cl_eq (x : Int)
  rw [rg_nat (by omega)] at e
  unfold inf at e
  have f1 := fld_rg (x : Int)
  have f2 := frc_rg (x : Int)
  rw [rg_nat (by omega)] at f1 f2
  by_cases k : x < 4503599627370496
  · have : cl (x : Int) < 2 := by rw [e]; repeat' split
                                  all_goals omega
    rw [if_pos this, if_pos this, if_pos k, f2]
    omega
  · have : cl (x : Int) = 2 := by
      rw [e]
      rw [if_neg (by omega), if_neg (by omega), if_pos (by omega)]
    rw [this]
    simp only [show ¬ (2 : Int) < 2 by omega, if_false, if_true]
    rw [if_neg k, f1, f2]
    omega

theorem mg_zero {x : Nat} (h : Ieee.double.mg x = 0) : x = 0 := by
  apply Ieee.double.val_inj
  rw [Ieee.double.val_zero]; unfold Ieee.Format.val; rw [h, Nat.zero_mul]

open Classical in
/-- Is the float with the word x just the number? -/
noncomputable def sm (x : Nat) (m e : Int) : Bool := decide (x < 9218868437227405312 ∧ Ieee.double.At m.toNat (clampI e) x)

theorem sm_inf (m e : Int) : sm 9218868437227405312 m e = false := by
  unfold sm; simp
theorem sm_true {x : Nat} {m e : Int} (h : x < 9218868437227405312) (k : Ieee.double.At m.toNat (clampI e) x) : sm x m e = true := by
  unfold sm; simp [h, k]
theorem sm_false {x : Nat} {m e : Int} (k : ¬ Ieee.double.At m.toNat (clampI e) x) : sm x m e = false := by
  unfold sm; simp [k]
theorem at_zero_left {e : Int} {x : Nat} (h : Ieee.double.At 0 e x) : x = 0 := mg_zero h.zero_left
theorem at_zero_right {m : Nat} {e : Int} (h : Ieee.double.At m e 0) : m = 0 := by
  have := h.symm
  rw [show Ieee.double.mg 0 = 0 from rfl] at this
  exact this.zero_left

theorem sm_odd {x : Nat} {m e M E M2 E2 : Int} (h : x < 9218868437227405312) (h1 : Hv m (clampI e) M E) (o1 : M % 2 = 1) (h2 : Hv (pmag (x : Int)) (pexp (x : Int)) M2 E2) (o2 : M2 % 2 = 1) :
    sm x m e = ((M == M2) && (E == E2)) := by
  have d1 := h1.deq
  have d2 := h2.deq
  rw [(mag_nat h).1, (mag_nat h).2, Int.toNat_natCast] at d2
  have p1 := h1.1
  have p2 := h2.1
  by_cases k : M = M2 ∧ E = E2
  · obtain ⟨rfl, rfl⟩ := k
    rw [sm_true h (d1.trans d2.symm)]; simp
  · have : sm x m e = false := by
      apply sm_false
      intro ha
      have g := Ieee.Format.deq_odd (o := M.toNat) (u := M2.toNat) (by omega) (by omega) ((d1.symm.trans ha).trans d2)
      exact k ⟨by omega, g.2⟩
    rw [this]
    by_cases k1 : M = M2
    · rw [beq_iff_eq.2 k1, beq_eq_false_iff_ne.2 (fun c => k ⟨k1, c⟩)]; rfl
    · rw [beq_eq_false_iff_ne.2 k1]; rfl

/-! ### The float of a whole number -/
theorem cut_bd (n d : Nat) : Ieee.Toward.even.cut false n d ≤ n / 1 <<< min d (n.log2 + 2) + 1 := by
  unfold Ieee.Toward.cut
  simp only
  have : ∀ b : Bool, b.toNat ≤ 1 := by intro b; cases b <;> decide
  exact Nat.add_le_add_left (this _) _

theorem floatOf_bd {m : Nat} (h0 : 0 < m) (h1 : m < 9223372036854775808) : 4503599627370496 ≤ Ieee.double.nearest false m 0 ∧ Ieee.double.nearest false m 0 < 9218868437227405312 := by
  have hl : m.log2 ≤ 62 := by
    have : m.log2 < 63 := (Nat.log2_lt (by omega)).2 (by omega)
    omega
  have h2 : m < 2 ^ (m.log2 + 1) := Nat.lt_log2_self
  unfold Ieee.Format.nearest
  rw [if_neg (by omega)]
  dsimp only
  rw [least_eq, infRung_eq, binade_eq, show ((Ieee.double.fractionBits : Nat) : Int) = 52 from rfl]
  generalize hk : m.log2 = k at *
  rw [show max ((0 : Int) + (k : Int) - 52) (-1074) = (k : Int) - 52 by omega]
  have hc : Ieee.Toward.even.cut false (m <<< (0 - ((k : Int) - 52)).toNat) ((k : Int) - 52 - 0).toNat ≤ 9007199254740993 := by
    refine Nat.le_trans (cut_bd _ _) ?_
    apply Nat.add_le_add_right
    by_cases c : k ≤ 52
    · rw [show ((k : Int) - 52 - 0).toNat = 0 by omega, Nat.zero_min, Nat.shiftLeft_zero, Nat.div_one, Nat.shiftLeft_eq, show (0 - ((k : Int) - 52)).toNat = 52 - k by omega]
      have : m * 2 ^ (52 - k) < 2 ^ (k + 1) * 2 ^ (52 - k) := Nat.mul_lt_mul_of_pos_right h2 (Nat.two_pow_pos _)
      rw [← Nat.pow_add, show k + 1 + (52 - k) = 53 by omega] at this
      omega
    · rw [show (0 - ((k : Int) - 52)).toNat = 0 by omega, Nat.shiftLeft_zero, show ((k : Int) - 52 - 0).toNat = k - 52 by omega, hk, Nat.min_eq_left (by omega), Nat.one_shiftLeft]
      have : m / 2 ^ (k - 52) < 2 ^ 53 := by
        rw [Nat.div_lt_iff_lt_mul (Nat.two_pow_pos _), ← Nat.pow_add, show 53 + (k - 52) = k + 1 by omega]
        exact h2
      omega
  generalize Ieee.Toward.even.cut false (m <<< (0 - ((k : Int) - 52)).toNat) ((k : Int) - 52 - 0).toNat = z at hc ⊢
  unfold Ieee.Format.word
  simp only [Bool.false_eq_true, if_false]
  have e : ((k : Int) - 52 - -1074).toNat = k + 1022 := by omega
  rw [e, Nat.min_eq_left (by omega)]
  omega

theorem deq_add {m n : Nat} {p q : Int} (h : Ieee.Deq m p n q) (d : Int) : Ieee.Deq m (p + d) n (q + d) := by
  obtain ⟨a, c, h1, h2⟩ := h; exact ⟨a, c, h1, by omega⟩

theorem odd_part {m : Nat} (h : 0 < m) : ∃ o k : Nat, o % 2 = 1 ∧ m = o * 2 ^ k := by
  induction m using Nat.strongRecOn with
  | _ m ih =>
    by_cases c : m % 2 = 1
    · exact ⟨m, 0, c, by simp⟩
    · obtain ⟨o, k, h1, h2⟩ := ih (m / 2) (by omega) (by omega)
      exact ⟨o, k + 1, h1, by rw [Nat.pow_succ, ← Nat.mul_assoc, ← h2]; omega⟩

/-- Where a number is one of the format, the float of its whole part is exact. -/
theorem floatOf_exact {m u : Nat} {e : Int} (h0 : 0 < m) (h1 : m < 9223372036854775808) (h : Ieee.double.At m e u) : Ieee.double.At m 0 (Ieee.double.nearest false m 0) := by
  obtain ⟨o, k, ho, rfl⟩ := odd_part h0
  have d : Ieee.Deq (o * 2 ^ k) e o (e + k) := Ieee.Deq.shift _ _ _
  have g := Ieee.Format.At.odd ho (d.symm.trans h)
  have hk : k ≤ 62 := by
    by_cases c : k ≤ 62
    · exact c
    · exfalso
      have : 2 ^ 63 ≤ 2 ^ k := Nat.pow_le_pow_right (by omega) (by omega)
      have : 1 * 2 ^ k ≤ o * 2 ^ k := Nat.mul_le_mul_right _ (by omega)
      omega
  obtain ⟨r, r1, r2⟩ := Ieee.double.at_make (m := o) (p := (0 : Int) + k) g.2 (by rw [least_eq]; omega) (by rw [least_eq, binade_eq, infRung_eq]; omega)
  have r3 : Ieee.double.At (o * 2 ^ k) 0 r := (Ieee.Deq.shift _ _ _).trans r2
  rw [Ieee.double.nearest_at false r1 r3]
  exact r3

/-- What same tells of what Ldexp gives. -/
theorem ld_same {m : Nat} {e : Int} {z : Nat} (h0 : 0 < m) (h1 : m < 9223372036854775808) (hz : LdOK (Ieee.double.nearest false m 0) (clampI e) z) :
    (sm z m e = true → z < 9218868437227405312 ∧ jn Ieee.double m e = some z) ∧ (sm z m e = false → jn Ieee.double m e = none) := by
  constructor
  · intro hs
    have k : z < 9218868437227405312 ∧ Ieee.double.At m (clampI e) z := by
      unfold sm at hs; simpa using hs
    by_cases c : clampI e = e
    · rw [c] at k
      exact ⟨k.1, jn_some (by rw [infRung_eq]; exact k.1) k.2⟩
    · exfalso
      have c2 : clampI e < -2000 ∨ 2000 < clampI e := by unfold clampI at *; split at c <;> (try split at c) <;> (repeat' split) <;> omega
      exact far64 (m := (m : Int)) (by omega) (by omega) c2 (by rw [infRung_eq]; exact k.1) (by rw [Int.toNat_natCast]; exact k.2)
  · intro hs
    apply jn_none
    intro u hu ha
    rw [infRung_eq] at hu
    by_cases c : e < -2000 ∨ 2000 < e
    · exact far64 (m := (m : Int)) (by omega) (by omega) c (by rw [infRung_eq]; exact hu) (by rw [Int.toNat_natCast]; exact ha)
    · have ce : clampI e = e := by unfold clampI; rw [if_neg (by omega), if_neg (by omega)]
      have x := floatOf_exact h0 h1 ha
      have y : Ieee.double.At (Ieee.double.mg (Ieee.double.nearest false m 0)) (-1074 + Ieee.double.up (Ieee.double.nearest false m 0) + e) u := by
        have := deq_add (show Ieee.Deq m 0 _ _ from x) e
        rw [least_eq, Int.zero_add] at this
        exact this.symm.trans ha
      rw [ce] at hz
      have := hz.2 u hu y
      subst this
      rw [sm_true hu (by rw [ce]; exact ha)] at hs
      exact absurd hs (by decide)

end Go.Pt
namespace Go.Proofs.YtgphmlllngichaaGreatDoor
open Go.RowKit Go.Pt
attribute [local go_sem] and_2047 and_frac and_255 and_frac3 and_one or_frac or_frac3

theorem ofD_nat {x : Nat} (h : x ≤ 9218868437227405312) : ofD x = x := by
  have e : wd (x : Int) = x := by unfold wd; rw [IntKind.wrap_u64]; omega
  have k := ofD_wd (b := (x : Int)) (by unfold I64; omega)
  rw [e] at k
  rw [k]
  unfold told
  rw [if_neg]
  intro c
  have := (cl_nan _).1 c
  rw [rg_nat (by omega)] at this
  unfold inf at this
  omega

end Go.Proofs.YtgphmlllngichaaGreatDoor
