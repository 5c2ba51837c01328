/- What the calls of alive, Told, Told32, Float32, Of32 come to: each returns, and the answer is the plain function's. Condition: an int is an int (I64), where it stands. -/
import Derived.Test.YtgphmlllngichaaGreatDoorW2
namespace Go.Pt

/-! ### Patterns of 32 bits as words -/
theorem binade3_eq : Ieee.single.binade = 8388608 := rfl
theorem infRung3_eq : Ieee.single.infRung = 2139095040 := rfl
theorem signWeight3_eq : Ieee.single.signWeight = 2147483648 := rfl
theorem least3_eq : Ieee.single.leastPlace = -149 := rfl

/-- The word of a pattern of 32 bits; of what is none, the one of no number. -/
def wd3 (b : Int) : Nat := if ok32 b then b.toNat else 2143289345
/-- The pattern that stands for it. -/
def pt3 (b : Int) : Int := if ok32 b then b else nan3
def rg3 (b : Int) : Int := b % 2147483648
def key3 (b : Int) : Int := if 2147483648 ≤ b then -(rg3 b) else rg3 b
def told3 (b : Int) : Int := if cl3 b = 4 then nan3 else b

theorem pt3_ok (b : Int) : 0 ≤ pt3 b ∧ pt3 b < 4294967296 := by
  unfold pt3 nan3
  cases h : ok32 b
  · simp
  · have : 0 ≤ b ∧ b < 4294967296 := by unfold ok32 at h; simpa using h
    simpa using this

theorem ok32_of {b : Int} (h0 : 0 ≤ b) (h1 : b < 4294967296) : ok32 b = true := by unfold ok32; simp [h0, h1]

theorem cl3_eq {b : Int} (h0 : 0 ≤ b) (h1 : b < 4294967296) : cl3 b = if rg3 b = 0 then 0 else if rg3 b < 8388608 then 1 else if rg3 b < inf3 then 2 else if rg3 b = inf3 then 3 else 4 := by
  unfold cl3 cls
  rw [if_pos (ok32_of h0 h1)]
  unfold fld3 frc3 rg3 inf3
  repeat' split
  all_goals omega

theorem cl3_pt (b : Int) : cl3 (pt3 b) = cl3 b := by
  unfold pt3
  cases h : ok32 b
  · simp only [Bool.false_eq_true, if_false]
    have : cl3 b = 4 := by unfold cl3; rw [h]; rfl
    rw [this]; decide
  · rfl

theorem wd3_pt (b : Int) : wd3 b = (pt3 b).toNat := by
  unfold wd3 pt3; split <;> rfl

theorem rg3_bd (b : Int) : 0 ≤ rg3 b ∧ rg3 b < 2147483648 := by unfold rg3; omega

theorem wd3_word (b : Int) : wd3 b = Ieee.single.word (decide (2147483648 ≤ pt3 b)) (rg3 (pt3 b)).toNat := by
  have h := pt3_ok b
  rw [wd3_pt]
  generalize pt3 b = c at *
  unfold Ieee.Format.word rg3
  rw [signWeight3_eq]
  by_cases hb : 2147483648 ≤ c
  · simp only [hb, decide_true, if_true]; omega
  · simp only [hb, decide_false, Bool.false_eq_true, if_false]; omega

theorem cl3_nan (b : Int) : cl3 b = 4 ↔ inf3 < rg3 (pt3 b) := by
  have h := pt3_ok b
  rw [← cl3_pt, cl3_eq h.1 h.2]; unfold inf3; repeat' split
  all_goals omega

theorem skey_key3 {b : Int} : Ieee.Format.skey (decide (2147483648 ≤ b)) (rg3 b).toNat = key3 b := by
  have := rg3_bd b
  unfold Ieee.Format.skey key3
  by_cases hb : 2147483648 ≤ b <;> simp [hb] <;> omega

theorem ord3_fin {a b : Int} (na : cl3 a ≠ 4) (nb : cl3 b ≠ 4) : FloatKind.f32.format.order (wd3 a) (wd3 b) = some (compare (key3 (pt3 a)) (key3 (pt3 b))) := by
  have h1 := rg3_bd (pt3 a)
  have h2 := rg3_bd (pt3 b)
  have c1 : ¬ inf3 < rg3 (pt3 a) := fun h => na ((cl3_nan a).2 h)
  have c2 : ¬ inf3 < rg3 (pt3 b) := fun h => nb ((cl3_nan b).2 h)
  unfold inf3 at c1 c2
  rw [wd3_word a, wd3_word b]
  show Ieee.single.order _ _ = _
  rw [Ieee.single.order_words (by decide) _ _ (by rw [infRung3_eq]; omega) (by rw [infRung3_eq]; omega), skey_key3, skey_key3]

theorem ord3_nan_left {a : Int} (y : Nat) (na : cl3 a = 4) : FloatKind.f32.format.order (wd3 a) y = none := by
  have h1 := rg3_bd (pt3 a)
  have c1 := (cl3_nan a).1 na
  unfold inf3 at c1
  rw [wd3_word a]
  exact Ieee.single.order_nan_left (by decide) _ _ (by rw [infRung3_eq]; omega) (by rw [signWeight3_eq]; omega)

theorem isnan3_eq (a : Int) : (FloatKind.f32.format.order (wd3 a) (wd3 a) != some .eq) = decide (cl3 a = 4) := by
  by_cases na : cl3 a = 4
  · rw [ord3_nan_left _ na]; simp [na]
  · rw [ord3_fin na na, Int.compare_eq_eq.2 rfl]; simp [na]

end Go.Pt
namespace Go.Proofs.YtgphmlllngichaaGreatDoor
open Go.RowKit Go.Pt

attribute [local go_sem] and_2047 and_frac and_255 and_frac3 and_one or_frac or_frac3

def ofS (x : Nat) : Int := if FloatKind.f32.format.order x x != some .eq then nan3 else wrap64 x

theorem ofS_wd (b : Int) : ofS (wd3 b) = told3 b := by
  have h := pt3_ok b
  unfold ofS told3
  rw [isnan3_eq]
  by_cases c : cl3 b = 4
  · simp [c]
  · simp only [c, decide_false, Bool.false_eq_true, if_false]
    unfold wrap64
    rw [wd3_pt]
    have : pt3 b = b := by
      unfold pt3
      cases k : ok32 b
      · exact absurd (by unfold cl3; rw [k]; rfl) c
      · rfl
    rw [this] at h ⊢
    omega

theorem one64 : I64 4607182418800017408 := by unfold I64; omega
theorem one32 : I64 1065353216 := by unfold I64; omega

end Go.Proofs.YtgphmlllngichaaGreatDoor
