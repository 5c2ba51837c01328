/- Plain facts on patterns of 64 bits: what each function of the package bits, and of the document's reference, comes to, as a function of whole numbers. No condition but that a pattern is an int. -/
import Derived.Test.YtgmebioogkmfgaaGreatDoorIe
import Derived.Laws.Bits64
namespace Go.Pt

def cls (f t m : Int) : Int := if f = m then (if t = 0 then 3 else 4) else if f = 0 then (if t = 0 then 0 else 1) else 2

def I64 (b : Int) : Prop := -9223372036854775808 ≤ b ∧ b ≤ 9223372036854775807

def fld (b : Int) : Int := b / 4503599627370496 % 2048
def frc (b : Int) : Int := b % 4503599627370496
def rg (b : Int) : Int := b % 9223372036854775808

def cl (b : Int) : Int := cls (fld b) (frc b) 2047

def nan : Int := 9221120237041090561
def inf : Int := 9218868437227405312

theorem fld_rg (b : Int) : fld b = rg b / 4503599627370496 := by unfold fld rg; omega
theorem frc_rg (b : Int) : frc b = rg b % 4503599627370496 := by unfold frc rg; omega
theorem rg_bd (b : Int) : 0 ≤ rg b ∧ rg b < 9223372036854775808 := by unfold rg; omega

theorem cl_eq (b : Int) : cl b = if rg b = 0 then 0 else if rg b < 4503599627370496 then 1 else if rg b < inf then 2 else if rg b = inf then 3 else 4 := by
  have := rg_bd b
  unfold cl cls
  rw [fld_rg, frc_rg]
  unfold inf
  generalize rg b = r at *
  repeat' split
  all_goals omega

theorem cl_bd (b : Int) : 0 ≤ cl b ∧ cl b ≤ 4 := by rw [cl_eq]; repeat' split
                                                    all_goals omega

theorem cl_nan (b : Int) : cl b = 4 ↔ inf < rg b := by
  rw [cl_eq]; unfold inf; repeat' split
  all_goals omega
theorem cl_inf (b : Int) : cl b = 3 ↔ rg b = inf := by
  rw [cl_eq]; unfold inf; repeat' split
  all_goals omega
theorem cl_fin (b : Int) : cl b < 3 ↔ rg b < inf := by
  rw [cl_eq]; unfold inf; repeat' split
  all_goals omega
theorem cl_zero (b : Int) : cl b = 0 ↔ rg b = 0 := by
  rw [cl_eq]; unfold inf; repeat' split
  all_goals omega

theorem binade_eq : Ieee.double.binade = 4503599627370496 := rfl
theorem infRung_eq : Ieee.double.infRung = 9218868437227405312 := rfl
theorem signWeight_eq : Ieee.double.signWeight = 9223372036854775808 := rfl
theorem least_eq : Ieee.double.leastPlace = -1074 := rfl

/-- The word of a pattern. -/
def wd (b : Int) : Nat := (IntKind.u64.wrap b).toNat

theorem wd_word {b : Int} (h : I64 b) : wd b = Ieee.double.word (decide (b < 0)) (rg b).toNat := by
  unfold wd Ieee.Format.word rg
  rw [IntKind.wrap_u64, signWeight_eq]
  unfold I64 at h
  by_cases hb : b < 0
  · simp only [hb, decide_true, if_true]; omega
  · simp only [hb, decide_false, Bool.false_eq_true, if_false]; omega

theorem wd_lt (b : Int) : wd b < 18446744073709551616 := by unfold wd; rw [IntKind.wrap_u64]; omega

/-- The rung with its sign, as an integer. -/
def key (b : Int) : Int := if b < 0 then -(rg b) else rg b

theorem skey_key {b : Int} : Ieee.Format.skey (decide (b < 0)) (rg b).toNat = key b := by
  have := rg_bd b
  unfold Ieee.Format.skey key
  by_cases hb : b < 0 <;> simp [hb] <;> omega

theorem ord_fin {a b : Int} (ha : I64 a) (hb : I64 b) (na : cl a ≠ 4) (nb : cl b ≠ 4) : FloatKind.f64.format.order (wd a) (wd b) = some (compare (key a) (key b)) := by
  have h1 := rg_bd a
  have h2 := rg_bd b
  have c1 : ¬ inf < rg a := fun h => na ((cl_nan a).2 h)
  have c2 : ¬ inf < rg b := fun h => nb ((cl_nan b).2 h)
  unfold inf at c1 c2
  rw [wd_word ha, wd_word hb]
  show Ieee.double.order _ _ = _
  rw [Ieee.double.order_words (by decide) _ _ (by rw [infRung_eq]; omega) (by rw [infRung_eq]; omega), skey_key, skey_key]

theorem ord_nan_left {a : Int} (y : Nat) (ha : I64 a) (na : cl a = 4) : FloatKind.f64.format.order (wd a) y = none := by
  have h1 := rg_bd a
  have c1 := (cl_nan a).1 na
  unfold inf at c1
  rw [wd_word ha]
  exact Ieee.double.order_nan_left (by decide) _ _ (by rw [infRung_eq]; omega) (by rw [signWeight_eq]; omega)

theorem ord_nan_right {a : Int} (x : Nat) (ha : I64 a) (na : cl a = 4) : FloatKind.f64.format.order x (wd a) = none := by
  have h1 := rg_bd a
  have c1 := (cl_nan a).1 na
  unfold inf at c1
  rw [wd_word ha]
  exact Ieee.double.order_nan_right (by decide) _ _ (by rw [infRung_eq]; omega) (by rw [signWeight_eq]; omega)

theorem ord_self {a : Int} (ha : I64 a) (na : cl a ≠ 4) : FloatKind.f64.format.order (wd a) (wd a) = some .eq := by
  rw [ord_fin ha ha na na, Int.compare_eq_eq.2 rfl]

/-! ### What each function comes to -/
def neg (b : Int) : Int := if cl b = 4 then nan else if b < 0 then b + 9223372036854775808 else b - 9223372036854775808
def abs (b : Int) : Int := if cl b = 4 then nan else if b < 0 then b + 9223372036854775808 else b
def canon (b : Int) : Int := if cl b = 0 then 0 else if cl b = 4 then nan else b
def told (b : Int) : Int := if cl b = 4 then nan else b
def next (b : Int) : Int := if cl b = 4 then nan else if b = inf then b else if rg b = 0 then 1 else if b < 0 then b - 1 else b + 1
def prev (b : Int) : Int := neg (next (neg b))
def pneg (b : Int) : Bool := decide (cl b < 3) && decide (b < 0)
def pmag (b : Int) : Int := if cl b < 2 then frc b else if cl b = 2 then frc b + 4503599627370496 else 0
def pexp (b : Int) : Int := if cl b < 2 then -1074 else if cl b = 2 then fld b - 1075 else 0
def pok (b : Int) : Bool := decide (cl b < 3)
def place (b : Int) : Int := if b < 0 then -(b + 9223372036854775808) - 1 else b
def less (a b : Int) : Bool := !(cl a == 4) && (!(cl b == 4) && decide (key a < key b))
def same (a b : Int) : Bool := !(cl a == 4) && (!(cl b == 4) && (key a == key b))
def order (a b : Int) : Int :=
  if cl a = 4 then (if cl b = 4 then 0 else 1) else if cl b = 4 then -1 else if place a < place b then -1 else if place b < place a then 1 else 0

theorem cmp3 (x y : Int) : (x < y ∧ compare x y = .lt) ∨ (x = y ∧ compare x y = .eq) ∨ (y < x ∧ compare x y = .gt) := by
  by_cases h1 : x < y
  · exact Or.inl ⟨h1, Int.compare_eq_lt.2 h1⟩
  · by_cases h2 : x = y
    · exact Or.inr (Or.inl ⟨h2, Int.compare_eq_eq.2 h2⟩)
    · exact Or.inr (Or.inr ⟨by omega, Int.compare_eq_gt.2 (by omega)⟩)

theorem cmp_lt (x y : Int) : (some (compare x y) == some Ordering.lt) = decide (x < y) := by
  rcases cmp3 x y with ⟨h, e⟩ | ⟨h, e⟩ | ⟨h, e⟩ <;> rw [e]
  · rw [decide_eq_true h]; rfl
  · rw [decide_eq_false (by omega)]; rfl
  · rw [decide_eq_false (by omega)]; rfl

theorem cmp_gt (x y : Int) : (some (compare x y) == some Ordering.gt) = decide (y < x) := by
  rcases cmp3 x y with ⟨h, e⟩ | ⟨h, e⟩ | ⟨h, e⟩ <;> rw [e]
  · rw [decide_eq_false (by omega)]; rfl
  · rw [decide_eq_false (by omega)]; rfl
  · rw [decide_eq_true h]; rfl

theorem cmp_eq (x y : Int) : (some (compare x y) == some Ordering.eq) = (x == y) := by
  rcases cmp3 x y with ⟨h, e⟩ | ⟨h, e⟩ | ⟨h, e⟩ <;> rw [e]
  · rw [beq_eq_false_iff_ne.2 (show x ≠ y by omega)]; rfl
  · rw [beq_iff_eq.2 h]; rfl
  · rw [beq_eq_false_iff_ne.2 (show x ≠ y by omega)]; rfl

theorem less_eq {a b : Int} (ha : I64 a) (hb : I64 b) : (FloatKind.f64.format.order (wd a) (wd b) == some .lt) = less a b := by
  unfold less
  by_cases na : cl a = 4
  · rw [ord_nan_left _ ha na]; simp [na]
  · by_cases nb : cl b = 4
    · rw [ord_nan_right _ hb nb]; simp [nb]
    · rw [ord_fin ha hb na nb, cmp_lt, beq_eq_false_iff_ne.2 na, beq_eq_false_iff_ne.2 nb]; rfl

theorem same_eq {a b : Int} (ha : I64 a) (hb : I64 b) : (FloatKind.f64.format.order (wd a) (wd b) == some .eq) = same a b := by
  unfold same
  by_cases na : cl a = 4
  · rw [ord_nan_left _ ha na]; simp [na]
  · by_cases nb : cl b = 4
    · rw [ord_nan_right _ hb nb]; simp [nb]
    · rw [ord_fin ha hb na nb, cmp_eq, beq_eq_false_iff_ne.2 na, beq_eq_false_iff_ne.2 nb]; rfl

theorem isnan_eq {a : Int} (ha : I64 a) : (FloatKind.f64.format.order (wd a) (wd a) != some .eq) = decide (cl a = 4) := by
  by_cases na : cl a = 4
  · rw [ord_nan_left _ ha na]; simp [na]
  · rw [ord_self ha na]; simp [na]

theorem wrap_wd {b : Int} (h : I64 b) : IntKind.i64.wrap (wd b : Int) = b := by
  unfold wd
  unfold I64 at h
  simp [IntKind.wrap, IntKind.bits, IntKind.signed]
  omega

theorem nan64 : I64 nan := by unfold I64 nan; omega
theorem neg64 {b : Int} (h : I64 b) : I64 (neg b) := by
  unfold neg nan; unfold I64 at *; split <;> (try split) <;> omega
theorem abs64 {b : Int} (h : I64 b) : I64 (abs b) := by
  unfold abs nan; unfold I64 at *; split <;> (try split) <;> omega
theorem next64 {b : Int} (h : I64 b) : I64 (next b) := by
  have h1 := cl_nan b
  unfold next nan
  unfold inf rg at *
  unfold I64 at *
  by_cases c : cl b = 4
  · rw [if_pos c]; omega
  · rw [if_neg c]; repeat' split
    all_goals omega

theorem fld_bd (b : Int) : 0 ≤ fld b ∧ fld b < 2048 := by unfold fld; omega
theorem frc_bd (b : Int) : 0 ≤ frc b ∧ frc b < 4503599627370496 := by unfold frc; omega

theorem cl_fld (b : Int) : (fld b = 2047 → cl b = 3 ∨ cl b = 4) ∧ (fld b = 0 → cl b = 0 ∨ cl b = 1) ∧ (fld b ≠ 2047 → fld b ≠ 0 → cl b = 2) := by
  unfold cl cls
  refine ⟨fun h => ?_, fun h => ?_, fun h g => ?_⟩
  · rw [if_pos h]; split <;> simp
  · rw [if_neg (by omega), if_pos h]; split <;> simp
  · rw [if_neg h, if_neg g]

theorem parts_inf {b : Int} (h : fld b = 2047) : pneg b = false ∧ pmag b = 0 ∧ pexp b = 0 ∧ pok b = false := by
  unfold pneg pmag pexp pok
  rcases (cl_fld b).1 h with e | e <;> rw [e] <;> simp
theorem parts_low {b : Int} (h : fld b = 0) : pneg b = decide (b < 0) ∧ pmag b = frc b ∧ pexp b = -1074 ∧ pok b = true := by
  unfold pneg pmag pexp pok
  rcases (cl_fld b).2.1 h with e | e <;> rw [e] <;> simp
theorem parts_nrm {b : Int} (h : fld b ≠ 2047) (g : fld b ≠ 0) : pneg b = decide (b < 0) ∧ pmag b = frc b + 4503599627370496 ∧ pexp b = fld b - 1075 ∧ pok b = true := by
  unfold pneg pmag pexp pok
  rw [(cl_fld b).2.2 h g]; simp
theorem parts_c01 {b : Int} (h : cl b = 0 ∨ cl b = 1) : pneg b = decide (b < 0) ∧ pmag b = frc b ∧ pexp b = -1074 ∧ pok b = true := by
  unfold pneg pmag pexp pok
  rcases h with e | e <;> rw [e] <;> simp
theorem parts_c2 {b : Int} (h : cl b = 2) : pneg b = decide (b < 0) ∧ pmag b = frc b + 4503599627370496 ∧ pexp b = fld b - 1075 ∧ pok b = true := by
  unfold pneg pmag pexp pok
  rw [h]; simp
theorem parts_c34 {b : Int} (h : 3 ≤ cl b) : pneg b = false ∧ pmag b = 0 ∧ pexp b = 0 ∧ pok b = false := by
  have := cl_bd b
  unfold pneg pmag pexp pok
  have e : cl b = 3 ∨ cl b = 4 := by omega
  rcases e with e | e <;> rw [e] <;> simp

/-! ### 32 bits -/
def ok32 (b : Int) : Bool := decide (0 ≤ b) && decide (b < 4294967296)
def fld3 (b : Int) : Int := b / 8388608 % 256
def frc3 (b : Int) : Int := b % 8388608
def cl3 (b : Int) : Int := if ok32 b then cls (fld3 b) (frc3 b) 255 else 4
def nan3 : Int := 2143289345
def inf3 : Int := 2139095040
def pneg3 (b : Int) : Bool := decide (cl3 b < 3) && decide (2147483648 ≤ b)
def pmag3 (b : Int) : Int := if cl3 b < 2 then frc3 b else if cl3 b = 2 then frc3 b + 8388608 else 0
def pexp3 (b : Int) : Int := if cl3 b < 2 then -149 else if cl3 b = 2 then fld3 b - 150 else 0
def pok3 (b : Int) : Bool := decide (cl3 b < 3)

theorem cls_bd (f t m : Int) : 0 ≤ cls f t m ∧ cls f t m ≤ 4 := by
  unfold cls; repeat' split
  all_goals omega
theorem cl3_bd (b : Int) : 0 ≤ cl3 b ∧ cl3 b ≤ 4 := by
  unfold cl3; split
  · exact cls_bd _ _ _
  · omega
theorem fld3_bd (b : Int) : 0 ≤ fld3 b ∧ fld3 b < 256 := by unfold fld3; omega
theorem frc3_bd (b : Int) : 0 ≤ frc3 b ∧ frc3 b < 8388608 := by unfold frc3; omega

theorem cl3_fld (b : Int) (hb : ok32 b = true) : (fld3 b = 255 → cl3 b = 3 ∨ cl3 b = 4) ∧ (fld3 b = 0 → cl3 b = 0 ∨ cl3 b = 1) ∧ (fld3 b ≠ 255 → fld3 b ≠ 0 → cl3 b = 2) := by
  unfold cl3
  rw [if_pos hb]
  unfold cls
  refine ⟨fun h => ?_, fun h => ?_, fun h g => ?_⟩
  · rw [if_pos h]; split <;> simp
  · rw [if_neg (by omega), if_pos h]; split <;> simp
  · rw [if_neg h, if_neg g]

theorem parts3_c01 {b : Int} (h : cl3 b = 0 ∨ cl3 b = 1) : pneg3 b = decide (2147483648 ≤ b) ∧ pmag3 b = frc3 b ∧ pexp3 b = -149 ∧ pok3 b = true := by
  unfold pneg3 pmag3 pexp3 pok3
  rcases h with e | e <;> rw [e] <;> simp
theorem parts3_c2 {b : Int} (h : cl3 b = 2) : pneg3 b = decide (2147483648 ≤ b) ∧ pmag3 b = frc3 b + 8388608 ∧ pexp3 b = fld3 b - 150 ∧ pok3 b = true := by
  unfold pneg3 pmag3 pexp3 pok3
  rw [h]; simp
theorem parts3_c34 {b : Int} (h : 3 ≤ cl3 b) : pneg3 b = false ∧ pmag3 b = 0 ∧ pexp3 b = 0 ∧ pok3 b = false := by
  have := cl3_bd b
  unfold pneg3 pmag3 pexp3 pok3
  have e : cl3 b = 3 ∨ cl3 b = 4 := by omega
  rcases e with e | e <;> rw [e] <;> simp

/-! ### The neighbour above -/
theorem wd_inf : wd inf = 9218868437227405312 := by unfold wd inf; rw [IntKind.wrap_u64]; rfl
theorem wd_zero : wd 0 = 0 := by unfold wd; rw [IntKind.wrap_u64]; rfl
theorem wd_nan : wd nan = 9221120237041090561 := by unfold wd nan; rw [IntKind.wrap_u64]; rfl
theorem cl_infc : cl inf = 3 := by decide
theorem cl_zeroc : cl 0 = 0 := by decide
theorem cl_nanc : cl nan = 4 := by decide
theorem i64_inf : I64 inf := by unfold I64 inf; omega
theorem i64_zero : I64 0 := by unfold I64; omega

/-- The word that Nextafter gives, towards +Inf. -/
def nxw (b : Int) : Nat := if cl b = 4 then 9221120237041090561 else wd (next b)

theorem cl_next {b : Int} (h : I64 b) (n : cl b ≠ 4) : cl (next b) ≠ 4 := by
  have h1 : ¬ inf < rg b := fun e => n ((cl_nan b).2 e)
  intro e
  have h2 := (cl_nan _).1 e
  unfold next at h2
  rw [if_neg n] at h2
  unfold I64 at h
  unfold inf rg at *
  split at h2
  · omega
  · split at h2
    · omega
    · split at h2 <;> omega

theorem isN_wd {b : Int} (h : I64 b) (n : cl b ≠ 4) : (FloatKind.f64.format.order (wd b) (wd b) != some .eq) = false := by rw [isnan_eq h]; simp [n]

theorem key_inf : key inf = 9218868437227405312 := by decide
theorem key_zero : key 0 = 0 := by decide

theorem ord_inf {b : Int} (h : I64 b) (n : cl b ≠ 4) : FloatKind.f64.format.order (wd b) 9218868437227405312 = some (compare (key b) 9218868437227405312) := by
  rw [← wd_inf, ord_fin h i64_inf n (by rw [cl_infc]; decide), key_inf]
theorem ord_inf' {b : Int} (h : I64 b) (n : cl b ≠ 4) : FloatKind.f64.format.order 9218868437227405312 (wd b) = some (compare 9218868437227405312 (key b)) := by
  rw [← wd_inf, ord_fin i64_inf h (by rw [cl_infc]; decide) n, key_inf]
theorem ord_zero {b : Int} (h : I64 b) (n : cl b ≠ 4) : FloatKind.f64.format.order (wd b) 0 = some (compare (key b) 0) := by
  have := ord_fin h i64_zero n (by rw [cl_zeroc]; decide)
  rw [wd_zero, key_zero] at this
  exact this

theorem next_inf {b : Int} (h : I64 b) (e : key b = 9218868437227405312) : b = inf := by
  unfold key rg at e
  unfold I64 at h
  unfold inf
  split at e <;> omega

end Go.Pt
