/- Contracts of the package bits and of its reference. Condition: it stands in each fact. -/
import Derived.Test.YtgmebioogkmfgaaGreatDoorRows
import Derived.Test.YtgmebioogkmfgaaGreatDoorBo
import Derived.WalkKit
import Derived.WalkSpells
import Derived.WalkLawsBesides
import Derived.Lib.Hide
namespace Go.Proofs.YtgmebioogkmfgaaGreatDoor
open Go.RowKit Go.Pt

theorem ri {k : IntKind} {a b : Int} (h : a = b) : Ending.returned (.int k a) = .returned (.int k b) := by rw [h]
theorem rb {a b : Bool} (h : a = b) : Ending.returned (.bool a) = .returned (.bool b) := by rw [h]

@[go_sem] theorem run51 (n : Int) (w : World) : (callFunc 85 #[.int .u64 n]).run Tryz.prog w = .ok (.value (.float .f64 n.toNat)) w := by
  rw [run_callFunc_extern (e := Extern.MathFloatBits.float64frombits) Tryz.func85 (by kernel_rfl) (by kernel_rfl) (by kernel_rfl) (by kernel_rfl)]
  rfl
@[go_sem] theorem run54 (n : Nat) (w : World) : (callFunc 86 #[.float .f64 n]).run Tryz.prog w = .ok (.value (.int .u64 n)) w := by
  rw [run_callFunc_extern (e := Extern.MathFloatBits.float64bits) Tryz.func86 (by kernel_rfl) (by kernel_rfl) (by kernel_rfl) (by kernel_rfl)]
  rfl
attribute [local go_sem] and_2047 and_frac and_255 and_frac3 and_one or_frac or_frac3

def ofD (x : Nat) : Int := if FloatKind.f64.format.order x x != some .eq then nan else wrap64 x

set_option maxHeartbeats 400000 in
theorem of_any (x : Nat) (w : World) :
    Calls Tryz.prog 66 #[.float .f64 x] w fun e w' => e = .returned (.int .i64 (ofD x)) ∧ w = w' := by
  go_enter Tryz.func66, Tryz.ntmps66
  go_wp2
  · rename_i h
    go_ret
    exact ⟨ri (by unfold ofD; rw [if_pos h]; rfl), rfl⟩
  · rename_i h
    go_ret
    exact ⟨ri (by unfold ofD; rw [if_neg (by rw [h]; decide)]), rfl⟩

theorem ofD_wd {b : Int} (h : I64 b) : ofD (wd b) = told b := by
  have e := wrap_wd h
  rw [IntKind.wrap_i64] at e
  unfold ofD told wrap64
  rw [isnan_eq h, e]
  simp

theorem results_tmp4 {fn : Func} {t u v x : Tmp} (h : fn.results = #[.tmp t, .tmp u, .tmp v, .tmp x]) (tmps : Array Value) (P : Program) (w : World) :
    (results fn tmps).run P w = .ok (.tuple #[tmps.getD t undef, tmps.getD u undef, tmps.getD v undef, tmps.getD x undef]) w := by
  simp [results, h, go_sem]

theorem rt4 {a a' : Bool} {b b' c c' : Int} {d d' : Bool} (h1 : a = a') (h2 : b = b') (h3 : c = c') (h4 : d = d') :
    Ending.returned (.tuple #[.bool a, .int .i64 b, .int .i64 c, .bool d]) = .returned (.tuple #[.bool a', .int .i64 b', .int .i64 c', .bool d']) := by rw [h1, h2, h3, h4]
theorem rt3 {a a' : Bool} {b b' c c' : Int} (h1 : a = a') (h2 : b = b') (h3 : c = c') :
    Ending.returned (.tuple #[.bool a, .int .i64 b, .int .i64 c]) = .returned (.tuple #[.bool a', .int .i64 b', .int .i64 c']) := by rw [h1, h2, h3]

set_option maxHeartbeats 400000 in
theorem parts_any (b : Int) (w : World) :
    Calls Tryz.prog 31 #[.int .i64 b] w fun e w' => e = .returned (.tuple #[.bool (pneg b), .int .i64 (pmag b), .int .i64 (pexp b), .bool (pok b)]) ∧ w = w' := by
  cases h1 : (b / 4503599627370496 % 2048 == 2047)
  · cases h2 : (b / 4503599627370496 % 2048 == 0)
    · have P := parts_nrm (b := b) (beq_eq_false_iff_ne.1 h1) (beq_eq_false_iff_ne.1 h2)
      have HP := Lib.hid P; clear P
      go_enter Tryz.func31, Tryz.ntmps31
      go_wp2
      refine bodyPost_ret (results_tmp4 rfl _ _ _) rfl ?_
      exact ⟨rt4 HP.out.1.symm (by rw [HP.out.2.1]; rfl) (by rw [HP.out.2.2.1]; rfl) HP.out.2.2.2.symm, rfl⟩
    · have P := parts_low (b := b) (beq_iff_eq.1 h2)
      have HP := Lib.hid P; clear P
      go_enter Tryz.func31, Tryz.ntmps31
      go_wp2
      refine bodyPost_ret (results_tmp4 rfl _ _ _) rfl ?_
      exact ⟨rt4 HP.out.1.symm (by rw [HP.out.2.1]; rfl) (by rw [HP.out.2.2.1]) HP.out.2.2.2.symm, rfl⟩
  · have P := parts_inf (b := b) (beq_iff_eq.1 h1)
    have HP := Lib.hid P; clear P
    go_enter Tryz.func31, Tryz.ntmps31
    go_wp2
    refine bodyPost_ret (results_tmp4 rfl _ _ _) rfl ?_
    exact ⟨rt4 HP.out.1.symm HP.out.2.1.symm HP.out.2.2.1.symm HP.out.2.2.2.symm, rfl⟩

/-! ### 32 bits -/
theorem ok32_iff (b : Int) : ok32 b = true ↔ 0 ≤ b ∧ b < 4294967296 := by unfold ok32; simp

theorem cl3_ok {b : Int} (h : cl3 b < 3) : 0 ≤ b ∧ b < 4294967296 := by
  cases c : ok32 b
  · unfold cl3 at h; rw [c] at h; simp at h
  · exact (ok32_iff b).1 c

end Go.Proofs.YtgmebioogkmfgaaGreatDoor

namespace Go.Proofs.YtgmebioogkmfgaaGreatDoor
open Go.RowKit Go.Pt

attribute [local go_sem] and_2047 and_frac and_255 and_frac3 and_one or_frac or_frac3

def isN (x : Nat) : Bool := FloatKind.f64.format.order x x != some .eq

set_option maxHeartbeats 400000 in
theorem isNaN_any (x : Nat) (w : World) :
    Calls Tryz.prog 102 #[.float .f64 x] w fun e w' => e = .returned (.bool (isN x)) ∧ w = w' := by
  go_enter Tryz.func102, Tryz.ntmps102
  go_wp2
  go_ret
  exact ⟨rfl, rfl⟩

set_option maxHeartbeats 400000 in
theorem inf_one (w : World) :
    Calls Tryz.prog 104 #[.int .i64 1] w fun e w' => e = .returned (.float .f64 9218868437227405312) ∧ w = w' := by
  go_enter Tryz.func104, Tryz.ntmps104
  go_wp2
  go_ret
  exact ⟨rfl, rfl⟩

theorem rf {k : FloatKind} {a b : Nat} (h : a = b) : Ending.returned (.float k a) = .returned (.float k b) := by rw [h]

set_option maxHeartbeats 400000 in
theorem copysign_one (w : World) :
    Calls Tryz.prog 65 #[.float .f64 1, .float .f64 9218868437227405312] w fun e w' => e = .returned (.float .f64 1) ∧ w = w' := by
  go_enter Tryz.func65, Tryz.ntmps65
  go_wp2
  go_ret
  exact ⟨rf (by decide), rfl⟩

theorem isN_nan : isN 9218868437227405312 = false := by decide

theorem up_one {b : Int} (hb : I64 b) (n : cl b ≠ 4) (h0 : 0 < key b) (h1 : key b < 9218868437227405312) : (IntKind.u64.wrap ((wd b : Nat) + 1)).toNat = nxw b := by
  unfold nxw
  rw [if_neg n]
  unfold next
  rw [if_neg n]
  unfold wd
  rw [IntKind.wrap_u64, IntKind.wrap_u64, IntKind.wrap_u64]
  unfold key rg at h0 h1
  unfold rg inf
  unfold I64 at hb
  split at h0
  · omega
  · rw [if_neg (by omega), if_neg (by omega), if_neg (by omega)]; omega

theorem down_one {b : Int} (hb : I64 b) (n : cl b ≠ 4) (h0 : key b < 0) : (IntKind.u64.wrap ((wd b : Nat) - 1)).toNat = nxw b := by
  unfold nxw
  rw [if_neg n]
  unfold next
  rw [if_neg n]
  unfold wd
  rw [IntKind.wrap_u64, IntKind.wrap_u64, IntKind.wrap_u64]
  unfold key rg at h0
  unfold rg inf
  unfold I64 at hb
  split at h0
  · rw [if_neg (by omega), if_neg (by omega), if_pos (by omega)]; omega
  · omega

theorem key_bd {b : Int} (n : cl b ≠ 4) : key b ≤ 9218868437227405312 := by
  have h := rg_bd b
  have h1 : ¬ inf < rg b := fun e => n ((cl_nan b).2 e)
  unfold inf at h1
  unfold key; split <;> omega

theorem key_z {b : Int} (h : key b = 0) : rg b = 0 := by unfold key at h; split at h <;> omega

theorem ofD_nxw {b : Int} (h : I64 b) : ofD (nxw b) = next b := by
  unfold nxw
  by_cases n : cl b = 4
  · rw [if_pos n, ← wd_nan, ofD_wd nan64]
    unfold told next
    rw [cl_nanc, if_pos rfl, if_pos n]
  · rw [if_neg n, ofD_wd (next64 h)]
    unfold told
    rw [if_neg (cl_next h n)]

theorem canon64 {b : Int} (h : I64 b) : I64 (canon b) := by
  unfold canon nan; unfold I64 at *; repeat' split
  all_goals omega

theorem place_canon {b : Int} (hb : I64 b) (n : cl b ≠ 4) : place (canon b) = if cl b = 0 then 0 else if b < 0 then key b - 1 else key b := by
  unfold canon place key
  unfold I64 at hb
  by_cases c : cl b = 0
  · rw [if_pos c]; simp [c]
  · rw [if_neg c, if_neg n, if_neg c]
    unfold rg; split <;> omega

theorem less_place {a b : Int} (ha : I64 a) (hb : I64 b) (na : cl a ≠ 4) (nb : cl b ≠ 4) : decide (place (canon a) < place (canon b)) = less a b := by
  unfold less
  rw [beq_eq_false_iff_ne.2 na, beq_eq_false_iff_ne.2 nb, place_canon ha na, place_canon hb nb]
  have za := cl_zero a
  have zb := cl_zero b
  have ra := rg_bd a
  have rb := rg_bd b
  simp only [Bool.not_false, Bool.true_and]
  congr 1
  apply propext
  unfold key
  by_cases ca : cl a = 0
  · by_cases cb : cl b = 0
    · rw [if_pos ca, if_pos cb]; repeat' split
      all_goals omega
    · rw [if_pos ca, if_neg cb]; repeat' split
      all_goals omega
  · by_cases cb : cl b = 0
    · rw [if_neg ca, if_pos cb]; repeat' split
      all_goals omega
    · rw [if_neg ca, if_neg cb]; repeat' split
      all_goals omega

theorem canon_same {a b : Int} (ha : I64 a) (hb : I64 b) (na : cl a ≠ 4) : (canon a == canon b) = same a b := by
  unfold same
  rw [beq_eq_false_iff_ne.2 na]
  have za := cl_zero a
  have zb := cl_zero b
  have nna := cl_nan a
  have nnb := cl_nan b
  have ra := rg_bd a
  have rb := rg_bd b
  simp only [Bool.not_false, Bool.true_and]
  by_cases nb : cl b = 4
  · rw [beq_iff_eq.2 nb]
    simp only [Bool.not_true, Bool.false_and]
    apply beq_eq_false_iff_ne.2
    unfold canon
    rw [if_pos nb, if_neg (show ¬ cl b = 0 by omega), if_neg na]
    split
    · decide
    · intro e; rw [e] at na; exact na cl_nanc
  · rw [beq_eq_false_iff_ne.2 nb]
    simp only [Bool.not_false, Bool.true_and]
    unfold canon
    rw [if_neg na, if_neg nb]
    unfold I64 at ha hb
    have k : (if cl a = 0 then 0 else a) = (if cl b = 0 then 0 else b) ↔ key a = key b := by
      unfold key
      by_cases ca : cl a = 0
      · by_cases cb : cl b = 0
        · rw [if_pos ca, if_pos cb]; repeat' split
          all_goals omega
        · rw [if_pos ca, if_neg cb]; unfold rg at *; repeat' split
          all_goals omega
      · by_cases cb : cl b = 0
        · rw [if_neg ca, if_pos cb]; unfold rg at *; repeat' split
          all_goals omega
        · rw [if_neg ca, if_neg cb]; unfold rg at *; repeat' split
          all_goals omega
    by_cases e : key a = key b
    · rw [beq_iff_eq.2 (k.2 e), beq_iff_eq.2 e]
    · rw [beq_eq_false_iff_ne.2 (fun h => e (k.1 h)), beq_eq_false_iff_ne.2 e]

/-- What the program orders by. -/
def okey (b : Int) : Int := if cl b = 4 then 9223372036854775807 else place b

theorem okey_order {a b : Int} (ha : I64 a) (hb : I64 b) : order a b = if okey a < okey b then -1 else if okey b < okey a then 1 else 0 := by
  have na := cl_nan a
  have nb := cl_nan b
  unfold order okey place
  unfold I64 at ha hb
  unfold inf rg at na nb
  by_cases ca : cl a = 4
  · by_cases cb : cl b = 4
    · simp [ca, cb]
    · simp only [ca, cb, if_true, if_false]; repeat' split
      all_goals omega
  · by_cases cb : cl b = 4
    · simp only [ca, cb, if_true, if_false]; repeat' split
      all_goals omega
    · simp only [ca, cb, if_false]

end Go.Proofs.YtgmebioogkmfgaaGreatDoor

namespace Go.Pt

/-! ### Patterns of 32 bits as words -/
theorem binade3_eq : Ieee.single.binade = 8388608 := rfl
theorem infRung3_eq : Ieee.single.infRung = 2139095040 := rfl
theorem signWeight3_eq : Ieee.single.signWeight = 2147483648 := rfl
theorem least3_eq : Ieee.single.leastPlace = -149 := rfl

/-- The word of a pattern of 32 bits; of what is none, the one of no number. -/
def wd3 (b : Int) : Nat := if ok32 b then b.toNat else 2143289345
/-- The pattern that stands for it. -/
def pt3 (b : Int) : Int := if ok32 b then b else nan3
def rg3 (b : Int) : Int := b % 2147483648
def key3 (b : Int) : Int := if 2147483648 ≤ b then -(rg3 b) else rg3 b
def told3 (b : Int) : Int := if cl3 b = 4 then nan3 else b

theorem pt3_ok (b : Int) : 0 ≤ pt3 b ∧ pt3 b < 4294967296 := by
  unfold pt3 nan3
  cases h : ok32 b
  · simp
  · have : 0 ≤ b ∧ b < 4294967296 := by unfold ok32 at h; simpa using h
    simpa using this

theorem ok32_of {b : Int} (h0 : 0 ≤ b) (h1 : b < 4294967296) : ok32 b = true := by unfold ok32; simp [h0, h1]

theorem cl3_eq {b : Int} (h0 : 0 ≤ b) (h1 : b < 4294967296) : cl3 b = if rg3 b = 0 then 0 else if rg3 b < 8388608 then 1 else if rg3 b < inf3 then 2 else if rg3 b = inf3 then 3 else 4 := by
  unfold cl3 cls
  rw [if_pos (ok32_of h0 h1)]
  unfold fld3 frc3 rg3 inf3
  repeat' split
  all_goals omega

theorem cl3_pt (b : Int) : cl3 (pt3 b) = cl3 b := by
  unfold pt3
  cases h : ok32 b
  · simp only [Bool.false_eq_true, if_false]
    have : cl3 b = 4 := by unfold cl3; rw [h]; rfl
    rw [this]; decide
  · rfl

theorem wd3_pt (b : Int) : wd3 b = (pt3 b).toNat := by
  unfold wd3 pt3; split <;> rfl

theorem rg3_bd (b : Int) : 0 ≤ rg3 b ∧ rg3 b < 2147483648 := by unfold rg3; omega

theorem wd3_word (b : Int) : wd3 b = Ieee.single.word (decide (2147483648 ≤ pt3 b)) (rg3 (pt3 b)).toNat := by
  have h := pt3_ok b
  rw [wd3_pt]
  generalize pt3 b = c at *
  unfold Ieee.Format.word rg3
  rw [signWeight3_eq]
  by_cases hb : 2147483648 ≤ c
  · simp only [hb, decide_true, if_true]; omega
  · simp only [hb, decide_false, Bool.false_eq_true, if_false]; omega

theorem cl3_nan (b : Int) : cl3 b = 4 ↔ inf3 < rg3 (pt3 b) := by
  have h := pt3_ok b
  rw [← cl3_pt, cl3_eq h.1 h.2]; unfold inf3; repeat' split
  all_goals omega

theorem skey_key3 {b : Int} : Ieee.Format.skey (decide (2147483648 ≤ b)) (rg3 b).toNat = key3 b := by
  have := rg3_bd b
  unfold Ieee.Format.skey key3
  by_cases hb : 2147483648 ≤ b <;> simp [hb] <;> omega

theorem ord3_fin {a b : Int} (na : cl3 a ≠ 4) (nb : cl3 b ≠ 4) : FloatKind.f32.format.order (wd3 a) (wd3 b) = some (compare (key3 (pt3 a)) (key3 (pt3 b))) := by
  have h1 := rg3_bd (pt3 a)
  have h2 := rg3_bd (pt3 b)
  have c1 : ¬ inf3 < rg3 (pt3 a) := fun h => na ((cl3_nan a).2 h)
  have c2 : ¬ inf3 < rg3 (pt3 b) := fun h => nb ((cl3_nan b).2 h)
  unfold inf3 at c1 c2
  rw [wd3_word a, wd3_word b]
  show Ieee.single.order _ _ = _
  rw [Ieee.single.order_words (by decide) _ _ (by rw [infRung3_eq]; omega) (by rw [infRung3_eq]; omega), skey_key3, skey_key3]

theorem ord3_nan_left {a : Int} (y : Nat) (na : cl3 a = 4) : FloatKind.f32.format.order (wd3 a) y = none := by
  have h1 := rg3_bd (pt3 a)
  have c1 := (cl3_nan a).1 na
  unfold inf3 at c1
  rw [wd3_word a]
  exact Ieee.single.order_nan_left (by decide) _ _ (by rw [infRung3_eq]; omega) (by rw [signWeight3_eq]; omega)

theorem isnan3_eq (a : Int) : (FloatKind.f32.format.order (wd3 a) (wd3 a) != some .eq) = decide (cl3 a = 4) := by
  by_cases na : cl3 a = 4
  · rw [ord3_nan_left _ na]; simp [na]
  · rw [ord3_fin na na, Int.compare_eq_eq.2 rfl]; simp [na]

end Go.Pt
namespace Go.Proofs.YtgmebioogkmfgaaGreatDoor
open Go.RowKit Go.Pt

attribute [local go_sem] and_2047 and_frac and_255 and_frac3 and_one or_frac or_frac3

def ofS (x : Nat) : Int := if FloatKind.f32.format.order x x != some .eq then nan3 else wrap64 x

theorem ofS_wd (b : Int) : ofS (wd3 b) = told3 b := by
  have h := pt3_ok b
  unfold ofS told3
  rw [isnan3_eq]
  by_cases c : cl3 b = 4
  · simp [c]
  · simp only [c, decide_false, Bool.false_eq_true, if_false]
    unfold wrap64
    rw [wd3_pt]
    have : pt3 b = b := by
      unfold pt3
      cases k : ok32 b
      · exact absurd (by unfold cl3; rw [k]; rfl) c
      · rfl
    rw [this] at h ⊢
    omega

theorem one64 : I64 4607182418800017408 := by unfold I64; omega
theorem one32 : I64 1065353216 := by unfold I64; omega

end Go.Proofs.YtgmebioogkmfgaaGreatDoor
