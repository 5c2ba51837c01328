/- What the calls of the package bits and of its reference come to (signs, order, neighbours): each call returns, and the answer is the plain function's. Condition: an int is an int (I64), where it stands. -/
import Derived.Test.YtdbeeclkknhjaaaW1
namespace Go.Proofs.Ytdbeeclkknhjaaa
open Go.RowKit Go.Pt

attribute [local go_sem] and_2047 and_frac and_255 and_frac3 and_one or_frac or_frac3

def isN (x : Nat) : Bool := FloatKind.f64.format.order x x != some .eq

set_option maxHeartbeats 400000 in
theorem isNaN_any (x : Nat) (w : World) :
    Calls Try.prog 87 #[.float .f64 x] w fun e w' => e = .returned (.bool (isN x)) ∧ w = w' := by
  go_enter Try.func87, Try.ntmps87
  go_wp2
  go_ret
  exact ⟨rfl, rfl⟩

set_option maxHeartbeats 400000 in
theorem nanF_any (w : World) :
    Calls Try.prog 88 #[] w fun e w' => e = .returned (.float .f64 9221120237041090561) ∧ w = w' := by
  go_enter Try.func88, Try.ntmps88
  go_wp2
  go_ret
  exact ⟨rfl, rfl⟩

set_option maxHeartbeats 400000 in
theorem inf_one (w : World) :
    Calls Try.prog 69 #[.int .i64 1] w fun e w' => e = .returned (.float .f64 9218868437227405312) ∧ w = w' := by
  go_enter Try.func69, Try.ntmps69
  go_wp2
  go_ret
  exact ⟨rfl, rfl⟩

theorem rf {k : FloatKind} {a b : Nat} (h : a = b) : Ending.returned (.float k a) = .returned (.float k b) := by rw [h]

set_option maxHeartbeats 400000 in
theorem copysign_one (w : World) :
    Calls Try.prog 80 #[.float .f64 1, .float .f64 9218868437227405312] w fun e w' => e = .returned (.float .f64 1) ∧ w = w' := by
  go_enter Try.func80, Try.ntmps80
  go_wp2
  go_ret
  exact ⟨rf (by decide), rfl⟩

theorem isN_nan : isN 9218868437227405312 = false := by decide

theorem up_one {b : Int} (hb : I64 b) (n : cl b ≠ 4) (h0 : 0 < key b) (h1 : key b < 9218868437227405312) : (IntKind.u64.wrap ((wd b : Nat) + 1)).toNat = nxw b := by
  unfold nxw
  rw [if_neg n]
  unfold next
  rw [if_neg n]
  unfold wd
  rw [IntKind.wrap_u64, IntKind.wrap_u64, IntKind.wrap_u64]
  unfold key rg at h0 h1
  unfold rg inf
  unfold I64 at hb
  split at h0
  · omega
  · rw [if_neg (by omega), if_neg (by omega), if_neg (by omega)]; omega

theorem down_one {b : Int} (hb : I64 b) (n : cl b ≠ 4) (h0 : key b < 0) : (IntKind.u64.wrap ((wd b : Nat) - 1)).toNat = nxw b := by
  unfold nxw
  rw [if_neg n]
  unfold next
  rw [if_neg n]
  unfold wd
  rw [IntKind.wrap_u64, IntKind.wrap_u64, IntKind.wrap_u64]
  unfold key rg at h0
  unfold rg inf
  unfold I64 at hb
  split at h0
  · rw [if_neg (by omega), if_neg (by omega), if_pos (by omega)]; omega
  · omega

theorem key_bd {b : Int} (n : cl b ≠ 4) : key b ≤ 9218868437227405312 := by
  have h := rg_bd b
  have h1 : ¬ inf < rg b := fun e => n ((cl_nan b).2 e)
  unfold inf at h1
  unfold key; split <;> omega

theorem key_z {b : Int} (h : key b = 0) : rg b = 0 := by unfold key at h; split at h <;> omega

set_option maxHeartbeats 400000 in
theorem nextafter_any (b : Int) (hb : I64 b) (w : World) :
    Calls Try.prog 68 #[.float .f64 (wd b), .float .f64 9218868437227405312] w fun e w' => e = .returned (.float .f64 (nxw b)) ∧ w = w' := by
  have hI := isN_nan
  by_cases n : cl b = 4
  · have hn : isN (wd b) = true := by unfold isN; rw [isnan_eq hb, n]; rfl
    have F : 9221120237041090561 = nxw b := by unfold nxw; rw [if_pos n]
    have HF := Lib.hid F; clear F n hb
    go_enter Try.func68, Try.ntmps68
    go_wp2_with (first | (go_at_call 87; refine (isNaN_any _ _).mono ?_; rintro e w' ⟨rfl, rfl⟩) | (go_at_call 88; refine (nanF_any _).mono ?_; rintro e w' ⟨rfl, rfl⟩))
    go_ret
    exact ⟨rf HF.out, rfl⟩
  · have hn : isN (wd b) = false := by unfold isN; exact isN_wd hb n
    have k1 := key_bd n
    have o1 := ord_inf hb n
    have o2 := ord_zero hb n
    have o3 := ord_inf' hb n
    by_cases c1 : key b = 9218868437227405312
    · have F : wd b = nxw b := by
        unfold nxw; rw [if_neg n]; unfold next; rw [if_neg n, if_pos (next_inf hb c1)]
      rw [c1, Int.compare_eq_eq.2 rfl] at o1
      have HF := Lib.hid F; clear F n hb c1 k1 o2 o3
      go_enter Try.func68, Try.ntmps68
      go_wp2_with (first | (go_at_call 87; refine (isNaN_any _ _).mono ?_; rintro e w' ⟨rfl, rfl⟩))
      go_ret
      exact ⟨rf HF.out, rfl⟩
    · rw [Int.compare_eq_lt.2 (by omega)] at o1
      rw [Int.compare_eq_gt.2 (by omega)] at o3
      by_cases c2 : key b = 0
      · rw [c2, Int.compare_eq_eq.2 rfl] at o2
        have F : 1 = nxw b := by
          have z := key_z c2
          unfold nxw; rw [if_neg n]; unfold next; rw [if_neg n, if_neg (by intro e; rw [e] at z; revert z; decide), if_pos z]; unfold wd; rw [IntKind.wrap_u64]; rfl
        have HF := Lib.hid F; clear F n hb c1 k1 c2
        go_enter Try.func68, Try.ntmps68
        go_wp2_with (first | (go_at_call 87; refine (isNaN_any _ _).mono ?_; rintro e w' ⟨rfl, rfl⟩) | (go_at_call 80; refine (copysign_one _).mono ?_; rintro e w' ⟨rfl, rfl⟩))
        go_ret
        exact ⟨rf HF.out, rfl⟩
      · by_cases c3 : 0 < key b
        · rw [Int.compare_eq_gt.2 c3] at o2
          have F := up_one hb n c3 (by omega)
          have HF := Lib.hid F; clear F n hb c1 k1 c2 c3
          go_enter Try.func68, Try.ntmps68
          go_wp2_with (first | (go_at_call 87; refine (isNaN_any _ _).mono ?_; rintro e w' ⟨rfl, rfl⟩))
          go_ret
          exact ⟨rf HF.out, rfl⟩
        · rw [Int.compare_eq_lt.2 (by omega)] at o2
          have F := down_one hb n (by omega)
          have HF := Lib.hid F; clear F n hb c1 k1 c2 c3
          go_enter Try.func68, Try.ntmps68
          go_wp2_with (first | (go_at_call 87; refine (isNaN_any _ _).mono ?_; rintro e w' ⟨rfl, rfl⟩))
          go_ret
          exact ⟨rf HF.out, rfl⟩

theorem ofD_nxw {b : Int} (h : I64 b) : ofD (nxw b) = next b := by
  unfold nxw
  by_cases n : cl b = 4
  · rw [if_pos n, ← wd_nan, ofD_wd nan64]
    unfold told next
    rw [cl_nanc, if_pos rfl, if_pos n]
  · rw [if_neg n, ofD_wd (next64 h)]
    unfold told
    rw [if_neg (cl_next h n)]

set_option maxHeartbeats 400000 in
theorem next_any (b : Int) (hb : I64 b) (w : World) :
    Calls Try.prog 34 #[.int .i64 b] w fun e w' => e = .returned (.int .i64 (next b)) ∧ w = w' := by
  go_enter Try.func34, Try.ntmps34
  go_wp2_with (first | (go_at_call 19; refine (float_any _ _).mono ?_; rintro e w' ⟨rfl, rfl⟩) | (go_at_call 69; refine (inf_one _).mono ?_; rintro e w' ⟨rfl, rfl⟩) | (go_at_call 68; refine (nextafter_any _ hb _).mono ?_; rintro e w' ⟨rfl, rfl⟩) | (go_at_call 21; refine (of_any _ _).mono ?_; rintro e w' ⟨rfl, rfl⟩))
  go_ret
  exact ⟨ri (ofD_nxw hb), rfl⟩

set_option maxHeartbeats 400000 in
theorem neg_any (b : Int) (hb : I64 b) (w : World) :
    Calls Try.prog 45 #[.int .i64 b] w fun e w' => e = .returned (.int .i64 (neg b)) ∧ w = w' := by
  have X := xor_sign hb
  have HX := Lib.hid X; clear X
  cases h : (cl b == 4)
  · go_enter Try.func45, Try.ntmps45
    go_wp2_with (first | (go_at_call 32; refine (class_any _ _).mono ?_; rintro e w' ⟨rfl, rfl⟩))
    go_ret
    exact ⟨ri (by unfold neg; rw [if_neg (beq_eq_false_iff_ne.1 h)]; exact HX.out), rfl⟩
  · go_enter Try.func45, Try.ntmps45
    go_wp2_with (first | (go_at_call 32; refine (class_any _ _).mono ?_; rintro e w' ⟨rfl, rfl⟩))
    go_ret
    exact ⟨ri (by unfold neg; rw [if_pos (beq_iff_eq.1 h)]; rfl), rfl⟩

set_option maxHeartbeats 400000 in
theorem abs_any (b : Int) (hb : I64 b) (w : World) :
    Calls Try.prog 39 #[.int .i64 b] w fun e w' => e = .returned (.int .i64 (abs b)) ∧ w = w' := by
  have X := andNot_sign hb
  have HX := Lib.hid X; clear X
  cases h : (cl b == 4)
  · go_enter Try.func39, Try.ntmps39
    go_wp2_with (first | (go_at_call 32; refine (class_any _ _).mono ?_; rintro e w' ⟨rfl, rfl⟩))
    go_ret
    exact ⟨ri (by unfold abs; rw [if_neg (beq_eq_false_iff_ne.1 h)]; exact HX.out), rfl⟩
  · go_enter Try.func39, Try.ntmps39
    go_wp2_with (first | (go_at_call 32; refine (class_any _ _).mono ?_; rintro e w' ⟨rfl, rfl⟩))
    go_ret
    exact ⟨ri (by unfold abs; rw [if_pos (beq_iff_eq.1 h)]; rfl), rfl⟩

set_option maxHeartbeats 400000 in
theorem rNeg_any (b : Int) (hb : I64 b) (w : World) :
    Calls Try.prog 73 #[.int .i64 b] w fun e w' => e = .returned (.int .i64 (neg b)) ∧ w = w' := by
  have h1 := hb.1
  have h2 := hb.2
  cases h : (cl b == 4)
  · go_enter Try.func73, Try.ntmps73
    go_wp2_with (first | (go_at_call 25; refine (rClass_any _ hb _).mono ?_; rintro e w' ⟨rfl, rfl⟩))
    go_ret
    exact ⟨ri (by unfold neg; rw [if_neg (beq_eq_false_iff_ne.1 h)]; unfold wrap64; split <;> omega), rfl⟩
  · go_enter Try.func73, Try.ntmps73
    go_wp2_with (first | (go_at_call 25; refine (rClass_any _ hb _).mono ?_; rintro e w' ⟨rfl, rfl⟩))
    go_ret
    exact ⟨ri (by unfold neg; rw [if_pos (beq_iff_eq.1 h)]; rfl), rfl⟩

set_option maxHeartbeats 400000 in
theorem rAbs_any (b : Int) (hb : I64 b) (w : World) :
    Calls Try.prog 74 #[.int .i64 b] w fun e w' => e = .returned (.int .i64 (abs b)) ∧ w = w' := by
  have h1 := hb.1
  have h2 := hb.2
  cases h : (cl b == 4)
  · go_enter Try.func74, Try.ntmps74
    go_wp2_with (first | (go_at_call 25; refine (rClass_any _ hb _).mono ?_; rintro e w' ⟨rfl, rfl⟩))
    · have c : b < 0 := by assumption
      go_ret
      exact ⟨ri (by unfold abs; rw [if_neg (beq_eq_false_iff_ne.1 h), if_pos c]; try (unfold wrap64; omega)), rfl⟩
    · have c : 0 ≤ b := by assumption
      go_ret
      exact ⟨ri (by unfold abs; rw [if_neg (beq_eq_false_iff_ne.1 h), if_neg (by omega)]), rfl⟩
  · go_enter Try.func74, Try.ntmps74
    go_wp2_with (first | (go_at_call 25; refine (rClass_any _ hb _).mono ?_; rintro e w' ⟨rfl, rfl⟩))
    go_ret
    exact ⟨ri (by unfold abs; rw [if_pos (beq_iff_eq.1 h)]; rfl), rfl⟩

set_option maxHeartbeats 400000 in
theorem rCanon_any (b : Int) (hb : I64 b) (w : World) :
    Calls Try.prog 76 #[.int .i64 b] w fun e w' => e = .returned (.int .i64 (canon b)) ∧ w = w' := by
  go_enter Try.func76, Try.ntmps76
  go_wp2_with (first | (go_at_call 25; refine (rClass_any _ hb _).mono ?_; rintro e w' ⟨rfl, rfl⟩))
  · have c : cl b = 0 := by simpa using (by assumption : (cl b == 0) = true)
    go_ret
    exact ⟨ri (by unfold canon; rw [if_pos c]), rfl⟩
  · have c0 : cl b ≠ 0 := by simpa using (by assumption : (cl b == 0) = false)
    have c : cl b = 4 := by simpa using (by assumption : (cl b == 4) = true)
    go_ret
    exact ⟨ri (by unfold canon; rw [if_neg c0, if_pos c]; rfl), rfl⟩
  · have c0 : cl b ≠ 0 := by simpa using (by assumption : (cl b == 0) = false)
    have c : cl b ≠ 4 := by simpa using (by assumption : (cl b == 4) = false)
    go_ret
    exact ⟨ri (by unfold canon; rw [if_neg c0, if_neg c]), rfl⟩

set_option maxHeartbeats 400000 in
theorem place_any (b : Int) (hb : I64 b) (w : World) :
    Calls Try.prog 85 #[.int .i64 b] w fun e w' => e = .returned (.int .i64 (place b)) ∧ w = w' := by
  have h1 := hb.1
  have h2 := hb.2
  go_enter Try.func85, Try.ntmps85
  go_wp2
  · have c : b < 0 := by assumption
    go_ret
    exact ⟨ri (by unfold place; rw [if_pos c]; try omega), rfl⟩
  · have c : 0 ≤ b := by assumption
    go_ret
    exact ⟨ri (by unfold place; rw [if_neg (by omega)]), rfl⟩

set_option maxHeartbeats 400000 in
theorem rNext_any (b : Int) (hb : I64 b) (w : World) :
    Calls Try.prog 70 #[.int .i64 b] w fun e w' => e = .returned (.int .i64 (next b)) ∧ w = w' := by
  have h1 := hb.1
  have h2 := hb.2
  cases c4 : (cl b == 4)
  · have n := beq_eq_false_iff_ne.1 c4
    cases ci : (b == 9218868437227405312)
    · have ni := beq_eq_false_iff_ne.1 ci
      cases c0 : (b == 0)
      · have n0 := beq_eq_false_iff_ne.1 c0
        cases cm : (b == -9223372036854775808)
        · have nm := beq_eq_false_iff_ne.1 cm
          have F : next b = if b < 0 then b - 1 else b + 1 := by
            unfold next; rw [if_neg n, if_neg (show ¬ b = inf from ni), if_neg (by unfold rg; omega)]
          have HF := Lib.hid F; clear F n n0
          by_cases hn : b < 0
          · have : ¬ b = -9223372036854775808 := nm
            go_enter Try.func70, Try.ntmps70
            go_wp2_with (first | (go_at_call 25; refine (rClass_any _ hb _).mono ?_; rintro e w' ⟨rfl, rfl⟩))
            go_ret
            exact ⟨ri (by rw [HF.out, if_pos hn]), rfl⟩
          · have h3 : b ≤ 9223372036854775806 := by
              have h4 : ¬ inf < rg b := fun e => (beq_eq_false_iff_ne.1 c4) ((cl_nan b).2 e)
              unfold inf rg at h4; omega
            go_enter Try.func70, Try.ntmps70
            go_wp2_with (first | (go_at_call 25; refine (rClass_any _ hb _).mono ?_; rintro e w' ⟨rfl, rfl⟩))
            go_ret
            exact ⟨ri (by rw [HF.out, if_neg (by omega)]), rfl⟩
        · obtain rfl := beq_iff_eq.1 cm
          go_enter Try.func70, Try.ntmps70
          go_wp2_with (first | (go_at_call 25; refine (rClass_any _ hb _).mono ?_; rintro e w' ⟨rfl, rfl⟩))
          go_ret
          exact ⟨ri (by decide), rfl⟩
      · obtain rfl := beq_iff_eq.1 c0
        go_enter Try.func70, Try.ntmps70
        go_wp2_with (first | (go_at_call 25; refine (rClass_any _ hb _).mono ?_; rintro e w' ⟨rfl, rfl⟩))
        go_ret
        exact ⟨ri (by decide), rfl⟩
    · obtain rfl := beq_iff_eq.1 ci
      go_enter Try.func70, Try.ntmps70
      go_wp2_with (first | (go_at_call 25; refine (rClass_any _ hb _).mono ?_; rintro e w' ⟨rfl, rfl⟩))
      go_ret
      exact ⟨ri (by decide), rfl⟩
  · have n := beq_iff_eq.1 c4
    have F : next b = 9221120237041090561 := by unfold next; rw [if_pos n]; rfl
    have HF := Lib.hid F; clear F n
    go_enter Try.func70, Try.ntmps70
    go_wp2_with (first | (go_at_call 25; refine (rClass_any _ hb _).mono ?_; rintro e w' ⟨rfl, rfl⟩))
    go_ret
    exact ⟨ri HF.out.symm, rfl⟩

set_option maxHeartbeats 400000 in
theorem prev_any (b : Int) (hb : I64 b) (w : World) :
    Calls Try.prog 35 #[.int .i64 b] w fun e w' => e = .returned (.int .i64 (prev b)) ∧ w = w' := by
  go_enter Try.func35, Try.ntmps35
  go_wp2_with fail
  refine (neg_any _ hb _).mono ?_; rintro e w' ⟨rfl, rfl⟩
  go_wp2_with fail
  refine (next_any _ (neg64 hb) _).mono ?_; rintro e w' ⟨rfl, rfl⟩
  go_wp2_with fail
  refine (neg_any _ (next64 (neg64 hb)) _).mono ?_; rintro e w' ⟨rfl, rfl⟩
  go_wp2_with fail
  go_ret
  exact ⟨ri rfl, rfl⟩

set_option maxHeartbeats 400000 in
theorem rPrev_any (b : Int) (hb : I64 b) (w : World) :
    Calls Try.prog 71 #[.int .i64 b] w fun e w' => e = .returned (.int .i64 (prev b)) ∧ w = w' := by
  go_enter Try.func71, Try.ntmps71
  go_wp2_with fail
  refine (rNeg_any _ hb _).mono ?_; rintro e w' ⟨rfl, rfl⟩
  go_wp2_with fail
  refine (rNext_any _ (neg64 hb) _).mono ?_; rintro e w' ⟨rfl, rfl⟩
  go_wp2_with fail
  refine (rNeg_any _ (next64 (neg64 hb)) _).mono ?_; rintro e w' ⟨rfl, rfl⟩
  go_wp2_with fail
  go_ret
  exact ⟨ri rfl, rfl⟩

set_option maxHeartbeats 400000 in
theorem less_any (a b : Int) (ha : I64 a) (hb : I64 b) (w : World) :
    Calls Try.prog 30 #[.int .i64 a, .int .i64 b] w fun e w' => e = .returned (.bool (less a b)) ∧ w = w' := by
  go_enter Try.func30, Try.ntmps30
  go_wp2_with (go_at_call 19; refine (float_any _ _).mono ?_; rintro e w' ⟨rfl, rfl⟩)
  go_ret
  exact ⟨rb (less_eq ha hb), rfl⟩

set_option maxHeartbeats 400000 in
theorem same_any (a b : Int) (ha : I64 a) (hb : I64 b) (w : World) :
    Calls Try.prog 31 #[.int .i64 a, .int .i64 b] w fun e w' => e = .returned (.bool (same a b)) ∧ w = w' := by
  go_enter Try.func31, Try.ntmps31
  go_wp2_with (go_at_call 19; refine (float_any _ _).mono ?_; rintro e w' ⟨rfl, rfl⟩)
  go_ret
  exact ⟨rb (same_eq ha hb), rfl⟩

theorem canon64 {b : Int} (h : I64 b) : I64 (canon b) := by
  unfold canon nan; unfold I64 at *; repeat' split
  all_goals omega

theorem place_canon {b : Int} (hb : I64 b) (n : cl b ≠ 4) : place (canon b) = if cl b = 0 then 0 else if b < 0 then key b - 1 else key b := by
  unfold canon place key
  unfold I64 at hb
  by_cases c : cl b = 0
  · rw [if_pos c]; simp [c]
  · rw [if_neg c, if_neg n, if_neg c]
    unfold rg; split <;> omega

theorem less_place {a b : Int} (ha : I64 a) (hb : I64 b) (na : cl a ≠ 4) (nb : cl b ≠ 4) : decide (place (canon a) < place (canon b)) = less a b := by
  unfold less
  rw [beq_eq_false_iff_ne.2 na, beq_eq_false_iff_ne.2 nb, place_canon ha na, place_canon hb nb]
  have za := cl_zero a
  have zb := cl_zero b
  have ra := rg_bd a
  have rb := rg_bd b
  simp only [Bool.not_false, Bool.true_and]
  congr 1
  apply propext
  unfold key
  by_cases ca : cl a = 0
  · by_cases cb : cl b = 0
    · rw [if_pos ca, if_pos cb]; repeat' split
      all_goals omega
    · rw [if_pos ca, if_neg cb]; repeat' split
      all_goals omega
  · by_cases cb : cl b = 0
    · rw [if_neg ca, if_pos cb]; repeat' split
      all_goals omega
    · rw [if_neg ca, if_neg cb]; repeat' split
      all_goals omega

set_option maxHeartbeats 400000 in
theorem rLess_any (a b : Int) (ha : I64 a) (hb : I64 b) (w : World) :
    Calls Try.prog 60 #[.int .i64 a, .int .i64 b] w fun e w' => e = .returned (.bool (less a b)) ∧ w = w' := by
  cases ca : (cl a == 4)
  · cases cb : (cl b == 4)
    · have F := less_place ha hb (beq_eq_false_iff_ne.1 ca) (beq_eq_false_iff_ne.1 cb)
      have HF := Lib.hid F; clear F
      go_enter Try.func60, Try.ntmps60
      go_wp2_with fail
      refine (rClass_any _ ha _).mono ?_; rintro e w' ⟨rfl, rfl⟩
      go_wp2_with fail
      refine (rClass_any _ hb _).mono ?_; rintro e w' ⟨rfl, rfl⟩
      go_wp2_with fail
      refine (rCanon_any _ ha _).mono ?_; rintro e w' ⟨rfl, rfl⟩
      go_wp2_with fail
      refine (place_any _ (canon64 ha) _).mono ?_; rintro e w' ⟨rfl, rfl⟩
      go_wp2_with fail
      refine (rCanon_any _ hb _).mono ?_; rintro e w' ⟨rfl, rfl⟩
      go_wp2_with fail
      refine (place_any _ (canon64 hb) _).mono ?_; rintro e w' ⟨rfl, rfl⟩
      go_wp2_with fail
      go_ret
      exact ⟨rb HF.out, rfl⟩
    · have F : less a b = false := by unfold less; rw [cb]; simp
      have HF := Lib.hid F; clear F
      go_enter Try.func60, Try.ntmps60
      go_wp2_with fail
      refine (rClass_any _ ha _).mono ?_; rintro e w' ⟨rfl, rfl⟩
      go_wp2_with fail
      refine (rClass_any _ hb _).mono ?_; rintro e w' ⟨rfl, rfl⟩
      go_wp2_with fail
      go_ret
      exact ⟨rb HF.out.symm, rfl⟩
  · have F : less a b = false := by unfold less; rw [ca]; rfl
    have HF := Lib.hid F; clear F
    go_enter Try.func60, Try.ntmps60
    go_wp2_with fail
    refine (rClass_any _ ha _).mono ?_; rintro e w' ⟨rfl, rfl⟩
    go_wp2_with fail
    go_ret
    exact ⟨rb HF.out.symm, rfl⟩

theorem canon_same {a b : Int} (ha : I64 a) (hb : I64 b) (na : cl a ≠ 4) : (canon a == canon b) = same a b := by
  unfold same
  rw [beq_eq_false_iff_ne.2 na]
  have za := cl_zero a
  have zb := cl_zero b
  have nna := cl_nan a
  have nnb := cl_nan b
  have ra := rg_bd a
  have rb := rg_bd b
  simp only [Bool.not_false, Bool.true_and]
  by_cases nb : cl b = 4
  · rw [beq_iff_eq.2 nb]
    simp only [Bool.not_true, Bool.false_and]
    apply beq_eq_false_iff_ne.2
    unfold canon
    rw [if_pos nb, if_neg (show ¬ cl b = 0 by omega), if_neg na]
    split
    · decide
    · intro e; rw [e] at na; exact na cl_nanc
  · rw [beq_eq_false_iff_ne.2 nb]
    simp only [Bool.not_false, Bool.true_and]
    unfold canon
    rw [if_neg na, if_neg nb]
    unfold I64 at ha hb
    have k : (if cl a = 0 then 0 else a) = (if cl b = 0 then 0 else b) ↔ key a = key b := by
      unfold key
      by_cases ca : cl a = 0
      · by_cases cb : cl b = 0
        · rw [if_pos ca, if_pos cb]; repeat' split
          all_goals omega
        · rw [if_pos ca, if_neg cb]; unfold rg at *; repeat' split
          all_goals omega
      · by_cases cb : cl b = 0
        · rw [if_neg ca, if_pos cb]; unfold rg at *; repeat' split
          all_goals omega
        · rw [if_neg ca, if_neg cb]; unfold rg at *; repeat' split
          all_goals omega
    by_cases e : key a = key b
    · rw [beq_iff_eq.2 (k.2 e), beq_iff_eq.2 e]
    · rw [beq_eq_false_iff_ne.2 (fun h => e (k.1 h)), beq_eq_false_iff_ne.2 e]

set_option maxHeartbeats 400000 in
theorem rSame_any (a b : Int) (ha : I64 a) (hb : I64 b) (w : World) :
    Calls Try.prog 61 #[.int .i64 a, .int .i64 b] w fun e w' => e = .returned (.bool (same a b)) ∧ w = w' := by
  cases ca : (cl a == 4)
  · have F := canon_same ha hb (beq_eq_false_iff_ne.1 ca)
    have HF := Lib.hid F; clear F
    have ca' : (cl a != 4) = true := by rw [bne, ca]; rfl
    go_enter Try.func61, Try.ntmps61
    go_wp2_with fail
    refine (rClass_any _ ha _).mono ?_; rintro e w' ⟨rfl, rfl⟩
    go_wp2_with fail
    refine (rCanon_any _ ha _).mono ?_; rintro e w' ⟨rfl, rfl⟩
    go_wp2_with fail
    refine (rCanon_any _ hb _).mono ?_; rintro e w' ⟨rfl, rfl⟩
    go_wp2_with fail
    go_ret
    exact ⟨rb HF.out, rfl⟩
  · have F : same a b = false := by unfold same; rw [ca]; rfl
    have HF := Lib.hid F; clear F
    have ca' : (cl a != 4) = false := by rw [bne, ca]; rfl
    go_enter Try.func61, Try.ntmps61
    go_wp2_with fail
    refine (rClass_any _ ha _).mono ?_; rintro e w' ⟨rfl, rfl⟩
    go_wp2_with fail
    go_ret
    exact ⟨rb HF.out.symm, rfl⟩

/-- What the program orders by. -/
def okey (b : Int) : Int := if cl b = 4 then 9223372036854775807 else place b

set_option maxHeartbeats 400000 in
theorem key_any (b : Int) (hb : I64 b) (w : World) :
    Calls Try.prog 63 #[.int .i64 b] w fun e w' => e = .returned (.int .i64 (okey b)) ∧ w = w' := by
  have h1 := hb.1
  have h2 := hb.2
  have X := andNot_sign hb
  have hs : IntKind.i64.signed = true := rfl
  cases hcl : (cl b == 4)
  · by_cases c : b < 0
    · rw [if_pos c] at X
      have h3 : bits .andNot .i64 b (-9223372036854775808) = b + 9223372036854775808 := X
      have Y := xor_all' (b := b + 9223372036854775808) (by unfold I64; omega)
      rw [← X] at Y
      have HY := Lib.hid Y; clear Y X
      have HX := Lib.hid h3; clear h3
      go_enter Try.func63, Try.ntmps63
      go_wp2_with (first | (go_at_call 32; refine (class_any _ _).mono ?_; rintro e w' ⟨rfl, rfl⟩))
      go_ret
      exact ⟨ri (by unfold okey place; rw [if_neg (beq_eq_false_iff_ne.1 hcl), if_pos c]; exact HY.out.trans (by rw [HX.out])), rfl⟩
    · clear X
      go_enter Try.func63, Try.ntmps63
      go_wp2_with (first | (go_at_call 32; refine (class_any _ _).mono ?_; rintro e w' ⟨rfl, rfl⟩))
      go_ret
      exact ⟨ri (by unfold okey place; rw [if_neg (beq_eq_false_iff_ne.1 hcl), if_neg (by omega)]), rfl⟩
  · clear X
    go_enter Try.func63, Try.ntmps63
    go_wp2_with (first | (go_at_call 32; refine (class_any _ _).mono ?_; rintro e w' ⟨rfl, rfl⟩))
    go_ret
    exact ⟨ri (by unfold okey; rw [if_pos (beq_iff_eq.1 hcl)]), rfl⟩

theorem okey_order {a b : Int} (ha : I64 a) (hb : I64 b) : order a b = if okey a < okey b then -1 else if okey b < okey a then 1 else 0 := by
  have na := cl_nan a
  have nb := cl_nan b
  unfold order okey place
  unfold I64 at ha hb
  unfold inf rg at na nb
  by_cases ca : cl a = 4
  · by_cases cb : cl b = 4
    · simp [ca, cb]
    · simp only [ca, cb, if_true, if_false]; repeat' split
      all_goals omega
  · by_cases cb : cl b = 4
    · simp only [ca, cb, if_true, if_false]; repeat' split
      all_goals omega
    · simp only [ca, cb, if_false]

set_option maxHeartbeats 400000 in
theorem order_any (a b : Int) (ha : I64 a) (hb : I64 b) (w : World) :
    Calls Try.prog 29 #[.int .i64 a, .int .i64 b] w fun e w' => e = .returned (.int .i64 (order a b)) ∧ w = w' := by
  have F := okey_order ha hb
  have HF := Lib.hid F; clear F
  go_enter Try.func29, Try.ntmps29
  go_wp2_with fail
  refine (key_any _ ha _).mono ?_; rintro e w' ⟨rfl, rfl⟩
  go_wp2_with fail
  refine (key_any _ hb _).mono ?_; rintro e w' ⟨rfl, rfl⟩
  go_wp2_with fail
  · have c : okey a < okey b := by assumption
    go_ret
    exact ⟨ri (by rw [HF.out, if_pos c]), rfl⟩
  · have c : okey b < okey a := by assumption
    go_ret
    exact ⟨ri (by rw [HF.out, if_neg (by omega), if_pos c]), rfl⟩
  · have c : okey b ≤ okey a := by assumption
    have d : okey a ≤ okey b := by assumption
    go_ret
    exact ⟨ri (by rw [HF.out, if_neg (by omega), if_neg (by omega)]), rfl⟩

set_option maxHeartbeats 400000 in
theorem rOrder_any (a b : Int) (ha : I64 a) (hb : I64 b) (w : World) :
    Calls Try.prog 62 #[.int .i64 a, .int .i64 b] w fun e w' => e = .returned (.int .i64 (order a b)) ∧ w = w' := by
  cases ca : (cl a == 4)
  · cases cb : (cl b == 4)
    · have F : order a b = if place a < place b then -1 else if place b < place a then 1 else 0 := by
        unfold order; rw [if_neg (beq_eq_false_iff_ne.1 ca), if_neg (beq_eq_false_iff_ne.1 cb)]
      have HF := Lib.hid F; clear F
      go_enter Try.func62, Try.ntmps62
      go_wp2_with fail
      refine (rClass_any _ ha _).mono ?_; rintro e w' ⟨rfl, rfl⟩
      go_wp2_with fail
      refine (rClass_any _ hb _).mono ?_; rintro e w' ⟨rfl, rfl⟩
      go_wp2_with fail
      refine (place_any _ ha _).mono ?_; rintro e w' ⟨rfl, rfl⟩
      go_wp2_with fail
      refine (place_any _ hb _).mono ?_; rintro e w' ⟨rfl, rfl⟩
      go_wp2_with fail
      · have c : place a < place b := by assumption
        go_ret
        exact ⟨ri (by rw [HF.out, if_pos c]), rfl⟩
      · have c0 : place b ≤ place a := by assumption
        refine (place_any _ ha _).mono ?_; rintro e w' ⟨rfl, rfl⟩
        go_wp2_with fail
        refine (place_any _ hb _).mono ?_; rintro e w' ⟨rfl, rfl⟩
        go_wp2_with fail
        · have c : place b < place a := by assumption
          go_ret
          exact ⟨ri (by rw [HF.out, if_neg (by omega), if_pos c]), rfl⟩
        · have c : place a ≤ place b := by assumption
          go_ret
          exact ⟨ri (by rw [HF.out, if_neg (by omega), if_neg (by omega)]), rfl⟩
    · have F : order a b = -1 := by
        unfold order; rw [if_neg (beq_eq_false_iff_ne.1 ca), if_pos (beq_iff_eq.1 cb)]
      have HF := Lib.hid F; clear F
      go_enter Try.func62, Try.ntmps62
      go_wp2_with fail
      refine (rClass_any _ ha _).mono ?_; rintro e w' ⟨rfl, rfl⟩
      go_wp2_with fail
      refine (rClass_any _ hb _).mono ?_; rintro e w' ⟨rfl, rfl⟩
      go_wp2_with fail
      go_ret
      exact ⟨ri HF.out.symm, rfl⟩
  · cases cb : (cl b == 4)
    · have F : order a b = 1 := by
        unfold order; rw [if_pos (beq_iff_eq.1 ca), if_neg (beq_eq_false_iff_ne.1 cb)]
      have HF := Lib.hid F; clear F
      go_enter Try.func62, Try.ntmps62
      go_wp2_with fail
      refine (rClass_any _ ha _).mono ?_; rintro e w' ⟨rfl, rfl⟩
      go_wp2_with fail
      refine (rClass_any _ hb _).mono ?_; rintro e w' ⟨rfl, rfl⟩
      go_wp2_with fail
      go_ret
      exact ⟨ri HF.out.symm, rfl⟩
    · have F : order a b = 0 := by
        unfold order; rw [if_pos (beq_iff_eq.1 ca), if_pos (beq_iff_eq.1 cb)]
      have HF := Lib.hid F; clear F
      go_enter Try.func62, Try.ntmps62
      go_wp2_with fail
      refine (rClass_any _ ha _).mono ?_; rintro e w' ⟨rfl, rfl⟩
      go_wp2_with fail
      refine (rClass_any _ hb _).mono ?_; rintro e w' ⟨rfl, rfl⟩
      go_wp2_with fail
      go_ret
      exact ⟨ri HF.out.symm, rfl⟩

end Go.Proofs.Ytdbeeclkknhjaaa
