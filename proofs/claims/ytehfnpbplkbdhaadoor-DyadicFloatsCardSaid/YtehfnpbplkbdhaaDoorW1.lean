/- What the calls of the package bits and of its reference come to (classes, parts, floats of patterns): each call returns, the world is as it was, and the answer is the plain function's. Condition: an int is an int (I64), where it stands. -/
import Derived.Test.YtehfnpbplkbdhaaDoorRows
import Derived.Test.YtehfnpbplkbdhaaDoorBo
import Derived.WalkKit
import Derived.WalkSpells
import Derived.WalkLawsBesides
import Derived.Lib.Hide
namespace Go.Proofs.YtehfnpbplkbdhaaDoor
open Go.RowKit Go.Pt

theorem ri {k : IntKind} {a b : Int} (h : a = b) : Ending.returned (.int k a) = .returned (.int k b) := by rw [h]
theorem rb {a b : Bool} (h : a = b) : Ending.returned (.bool a) = .returned (.bool b) := by rw [h]

@[go_sem] theorem run51 (n : Int) (w : World) : (callFunc 82 #[.int .u64 n]).run Tryd.prog w = .ok (.value (.float .f64 n.toNat)) w := by
  rw [run_callFunc_extern (e := Extern.MathFloatBits.float64frombits) Tryd.func82 (by kernel_rfl) (by kernel_rfl) (by kernel_rfl) (by kernel_rfl)]
  rfl
@[go_sem] theorem run54 (n : Nat) (w : World) : (callFunc 83 #[.float .f64 n]).run Tryd.prog w = .ok (.value (.int .u64 n)) w := by
  rw [run_callFunc_extern (e := Extern.MathFloatBits.float64bits) Tryd.func83 (by kernel_rfl) (by kernel_rfl) (by kernel_rfl) (by kernel_rfl)]
  rfl
attribute [local go_sem] and_2047 and_frac and_255 and_frac3 and_one or_frac or_frac3

def ofD (x : Nat) : Int := if FloatKind.f64.format.order x x != some .eq then nan else wrap64 x

set_option maxHeartbeats 400000 in
theorem of_any (x : Nat) (w : World) :
    Calls Tryd.prog 54 #[.float .f64 x] w fun e w' => e = .returned (.int .i64 (ofD x)) ∧ w = w' := by
  go_enter Tryd.func54, Tryd.ntmps54
  go_wp2
  · rename_i h
    go_ret
    exact ⟨ri (by unfold ofD; rw [if_pos h]; rfl), rfl⟩
  · rename_i h
    go_ret
    exact ⟨ri (by unfold ofD; rw [if_neg (by rw [h]; decide)]), rfl⟩

theorem ofD_wd {b : Int} (h : I64 b) : ofD (wd b) = told b := by
  have e := wrap_wd h
  rw [IntKind.wrap_i64] at e
  unfold ofD told wrap64
  rw [isnan_eq h, e]
  simp

set_option maxHeartbeats 400000 in
theorem rclass_any (f t m : Int) (hf : 0 ≤ f) (ht : 0 ≤ t) (w : World) :
    Calls Tryd.prog 42 #[.int .i64 f, .int .i64 t, .int .i64 m] w fun e w' => e = .returned (.int .i64 (cls f t m)) ∧ w = w' := by
  go_enter Tryd.func42, Tryd.ntmps42
  go_wp2
  all_goals go_ret
  all_goals exact ⟨ri (by unfold cls; repeat' split
                          all_goals (simp_all; try omega)), rfl⟩

theorem results_tmp4 {fn : Func} {t u v x : Tmp} (h : fn.results = #[.tmp t, .tmp u, .tmp v, .tmp x]) (tmps : Array Value) (P : Program) (w : World) :
    (results fn tmps).run P w = .ok (.tuple #[tmps.getD t undef, tmps.getD u undef, tmps.getD v undef, tmps.getD x undef]) w := by
  simp [results, h, go_sem]

theorem rt4 {a a' : Bool} {b b' c c' : Int} {d d' : Bool} (h1 : a = a') (h2 : b = b') (h3 : c = c') (h4 : d = d') :
    Ending.returned (.tuple #[.bool a, .int .i64 b, .int .i64 c, .bool d]) = .returned (.tuple #[.bool a', .int .i64 b', .int .i64 c', .bool d']) := by rw [h1, h2, h3, h4]
theorem rt3 {a a' : Bool} {b b' c c' : Int} (h1 : a = a') (h2 : b = b') (h3 : c = c') :
    Ending.returned (.tuple #[.bool a, .int .i64 b, .int .i64 c]) = .returned (.tuple #[.bool a', .int .i64 b', .int .i64 c']) := by rw [h1, h2, h3]

set_option maxHeartbeats 400000 in
theorem cut_any (b : Int) (hb : I64 b) (w : World) :
    Calls Tryd.prog 69 #[.int .i64 b] w fun e w' => e = .returned (.tuple #[.bool (decide (b < 0)), .int .i64 (fld b), .int .i64 (frc b)]) ∧ w = w' := by
  have h1 := hb.1
  have h2 := hb.2
  go_enter Tryd.func69, Tryd.ntmps69
  go_wp2
  · go_ret3
    exact ⟨rt3 rfl (by unfold fld; omega) (by unfold frc; omega), rfl⟩
  · go_ret3
    exact ⟨rt3 rfl (by unfold fld; omega) (by unfold frc; omega), rfl⟩

set_option maxHeartbeats 400000 in
theorem rClass_any (b : Int) (hb : I64 b) (w : World) :
    Calls Tryd.prog 40 #[.int .i64 b] w fun e w' => e = .returned (.int .i64 (cl b)) ∧ w = w' := by
  go_enter Tryd.func40, Tryd.ntmps40
  go_wp2_with (first | (go_at_call 69; refine (cut_any _ hb _).mono ?_; rintro e w' ⟨rfl, rfl⟩) | (go_at_call 42; refine (rclass_any _ _ _ (fld_bd b).1 (frc_bd b).1 _).mono ?_; rintro e w' ⟨rfl, rfl⟩))
  go_ret
  exact ⟨ri rfl, rfl⟩

set_option maxHeartbeats 400000 in
theorem parts_any (b : Int) (w : World) :
    Calls Tryd.prog 27 #[.int .i64 b] w fun e w' => e = .returned (.tuple #[.bool (pneg b), .int .i64 (pmag b), .int .i64 (pexp b), .bool (pok b)]) ∧ w = w' := by
  cases h1 : (b / 4503599627370496 % 2048 == 2047)
  · cases h2 : (b / 4503599627370496 % 2048 == 0)
    · have P := parts_nrm (b := b) (beq_eq_false_iff_ne.1 h1) (beq_eq_false_iff_ne.1 h2)
      have HP := Lib.hid P; clear P
      go_enter Tryd.func27, Tryd.ntmps27
      go_wp2
      refine bodyPost_ret (results_tmp4 rfl _ _ _) rfl ?_
      exact ⟨rt4 HP.out.1.symm (by rw [HP.out.2.1]; rfl) (by rw [HP.out.2.2.1]; rfl) HP.out.2.2.2.symm, rfl⟩
    · have P := parts_low (b := b) (beq_iff_eq.1 h2)
      have HP := Lib.hid P; clear P
      go_enter Tryd.func27, Tryd.ntmps27
      go_wp2
      refine bodyPost_ret (results_tmp4 rfl _ _ _) rfl ?_
      exact ⟨rt4 HP.out.1.symm (by rw [HP.out.2.1]; rfl) (by rw [HP.out.2.2.1]) HP.out.2.2.2.symm, rfl⟩
  · have P := parts_inf (b := b) (beq_iff_eq.1 h1)
    have HP := Lib.hid P; clear P
    go_enter Tryd.func27, Tryd.ntmps27
    go_wp2
    refine bodyPost_ret (results_tmp4 rfl _ _ _) rfl ?_
    exact ⟨rt4 HP.out.1.symm HP.out.2.1.symm HP.out.2.2.1.symm HP.out.2.2.2.symm, rfl⟩

set_option maxHeartbeats 400000 in
theorem rParts_any (b : Int) (hb : I64 b) (w : World) :
    Calls Tryd.prog 43 #[.int .i64 b] w fun e w' => e = .returned (.tuple #[.bool (pneg b), .int .i64 (pmag b), .int .i64 (pexp b), .bool (pok b)]) ∧ w = w' := by
  have h1 := cl_bd b
  have f1 := frc_bd b
  have f2 := fld_bd b
  go_enter Tryd.func43, Tryd.ntmps43
  go_wp2_with (first | (go_at_call 69; refine (cut_any _ hb _).mono ?_; rintro e w' ⟨rfl, rfl⟩) | (go_at_call 40; refine (rClass_any _ hb _).mono ?_; rintro e w' ⟨rfl, rfl⟩))
  · have e : cl b = 0 ∨ cl b = 1 := Or.inl (by simpa using (by assumption : (cl b == 0) = true))
    have P := parts_c01 e
    refine bodyPost_ret (results_tmp4 rfl _ _ _) rfl ?_
    exact ⟨rt4 P.1.symm P.2.1.symm P.2.2.1.symm P.2.2.2.symm, rfl⟩
  · have e : cl b = 0 ∨ cl b = 1 := Or.inr (by simpa using (by assumption : (cl b == 1) = true))
    have P := parts_c01 e
    refine bodyPost_ret (results_tmp4 rfl _ _ _) rfl ?_
    exact ⟨rt4 P.1.symm P.2.1.symm P.2.2.1.symm P.2.2.2.symm, rfl⟩
  · have e : cl b = 2 := by simpa using (by assumption : (cl b == 2) = true)
    have P := parts_c2 e
    refine bodyPost_ret (results_tmp4 rfl _ _ _) rfl ?_
    exact ⟨rt4 P.1.symm (by rw [P.2.1]; exact Int.add_comm _ _) P.2.2.1.symm P.2.2.2.symm, rfl⟩
  · have e0 : cl b ≠ 0 := by simpa using (by assumption : (cl b == 0) = false)
    have e1 : cl b ≠ 1 := by simpa using (by assumption : (cl b == 1) = false)
    have e2 : cl b ≠ 2 := by simpa using (by assumption : (cl b == 2) = false)
    have P := parts_c34 (b := b) (by omega)
    refine bodyPost_ret (results_tmp4 rfl _ _ _) rfl ?_
    exact ⟨rt4 P.1.symm P.2.1.symm P.2.2.1.symm P.2.2.2.symm, rfl⟩

/-! ### 32 bits -/
theorem ok32_iff (b : Int) : ok32 b = true ↔ 0 ≤ b ∧ b < 4294967296 := by unfold ok32; simp

set_option maxHeartbeats 400000 in
theorem pattern_any (b : Int) (hb : I64 b) (w : World) :
    Calls Tryd.prog 68 #[.int .i64 b] w fun e w' => e = .returned (.bool (ok32 b)) ∧ w = w' := by
  have h1 := hb.1
  have h2 := hb.2
  go_enter Tryd.func68, Tryd.ntmps68
  go_wp2
  go_ret
  refine ⟨rb ?_, rfl⟩
  have := ok32_iff b
  by_cases c : 0 ≤ b ∧ b < 4294967296
  · rw [this.2 c]; exact beq_iff_eq.2 (by omega)
  · rw [show ok32 b = false from by rw [← Bool.not_eq_true]; exact fun h => c (this.1 h)]; exact beq_eq_false_iff_ne.2 (by omega)

set_option maxHeartbeats 400000 in
theorem valid_any (b : Int) (w : World) :
    Calls Tryd.prog 41 #[.int .i64 b] w fun e w' => e = .returned (.bool (ok32 b)) ∧ w = w' := by
  go_enter Tryd.func41, Tryd.ntmps41
  go_wp2
  · have h : 0 ≤ b := by assumption
    go_ret
    exact ⟨rb (by unfold ok32; rw [decide_eq_true h]; rfl), rfl⟩
  · have h : b < 0 := by assumption
    go_ret
    exact ⟨rb (by unfold ok32; rw [decide_eq_false (show ¬ 0 ≤ b by omega)]; rfl), rfl⟩

set_option maxHeartbeats 400000 in
theorem rClass32_any (b : Int) (w : World) :
    Calls Tryd.prog 21 #[.int .i64 b] w fun e w' => e = .returned (.int .i64 (cl3 b)) ∧ w = w' := by
  cases h : ok32 b
  · go_enter Tryd.func21, Tryd.ntmps21
    go_wp2_with (first | (go_at_call 41; refine (valid_any _ _).mono ?_; rintro e w' ⟨rfl, rfl⟩))
    go_ret
    exact ⟨ri (by unfold cl3; rw [h]; rfl), rfl⟩
  · have hh := (ok32_iff b).1 h
    have h1 := hh.1
    have h2 := hh.2
    go_enter Tryd.func21, Tryd.ntmps21
    go_wp2_with (first | (go_at_call 41; refine (valid_any _ _).mono ?_; rintro e w' ⟨rfl, rfl⟩) | (go_at_call 42; refine (rclass_any _ _ _ (by omega) (by omega) _).mono ?_; rintro e w' ⟨rfl, rfl⟩))
    go_ret
    exact ⟨ri (by unfold cl3; rw [h]; unfold fld3 frc3; rw [show b % 2147483648 / 8388608 = b / 8388608 % 256 by omega]; rfl), rfl⟩

set_option maxHeartbeats 400000 in
theorem parts32_any (b : Int) (hb : I64 b) (w : World) :
    Calls Tryd.prog 39 #[.int .i64 b] w fun e w' => e = .returned (.tuple #[.bool (pneg3 b), .int .i64 (pmag3 b), .int .i64 (pexp3 b), .bool (pok3 b)]) ∧ w = w' := by
  have d31 : 0 ≤ b → b < 4294967296 → (b / 2147483648 == 1) = decide (2147483648 ≤ b) := by
    intro a c
    by_cases d : 2147483648 ≤ b
    · rw [decide_eq_true d]; exact beq_iff_eq.2 (by omega)
    · rw [decide_eq_false d]; exact beq_eq_false_iff_ne.2 (by omega)
  cases h : ok32 b
  · have P := parts3_c34 (b := b) (by unfold cl3; rw [h]; simp)
    have HP := Lib.hid P; clear P d31
    go_enter Tryd.func39, Tryd.ntmps39
    go_wp2_with (first | (go_at_call 68; refine (pattern_any _ hb _).mono ?_; rintro e w' ⟨rfl, rfl⟩))
    refine bodyPost_ret (results_tmp4 rfl _ _ _) rfl ?_
    exact ⟨rt4 HP.out.1.symm HP.out.2.1.symm HP.out.2.2.1.symm HP.out.2.2.2.symm, rfl⟩
  · have D := d31 ((ok32_iff b).1 h).1 ((ok32_iff b).1 h).2
    have HD := Lib.hid D; clear D d31
    cases h1 : (b / 8388608 % 256 == 255)
    · cases h2 : (b / 8388608 % 256 == 0)
      · have P := parts3_c2 (b := b) ((cl3_fld b h).2.2 (beq_eq_false_iff_ne.1 h1) (beq_eq_false_iff_ne.1 h2))
        have HP := Lib.hid P; clear P
        go_enter Tryd.func39, Tryd.ntmps39
        go_wp2_with (first | (go_at_call 68; refine (pattern_any _ hb _).mono ?_; rintro e w' ⟨rfl, rfl⟩))
        refine bodyPost_ret (results_tmp4 rfl _ _ _) rfl ?_
        exact ⟨rt4 (by rw [HP.out.1]; exact HD.out) (by rw [HP.out.2.1]; rfl) (by rw [HP.out.2.2.1]; rfl) HP.out.2.2.2.symm, rfl⟩
      · have P := parts3_c01 (b := b) ((cl3_fld b h).2.1 (beq_iff_eq.1 h2))
        have HP := Lib.hid P; clear P
        go_enter Tryd.func39, Tryd.ntmps39
        go_wp2_with (first | (go_at_call 68; refine (pattern_any _ hb _).mono ?_; rintro e w' ⟨rfl, rfl⟩))
        refine bodyPost_ret (results_tmp4 rfl _ _ _) rfl ?_
        exact ⟨rt4 (by rw [HP.out.1]; exact HD.out) (by rw [HP.out.2.1]; rfl) (by rw [HP.out.2.2.1]) HP.out.2.2.2.symm, rfl⟩
    · have P := parts3_c34 (b := b) (by have := (cl3_fld b h).1 (beq_iff_eq.1 h1); omega)
      have HP := Lib.hid P; clear P
      go_enter Tryd.func39, Tryd.ntmps39
      go_wp2_with (first | (go_at_call 68; refine (pattern_any _ hb _).mono ?_; rintro e w' ⟨rfl, rfl⟩))
      refine bodyPost_ret (results_tmp4 rfl _ _ _) rfl ?_
      exact ⟨rt4 HP.out.1.symm HP.out.2.1.symm HP.out.2.2.1.symm HP.out.2.2.2.symm, rfl⟩

theorem cl3_ok {b : Int} (h : cl3 b < 3) : 0 ≤ b ∧ b < 4294967296 := by
  cases c : ok32 b
  · unfold cl3 at h; rw [c] at h; simp at h
  · exact (ok32_iff b).1 c

set_option maxHeartbeats 400000 in
theorem rParts32_any (b : Int) (w : World) :
    Calls Tryd.prog 45 #[.int .i64 b] w fun e w' => e = .returned (.tuple #[.bool (pneg3 b), .int .i64 (pmag3 b), .int .i64 (pexp3 b), .bool (pok3 b)]) ∧ w = w' := by
  have c1 := cl3_bd b
  by_cases h : cl3 b < 3
  · have hh := cl3_ok h
    have h1 := hh.1
    have h2 := hh.2
    clear hh
    have f := fld3_bd b
    go_enter Tryd.func45, Tryd.ntmps45
    go_wp2_with (first | (go_at_call 21; refine (rClass32_any _ _).mono ?_; rintro e w' ⟨rfl, rfl⟩))
    · have P := parts3_c01 (b := b) (Or.inl (by simpa using (by assumption : (cl3 b == 0) = true)))
      refine bodyPost_ret (results_tmp4 rfl _ _ _) rfl ?_
      exact ⟨rt4 P.1.symm P.2.1.symm P.2.2.1.symm P.2.2.2.symm, rfl⟩
    · have P := parts3_c01 (b := b) (Or.inr (by simpa using (by assumption : (cl3 b == 1) = true)))
      refine bodyPost_ret (results_tmp4 rfl _ _ _) rfl ?_
      exact ⟨rt4 P.1.symm P.2.1.symm P.2.2.1.symm P.2.2.2.symm, rfl⟩
    · have P := parts3_c2 (b := b) (by simpa using (by assumption : (cl3 b == 2) = true))
      refine bodyPost_ret (results_tmp4 rfl _ _ _) rfl ?_
      exact ⟨rt4 P.1.symm (by rw [P.2.1]; exact Int.add_comm _ _) (by rw [P.2.2.1]; unfold fld3; rw [show b % 2147483648 / 8388608 = b / 8388608 % 256 by omega]) P.2.2.2.symm, rfl⟩
  · have P := parts3_c34 (b := b) (by omega)
    have HP := Lib.hid P; clear P
    have k0 : (cl3 b == 0) = false := beq_eq_false_iff_ne.2 (by omega)
    have k1 : (cl3 b == 1) = false := beq_eq_false_iff_ne.2 (by omega)
    have k2 : (cl3 b == 2) = false := beq_eq_false_iff_ne.2 (by omega)
    go_enter Tryd.func45, Tryd.ntmps45
    go_wp2_with (first | (go_at_call 21; refine (rClass32_any _ _).mono ?_; rintro e w' ⟨rfl, rfl⟩))
    refine bodyPost_ret (results_tmp4 rfl _ _ _) rfl ?_
    exact ⟨rt4 HP.out.1.symm HP.out.2.1.symm HP.out.2.2.1.symm HP.out.2.2.2.symm, rfl⟩

end Go.Proofs.YtehfnpbplkbdhaaDoor
