/- Contracts of the package bits and of its reference. Condition: it stands in each fact. -/
import Derived.Test.YtgmebioogkmfgaaDoorRows
import Derived.Test.YtgmebioogkmfgaaDoorBo
import Derived.WalkKit
import Derived.WalkSpells
import Derived.WalkLawsBesides
import Derived.Lib.Hide
namespace Go.Proofs.YtgmebioogkmfgaaDoor
open Go.RowKit Go.Pt

theorem ri {k : IntKind} {a b : Int} (h : a = b) : Ending.returned (.int k a) = .returned (.int k b) := by rw [h]
theorem rb {a b : Bool} (h : a = b) : Ending.returned (.bool a) = .returned (.bool b) := by rw [h]

attribute [local go_sem] and_2047 and_frac and_255 and_frac3 and_one or_frac or_frac3

def ofD (x : Nat) : Int := if FloatKind.f64.format.order x x != some .eq then nan else wrap64 x

theorem ofD_wd {b : Int} (h : I64 b) : ofD (wd b) = told b := by
  have e := wrap_wd h
  rw [IntKind.wrap_i64] at e
  unfold ofD told wrap64
  rw [isnan_eq h, e]
  simp

set_option maxHeartbeats 400000 in
theorem rclass_any (f t m : Int) (hf : 0 ≤ f) (ht : 0 ≤ t) (w : World) :
    Calls Tryd.prog 37 #[.int .i64 f, .int .i64 t, .int .i64 m] w fun e w' => e = .returned (.int .i64 (cls f t m)) ∧ w = w' := by
  go_enter Tryd.func37, Tryd.ntmps37
  go_wp2
  all_goals go_ret
  all_goals exact ⟨ri (by unfold cls; repeat' split
                          all_goals (simp_all; try omega)), rfl⟩

theorem results_tmp4 {fn : Func} {t u v x : Tmp} (h : fn.results = #[.tmp t, .tmp u, .tmp v, .tmp x]) (tmps : Array Value) (P : Program) (w : World) :
    (results fn tmps).run P w = .ok (.tuple #[tmps.getD t undef, tmps.getD u undef, tmps.getD v undef, tmps.getD x undef]) w := by
  simp [results, h, go_sem]

theorem rt4 {a a' : Bool} {b b' c c' : Int} {d d' : Bool} (h1 : a = a') (h2 : b = b') (h3 : c = c') (h4 : d = d') :
    Ending.returned (.tuple #[.bool a, .int .i64 b, .int .i64 c, .bool d]) = .returned (.tuple #[.bool a', .int .i64 b', .int .i64 c', .bool d']) := by rw [h1, h2, h3, h4]
theorem rt3 {a a' : Bool} {b b' c c' : Int} (h1 : a = a') (h2 : b = b') (h3 : c = c') :
    Ending.returned (.tuple #[.bool a, .int .i64 b, .int .i64 c]) = .returned (.tuple #[.bool a', .int .i64 b', .int .i64 c']) := by rw [h1, h2, h3]

set_option maxHeartbeats 400000 in
theorem cut_any (b : Int) (hb : I64 b) (w : World) :
    Calls Tryd.prog 57 #[.int .i64 b] w fun e w' => e = .returned (.tuple #[.bool (decide (b < 0)), .int .i64 (fld b), .int .i64 (frc b)]) ∧ w = w' := by
  have h1 := hb.1
  have h2 := hb.2
  go_enter Tryd.func57, Tryd.ntmps57
  go_wp2
  · go_ret3
    exact ⟨rt3 rfl (by unfold fld; omega) (by unfold frc; omega), rfl⟩
  · go_ret3
    exact ⟨rt3 rfl (by unfold fld; omega) (by unfold frc; omega), rfl⟩

set_option maxHeartbeats 400000 in
theorem rClass_any (b : Int) (hb : I64 b) (w : World) :
    Calls Tryd.prog 35 #[.int .i64 b] w fun e w' => e = .returned (.int .i64 (cl b)) ∧ w = w' := by
  go_enter Tryd.func35, Tryd.ntmps35
  go_wp2_with (first | (go_at_call 57; refine (cut_any _ hb _).mono ?_; rintro e w' ⟨rfl, rfl⟩) | (go_at_call 37; refine (rclass_any _ _ _ (fld_bd b).1 (frc_bd b).1 _).mono ?_; rintro e w' ⟨rfl, rfl⟩))
  go_ret
  exact ⟨ri rfl, rfl⟩

set_option maxHeartbeats 400000 in
theorem parts_any (b : Int) (w : World) :
    Calls Tryd.prog 27 #[.int .i64 b] w fun e w' => e = .returned (.tuple #[.bool (pneg b), .int .i64 (pmag b), .int .i64 (pexp b), .bool (pok b)]) ∧ w = w' := by
  cases h1 : (b / 4503599627370496 % 2048 == 2047)
  · cases h2 : (b / 4503599627370496 % 2048 == 0)
    · have P := parts_nrm (b := b) (beq_eq_false_iff_ne.1 h1) (beq_eq_false_iff_ne.1 h2)
      have HP := Lib.hid P; clear P
      go_enter Tryd.func27, Tryd.ntmps27
      go_wp2
      refine bodyPost_ret (results_tmp4 rfl _ _ _) rfl ?_
      exact ⟨rt4 HP.out.1.symm (by rw [HP.out.2.1]; rfl) (by rw [HP.out.2.2.1]; rfl) HP.out.2.2.2.symm, rfl⟩
    · have P := parts_low (b := b) (beq_iff_eq.1 h2)
      have HP := Lib.hid P; clear P
      go_enter Tryd.func27, Tryd.ntmps27
      go_wp2
      refine bodyPost_ret (results_tmp4 rfl _ _ _) rfl ?_
      exact ⟨rt4 HP.out.1.symm (by rw [HP.out.2.1]; rfl) (by rw [HP.out.2.2.1]) HP.out.2.2.2.symm, rfl⟩
  · have P := parts_inf (b := b) (beq_iff_eq.1 h1)
    have HP := Lib.hid P; clear P
    go_enter Tryd.func27, Tryd.ntmps27
    go_wp2
    refine bodyPost_ret (results_tmp4 rfl _ _ _) rfl ?_
    exact ⟨rt4 HP.out.1.symm HP.out.2.1.symm HP.out.2.2.1.symm HP.out.2.2.2.symm, rfl⟩

set_option maxHeartbeats 400000 in
theorem rParts_any (b : Int) (hb : I64 b) (w : World) :
    Calls Tryd.prog 38 #[.int .i64 b] w fun e w' => e = .returned (.tuple #[.bool (pneg b), .int .i64 (pmag b), .int .i64 (pexp b), .bool (pok b)]) ∧ w = w' := by
  have h1 := cl_bd b
  have f1 := frc_bd b
  have f2 := fld_bd b
  go_enter Tryd.func38, Tryd.ntmps38
  go_wp2_with (first | (go_at_call 57; refine (cut_any _ hb _).mono ?_; rintro e w' ⟨rfl, rfl⟩) | (go_at_call 35; refine (rClass_any _ hb _).mono ?_; rintro e w' ⟨rfl, rfl⟩))
  · have e : cl b = 0 ∨ cl b = 1 := Or.inl (by simpa using (by assumption : (cl b == 0) = true))
    have P := parts_c01 e
    refine bodyPost_ret (results_tmp4 rfl _ _ _) rfl ?_
    exact ⟨rt4 P.1.symm P.2.1.symm P.2.2.1.symm P.2.2.2.symm, rfl⟩
  · have e : cl b = 0 ∨ cl b = 1 := Or.inr (by simpa using (by assumption : (cl b == 1) = true))
    have P := parts_c01 e
    refine bodyPost_ret (results_tmp4 rfl _ _ _) rfl ?_
    exact ⟨rt4 P.1.symm P.2.1.symm P.2.2.1.symm P.2.2.2.symm, rfl⟩
  · have e : cl b = 2 := by simpa using (by assumption : (cl b == 2) = true)
    have P := parts_c2 e
    refine bodyPost_ret (results_tmp4 rfl _ _ _) rfl ?_
    exact ⟨rt4 P.1.symm (by rw [P.2.1]; exact Int.add_comm _ _) P.2.2.1.symm P.2.2.2.symm, rfl⟩
  · have e0 : cl b ≠ 0 := by simpa using (by assumption : (cl b == 0) = false)
    have e1 : cl b ≠ 1 := by simpa using (by assumption : (cl b == 1) = false)
    have e2 : cl b ≠ 2 := by simpa using (by assumption : (cl b == 2) = false)
    have P := parts_c34 (b := b) (by omega)
    refine bodyPost_ret (results_tmp4 rfl _ _ _) rfl ?_
    exact ⟨rt4 P.1.symm P.2.1.symm P.2.2.1.symm P.2.2.2.symm, rfl⟩

/-! ### 32 bits -/
theorem ok32_iff (b : Int) : ok32 b = true ↔ 0 ≤ b ∧ b < 4294967296 := by unfold ok32; simp

set_option maxHeartbeats 400000 in
theorem pattern_any (b : Int) (hb : I64 b) (w : World) :
    Calls Tryd.prog 56 #[.int .i64 b] w fun e w' => e = .returned (.bool (ok32 b)) ∧ w = w' := by
  have h1 := hb.1
  have h2 := hb.2
  go_enter Tryd.func56, Tryd.ntmps56
  go_wp2
  go_ret
  refine ⟨rb ?_, rfl⟩
  have := ok32_iff b
  by_cases c : 0 ≤ b ∧ b < 4294967296
  · rw [this.2 c]; exact beq_iff_eq.2 (by omega)
  · rw [show ok32 b = false from by rw [← Bool.not_eq_true]; exact fun h => c (this.1 h)]; exact beq_eq_false_iff_ne.2 (by omega)

set_option maxHeartbeats 400000 in
theorem valid_any (b : Int) (w : World) :
    Calls Tryd.prog 36 #[.int .i64 b] w fun e w' => e = .returned (.bool (ok32 b)) ∧ w = w' := by
  go_enter Tryd.func36, Tryd.ntmps36
  go_wp2
  · have h : 0 ≤ b := by assumption
    go_ret
    exact ⟨rb (by unfold ok32; rw [decide_eq_true h]; rfl), rfl⟩
  · have h : b < 0 := by assumption
    go_ret
    exact ⟨rb (by unfold ok32; rw [decide_eq_false (show ¬ 0 ≤ b by omega)]; rfl), rfl⟩

set_option maxHeartbeats 400000 in
theorem rClass32_any (b : Int) (w : World) :
    Calls Tryd.prog 18 #[.int .i64 b] w fun e w' => e = .returned (.int .i64 (cl3 b)) ∧ w = w' := by
  cases h : ok32 b
  · go_enter Tryd.func18, Tryd.ntmps18
    go_wp2_with (first | (go_at_call 36; refine (valid_any _ _).mono ?_; rintro e w' ⟨rfl, rfl⟩))
    go_ret
    exact ⟨ri (by unfold cl3; rw [h]; rfl), rfl⟩
  · have hh := (ok32_iff b).1 h
    have h1 := hh.1
    have h2 := hh.2
    go_enter Tryd.func18, Tryd.ntmps18
    go_wp2_with (first | (go_at_call 36; refine (valid_any _ _).mono ?_; rintro e w' ⟨rfl, rfl⟩) | (go_at_call 37; refine (rclass_any _ _ _ (by omega) (by omega) _).mono ?_; rintro e w' ⟨rfl, rfl⟩))
    go_ret
    exact ⟨ri (by unfold cl3; rw [h]; unfold fld3 frc3; rw [show b % 2147483648 / 8388608 = b / 8388608 % 256 by omega]; rfl), rfl⟩

set_option maxHeartbeats 400000 in
theorem parts32_any (b : Int) (hb : I64 b) (w : World) :
    Calls Tryd.prog 34 #[.int .i64 b] w fun e w' => e = .returned (.tuple #[.bool (pneg3 b), .int .i64 (pmag3 b), .int .i64 (pexp3 b), .bool (pok3 b)]) ∧ w = w' := by
  have d31 : 0 ≤ b → b < 4294967296 → (b / 2147483648 == 1) = decide (2147483648 ≤ b) := by
    intro a c
    by_cases d : 2147483648 ≤ b
    · rw [decide_eq_true d]; exact beq_iff_eq.2 (by omega)
    · rw [decide_eq_false d]; exact beq_eq_false_iff_ne.2 (by omega)
  cases h : ok32 b
  · have P := parts3_c34 (b := b) (by unfold cl3; rw [h]; simp)
    have HP := Lib.hid P; clear P d31
    go_enter Tryd.func34, Tryd.ntmps34
    go_wp2_with (first | (go_at_call 56; refine (pattern_any _ hb _).mono ?_; rintro e w' ⟨rfl, rfl⟩))
    refine bodyPost_ret (results_tmp4 rfl _ _ _) rfl ?_
    exact ⟨rt4 HP.out.1.symm HP.out.2.1.symm HP.out.2.2.1.symm HP.out.2.2.2.symm, rfl⟩
  · have D := d31 ((ok32_iff b).1 h).1 ((ok32_iff b).1 h).2
    have HD := Lib.hid D; clear D d31
    cases h1 : (b / 8388608 % 256 == 255)
    · cases h2 : (b / 8388608 % 256 == 0)
      · have P := parts3_c2 (b := b) ((cl3_fld b h).2.2 (beq_eq_false_iff_ne.1 h1) (beq_eq_false_iff_ne.1 h2))
        have HP := Lib.hid P; clear P
        go_enter Tryd.func34, Tryd.ntmps34
        go_wp2_with (first | (go_at_call 56; refine (pattern_any _ hb _).mono ?_; rintro e w' ⟨rfl, rfl⟩))
        refine bodyPost_ret (results_tmp4 rfl _ _ _) rfl ?_
        exact ⟨rt4 (by rw [HP.out.1]; exact HD.out) (by rw [HP.out.2.1]; rfl) (by rw [HP.out.2.2.1]; rfl) HP.out.2.2.2.symm, rfl⟩
      · have P := parts3_c01 (b := b) ((cl3_fld b h).2.1 (beq_iff_eq.1 h2))
        have HP := Lib.hid P; clear P
        go_enter Tryd.func34, Tryd.ntmps34
        go_wp2_with (first | (go_at_call 56; refine (pattern_any _ hb _).mono ?_; rintro e w' ⟨rfl, rfl⟩))
        refine bodyPost_ret (results_tmp4 rfl _ _ _) rfl ?_
        exact ⟨rt4 (by rw [HP.out.1]; exact HD.out) (by rw [HP.out.2.1]; rfl) (by rw [HP.out.2.2.1]) HP.out.2.2.2.symm, rfl⟩
    · have P := parts3_c34 (b := b) (by have := (cl3_fld b h).1 (beq_iff_eq.1 h1); omega)
      have HP := Lib.hid P; clear P
      go_enter Tryd.func34, Tryd.ntmps34
      go_wp2_with (first | (go_at_call 56; refine (pattern_any _ hb _).mono ?_; rintro e w' ⟨rfl, rfl⟩))
      refine bodyPost_ret (results_tmp4 rfl _ _ _) rfl ?_
      exact ⟨rt4 HP.out.1.symm HP.out.2.1.symm HP.out.2.2.1.symm HP.out.2.2.2.symm, rfl⟩

theorem cl3_ok {b : Int} (h : cl3 b < 3) : 0 ≤ b ∧ b < 4294967296 := by
  cases c : ok32 b
  · unfold cl3 at h; rw [c] at h; simp at h
  · exact (ok32_iff b).1 c

set_option maxHeartbeats 400000 in
theorem rParts32_any (b : Int) (w : World) :
    Calls Tryd.prog 40 #[.int .i64 b] w fun e w' => e = .returned (.tuple #[.bool (pneg3 b), .int .i64 (pmag3 b), .int .i64 (pexp3 b), .bool (pok3 b)]) ∧ w = w' := by
  have c1 := cl3_bd b
  by_cases h : cl3 b < 3
  · have hh := cl3_ok h
    have h1 := hh.1
    have h2 := hh.2
    clear hh
    have f := fld3_bd b
    go_enter Tryd.func40, Tryd.ntmps40
    go_wp2_with (first | (go_at_call 18; refine (rClass32_any _ _).mono ?_; rintro e w' ⟨rfl, rfl⟩))
    · have P := parts3_c01 (b := b) (Or.inl (by simpa using (by assumption : (cl3 b == 0) = true)))
      refine bodyPost_ret (results_tmp4 rfl _ _ _) rfl ?_
      exact ⟨rt4 P.1.symm P.2.1.symm P.2.2.1.symm P.2.2.2.symm, rfl⟩
    · have P := parts3_c01 (b := b) (Or.inr (by simpa using (by assumption : (cl3 b == 1) = true)))
      refine bodyPost_ret (results_tmp4 rfl _ _ _) rfl ?_
      exact ⟨rt4 P.1.symm P.2.1.symm P.2.2.1.symm P.2.2.2.symm, rfl⟩
    · have P := parts3_c2 (b := b) (by simpa using (by assumption : (cl3 b == 2) = true))
      refine bodyPost_ret (results_tmp4 rfl _ _ _) rfl ?_
      exact ⟨rt4 P.1.symm (by rw [P.2.1]; exact Int.add_comm _ _) (by rw [P.2.2.1]; unfold fld3; rw [show b % 2147483648 / 8388608 = b / 8388608 % 256 by omega]) P.2.2.2.symm, rfl⟩
  · have P := parts3_c34 (b := b) (by omega)
    have HP := Lib.hid P; clear P
    have k0 : (cl3 b == 0) = false := beq_eq_false_iff_ne.2 (by omega)
    have k1 : (cl3 b == 1) = false := beq_eq_false_iff_ne.2 (by omega)
    have k2 : (cl3 b == 2) = false := beq_eq_false_iff_ne.2 (by omega)
    go_enter Tryd.func40, Tryd.ntmps40
    go_wp2_with (first | (go_at_call 18; refine (rClass32_any _ _).mono ?_; rintro e w' ⟨rfl, rfl⟩))
    refine bodyPost_ret (results_tmp4 rfl _ _ _) rfl ?_
    exact ⟨rt4 HP.out.1.symm HP.out.2.1.symm HP.out.2.2.1.symm HP.out.2.2.2.symm, rfl⟩

end Go.Proofs.YtgmebioogkmfgaaDoor

namespace Go.Proofs.YtgmebioogkmfgaaDoor
open Go.RowKit Go.Pt

attribute [local go_sem] and_2047 and_frac and_255 and_frac3 and_one or_frac or_frac3

def isN (x : Nat) : Bool := FloatKind.f64.format.order x x != some .eq

theorem rf {k : FloatKind} {a b : Nat} (h : a = b) : Ending.returned (.float k a) = .returned (.float k b) := by rw [h]

theorem isN_nan : isN 9218868437227405312 = false := by decide

theorem up_one {b : Int} (hb : I64 b) (n : cl b ≠ 4) (h0 : 0 < key b) (h1 : key b < 9218868437227405312) : (IntKind.u64.wrap ((wd b : Nat) + 1)).toNat = nxw b := by
  unfold nxw
  rw [if_neg n]
  unfold next
  rw [if_neg n]
  unfold wd
  rw [IntKind.wrap_u64, IntKind.wrap_u64, IntKind.wrap_u64]
  unfold key rg at h0 h1
  unfold rg inf
  unfold I64 at hb
  split at h0
  · omega
  · rw [if_neg (by omega), if_neg (by omega), if_neg (by omega)]; omega

theorem down_one {b : Int} (hb : I64 b) (n : cl b ≠ 4) (h0 : key b < 0) : (IntKind.u64.wrap ((wd b : Nat) - 1)).toNat = nxw b := by
  unfold nxw
  rw [if_neg n]
  unfold next
  rw [if_neg n]
  unfold wd
  rw [IntKind.wrap_u64, IntKind.wrap_u64, IntKind.wrap_u64]
  unfold key rg at h0
  unfold rg inf
  unfold I64 at hb
  split at h0
  · rw [if_neg (by omega), if_neg (by omega), if_pos (by omega)]; omega
  · omega

theorem key_bd {b : Int} (n : cl b ≠ 4) : key b ≤ 9218868437227405312 := by
  have h := rg_bd b
  have h1 : ¬ inf < rg b := fun e => n ((cl_nan b).2 e)
  unfold inf at h1
  unfold key; split <;> omega

theorem key_z {b : Int} (h : key b = 0) : rg b = 0 := by unfold key at h; split at h <;> omega

theorem ofD_nxw {b : Int} (h : I64 b) : ofD (nxw b) = next b := by
  unfold nxw
  by_cases n : cl b = 4
  · rw [if_pos n, ← wd_nan, ofD_wd nan64]
    unfold told next
    rw [cl_nanc, if_pos rfl, if_pos n]
  · rw [if_neg n, ofD_wd (next64 h)]
    unfold told
    rw [if_neg (cl_next h n)]

theorem canon64 {b : Int} (h : I64 b) : I64 (canon b) := by
  unfold canon nan; unfold I64 at *; repeat' split
  all_goals omega

theorem place_canon {b : Int} (hb : I64 b) (n : cl b ≠ 4) : place (canon b) = if cl b = 0 then 0 else if b < 0 then key b - 1 else key b := by
  unfold canon place key
  unfold I64 at hb
  by_cases c : cl b = 0
  · rw [if_pos c]; simp [c]
  · rw [if_neg c, if_neg n, if_neg c]
    unfold rg; split <;> omega

theorem less_place {a b : Int} (ha : I64 a) (hb : I64 b) (na : cl a ≠ 4) (nb : cl b ≠ 4) : decide (place (canon a) < place (canon b)) = less a b := by
  unfold less
  rw [beq_eq_false_iff_ne.2 na, beq_eq_false_iff_ne.2 nb, place_canon ha na, place_canon hb nb]
  have za := cl_zero a
  have zb := cl_zero b
  have ra := rg_bd a
  have rb := rg_bd b
  simp only [Bool.not_false, Bool.true_and]
  congr 1
  apply propext
  unfold key
  by_cases ca : cl a = 0
  · by_cases cb : cl b = 0
    · rw [if_pos ca, if_pos cb]; repeat' split
      all_goals omega
    · rw [if_pos ca, if_neg cb]; repeat' split
      all_goals omega
  · by_cases cb : cl b = 0
    · rw [if_neg ca, if_pos cb]; repeat' split
      all_goals omega
    · rw [if_neg ca, if_neg cb]; repeat' split
      all_goals omega

theorem canon_same {a b : Int} (ha : I64 a) (hb : I64 b) (na : cl a ≠ 4) : (canon a == canon b) = same a b := by
  unfold same
  rw [beq_eq_false_iff_ne.2 na]
  have za := cl_zero a
  have zb := cl_zero b
  have nna := cl_nan a
  have nnb := cl_nan b
  have ra := rg_bd a
  have rb := rg_bd b
  simp only [Bool.not_false, Bool.true_and]
  by_cases nb : cl b = 4
  · rw [beq_iff_eq.2 nb]
    simp only [Bool.not_true, Bool.false_and]
    apply beq_eq_false_iff_ne.2
    unfold canon
    rw [if_pos nb, if_neg (show ¬ cl b = 0 by omega), if_neg na]
    split
    · decide
    · intro e; rw [e] at na; exact na cl_nanc
  · rw [beq_eq_false_iff_ne.2 nb]
    simp only [Bool.not_false, Bool.true_and]
    unfold canon
    rw [if_neg na, if_neg nb]
    unfold I64 at ha hb
    have k : (if cl a = 0 then 0 else a) = (if cl b = 0 then 0 else b) ↔ key a = key b := by
      unfold key
      by_cases ca : cl a = 0
      · by_cases cb : cl b = 0
        · rw [if_pos ca, if_pos cb]; repeat' split
          all_goals omega
        · rw [if_pos ca, if_neg cb]; unfold rg at *; repeat' split
          all_goals omega
      · by_cases cb : cl b = 0
        · rw [if_neg ca, if_pos cb]; unfold rg at *; repeat' split
          all_goals omega
        · rw [if_neg ca, if_neg cb]; unfold rg at *; repeat' split
          all_goals omega
    by_cases e : key a = key b
    · rw [beq_iff_eq.2 (k.2 e), beq_iff_eq.2 e]
    · rw [beq_eq_false_iff_ne.2 (fun h => e (k.1 h)), beq_eq_false_iff_ne.2 e]

/-- What the program orders by. -/
def okey (b : Int) : Int := if cl b = 4 then 9223372036854775807 else place b

theorem okey_order {a b : Int} (ha : I64 a) (hb : I64 b) : order a b = if okey a < okey b then -1 else if okey b < okey a then 1 else 0 := by
  have na := cl_nan a
  have nb := cl_nan b
  unfold order okey place
  unfold I64 at ha hb
  unfold inf rg at na nb
  by_cases ca : cl a = 4
  · by_cases cb : cl b = 4
    · simp [ca, cb]
    · simp only [ca, cb, if_true, if_false]; repeat' split
      all_goals omega
  · by_cases cb : cl b = 4
    · simp only [ca, cb, if_true, if_false]; repeat' split
      all_goals omega
    · simp only [ca, cb, if_false]

end Go.Proofs.YtgmebioogkmfgaaDoor

namespace Go.Pt

/-! ### Patterns of 32 bits as words -/
theorem binade3_eq : Ieee.single.binade = 8388608 := rfl
theorem infRung3_eq : Ieee.single.infRung = 2139095040 := rfl
theorem signWeight3_eq : Ieee.single.signWeight = 2147483648 := rfl
theorem least3_eq : Ieee.single.leastPlace = -149 := rfl

/-- The word of a pattern of 32 bits; of what is none, the one of no number. -/
def wd3 (b : Int) : Nat := if ok32 b then b.toNat else 2143289345
/-- The pattern that stands for it. -/
def pt3 (b : Int) : Int := if ok32 b then b else nan3
def rg3 (b : Int) : Int := b % 2147483648
def key3 (b : Int) : Int := if 2147483648 ≤ b then -(rg3 b) else rg3 b
def told3 (b : Int) : Int := if cl3 b = 4 then nan3 else b

theorem pt3_ok (b : Int) : 0 ≤ pt3 b ∧ pt3 b < 4294967296 := by
  unfold pt3 nan3
  cases h : ok32 b
  · simp
  · have : 0 ≤ b ∧ b < 4294967296 := by unfold ok32 at h; simpa using h
    simpa using this

theorem ok32_of {b : Int} (h0 : 0 ≤ b) (h1 : b < 4294967296) : ok32 b = true := by unfold ok32; simp [h0, h1]

theorem cl3_eq {b : Int} (h0 : 0 ≤ b) (h1 : b < 4294967296) : cl3 b = if rg3 b = 0 then 0 else if rg3 b < 8388608 then 1 else if rg3 b < inf3 then 2 else if rg3 b = inf3 then 3 else 4 := by
  unfold cl3 cls
  rw [if_pos (ok32_of h0 h1)]
  unfold fld3 frc3 rg3 inf3
  repeat' split
  all_goals omega

theorem cl3_pt (b : Int) : cl3 (pt3 b) = cl3 b := by
  unfold pt3
  cases h : ok32 b
  · simp only [Bool.false_eq_true, if_false]
    have : cl3 b = 4 := by unfold cl3; rw [h]; rfl
    rw [this]; decide
  · rfl

theorem wd3_pt (b : Int) : wd3 b = (pt3 b).toNat := by
  unfold wd3 pt3; split <;> rfl

theorem rg3_bd (b : Int) : 0 ≤ rg3 b ∧ rg3 b < 2147483648 := by unfold rg3; omega

theorem wd3_word (b : Int) : wd3 b = Ieee.single.word (decide (2147483648 ≤ pt3 b)) (rg3 (pt3 b)).toNat := by
  have h := pt3_ok b
  rw [wd3_pt]
  generalize pt3 b = c at *
  unfold Ieee.Format.word rg3
  rw [signWeight3_eq]
  by_cases hb : 2147483648 ≤ c
  · simp only [hb, decide_true, if_true]; omega
  · simp only [hb, decide_false, Bool.false_eq_true, if_false]; omega

theorem cl3_nan (b : Int) : cl3 b = 4 ↔ inf3 < rg3 (pt3 b) := by
  have h := pt3_ok b
  rw [← cl3_pt, cl3_eq h.1 h.2]; unfold inf3; repeat' split
  all_goals omega

theorem skey_key3 {b : Int} : Ieee.Format.skey (decide (2147483648 ≤ b)) (rg3 b).toNat = key3 b := by
  have := rg3_bd b
  unfold Ieee.Format.skey key3
  by_cases hb : 2147483648 ≤ b <;> simp [hb] <;> omega

theorem ord3_fin {a b : Int} (na : cl3 a ≠ 4) (nb : cl3 b ≠ 4) : FloatKind.f32.format.order (wd3 a) (wd3 b) = some (compare (key3 (pt3 a)) (key3 (pt3 b))) := by
  have h1 := rg3_bd (pt3 a)
  have h2 := rg3_bd (pt3 b)
  have c1 : ¬ inf3 < rg3 (pt3 a) := fun h => na ((cl3_nan a).2 h)
  have c2 : ¬ inf3 < rg3 (pt3 b) := fun h => nb ((cl3_nan b).2 h)
  unfold inf3 at c1 c2
  rw [wd3_word a, wd3_word b]
  show Ieee.single.order _ _ = _
  rw [Ieee.single.order_words (by decide) _ _ (by rw [infRung3_eq]; omega) (by rw [infRung3_eq]; omega), skey_key3, skey_key3]

theorem ord3_nan_left {a : Int} (y : Nat) (na : cl3 a = 4) : FloatKind.f32.format.order (wd3 a) y = none := by
  have h1 := rg3_bd (pt3 a)
  have c1 := (cl3_nan a).1 na
  unfold inf3 at c1
  rw [wd3_word a]
  exact Ieee.single.order_nan_left (by decide) _ _ (by rw [infRung3_eq]; omega) (by rw [signWeight3_eq]; omega)

theorem isnan3_eq (a : Int) : (FloatKind.f32.format.order (wd3 a) (wd3 a) != some .eq) = decide (cl3 a = 4) := by
  by_cases na : cl3 a = 4
  · rw [ord3_nan_left _ na]; simp [na]
  · rw [ord3_fin na na, Int.compare_eq_eq.2 rfl]; simp [na]

end Go.Pt
namespace Go.Proofs.YtgmebioogkmfgaaDoor
open Go.RowKit Go.Pt

attribute [local go_sem] and_2047 and_frac and_255 and_frac3 and_one or_frac or_frac3

def ofS (x : Nat) : Int := if FloatKind.f32.format.order x x != some .eq then nan3 else wrap64 x

theorem ofS_wd (b : Int) : ofS (wd3 b) = told3 b := by
  have h := pt3_ok b
  unfold ofS told3
  rw [isnan3_eq]
  by_cases c : cl3 b = 4
  · simp [c]
  · simp only [c, decide_false, Bool.false_eq_true, if_false]
    unfold wrap64
    rw [wd3_pt]
    have : pt3 b = b := by
      unfold pt3
      cases k : ok32 b
      · exact absurd (by unfold cl3; rw [k]; rfl) c
      · rfl
    rw [this] at h ⊢
    omega

theorem one64 : I64 4607182418800017408 := by unfold I64; omega
theorem one32 : I64 1065353216 := by unfold I64; omega

end Go.Proofs.YtgmebioogkmfgaaDoor
