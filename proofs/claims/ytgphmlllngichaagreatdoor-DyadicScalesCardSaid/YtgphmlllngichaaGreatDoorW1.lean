/- What the calls of the package bits and of its reference come to (classes, parts, floats of patterns): each call returns, the world is as it was, and the answer is the plain function's. Condition: an int is an int (I64), where it stands. -/
import Derived.Test.YtgphmlllngichaaGreatDoorRows
import Derived.Test.YtgphmlllngichaaGreatDoorBo
import Derived.WalkKit
import Derived.WalkSpells
import Derived.WalkLawsBesides
import Derived.Lib.Hide
namespace Go.Proofs.YtgphmlllngichaaGreatDoor
open Go.RowKit Go.Pt

theorem ri {k : IntKind} {a b : Int} (h : a = b) : Ending.returned (.int k a) = .returned (.int k b) := by rw [h]
theorem rb {a b : Bool} (h : a = b) : Ending.returned (.bool a) = .returned (.bool b) := by rw [h]

@[go_sem] theorem run51 (n : Int) (w : World) : (callFunc 195 #[.int .u64 n]).run Tryz.prog w = .ok (.value (.float .f64 n.toNat)) w := by
  rw [run_callFunc_extern (e := Extern.MathFloatBits.float64frombits) Tryz.func195 (by kernel_rfl) (by kernel_rfl) (by kernel_rfl) (by kernel_rfl)]
  rfl
@[go_sem] theorem run54 (n : Nat) (w : World) : (callFunc 194 #[.float .f64 n]).run Tryz.prog w = .ok (.value (.int .u64 n)) w := by
  rw [run_callFunc_extern (e := Extern.MathFloatBits.float64bits) Tryz.func194 (by kernel_rfl) (by kernel_rfl) (by kernel_rfl) (by kernel_rfl)]
  rfl
attribute [local go_sem] and_2047 and_frac and_255 and_frac3 and_one or_frac or_frac3

def ofD (x : Nat) : Int := if FloatKind.f64.format.order x x != some .eq then nan else wrap64 x

theorem ofD_wd {b : Int} (h : I64 b) : ofD (wd b) = told b := by
  have e := wrap_wd h
  rw [IntKind.wrap_i64] at e
  unfold ofD told wrap64
  rw [isnan_eq h, e]
  simp

theorem results_tmp4 {fn : Func} {t u v x : Tmp} (h : fn.results = #[.tmp t, .tmp u, .tmp v, .tmp x]) (tmps : Array Value) (P : Program) (w : World) :
    (results fn tmps).run P w = .ok (.tuple #[tmps.getD t undef, tmps.getD u undef, tmps.getD v undef, tmps.getD x undef]) w := by
  simp [results, h, go_sem]

theorem rt4 {a a' : Bool} {b b' c c' : Int} {d d' : Bool} (h1 : a = a') (h2 : b = b') (h3 : c = c') (h4 : d = d') :
    Ending.returned (.tuple #[.bool a, .int .i64 b, .int .i64 c, .bool d]) = .returned (.tuple #[.bool a', .int .i64 b', .int .i64 c', .bool d']) := by rw [h1, h2, h3, h4]
theorem rt3 {a a' : Bool} {b b' c c' : Int} (h1 : a = a') (h2 : b = b') (h3 : c = c') :
    Ending.returned (.tuple #[.bool a, .int .i64 b, .int .i64 c]) = .returned (.tuple #[.bool a', .int .i64 b', .int .i64 c']) := by rw [h1, h2, h3]

set_option maxHeartbeats 400000 in
theorem parts_any (b : Int) (w : World) :
    Calls Tryz.prog 35 #[.int .i64 b] w fun e w' => e = .returned (.tuple #[.bool (pneg b), .int .i64 (pmag b), .int .i64 (pexp b), .bool (pok b)]) ∧ w = w' := by
  cases h1 : (b / 4503599627370496 % 2048 == 2047)
  · cases h2 : (b / 4503599627370496 % 2048 == 0)
    · have P := parts_nrm (b := b) (beq_eq_false_iff_ne.1 h1) (beq_eq_false_iff_ne.1 h2)
      have HP := Lib.hid P; clear P
      go_enter Tryz.func35, Tryz.ntmps35
      go_wp2
      refine bodyPost_ret (results_tmp4 rfl _ _ _) rfl ?_
      exact ⟨rt4 HP.out.1.symm (by rw [HP.out.2.1]; rfl) (by rw [HP.out.2.2.1]; rfl) HP.out.2.2.2.symm, rfl⟩
    · have P := parts_low (b := b) (beq_iff_eq.1 h2)
      have HP := Lib.hid P; clear P
      go_enter Tryz.func35, Tryz.ntmps35
      go_wp2
      refine bodyPost_ret (results_tmp4 rfl _ _ _) rfl ?_
      exact ⟨rt4 HP.out.1.symm (by rw [HP.out.2.1]; rfl) (by rw [HP.out.2.2.1]) HP.out.2.2.2.symm, rfl⟩
  · have P := parts_inf (b := b) (beq_iff_eq.1 h1)
    have HP := Lib.hid P; clear P
    go_enter Tryz.func35, Tryz.ntmps35
    go_wp2
    refine bodyPost_ret (results_tmp4 rfl _ _ _) rfl ?_
    exact ⟨rt4 HP.out.1.symm HP.out.2.1.symm HP.out.2.2.1.symm HP.out.2.2.2.symm, rfl⟩

/-! ### 32 bits -/
theorem ok32_iff (b : Int) : ok32 b = true ↔ 0 ≤ b ∧ b < 4294967296 := by unfold ok32; simp

theorem cl3_ok {b : Int} (h : cl3 b < 3) : 0 ≤ b ∧ b < 4294967296 := by
  cases c : ok32 b
  · unfold cl3 at h; rw [c] at h; simp at h
  · exact (ok32_iff b).1 c

end Go.Proofs.YtgphmlllngichaaGreatDoor
