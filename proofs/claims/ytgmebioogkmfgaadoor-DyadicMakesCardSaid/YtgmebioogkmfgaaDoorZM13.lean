/- Add and Sub of words. Condition: it stands in each fact. -/
import Derived.Test.YtgmebioogkmfgaaDoorZM12
import Derived.Shelf.Spec.BitsCarry
namespace Go.Proofs.YtgmebioogkmfgaaDoor
open Go.RowKit Go.Pt Go.Mem

theorem run_addw (x y : Nat) (h : x + y < 18446744073709551616) (w : World) : (callFunc 97 #[.int .u64 (x : Int), .int .u64 (y : Int), .int .u64 0]).run Tryd.prog w = .ok (.value (.tuple #[.int .u64 ((x + y : Nat) : Int), .int .u64 0])) w := by
  rw [run_callFunc_extern Tryd.func97 (by kernel_rfl) (by kernel_rfl) (by kernel_rfl) (e := add64Entry) (by kernel_rfl), run_add64 x y 0 (by omega) (by omega) (by omega) (by omega)]
  rw [show ((x : Int) + y + 0) % 18446744073709551616 = ((x + y : Nat) : Int) by omega, show ((x : Int) + y + 0) / 18446744073709551616 = 0 by omega]
  rfl

theorem run_subw (x y : Nat) (h : y ≤ x) (hx : x < 18446744073709551616) (w : World) : (callFunc 95 #[.int .u64 (x : Int), .int .u64 (y : Int), .int .u64 0]).run Tryd.prog w = .ok (.value (.tuple #[.int .u64 ((x - y : Nat) : Int), .int .u64 0])) w := by
  have := run_sub64 (P := Tryd.prog) x y 0 (by omega) w
  rw [run_callFunc_extern Tryd.func95 (by kernel_rfl) (by kernel_rfl) (by kernel_rfl) (e := sub64Entry) (by kernel_rfl), show (Value.int IntKind.u64 0) = .int .u64 ((0 : Nat) : Int) from rfl, this]
  rw [if_neg (by omega), show (x + 18446744073709551616 - y - 0) % 18446744073709551616 = x - y by omega]
  rfl

set_option maxRecDepth 100000 in
theorem add_w (x y : Nat) (h : x + y < 18446744073709551616) (w : World) : Calls Tryd.prog 89 #[.int .u64 (x : Int), .int .u64 (y : Int), .int .u64 0] w fun e w' => e = .returned (.tuple #[.int .u64 ((x + y : Nat) : Int), .int .u64 0]) ∧ w = w' := by
  have hr := run_addw x y h w
  generalize x + y = z at hr ⊢
  clear h
  go_enter Tryd.func89, Tryd.ntmps89
  go_wp2
  go_ret2
  exact ⟨rfl, rfl⟩

set_option maxRecDepth 100000 in
theorem sub_w (x y : Nat) (h : y ≤ x) (hx : x < 18446744073709551616) (w : World) : Calls Tryd.prog 83 #[.int .u64 (x : Int), .int .u64 (y : Int), .int .u64 0] w fun e w' => e = .returned (.tuple #[.int .u64 ((x - y : Nat) : Int), .int .u64 0]) ∧ w = w' := by
  have hr := run_subw x y h hx w
  generalize x - y = z at hr ⊢
  clear h hx
  go_enter Tryd.func83, Tryd.ntmps83
  go_wp2
  go_ret2
  exact ⟨rfl, rfl⟩
end Go.Proofs.YtgmebioogkmfgaaDoor
