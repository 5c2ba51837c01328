/- Add and Sub of words. Condition: it stands in each fact. -/
import Derived.Test.YtgmebioogkmfgaaGreatDoorZM12
import Derived.Shelf.Spec.BitsCarry
namespace Go.Proofs.YtgmebioogkmfgaaGreatDoor
open Go.RowKit Go.Pt Go.Mem

theorem run_addw (x y : Nat) (h : x + y < 18446744073709551616) (w : World) : (callFunc 111 #[.int .u64 (x : Int), .int .u64 (y : Int), .int .u64 0]).run Tryz.prog w = .ok (.value (.tuple #[.int .u64 ((x + y : Nat) : Int), .int .u64 0])) w := by
  rw [run_callFunc_extern Tryz.func111 (by kernel_rfl) (by kernel_rfl) (by kernel_rfl) (e := add64Entry) (by kernel_rfl), run_add64 x y 0 (by omega) (by omega) (by omega) (by omega)]
  rw [show ((x : Int) + y + 0) % 18446744073709551616 = ((x + y : Nat) : Int) by omega, show ((x : Int) + y + 0) / 18446744073709551616 = 0 by omega]
  rfl

theorem run_subw (x y : Nat) (h : y ≤ x) (hx : x < 18446744073709551616) (w : World) : (callFunc 109 #[.int .u64 (x : Int), .int .u64 (y : Int), .int .u64 0]).run Tryz.prog w = .ok (.value (.tuple #[.int .u64 ((x - y : Nat) : Int), .int .u64 0])) w := by
  have := run_sub64 (P := Tryz.prog) x y 0 (by omega) w
  rw [run_callFunc_extern Tryz.func109 (by kernel_rfl) (by kernel_rfl) (by kernel_rfl) (e := sub64Entry) (by kernel_rfl), show (Value.int IntKind.u64 0) = .int .u64 ((0 : Nat) : Int) from rfl, this]
  rw [if_neg (by omega), show (x + 18446744073709551616 - y - 0) % 18446744073709551616 = x - y by omega]
  rfl

set_option maxRecDepth 100000 in
theorem add_w (x y : Nat) (h : x + y < 18446744073709551616) (w : World) : Calls Tryz.prog 98 #[.int .u64 (x : Int), .int .u64 (y : Int), .int .u64 0] w fun e w' => e = .returned (.tuple #[.int .u64 ((x + y : Nat) : Int), .int .u64 0]) ∧ w = w' := by
  have hr := run_addw x y h w
  generalize x + y = z at hr ⊢
  clear h
  go_enter Tryz.func98, Tryz.ntmps98
  go_wp2
  go_ret2
  exact ⟨rfl, rfl⟩

set_option maxRecDepth 100000 in
theorem sub_w (x y : Nat) (h : y ≤ x) (hx : x < 18446744073709551616) (w : World) : Calls Tryz.prog 92 #[.int .u64 (x : Int), .int .u64 (y : Int), .int .u64 0] w fun e w' => e = .returned (.tuple #[.int .u64 ((x - y : Nat) : Int), .int .u64 0]) ∧ w = w' := by
  have hr := run_subw x y h hx w
  generalize x - y = z at hr ⊢
  clear h hx
  go_enter Tryz.func92, Tryz.ntmps92
  go_wp2
  go_ret2
  exact ⟨rfl, rfl⟩
end Go.Proofs.YtgmebioogkmfgaaGreatDoor
