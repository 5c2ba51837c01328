/- Int64, IsInt64 of whole numbers not below 0. Condition: it stands in each fact. -/
import Derived.Test.YtgmebioogkmfgaaDoorZM23
namespace Go.Proofs.YtgmebioogkmfgaaDoor
open Go.RowKit Go.Pt Go.Mem

set_option maxRecDepth 100000 in
theorem low64_any (v : Value) (N : Nat) (w : World) (hv : NatV w v N) :
    Calls Tryd.prog 73 #[v] w fun e w' => e = .returned (.int .u64 ((N % 18446744073709551616 : Nat) : Int)) ∧ w = w' := by
  rcases Nat.eq_zero_or_pos N with rfl | h0
  · rcases hv.zero with rfl | ⟨b, cap, l, rfl, _⟩
    · clear hv
      go_enter Tryd.func73, Tryd.ntmps73
      go_wp2
      go_ret
      exact ⟨rfl, rfl⟩
    · clear hv
      go_enter Tryd.func73, Tryd.ntmps73
      go_wp2
      go_ret
      exact ⟨rfl, rfl⟩
  · obtain ⟨b, len, cap, l, rfl, hr, h1, h2, h3, h4, h5, h6⟩ := hv.pos h0
    have e0 := low_word hr.2 h5
    rw [h4] at e0
    have e0' : l.getD 0 0 = N % 18446744073709551616 := e0
    have hc := hr.cell (i := 0) (by omega)
    rw [e0'] at hc
    generalize N % 18446744073709551616 = X at hc
    have i1 : ((len : Int) == 0) = false := by simp; omega
    have i2 : (0 : Int) < (len : Int) := by omega
    clear hv hr h1 h4 h6 e0 e0'
    go_enter Tryd.func73, Tryd.ntmps73
    go_wp2
    go_ret
    exact ⟨rfl, rfl⟩

set_option maxRecDepth 100000 in
theorem int64_any (z : Nat) (vz : Value) (N : Nat) (hN : N < 9223372036854775808) (w : World) (hz : IntV w z vz false N) :
    Calls Tryd.prog 48 #[.pointer (some ⟨z, 0, none⟩)] w fun e w' => e = .returned (.int .i64 (N : Int)) ∧ w = w' := by
  have z1 := hz.1.c1
  have z0 := hz.1.c0
  have hl := low64_any vz N w hz.2
  rw [Nat.mod_eq_of_lt (by omega)] at hl
  have H := Lib.hid hl
  have e1 : IntKind.i64.wrap (N : Int) = N := IntWalk.i64_in _ (by omega)
  clear hl hz
  go_enter Tryd.func48, Tryd.ntmps48
  go_wp2_with fail
  refine (H.out).mono ?_
  rintro e w1 ⟨rfl, rfl⟩
  go_wp2_with fail
  go_ret
  exact ⟨rfl, rfl⟩

end Go.Proofs.YtgmebioogkmfgaaDoor
