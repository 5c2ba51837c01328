/- Int64, IsInt64 of whole numbers not below 0. Condition: it stands in each fact. -/
import Derived.Test.YtgmebioogkmfgaaGreatDoorZM23
namespace Go.Proofs.YtgmebioogkmfgaaGreatDoor
open Go.RowKit Go.Pt Go.Mem

set_option maxRecDepth 100000 in
theorem low64_any (v : Value) (N : Nat) (w : World) (hv : NatV w v N) :
    Calls Tryz.prog 76 #[v] w fun e w' => e = .returned (.int .u64 ((N % 18446744073709551616 : Nat) : Int)) ∧ w = w' := by
  rcases Nat.eq_zero_or_pos N with rfl | h0
  · rcases hv.zero with rfl | ⟨b, cap, l, rfl, _⟩
    · clear hv
      go_enter Tryz.func76, Tryz.ntmps76
      go_wp2
      go_ret
      exact ⟨rfl, rfl⟩
    · clear hv
      go_enter Tryz.func76, Tryz.ntmps76
      go_wp2
      go_ret
      exact ⟨rfl, rfl⟩
  · obtain ⟨b, len, cap, l, rfl, hr, h1, h2, h3, h4, h5, h6⟩ := hv.pos h0
    have e0 := low_word hr.2 h5
    rw [h4] at e0
    have e0' : l.getD 0 0 = N % 18446744073709551616 := e0
    have hc := hr.cell (i := 0) (by omega)
    rw [e0'] at hc
    generalize N % 18446744073709551616 = X at hc
    have i1 : ((len : Int) == 0) = false := by simp; omega
    have i2 : (0 : Int) < (len : Int) := by omega
    clear hv hr h1 h4 h6 e0 e0'
    go_enter Tryz.func76, Tryz.ntmps76
    go_wp2
    go_ret
    exact ⟨rfl, rfl⟩

set_option maxRecDepth 100000 in
theorem int64_any (z : Nat) (vz : Value) (N : Nat) (hN : N < 9223372036854775808) (w : World) (hz : IntV w z vz false N) :
    Calls Tryz.prog 49 #[.pointer (some ⟨z, 0, none⟩)] w fun e w' => e = .returned (.int .i64 (N : Int)) ∧ w = w' := by
  have z1 := hz.1.c1
  have z0 := hz.1.c0
  have hl := low64_any vz N w hz.2
  rw [Nat.mod_eq_of_lt (by omega)] at hl
  have H := Lib.hid hl
  have e1 : IntKind.i64.wrap (N : Int) = N := IntWalk.i64_in _ (by omega)
  clear hl hz
  go_enter Tryz.func49, Tryz.ntmps49
  go_wp2_with fail
  refine (H.out).mono ?_
  rintro e w1 ⟨rfl, rfl⟩
  go_wp2_with fail
  go_ret
  exact ⟨rfl, rfl⟩

set_option maxRecDepth 100000 in
theorem isInt64_any (z : Nat) (vz : Value) (N : Nat) (w : World) (hz : IntV w z vz false N) :
    Calls Tryz.prog 61 #[.pointer (some ⟨z, 0, none⟩)] w fun e w' => e = .returned (.bool (decide (N < 9223372036854775808))) ∧ w = w' := by
  have z1 := hz.1.c1
  have z0 := hz.1.c0
  have H := Lib.hid (low64_any vz N w hz.2)
  by_cases c : N < 18446744073709551616
  · have hl : ∃ a n cap, vz = .slice a n cap ∧ n ≤ 1 := by
      rcases hz.2 with ⟨rfl, _⟩ | ⟨b, len, cap, l, rfl, r1, r2, r3, r4, r5, r6⟩
      · exact ⟨_, _, _, rfl, by omega⟩
      · refine ⟨_, _, _, rfl, len_le (x := fun j => l.getD j 0) (K := 1) r6 (by rw [r5]; exact c)⟩
    obtain ⟨a, n, cap, rfl, hn⟩ := hl
    have i1 : (n : Int) ≤ 1 := by omega
    rw [Nat.mod_eq_of_lt c] at H
    by_cases c2 : N < 9223372036854775808
    · have e1 : IntKind.i64.wrap (N : Int) = N := IntWalk.i64_in _ (by omega)
      have e2 : (0 : Int) ≤ (N : Int) := by omega
      rw [decide_eq_true c2]
      clear hz
      go_enter Tryz.func61, Tryz.ntmps61
      go_wp2_with fail
      refine (H.out).mono ?_
      rintro e w1 ⟨rfl, rfl⟩
      go_wp2_with fail
      go_ret
      exact ⟨rfl, rfl⟩
    · have e1 : IntKind.i64.wrap (N : Int) = (N : Int) - 18446744073709551616 := by
        unfold IntKind.wrap; simp [IntKind.signed, IntKind.bits]; omega
      have e2 : ¬ (0 : Int) ≤ (N : Int) - 18446744073709551616 := by omega
      rw [decide_eq_false c2]
      generalize (N : Int) - 18446744073709551616 = y at e1 e2
      have e3 : Hid (decide ((0 : Int) ≤ y) = false) := decide_eq_false e2
      clear hz c c2
      go_enter Tryz.func61, Tryz.ntmps61
      go_wp2_with fail
      refine (H.out).mono ?_
      rintro e w1 ⟨rfl, rfl⟩
      go_wp2_with fail
      go_ret
      exact ⟨congrArg (fun b => Ending.returned (.bool b)) e3.out, rfl⟩
  · rw [decide_eq_false (by omega)]
    obtain ⟨b, len, cap, l, rfl, hr, h1, h2, h3, h4, h5, h6⟩ := hz.2.pos (by omega)
    have hl : 1 < len := by
      by_cases k : 1 < len
      · exact k
      · obtain rfl : len = 1 := by omega
        have := val_lt (x := fun j => l.getD j 0) hr.2 1
        rw [h4] at this
        omega
    have i1 : ¬ (len : Int) ≤ 1 := by omega
    clear hz hr h1 h4 h6 H
    go_enter Tryz.func61, Tryz.ntmps61
    go_wp2
    go_ret
    exact ⟨rfl, rfl⟩
end Go.Proofs.YtgmebioogkmfgaaGreatDoor
