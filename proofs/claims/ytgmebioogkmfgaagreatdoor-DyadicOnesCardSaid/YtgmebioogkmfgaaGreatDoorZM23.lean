/- NewInt, Int64 of whole numbers. Condition: it stands in each fact. -/
import Derived.Test.YtgmebioogkmfgaaGreatDoorZM22
namespace Go.Proofs.YtgmebioogkmfgaaGreatDoor
open Go.RowKit Go.Pt Go.Mem

/-- A whole number in new memory. -/
def NewPost (neg : Bool) (N : Nat) (w : World) (e : Ending) (w' : World) : Prop :=
  ∃ p v, e = .returned (.pointer (some ⟨p, 0, none⟩)) ∧ IntV w' p v neg N ∧ w.heap.size ≤ p ∧ (∀ b, Blk v b → w.heap.size ≤ b) ∧ Fr w w' None

theorem alloc_shell (w : World) (neg : Bool) (v : Value) : Shell (w.alloc (.cells #[.bool neg, v] 81)) w.heap.size v neg := (MapKept.heap_alloc w _).1

theorem new_zero (w : World) : NewPost false 0 w (.returned (.pointer (some ⟨w.heap.size, 0, none⟩))) (w.alloc (.cells #[.bool false, .slice none 0 0] 81)) :=
  ⟨_, _, rfl, ⟨alloc_shell w false _, Or.inl ⟨rfl, rfl⟩⟩, Nat.le_refl _, (fun b h => by obtain ⟨_, _, h⟩ := h; cases h), (Fr.refl w None).alloc _⟩

theorem new_one (w : World) (neg : Bool) (u : Nat) (h0 : 0 < u) (h1 : u < 18446744073709551616) :
    NewPost neg u w (.returned (.pointer (some ⟨w.heap.size + 1, 0, none⟩))) ((w.alloc (.cells #[.int .u64 (u : Int)] 99)).alloc (.cells #[.bool neg, .slice (some ⟨w.heap.size, 0, none⟩) 1 1] 81)) := by
  generalize hw1 : w.alloc (.cells #[.int .u64 (u : Int)] 99) = w1
  have hs : w1.heap.size = w.heap.size + 1 := by rw [← hw1]; simp
  have hr : Row w1 w.heap.size [u] := by
    refine ⟨by rw [← hw1]; exact (MapKept.heap_alloc w _).1, fun j => ?_⟩
    rcases j with _ | j
    · exact h1
    · simp
  have f1 : Fr w w1 None := by rw [← hw1]; exact (Fr.refl w None).alloc _
  have sh := alloc_shell w1 neg (.slice (some ⟨w.heap.size, 0, none⟩) 1 1)
  rw [hs] at sh
  refine ⟨_, _, rfl, ⟨sh, Or.inr ⟨w.heap.size, 1, 1, [u], rfl, hr.keep ((Fr.refl w1 None).alloc _) (fun x => x), rfl, by omega, by omega, by simp [val], fun _ => ?_⟩⟩, by omega, ?_, f1.alloc _⟩
  · show u ≠ 0
    omega
  · rintro b ⟨_, _, hb⟩
    cases hb
    exact Nat.le_refl _

set_option maxRecDepth 100000 in
set_option maxHeartbeats 1000000 in
theorem newInt (x : Int) (h : I64 x) (w : World) :
    Calls Tryz.prog 47 #[.int .i64 x] w (NewPost (decide (x < 0)) x.natAbs w) := by
  unfold I64 at h
  rcases Int.lt_trichotomy x 0 with c | c | c
  · have e1 : IntKind.u64.wrap (-(IntKind.u64.wrap x)) = (x.natAbs : Int) := by rw [IntKind.wrap_u64, IntKind.wrap_u64]; omega
    have P := Lib.hid (new_one w true x.natAbs (by omega) (by omega))
    have i1 : (x == 0) = false := by simp; omega
    have i2 : decide (x < 0) = true := decide_eq_true c
    rw [i2]
    go_enter Tryz.func47, Tryz.ntmps47
    go_wp2
    go_ret
    exact P.out
  · subst c
    have P := Lib.hid (new_zero w)
    go_enter Tryz.func47, Tryz.ntmps47
    go_wp2
    go_ret
    exact P.out
  · have e1 : IntKind.u64.wrap x = (x.natAbs : Int) := by rw [IntKind.wrap_u64]; omega
    have P := Lib.hid (new_one w false x.natAbs (by omega) (by omega))
    have i1 : (x == 0) = false := by simp; omega
    have i2 : decide (x < 0) = false := decide_eq_false (by omega)
    rw [i2]
    go_enter Tryz.func47, Tryz.ntmps47
    go_wp2
    go_ret
    exact P.out
end Go.Proofs.YtgmebioogkmfgaaGreatDoor
