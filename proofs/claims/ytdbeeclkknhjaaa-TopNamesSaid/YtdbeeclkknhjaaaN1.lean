/- The walks of errors, limits and kinds: each call returns true. Condition: none. -/
import Derived.Test.YtdbeeclkknhjaaaGr
import Derived.Test.YtdbeeclkknhjaaaRows
import Derived.WalkSpells
import Derived.WalkLawsBesides
import Derived.Deep.QuietTactic
import Derived.BigQuiet
import Derived.Lib.Hide
namespace Go.Pt
theorem Grown.drewN {w : World} (q : Nat) : Go.RowKit.Grown w (w.drewN q) := by
  induction q generalizing w with
  | zero => exact Go.RowKit.Grown.refl _
  | succ q ih => exact Grown.trans (Go.RowKit.Grown.refl w).drew (ih (w := w.drew))

/-- Each number twice. -/
def twice : List Int → List Value
  | [] => []
  | v :: l => .int .i64 v :: .int .i64 v :: twice l

theorem twice_at (l : List Int) : ∀ i : Nat, i < l.length → ∃ v : Int, (twice l)[i * 2]? = some (.int .i64 v) ∧ (twice l)[i * 2 + 1]? = some (.int .i64 v) := by
  induction l with
  | nil => intro i h; simp at h
  | cons v l ih =>
    intro i h
    cases i with
    | zero => exact ⟨v, rfl, rfl⟩
    | succ i =>
      obtain ⟨x, h1, h2⟩ := ih i (by simpa using h)
      refine ⟨x, ?_, ?_⟩
      · rw [show (i + 1) * 2 = i * 2 + 1 + 1 by omega]; exact h1
      · rw [show (i + 1) * 2 + 1 = i * 2 + 1 + 1 + 1 by omega]; exact h2
end Go.Pt
namespace Go.Proofs.Ytdbeeclkknhjaaa
open Go.RowKit Go.Pt

set_option maxHeartbeats 1000000 in
theorem are_any (B n : Nat) (hn : n ≤ 1000) (w : World) (hc : ∀ i : Nat, i < n → ∃ v : Int, w.cell? ⟨B, i * 2, none⟩ = some (.int .i64 v) ∧ w.cell? ⟨B, i * 2 + 1, none⟩ = some (.int .i64 v)) :
    Calls Try.prog 83 #[.slice (some ⟨B, 0, none⟩) n n] w fun e w' => e = .returned (.bool true) ∧ Grown w w' := by
  have HC := Lib.hid hc
  clear hc
  go_enter Try.func83, Try.ntmps83
  go_wp2
  go_loopw [3] (fun i wr => ∃ k : Nat, k ≤ n ∧ i = .int .i64 k ∧ ∃ q, wr = w.drewN q) (fun i _ => n - (intOf i).toNat)
  case atStart => exact ⟨0, Nat.zero_le _, rfl, 0, rfl⟩
  case round =>
    obtain ⟨k, hk, rfl, q, rfl⟩ := hrel
    by_cases hlt : k < n
    · obtain ⟨v, c1, c2⟩ := HC.out k hlt
      have i0 : (0 : Int) ≤ (k : Int) := by omega
      have i1 : (k : Int) < (n : Int) := by omega
      go_wp2
      go_quiet (fail)
      go_wp2
      exact ⟨⟨k + 1, by omega, by go_num, _, rfl⟩, by simp [intOf]; omega⟩
    · go_wp2
      go_ret
      exact ⟨rfl, Go.Pt.Grown.drewN _⟩

theorem are_new (l : List Int) (hl : l.length ≤ 1000) (cs : Array Value) (h : cs = (twice l).toArray) (n : Nat) (hn : n = l.length) (w : World) :
    Calls Try.prog 83 #[.slice (some ⟨w.heap.size, 0, none⟩) n n] (w.alloc (.cells cs 57)) fun e w' => e = .returned (.bool true) ∧ Grown w w' := by
  subst h hn
  refine (are_any w.heap.size l.length hl _ fun i hi => ?_).mono fun e w' ⟨he, hg⟩ => ⟨he, Go.Pt.Grown.trans ((Grown.refl w).alloc _ _) hg⟩
  obtain ⟨v, h1, h2⟩ := twice_at l i hi
  refine ⟨v, ?_, ?_⟩
  · rw [World.cell?_alloc_new]; simpa using h1
  · rw [World.cell?_alloc_new]; simpa using h2

set_option maxHeartbeats 1000000 in
theorem list42_any (w : World) :
    Calls Try.prog 42 #[] w fun e w' => e = .returned (.bool true) ∧ Grown w w' := by
  have F := fun w => are_new [0, 1, 2, 10, 11, 12, 13, 14, 15, 20, 21, 22, 23, 24, 30, 31, 32, 33, 34, 35, 36, 37, 38, 39, 50, 51, 52, 53, 100] (by simp) _ rfl 29 rfl w
  have HF := Lib.hid F; clear F
  go_enter Try.func42, Try.ntmps42
  go_wp2_with fail
  refine (HF.out _).mono ?_
  rintro e w' ⟨rfl, hg⟩
  go_wp2_with fail
  go_ret
  exact ⟨rfl, by assumption⟩

set_option maxHeartbeats 1000000 in
theorem list43_any (w : World) :
    Calls Try.prog 43 #[] w fun e w' => e = .returned (.bool true) ∧ Grown w w' := by
  have F := fun w => are_new [2000, 1048576, 4096, 65536, 2000, 200, 65536, 2000, 100000, 16777216, 1048576, 100000, 9221120237041090561, 9218868437227405312, 2143289345, 2139095040] (by simp) _ rfl 16 rfl w
  have HF := Lib.hid F; clear F
  go_enter Try.func43, Try.ntmps43
  go_wp2_with fail
  refine (HF.out _).mono ?_
  rintro e w' ⟨rfl, hg⟩
  go_wp2_with fail
  go_ret
  exact ⟨rfl, by assumption⟩

set_option maxHeartbeats 1000000 in
theorem list44_any (w : World) :
    Calls Try.prog 44 #[] w fun e w' => e = .returned (.bool true) ∧ Grown w w' := by
  have F := fun w => are_new [0, 1, 2, 3, 0, 1, 2, 3, 4, 1, 2, 3, 4, 5, 6, 7, 0, 1, 2, 3, 0, 1, 2, 3, 4, 0, 1, 2, 3] (by simp) _ rfl 29 rfl w
  have HF := Lib.hid F; clear F
  go_enter Try.func44, Try.ntmps44
  go_wp2_with fail
  refine (HF.out _).mono ?_
  rintro e w' ⟨rfl, hg⟩
  go_wp2_with fail
  go_ret
  exact ⟨rfl, by assumption⟩

end Go.Proofs.Ytdbeeclkknhjaaa
