/- Small facts for the rows: an int that is well formed lies in its bounds; a world that is the same is grown. No condition. -/
import Derived.Test.YtgmebioogkmfgaaGreatDoorPt
import Derived.ProofKit
import Derived.WalkKit
namespace Go.Pt
open Go.RowKit
theorem i64_of_wf {b : Int} (h : (Lit.int .i64 b).wf = true) : I64 b := by
  simp [Lit.wf, IntKind.min, IntKind.max, IntKind.signed, IntKind.bits] at h
  unfold I64
  omega
theorem Grown.same {w w' : World} (h : w = w') : Grown w w' := by subst h; exact Grown.refl _
theorem Grown.trans {w w1 w2 : World} (h : Grown w w1) (g : Grown w1 w2) : Grown w w2 :=
  ⟨World.keptBut_trans h.1 g.1, fun a => (g.2.1 a).trans (h.2.1 a), Nat.le_trans h.2.2 g.2.2⟩
theorem dec_beq (x y : Int) : decide (x = y) = (x == y) := by
  by_cases c : x = y
  · rw [decide_eq_true c, beq_iff_eq.2 c]
  · rw [decide_eq_false c, beq_eq_false_iff_ne.2 c]
end Go.Pt
