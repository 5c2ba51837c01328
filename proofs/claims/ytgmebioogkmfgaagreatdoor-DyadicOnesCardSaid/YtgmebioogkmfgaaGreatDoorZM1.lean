/- The loops of math/big over rows of words. Condition: it stands in each fact. -/
import Derived.Test.YtgmebioogkmfgaaGreatDoorM0
import Derived.Test.YtgmebioogkmfgaaGreatDoorRows
import Derived.Test.YtgmebioogkmfgaaGreatDoorQC
import Derived.StillTailTactics
namespace Go.Proofs.YtgmebioogkmfgaaGreatDoor
open Go.RowKit Go.Pt Go.Mem

/-- The length without the zeros on top. -/
def NormOf (l : List Nat) (len k : Nat) : Prop := k ≤ len ∧ (∀ i, k ≤ i → i < len → l.getD i 0 = 0) ∧ (0 < k → l.getD (k - 1) 0 ≠ 0)

def NormPost (b cap : Nat) (l : List Nat) (len : Nat) (w : World) (e : Ending) (w' : World) : Prop := ∃ k : Nat, e = .returned (.slice (some ⟨b, 0, none⟩) k cap) ∧ NormOf l len k ∧ w = w'

set_option maxRecDepth 100000 in
set_option maxHeartbeats 1000000 in
theorem norm_row (b len cap : Nat) (l : List Nat) (hl : l.length = cap) (hn : len ≤ cap) (hm : cap ≤ 1000000) (w : World) (h : Row w b l) :
    Calls Tryz.prog 91 #[.slice (some ⟨b, 0, none⟩) len cap] w (NormPost b cap l len w) := by
  have H := Lib.hid h
  clear h
  go_enter Tryz.func91, Tryz.ntmps91
  go_wp2
  go_loop [3] (fun i => ∃ k : Nat, k ≤ len ∧ i = .int .i64 k ∧ ∀ j, k ≤ j → j < len → l.getD j 0 = 0) (fun i => (intOf i).toNat)
  case atStart => exact ⟨len, by omega, rfl, fun j h1 h2 => by omega⟩
  case round =>
    obtain ⟨k, hk, rfl, hz⟩ := hrel
    have HZ := Lib.hid hz
    clear hz
    rcases Nat.eq_zero_or_pos k with rfl | c
    · go_wp2
      go_ret
      exact ⟨0, rfl, ⟨by omega, HZ.out, by omega⟩, rfl⟩
    · obtain ⟨q, rfl⟩ : ∃ q, k = q + 1 := ⟨k - 1, by omega⟩
      have hc := H.out.cell (i := q) (by omega)
      generalize hv : l.getD q 0 = v at hc
      have HV := Lib.hid hv
      clear hv
      by_cases z : v = 0
      · subst z
        go_wp2
        go_round
        case rel =>
          refine ⟨q, by omega, by go_num, fun j h1 h2 => ?_⟩
          by_cases e : j = q
          · subst e; exact HV.out
          · exact HZ.out j (by omega) h2
        case measure => simp [intOf]
      · have z' : ((v : Int) == 0) = false := beq_eq_false_iff_ne.2 (by omega)
        clear z
        go_wp2
        go_ret
        refine ⟨q + 1, by simp, ⟨by omega, HZ.out, fun _ => ?_⟩, rfl⟩
        rw [Nat.add_sub_cancel, HV.out]
        have := beq_eq_false_iff_ne.1 z'
        omega

end Go.Proofs.YtgmebioogkmfgaaGreatDoor
