/- The walk of BitsAll: the call returns true, and what was there is as it was. Condition: the script is a row of asks, each of whole ints. -/
import Derived.Test.YtdbeeclkknhjaaaX4
import Derived.Below
namespace Go.Pt
open Go.RowKit

theorem Grown.block {W W' : World} (h : Go.RowKit.Grown W W') {k : Nat} (hk : k < W.heap.size) : W'.heap[k]? = W.heap[k]? := by
  have a := h.1.2.2 k hk
  split at a
  · rename_i c t fr c' t' fr' e1 e2
    obtain ⟨rfl, rfl, hs, hc⟩ := a
    rw [e1, e2]
    have : c' = c := by
      apply Array.ext_getElem?
      intro j
      exact hc j (fun x => x)
    rw [this]
  · rename_i es cl es' cl' e1 e2
    rw [e1, e2]
    rcases a with a | ⟨rfl, rfl⟩
    · exact a.elim
    · rfl
  · exact a

theorem Grown.cell {W W' : World} (h : Go.RowKit.Grown W W') {a : Addr} (ha : a.block < W.heap.size) : W'.cell? a = W.cell? a := World.cell?_of_block (w := W) (Grown.block h ha)

theorem Grown.same' {W W' : World} (h : Go.RowKit.Grown W W') {p : MemPlace} (hp : p.block < W.heap.size) : W.sameAt W' p := by
  cases p with
  | cell b o => exact World.cell?_of_block (w := W) (Grown.block h hp)
  | map b => exact Grown.block h hp

/-- A row of asks. -/
def Asks (w : World) (b off len : Nat) : Prop := ∀ i, i < len → ∃ (k x y : Int) (n : Bool), I64 k ∧ I64 x ∧ I64 y ∧
  w.cell? ⟨b, off + i * 4, none⟩ = some (.int .i64 k) ∧ w.cell? ⟨b, off + i * 4 + 1, none⟩ = some (.int .i64 x) ∧ w.cell? ⟨b, off + i * 4 + 2, none⟩ = some (.int .i64 y) ∧ w.cell? ⟨b, off + i * 4 + 3, none⟩ = some (.bool n)
end Go.Pt
namespace Go.Proofs.Ytdbeeclkknhjaaa
open Go.RowKit Go.Pt

set_option maxRecDepth 100000 in
set_option maxHeartbeats 2000000 in
theorem all_row (b off len cap : Nat) (w : World) (hb : b < w.heap.size) (ha : Asks w b off len) :
    Calls Try.prog 16 #[.slice (some ⟨b, off, none⟩) len cap] w fun e w' => e = .returned (.bool true) ∧ Grown w w' := by
  have HA := Lib.hid ha
  clear ha
  go_enter Try.func16, Try.ntmps16
  go_wp2
  go_loopw [3] (fun i wr => ∃ k : Nat, k ≤ len ∧ k ≤ 200 ∧ i = .int .i64 k ∧ Grown w wr) (fun i _ => 200 - (intOf i).toNat)
  case atStart => exact ⟨0, by omega, by omega, rfl, Grown.refl _⟩
  case round =>
    obtain ⟨k, hk, hk2, rfl, hg⟩ := hrel
    by_cases hlt : k < len ∧ k < 200
    · obtain ⟨h1, h2⟩ := hlt
      obtain ⟨q, x, y, n, iq, ix, iy, c0, c1, c2, c3⟩ := HA.out k h1
      rw [← Grown.cell hg hb] at c0 c1 c2 c3
      have HG := Lib.hid hg
      clear hg
      have jx : x < 9223372036854775808 := by have := ix.2; omega
      go_wp2_with (first | (go_at_call 18; refine (lawParts _ (by assumption) _).mono ?_; rintro e w' ⟨rfl, rfl⟩) | (go_at_call 27; refine (lawParts32 _ (by assumption) _).mono ?_; rintro e w' ⟨rfl, rfl⟩) | (go_at_call 41; refine (joined_any _ _ _ jx _).mono ?_; rintro e w' ⟨rfl, hj⟩) | (go_at_call 36; refine (turned_any _ (by assumption) _).mono ?_; rintro e w' ⟨rfl, hj⟩) | (go_at_call 33; refine (turned32_any _ (by assumption) _).mono ?_; rintro e w' ⟨rfl, hj⟩) | (go_at_call 28; refine (ordered_any _ _ (by assumption) (by assumption) _).mono ?_; rintro e w' ⟨rfl, rfl⟩))
      all_goals (refine ⟨⟨k + 1, by omega, by omega, by go_num, ?_⟩, by simp [intOf]; omega⟩)
      all_goals (first | exact Go.Pt.Grown.trans (HG.out.alloc _ _) (by assumption) | exact HG.out.alloc _ _)
    · have HG := Lib.hid hg
      clear hg
      by_cases h1 : k < len
      · have h2 : ¬ k < 200 := fun c => hlt ⟨h1, c⟩
        clear hlt
        go_wp2_with (go_at_call 17; refine (alive_any _).mono ?_; rintro e w' ⟨rfl, rfl⟩)
        go_ret
        exact ⟨rfl, HG.out⟩
      · clear hlt
        go_wp2_with (go_at_call 17; refine (alive_any _).mono ?_; rintro e w' ⟨rfl, rfl⟩)
        go_ret
        exact ⟨rfl, HG.out⟩

set_option maxRecDepth 100000 in
set_option maxHeartbeats 2000000 in
theorem all_nil (a : Option Addr) (cap : Nat) (w : World) : Calls Try.prog 16 #[.slice a 0 cap] w fun e w' => e = .returned (.bool true) ∧ Grown w w' := by
  go_enter Try.func16, Try.ntmps16
  go_wp2
  go_loopw [3] (fun i wr => i = .int .i64 0 ∧ wr = w) (fun i _ => 0)
  case atStart => exact ⟨rfl, rfl⟩
  case round =>
    obtain ⟨rfl, rfl⟩ := hrel
    go_wp2_with (go_at_call 17; refine (alive_any _).mono ?_; rintro e w' ⟨rfl, rfl⟩)
    go_ret
    exact ⟨rfl, Grown.refl _⟩
end Go.Proofs.Ytdbeeclkknhjaaa
