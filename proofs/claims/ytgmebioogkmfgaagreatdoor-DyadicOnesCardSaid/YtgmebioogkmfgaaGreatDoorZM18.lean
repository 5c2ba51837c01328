/- The order of a word and a number. Condition: it stands in each fact. -/
import Derived.Test.YtgmebioogkmfgaaGreatDoorZM17
namespace Go.Proofs.YtgmebioogkmfgaaGreatDoor
open Go.RowKit Go.Pt Go.Mem

set_option maxRecDepth 100000 in
set_option maxHeartbeats 1000000 in
theorem cmp2 (yb yc xb xc : Nat) (w : World) :
    Calls Tryz.prog 78 #[.slice (some ⟨yb, 0, none⟩) 1 yc, .slice (some ⟨xb, 0, none⟩) 2 xc] w fun e w' => e = .returned (.int .i64 (-1)) ∧ ∃ m, w' = w.drewN m := by
  go_enter Tryz.func78, Tryz.ntmps78
  go_wp2
  go_ret
  exact ⟨rfl, 0, rfl⟩

set_option maxRecDepth 100000 in
set_option maxHeartbeats 1000000 in
theorem cmp1 (yb yc xb xc X Y : Nat) (h : Y < X) (w : World) (hx : w.cell? ⟨xb, 0, none⟩ = some (.int .u64 (X : Int))) (hy : w.cell? ⟨yb, 0, none⟩ = some (.int .u64 (Y : Int))) :
    Calls Tryz.prog 78 #[.slice (some ⟨yb, 0, none⟩) 1 yc, .slice (some ⟨xb, 0, none⟩) 1 xc] w fun e w' => e = .returned (.int .i64 (-1)) ∧ ∃ m, w' = w.drewN m := by
  have i1 : (Y : Int) < (X : Int) := by omega
  have i2 : decide ((Y : Int) < (X : Int)) = true := decide_eq_true i1
  go_enter Tryz.func78, Tryz.ntmps78
  go_wp2
  go_loopw [7] (fun i wr => i = .int .i64 0 ∧ w = wr) (fun i _ => 1 - (intOf i).toNat)
  case atStart => exact ⟨rfl, rfl⟩
  case round =>
    obtain ⟨rfl, rfl⟩ := hrel
    go_wp2
    go_quiet (fail)
    have F2 : Hid (∃ m, w.drewN nq = w.drewN m) := ⟨_, rfl⟩
    have hx2 : (w.drewN nq).cell? ⟨xb, 0, none⟩ = some (.int .u64 (X : Int)) := by rw [← hx]; exact World.cell?_drewN _ _ _
    have hy2 : (w.drewN nq).cell? ⟨yb, 0, none⟩ = some (.int .u64 (Y : Int)) := by rw [← hy]; exact World.cell?_drewN _ _ _
    generalize w.drewN nq = w2 at F2 hx2 hy2 ⊢
    clear hx hy
    go_wp2
    go_quiet (fail)
    have F3 : Hid (∃ m, w2.drewN nq = w.drewN m) := by
      obtain ⟨m, e⟩ := F2.out
      exact ⟨m + nq, by rw [e, World.drewN_drewN]⟩
    generalize w2.drewN nq = w3 at F3 ⊢
    go_wp2
    go_ret
    exact ⟨rfl, F3.out⟩

theorem cmp_lt (x y : Value) (N d : Nat) (w : World) (hx : NatV w x N) (hy : NatV w y d) (hN2 : N < 2 ^ (64 * 2)) (hd : 0 < d) (hd2 : d < 18446744073709551616) (h : d < N) :
    Calls Tryz.prog 78 #[y, x] w fun e w' => e = .returned (.int .i64 (-1)) ∧ ∃ m, w' = w.drewN m := by
  have hlen := fun b len cap (e : x = .slice (some ⟨b, 0, none⟩) len cap) => NatV.len (w := w) (N := N) (b := b) (cap := cap) (K := 2) (by rw [← e]; exact hx) hN2
  obtain ⟨b, len, cap, l, rfl, hr, h1, h2, h3, h4, h5, h6⟩ := hx.pos (by omega)
  have hl := hlen b len cap rfl
  obtain ⟨yb, yc, yl, rfl, yr, y1, y2, y3, y4⟩ := hy.one hd hd2
  by_cases c : len = 1
  · subst c
    have e0 := low_word hr.2 h5
    have e1 : l.getD 0 0 = N := by rw [← h4]; simp [val]
    refine cmp1 yb yc b cap N d h w ?_ ?_
    · have := hr.cell (i := 0) (by omega); rw [e1] at this; exact this
    · have := yr.cell (i := 0) (by omega); rw [y4] at this; exact this
  · obtain rfl : len = 2 := by omega
    exact cmp2 yb yc b cap w
end Go.Proofs.YtgmebioogkmfgaaGreatDoor
