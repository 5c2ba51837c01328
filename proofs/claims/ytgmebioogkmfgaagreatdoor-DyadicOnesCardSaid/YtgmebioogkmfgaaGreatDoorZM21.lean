/- Rsh, And, Or of whole numbers. Condition: it stands in each fact. -/
import Derived.Test.YtgmebioogkmfgaaGreatDoorZM20
namespace Go.Proofs.YtgmebioogkmfgaaGreatDoor
open Go.RowKit Go.Pt Go.Mem

set_option maxRecDepth 100000 in
set_option maxHeartbeats 2000000 in
theorem intRsh (z x : Nat) (vz vx : Value) (nz : Bool) (M N R : Nat) (s : Int) (w : World) (hz : IntV w z vz nz M) (hx : IntV w x vx false N)
    (hl : Calls Tryz.prog 70 #[vz, vx, .int .u64 s] w.drew (NatPost (Blk vz) R w.drew)) :
    Calls Tryz.prog 45 #[.pointer (some ⟨z, 0, none⟩), .pointer (some ⟨x, 0, none⟩), .int .u64 s] w (IntPost z (Blk vz) false R w) := by
  have z1 := hz.1.c1
  have x1 := hx.1.c1
  have x0 := hx.1.c0
  have HL := Lib.hid hl
  have HZ := Lib.hid hz
  have HX := Lib.hid hx
  clear hl hz hx
  go_enter Tryz.func45, Tryz.ntmps45
  go_wp2
  go_region_with (go_at_call 70; refine (HL.out).mono ?_; rintro e w1 ⟨v, rfl, v1, v2, v3⟩; obtain ⟨va, vn, vc, rfl⟩ := v1.slice; have sh := ((HZ.out).drewN 1).1.keep v3 (((HZ.out).drewN 1).1.blk ((HZ.out).drewN 1).2); have k1 := sh.c1; have k2 := sh.free 1; have V := Lib.hid (And.intro v1 (And.intro v2 (And.intro v3.undrew sh))); clear v1 v2 v3 sh)
  all_goals
    have q2 := sign_after (v := .slice va vn vc) HZ.out HZ.out V.out.2.2.1
    have q3 := (V.out.2.2.2.setAbs (.slice va vn vc)).free 0
    have P : Hid (IntPost z (Blk vz) false R w (.returned (.pointer (some ⟨z, 0, none⟩))) ((w1.setCell ⟨z, 1, none⟩ (.slice va vn vc)).setCell ⟨z, 0, none⟩ (.bool false))) := fin_post HZ.out V.out.1 V.out.2.1 V.out.2.2.1
    generalize w1.setCell ⟨z, 1, none⟩ (.slice va vn vc) = w2 at q2 q3 P ⊢
    go_wp2
    go_ret
    exact P.out

set_option maxRecDepth 100000 in
set_option maxHeartbeats 4000000 in
theorem intAnd (z x y : Nat) (vx vy : Value) (nz : Bool) (N : Nat) (w : World) (h0 : 0 < N) (hz : IntV w z (.slice none 0 0) nz 0) (hx : IntV w x vx false N) (hy : IntV w y vy false 1073741823) :
    Calls Tryz.prog 48 #[.pointer (some ⟨z, 0, none⟩), .pointer (some ⟨x, 0, none⟩), .pointer (some ⟨y, 0, none⟩)] w (IntPost z (Blk (.slice none 0 0)) false (N % 1073741824) w) := by
  have z1 := hz.1.c1
  have x1 := hx.1.c1
  have x0 := hx.1.c0
  have y1 := hy.1.c1
  have y0 := hy.1.c0
  have HZ := Lib.hid hz
  have HX := Lib.hid hx
  have HY := Lib.hid hy
  clear hz hx hy
  go_enter Tryz.func48, Tryz.ntmps48
  go_wp2
  go_quiet (fail)
  have F : Hid (Fr w (w.drewN nq) None) := (Fr.refl w None).drewN nq
  have GZ : Hid (IntV (w.drewN nq) z (.slice none 0 0) nz 0) := (HZ.out).drewN nq
  have GX : Hid (IntV (w.drewN nq) x vx false N) := (HX.out).drewN nq
  have GY : Hid (IntV (w.drewN nq) y vy false 1073741823) := (HY.out).drewN nq
  clear z1 x1 x0 y1 y0
  generalize w.drewN nq = w' at F GZ GX GY ⊢
  have z1 := GZ.out.1.c1
  have x1 := GX.out.1.c1
  have x0 := GX.out.1.c0
  have y1 := GY.out.1.c1
  have HL := Lib.hid (and_mask vx vy w'.drew N h0 (GX.out.2.drewN 1) (GY.out.2.drewN 1))
  go_wp2
  go_region_with (go_at_call 74; refine (HL.out).mono ?_; rintro e w1 ⟨v, rfl, v1, v2, v3⟩; obtain ⟨va, vn, vc, rfl⟩ := v1.slice; have sh := ((GZ.out).drewN 1).1.keep v3 (fun x => x); have k1 := sh.c1; have k2 := sh.free 1; have V := Lib.hid (And.intro v1 (And.intro v2 (And.intro v3.undrew sh))); clear v1 v2 v3 sh)
  all_goals
    have v3 : Fr w w1 (Blk (.slice none 0 0)) := (F.out).trans V.out.2.2.1 (fun x h => h.elim) (fun x _ h => h.elim)
    have v2 : ∀ b, Blk (.slice va vn vc) b → Blk (.slice none 0 0) b ∨ w.heap.size ≤ b := fun b hb => (V.out.2.1 b hb).elim (fun h => h.elim) (fun h => Or.inr (Nat.le_trans F.out.size h))
    have q2 := sign_after (v := .slice va vn vc) HZ.out HZ.out v3
    have q3 := (V.out.2.2.2.setAbs (.slice va vn vc)).free 0
    have P : Hid (IntPost z (Blk (.slice none 0 0)) false (N % 1073741824) w (.returned (.pointer (some ⟨z, 0, none⟩))) ((w1.setCell ⟨z, 1, none⟩ (.slice va vn vc)).setCell ⟨z, 0, none⟩ (.bool false))) := fin_post HZ.out V.out.1 v2 v3
    clear v2 v3
    generalize w1.setCell ⟨z, 1, none⟩ (.slice va vn vc) = w2 at q2 q3 P ⊢
    go_wp2
    go_ret
    exact P.out

set_option maxRecDepth 100000 in
set_option maxHeartbeats 4000000 in
theorem intOr (z y : Nat) (vz vy : Value) (N d : Nat) (w : World) (hm : N % 1073741824 = 0) (hd : d < 1073741824) (h0 : 0 < N + d) (hz : IntV w z vz false N) (hy : IntV w y vy false d) :
    Calls Tryz.prog 51 #[.pointer (some ⟨z, 0, none⟩), .pointer (some ⟨z, 0, none⟩), .pointer (some ⟨y, 0, none⟩)] w (IntPost z (Blk vz) false (N + d) w) := by
  have z1 := hz.1.c1
  have z0 := hz.1.c0
  have y1 := hy.1.c1
  have y0 := hy.1.c0
  have HZ := Lib.hid hz
  have HY := Lib.hid hy
  clear hz hy
  go_enter Tryz.func51, Tryz.ntmps51
  go_wp2
  go_quiet (fail)
  have F : Hid (Fr w (w.drewN nq) None) := (Fr.refl w None).drewN nq
  have GZ : Hid (IntV (w.drewN nq) z vz false N) := (HZ.out).drewN nq
  have GY : Hid (IntV (w.drewN nq) y vy false d) := (HY.out).drewN nq
  clear z1 z0 y1 y0
  generalize w.drewN nq = w' at F GZ GY ⊢
  have z1 := GZ.out.1.c1
  have z0 := GZ.out.1.c0
  have y1 := GY.out.1.c1
  have HL := Lib.hid (or_any vz vy N d w'.drew (GZ.out.2.drewN 1) (GY.out.2.drewN 1) hm hd h0)
  go_wp2
  go_region_with (go_at_call 73; refine (HL.out).mono ?_; rintro e w1 ⟨v, rfl, v1, v2, v3⟩; obtain ⟨va, vn, vc, rfl⟩ := v1.slice; have sh := ((GZ.out).drewN 1).1.keep v3 (((GZ.out).drewN 1).1.blk ((GZ.out).drewN 1).2); have k1 := sh.c1; have k2 := sh.free 1; have V := Lib.hid (And.intro v1 (And.intro v2 (And.intro v3.undrew sh))); clear v1 v2 v3 sh)
  all_goals
    have v3 : Fr w w1 (Blk vz) := (F.out).trans V.out.2.2.1 (fun x h => h.elim) (fun x _ h => h)
    have v2 : ∀ b, Blk (.slice va vn vc) b → Blk vz b ∨ w.heap.size ≤ b := fun b hb => (V.out.2.1 b hb).elim Or.inl (fun h => Or.inr (Nat.le_trans F.out.size h))
    have q2 := sign_after (v := .slice va vn vc) HZ.out HZ.out v3
    have q3 := (V.out.2.2.2.setAbs (.slice va vn vc)).free 0
    have P : Hid (IntPost z (Blk vz) false (N + d) w (.returned (.pointer (some ⟨z, 0, none⟩))) ((w1.setCell ⟨z, 1, none⟩ (.slice va vn vc)).setCell ⟨z, 0, none⟩ (.bool false))) := fin_post HZ.out V.out.1 v2 v3
    clear v2 v3
    generalize w1.setCell ⟨z, 1, none⟩ (.slice va vn vc) = w2 at q2 q3 P ⊢
    go_wp2
    go_ret
    exact P.out
end Go.Proofs.YtgmebioogkmfgaaGreatDoor
