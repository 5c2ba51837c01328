/- The sum of a small whole number and a greater one. Condition: it stands in each fact. -/
import Derived.Test.YtgmebioogkmfgaaGreatDoorZM24
namespace Go.Proofs.YtgmebioogkmfgaaGreatDoor
open Go.RowKit Go.Pt Go.Mem

/-- The end of a sum: the slice laid in, then the sign. -/
theorem sum_post {w w' w1 : World} {z N : Nat} {v : Value} {nz nx : Bool} (hz : IntV w z (.slice none 0 0) nz 0) (f : Fr w w' None) (v1 : NatV w1 v N) (v2 : ∀ b, Blk v b → None b ∨ w'.heap.size ≤ b) (v3 : Fr w' w1 None) :
    IntPost z (Blk (.slice none 0 0)) nx N w (.returned (.pointer (some ⟨z, 0, none⟩))) ((w1.setCell ⟨z, 1, none⟩ v).setCell ⟨z, 0, none⟩ (.bool nx)) :=
  fin_post hz v1 (fun b hb => (v2 b hb).elim (fun h => h.elim) (fun h => Or.inr (Nat.le_trans f.size h))) (f.trans v3 (fun _ h => h.elim) (fun _ _ h => h.elim))

theorem len_pos {w : World} {a : Option Addr} {n c N : Nat} (h : NatV w (.slice a n c) N) (h0 : 0 < N) : 0 < n := by
  obtain ⟨b, len, cap, l, e, _, _, _, _, _, h5, _⟩ := h.pos h0
  cases e
  exact h5

set_option maxRecDepth 100000 in
set_option maxHeartbeats 8000000 in
theorem intAdd_same (z x y : Nat) (vx vy : Value) (nz s : Bool) (N d : Nat) (w : World) (hd : 0 < d) (hN : d < N) (hN2 : N < 2 ^ (64 * 2)) (h : N % 18446744073709551616 + d < 18446744073709551616)
    (hz : IntV w z (.slice none 0 0) nz 0) (hx : IntV w x vx s d) (hy : IntV w y vy s N) :
    Calls Tryz.prog 52 #[.pointer (some ⟨z, 0, none⟩), .pointer (some ⟨x, 0, none⟩), .pointer (some ⟨y, 0, none⟩)] w (IntPost z (Blk (.slice none 0 0)) s (N + d) w) := by
  have z1 := hz.1.c1
  have x1 := hx.1.c1
  have x0 := hx.1.c0
  have y1 := hy.1.c1
  have y0 := hy.1.c0
  have HZ := Lib.hid hz
  have HX := Lib.hid hx
  have HY := Lib.hid hy
  have HH := Lib.hid (And.intro hd (And.intro hN (And.intro hN2 h)))
  have es : (s == s) = true := by simp
  clear hz hx hy hd hN hN2 h
  go_enter Tryz.func52, Tryz.ntmps52
  go_wp2
  go_quiet (fail)
  have F : Hid (Fr w (w.drewN nq) None) := (Fr.refl w None).drewN nq
  have GZ : Hid (IntV (w.drewN nq) z (.slice none 0 0) nz 0) := (HZ.out).drewN nq
  have GX : Hid (IntV (w.drewN nq) x vx s d) := (HX.out).drewN nq
  have GY : Hid (IntV (w.drewN nq) y vy s N) := (HY.out).drewN nq
  clear z1 x1 x0 y1 y0
  generalize w.drewN nq = w' at F GZ GX GY ⊢
  have z1 := GZ.out.1.c1
  have x1 := GX.out.1.c1
  have y1 := GY.out.1.c1
  have HL := Lib.hid (add_le vy vx N d w'.drew (GY.out.2.drewN 1) (GX.out.2.drewN 1) (by have := HH.out; omega) HH.out.2.2.1 HH.out.1 HH.out.2.2.2)
  go_wp2
  go_region_with (go_at_call 71; refine (HL.out).mono ?_; rintro e w1 ⟨v, rfl, v1, v2, v3⟩; obtain ⟨va, vn, vc, rfl⟩ := v1.slice; have sh := ((GZ.out).drewN 1).1.keep v3 (fun x => x); have k1 := sh.c1; have k2 := sh.free 1; have V := Lib.hid (And.intro v1 (And.intro v2 (And.intro v3.undrew sh))); clear v1 v2 v3 sh)
  all_goals
    have i1 : (0 : Int) < (vn : Int) := by have := len_pos V.out.1 (by have := HH.out; omega); omega
    have q1 := (V.out.2.2.2.setAbs (.slice va vn vc)).c1
    have q2 := (V.out.2.2.2.setAbs (.slice va vn vc)).c0
    have q3 := (V.out.2.2.2.setAbs (.slice va vn vc)).free 0
    have P : Hid (IntPost z (Blk (.slice none 0 0)) s (N + d) w (.returned (.pointer (some ⟨z, 0, none⟩))) ((w1.setCell ⟨z, 1, none⟩ (.slice va vn vc)).setCell ⟨z, 0, none⟩ (.bool s))) := sum_post HZ.out F.out V.out.1 V.out.2.1 V.out.2.2.1
    generalize w1.setCell ⟨z, 1, none⟩ (.slice va vn vc) = w2 at q1 q2 q3 P ⊢
    go_wp2
    go_ret
    exact P.out

set_option maxRecDepth 100000 in
set_option maxHeartbeats 8000000 in
theorem intAdd_diff (z x y : Nat) (vx vy : Value) (nz s : Bool) (N d : Nat) (w : World) (hd : 0 < d) (hN : d < N) (hN2 : N < 2 ^ (64 * 2)) (h : d ≤ N % 18446744073709551616)
    (hz : IntV w z (.slice none 0 0) nz 0) (hx : IntV w x vx (!s) d) (hy : IntV w y vy s N) :
    Calls Tryz.prog 52 #[.pointer (some ⟨z, 0, none⟩), .pointer (some ⟨x, 0, none⟩), .pointer (some ⟨y, 0, none⟩)] w (IntPost z (Blk (.slice none 0 0)) s (N - d) w) := by
  have z1 := hz.1.c1
  have x1 := hx.1.c1
  have x0 := hx.1.c0
  have y1 := hy.1.c1
  have y0 := hy.1.c0
  have HZ := Lib.hid hz
  have HX := Lib.hid hx
  have HY := Lib.hid hy
  have HH := Lib.hid (And.intro hd (And.intro hN (And.intro hN2 h)))
  have es : ((!s) == s) = false := by cases s <;> rfl
  have en : (!(!s)) = s := by cases s <;> rfl
  clear hz hx hy hd hN hN2 h
  go_enter Tryz.func52, Tryz.ntmps52
  go_wp2
  go_quiet (fail)
  have F : Hid (Fr w (w.drewN nq) None) := (Fr.refl w None).drewN nq
  have GZ : Hid (IntV (w.drewN nq) z (.slice none 0 0) nz 0) := (HZ.out).drewN nq
  have GX : Hid (IntV (w.drewN nq) x vx (!s) d) := (HX.out).drewN nq
  have GY : Hid (IntV (w.drewN nq) y vy s N) := (HY.out).drewN nq
  clear z1 x1 x0 y1 y0
  generalize w.drewN nq = w' at F GZ GX GY ⊢
  have x1 := GX.out.1.c1
  have y1 := GY.out.1.c1
  have HC : Hid (∀ n, Calls Tryz.prog 78 #[vx, vy] (w'.drewN n) fun e w'' => e = .returned (.int .i64 (-1)) ∧ ∃ m, w'' = w'.drewN m) := fun n =>
    Calls.quiet_of (cmp_lt vy vx N d (w'.drewN n) (GY.out.2.drewN n) (GX.out.2.drewN n) HH.out.2.2.1 HH.out.1 (by have := HH.out; omega) HH.out.2.1)
  go_wp2
  go_quiet (exact HC.out _)
  clear HC
  have F' : Hid (Fr w (w'.drewN nq) None) := (F.out).drewN nq
  have GZ' : Hid (IntV (w'.drewN nq) z (.slice none 0 0) nz 0) := (GZ.out).drewN nq
  have GX' : Hid (IntV (w'.drewN nq) x vx (!s) d) := (GX.out).drewN nq
  have GY' : Hid (IntV (w'.drewN nq) y vy s N) := (GY.out).drewN nq
  clear x1 y1 F GZ GX GY
  generalize w'.drewN nq = w' at F' GZ' GX' GY' ⊢
  have z1 := GZ'.out.1.c1
  have x1 := GX'.out.1.c1
  have y1 := GY'.out.1.c1
  have HL := Lib.hid (sub_ge vy vx N d w'.drew (GY'.out.2.drewN 1) (GX'.out.2.drewN 1) (by have := HH.out; omega) HH.out.2.2.1 HH.out.1 HH.out.2.2.2)
  go_wp2
  go_region_with (go_at_call 69; refine (HL.out).mono ?_; rintro e w1 ⟨v, rfl, v1, v2, v3⟩; obtain ⟨va, vn, vc, rfl⟩ := v1.slice; have sh := ((GZ'.out).drewN 1).1.keep v3 (fun x => x); have k1 := sh.c1; have k2 := sh.free 1; have V := Lib.hid (And.intro v1 (And.intro v2 (And.intro v3.undrew sh))); clear v1 v2 v3 sh)
  all_goals
    have i1 : (0 : Int) < (vn : Int) := by have := len_pos V.out.1 (by have := HH.out; omega); omega
    have q1 := (V.out.2.2.2.setAbs (.slice va vn vc)).c1
    have q2 := (V.out.2.2.2.setAbs (.slice va vn vc)).c0
    have q3 := (V.out.2.2.2.setAbs (.slice va vn vc)).free 0
    have P : Hid (IntPost z (Blk (.slice none 0 0)) s (N - d) w (.returned (.pointer (some ⟨z, 0, none⟩))) ((w1.setCell ⟨z, 1, none⟩ (.slice va vn vc)).setCell ⟨z, 0, none⟩ (.bool s))) := sum_post HZ.out F'.out V.out.1 V.out.2.1 V.out.2.2.1
    generalize w1.setCell ⟨z, 1, none⟩ (.slice va vn vc) = w2 at q1 q2 q3 P ⊢
    go_wp2
    go_ret
    exact P.out
end Go.Proofs.YtgmebioogkmfgaaGreatDoor
