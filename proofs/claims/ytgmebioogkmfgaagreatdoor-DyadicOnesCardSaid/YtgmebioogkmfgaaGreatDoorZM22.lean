/- Set, Abs, Neg, Sign, BitLen, TrailingZeroBits of whole numbers. Condition: it stands in each fact. -/
import Derived.Test.YtgmebioogkmfgaaGreatDoorZM21
namespace Go.Proofs.YtgmebioogkmfgaaGreatDoor
open Go.RowKit Go.Pt Go.Mem

theorem sizeI : (Tryz.prog.info? 81).map (·.size) = some 2 := by kernel_rfl

theorem neq_ints (w : World) {a b : Addr} {ca cb : Array Value} {ta tb : TypeId}
    (hne : a ≠ b) (ha : w.heap[a.block]? = some (.cells ca ta (0, 0))) (hb : w.heap[b.block]? = some (.cells cb tb (0, 0))) :
    (binOp .neq 59 (.pointer (some a)) (.pointer (some b))).run Tryz.prog w = .ok (.bool true) w := by
  cases hq : Tryz.prog.info? 81 with
  | none => have := sizeI; simp [hq] at this
  | some i =>
    have hi : i.size = 2 := by have := sizeI; simpa [hq] using this
    exact run_neq_ptr _ Tryz.underlying59 hq (by omega) hne ha hb

theorem neq_same (w : World) (a : Addr) :
    (binOp .neq 59 (.pointer (some a)) (.pointer (some a))).run Tryz.prog w = .ok (.bool false) w := by
  cases hq : Tryz.prog.info? 81 with
  | none => have := sizeI; simp [hq] at this
  | some i =>
    have h : ∀ d : Nat, (Op.equalIn (d + 1) 59 (.pointer (some a)) (.pointer (some a))).run Tryz.prog w = .ok true w := fun d => by
      simp [Op.equalIn, run_underlying Tryz.underlying59, sizeOf, typeInfo, hq, run_sameAddr_same]
    simp only [binOp]
    simp [Op.equal, Op.maxDepth, h 9999]

set_option maxRecDepth 100000 in
set_option maxHeartbeats 2000000 in
theorem intSet (z x : Nat) (vx : Value) (nz nx : Bool) (N K : Nat) (hzx : z ≠ x) (hK : K ≤ 800000) (w : World) (h0 : 0 < N) (hN : N < 2 ^ (64 * K)) (hz : IntV w z (.slice none 0 0) nz 0) (hx : IntV w x vx nx N) :
    Calls Tryz.prog 59 #[.pointer (some ⟨z, 0, none⟩), .pointer (some ⟨x, 0, none⟩)] w (IntPost z (Blk (.slice none 0 0)) nx N w) := by
  have hl := set_nil vx K hK w.drew N h0 (hx.2.drewN 1) hN
  have hne := neq_ints w (a := ⟨z, 0, none⟩) (b := ⟨x, 0, none⟩) (by intro e; exact hzx (congrArg Addr.block e)) hz.1 hx.1
  have z1 := hz.1.c1
  have x1 := hx.1.c1
  have x0 := hx.1.c0
  have HL := Lib.hid hl
  have HZ := Lib.hid hz
  have HX := Lib.hid hx
  clear hl hz hx
  go_enter Tryz.func59, Tryz.ntmps59
  go_wp2
  go_region_with (go_at_call 79; refine (HL.out).mono ?_; rintro e w1 ⟨v, rfl, v1, v2, v3⟩; obtain ⟨va, vn, vc, rfl⟩ := v1.slice; have sh := ((HZ.out).drewN 1).1.keep v3 (fun x => x); have k1 := sh.c1; have k2 := sh.free 1; have V := Lib.hid (And.intro v1 (And.intro v2 (And.intro v3.undrew sh))); clear v1 v2 v3 sh)
  all_goals
    have v3 : Fr w w1 (Blk (.slice none 0 0)) := V.out.2.2.1.mono (fun x _ h => h.elim)
    have v2 : ∀ b, Blk (.slice va vn vc) b → Blk (.slice none 0 0) b ∨ w.heap.size ≤ b := fun b hb => (V.out.2.1 b hb).elim (fun h => h.elim) Or.inr
    have q1 := sign_after (v := .slice va vn vc) HZ.out HX.out v3
    have q2 := sign_after (v := .slice va vn vc) HZ.out HZ.out v3
    have q3 := (V.out.2.2.2.setAbs (.slice va vn vc)).free 0
    have P : Hid (IntPost z (Blk (.slice none 0 0)) nx N w (.returned (.pointer (some ⟨z, 0, none⟩))) ((w1.setCell ⟨z, 1, none⟩ (.slice va vn vc)).setCell ⟨z, 0, none⟩ (.bool nx))) := fin_post HZ.out V.out.1 v2 v3
    clear v2 v3 hne
    generalize w1.setCell ⟨z, 1, none⟩ (.slice va vn vc) = w2 at q1 q2 q3 P ⊢
    go_wp2
    go_ret
    exact P.out

set_option maxRecDepth 100000 in
set_option maxHeartbeats 2000000 in
theorem intAbs (z x : Nat) (vx : Value) (nz nx : Bool) (N K : Nat) (hzx : z ≠ x) (hK : K ≤ 800000) (w : World) (h0 : 0 < N) (hN : N < 2 ^ (64 * K)) (hz : IntV w z (.slice none 0 0) nz 0) (hx : IntV w x vx nx N) :
    Calls Tryz.prog 38 #[.pointer (some ⟨z, 0, none⟩), .pointer (some ⟨x, 0, none⟩)] w (IntPost z (Blk (.slice none 0 0)) false N w) := by
  have hl := intSet z x vx nz nx N K hzx hK w h0 hN hz hx
  have HL := Lib.hid hl
  clear hl hz hx
  go_enter Tryz.func38, Tryz.ntmps38
  go_wp2_with fail
  refine (HL.out).mono ?_
  rintro e w1 ⟨rfl, v, v1, v2, v3⟩
  have k1 := v1.1.c0
  have k2 := v1.1.free 0
  have P : Hid (IntPost z (Blk (.slice none 0 0)) false N w (.returned (.pointer (some ⟨z, 0, none⟩))) (w1.setCell ⟨z, 0, none⟩ (.bool false))) :=
    ⟨rfl, v, v1.setNeg false, v2, v3.setCell (p := ⟨z, 0, none⟩) (Or.inl (Or.inl rfl)) _⟩
  clear v1 v2 v3
  go_wp2_with fail
  go_ret
  exact P.out

set_option maxRecDepth 100000 in
set_option maxHeartbeats 2000000 in
theorem intNeg (z : Nat) (vz : Value) (nz : Bool) (N : Nat) (w : World) (h0 : 0 < N) (hz : IntV w z vz nz N) :
    Calls Tryz.prog 37 #[.pointer (some ⟨z, 0, none⟩), .pointer (some ⟨z, 0, none⟩)] w fun e w' => e = .returned (.pointer (some ⟨z, 0, none⟩)) ∧ IntV w' z vz (!nz) N ∧ Fr w w' (One z) := by
  have hs : Calls Tryz.prog 59 #[.pointer (some ⟨z, 0, none⟩), .pointer (some ⟨z, 0, none⟩)] w fun e w' => e = .returned (.pointer (some ⟨z, 0, none⟩)) ∧ w = w' := by
    have hne := neq_same w ⟨z, 0, none⟩
    clear hz
    go_enter Tryz.func59, Tryz.ntmps59
    go_wp2
    go_ret
    exact ⟨rfl, rfl⟩
  obtain ⟨b, len, cap, l, rfl, hr, h1, h2, h3, h4, h5, h6⟩ := hz.2.pos h0
  have z0 := hz.1.c0
  have z1 := hz.1.c1
  have z2 := hz.1.free 0
  have i1 : (0 : Int) < (len : Int) := by omega
  have P : Hid (IntV (w.setCell ⟨z, 0, none⟩ (.bool (!nz))) z (.slice (some ⟨b, 0, none⟩) len cap) (!nz) N ∧ Fr w (w.setCell ⟨z, 0, none⟩ (.bool (!nz))) (One z)) :=
    ⟨hz.setNeg _, (Fr.refl w (One z)).setCell (p := ⟨z, 0, none⟩) (Or.inl rfl) _⟩
  have HS := Lib.hid hs
  clear hs hz hr h1 h4 h6
  go_enter Tryz.func37, Tryz.ntmps37
  go_wp2_with fail
  refine (HS.out).mono ?_
  rintro e w1 ⟨rfl, rfl⟩
  go_wp2_with fail
  go_ret
  exact ⟨rfl, P.out⟩

theorem intSign_zero (z : Nat) (vz : Value) (nz : Bool) (w : World) (hz : IntV w z vz nz 0) :
    Calls Tryz.prog 39 #[.pointer (some ⟨z, 0, none⟩)] w fun e w' => e = .returned (.int .i64 0) ∧ w = w' := by
  have z1 := hz.1.c1
  rcases hz.2.zero with rfl | ⟨b, cap, l, rfl, _⟩
  · clear hz
    go_enter Tryz.func39, Tryz.ntmps39
    go_wp2
    go_ret
    exact ⟨rfl, rfl⟩
  · clear hz
    go_enter Tryz.func39, Tryz.ntmps39
    go_wp2
    go_ret
    exact ⟨rfl, rfl⟩

theorem intSign_pos (z : Nat) (vz : Value) (nz : Bool) (N : Nat) (w : World) (h0 : 0 < N) (hz : IntV w z vz nz N) :
    Calls Tryz.prog 39 #[.pointer (some ⟨z, 0, none⟩)] w fun e w' => e = .returned (.int .i64 (if nz then -1 else 1)) ∧ w = w' := by
  have z1 := hz.1.c1
  have z0 := hz.1.c0
  obtain ⟨b, len, cap, l, rfl, hr, h1, h2, h3, h4, h5, h6⟩ := hz.2.pos h0
  have i1 : ((len : Int) == 0) = false := by simp; omega
  clear hz hr h1 h4 h6
  cases nz
  · go_enter Tryz.func39, Tryz.ntmps39
    go_wp2
    go_ret
    exact ⟨rfl, rfl⟩
  · go_enter Tryz.func39, Tryz.ntmps39
    go_wp2
    go_ret
    exact ⟨rfl, rfl⟩

theorem val_top {x : Nat → Nat} {n r : Nat} (h : ∀ j, x j < 18446744073709551616) (h0 : 0 < n) (hr : x (n - 1) < 2 ^ r) : val x n < 2 ^ ((n - 1) * 64 + r) := by
  obtain ⟨q, rfl⟩ : ∃ q, n = q + 1 := ⟨n - 1, by omega⟩
  rw [Nat.add_sub_cancel] at *
  have h1 := val_lt h q
  show val x q + x q * 2 ^ (64 * q) < _
  rw [Nat.pow_add, Nat.mul_comm q 64, Nat.mul_comm]
  have h2 : (x q + 1) * 2 ^ (64 * q) ≤ 2 ^ r * 2 ^ (64 * q) := Nat.mul_le_mul_right _ hr
  rw [Nat.add_mul, Nat.one_mul] at h2
  rw [Nat.mul_comm (2 ^ (64 * q)) (2 ^ r), Nat.mul_comm (2 ^ (64 * q)) (x q)]
  omega

set_option maxRecDepth 100000 in
theorem intBitLen (z : Nat) (vz : Value) (nz : Bool) (N K : Nat) (w : World) (h0 : 0 < N) (hK : K ≤ 800000) (hN : N < 2 ^ (64 * K)) (hz : IntV w z vz nz N) :
    Calls Tryz.prog 46 #[.pointer (some ⟨z, 0, none⟩)] w fun e w' => ∃ r : Nat, e = .returned (.int .i64 (r : Int)) ∧ r ≤ 64 * K ∧ N < 2 ^ r ∧ w = w' := by
  have z1 := hz.1.c1
  have hlen := fun b len cap (e : vz = .slice (some ⟨b, 0, none⟩) len cap) => NatV.len (w := w) (N := N) (b := b) (cap := cap) (by rw [← e]; exact hz.2) hN
  obtain ⟨b, len, cap, l, rfl, hr, h1, h2, h3, h4, h5, h6⟩ := hz.2.pos h0
  have hl := hlen b len cap rfl
  have H := Lib.hid (bitLen_any b len cap _ h5 (by omega) w (hr.2 (len - 1)) (hr.cell (i := len - 1) (by omega)))
  have HT : Hid (∀ r, l.getD (len - 1) 0 < 2 ^ r → N < 2 ^ ((len - 1) * 64 + r)) := fun r hlt => by rw [← h4]; exact val_top (x := fun j => l.getD j 0) hr.2 h5 hlt
  clear hz hr h1 h4 h6 hlen
  go_enter Tryz.func46, Tryz.ntmps46
  go_wp2_with fail
  refine (H.out).mono ?_
  rintro e w1 ⟨r, rfl, hr, hx, rfl⟩
  have HX := Lib.hid hx
  clear hx
  go_wp2_with fail
  go_ret
  have hle : (len - 1) * 64 + r ≤ 64 * K := by omega
  exact ⟨(len - 1) * 64 + r, rfl, hle, HT.out r HX.out, rfl⟩

set_option maxRecDepth 100000 in
theorem intTzb (z : Nat) (vz : Value) (nz : Bool) (N : Nat) (w : World) (h0 : N % 18446744073709551616 ≠ 0) (hz : IntV w z vz nz N) (hT : Tab w) :
    Calls Tryz.prog 44 #[.pointer (some ⟨z, 0, none⟩)] w fun e w' => e = .returned (.int .u64 (Lib.ctz 64 (N % 18446744073709551616))) ∧ w = w' := by
  have z1 := hz.1.c1
  obtain ⟨b, len, cap, l, rfl, hr, h1, h2, h3, h4, h5, h6⟩ := hz.2.pos (by omega)
  have e0 := low_word hr.2 h5
  rw [h4] at e0
  have e0' : l.getD 0 0 = N % 18446744073709551616 := e0
  have hc := hr.cell (i := 0) (by omega)
  rw [e0'] at hc
  have H := Lib.hid (tzb_low b len cap _ h5 h0 (Nat.mod_lt _ (by omega)) w hc hT)
  generalize N % 18446744073709551616 = X at H
  generalize Lib.ctz 64 X = k at H ⊢
  clear hz hr h1 h4 h6 hT e0 e0' hc
  go_enter Tryz.func44, Tryz.ntmps44
  go_wp2_with fail
  refine (H.out).mono ?_
  rintro e w1 ⟨rfl, rfl⟩
  go_wp2_with fail
  go_ret
  exact ⟨rfl, rfl⟩
end Go.Proofs.YtgmebioogkmfgaaGreatDoor
