/- The number of bits, the lowest bit. Condition: it stands in each fact. -/
import Derived.Test.YtgmebioogkmfgaaGreatDoorZM18
import Derived.Test.YtgmebioogkmfgaaGreatDoorM19a
import Derived.Shelf.Spec.TrailingZeros
namespace Go.Proofs.YtgmebioogkmfgaaGreatDoor
open Go.RowKit Go.Pt Go.Mem

set_option maxRecDepth 100000 in
theorem len_any (x : Nat) (w : World) (h1 : x < 18446744073709551616) :
    Calls Tryz.prog 99 #[.int .u64 (x : Int)] w fun e w' => e = .returned (.int .i64 (Lib.bitLen x)) ∧ w = w' := by
  have h := len64 x w (by omega) (by omega)
  rw [Int.toNat_natCast] at h
  have H := Lib.hid h
  clear h
  go_enter Tryz.func99, Tryz.ntmps99
  go_wp2_with fail
  refine (H.out).mono ?_
  rintro e w' ⟨rfl, rfl⟩
  go_wp2_with fail
  go_ret
  exact ⟨rfl, rfl⟩

theorem or_in (a : Nat) (b : Int) (ha : a < 18446744073709551616) : ∃ v : Nat, bits .or .u64 (a : Int) b = (v : Int) ∧ v < 18446744073709551616 ∧ a ≤ v := by
  have e : bits .or .u64 (a : Int) b = IntKind.u64.wrap ((BitVec.ofInt 64 (a : Int) ||| BitVec.ofInt 64 b).toNat : Int) := rfl
  have hlt := (BitVec.ofInt 64 (a : Int) ||| BitVec.ofInt 64 b).isLt
  have hle : a ≤ (BitVec.ofInt 64 (a : Int) ||| BitVec.ofInt 64 b).toNat := by
    rw [BitVec.toNat_or, BitVec.ofInt_natCast, BitVec.toNat_ofNat, Nat.mod_eq_of_lt (by omega)]
    exact Nat.left_le_or
  generalize (BitVec.ofInt 64 (a : Int) ||| BitVec.ofInt 64 b).toNat = m at e hlt hle
  rw [e, IntKind.wrap_u64]
  exact ⟨m, by omega, by omega, hle⟩

theorem aux_lt : ∀ (f x : Nat), x < 2 ^ f → x < 2 ^ Lib.bitLenAux f x
  | 0, x, h => by simpa [Lib.bitLenAux] using h
  | f + 1, x, h => by
    unfold Lib.bitLenAux
    split
    · rename_i e; subst e; simp
    · have := aux_lt f (x / 2) (by rw [Nat.pow_succ] at h; omega)
      rw [Nat.add_comm, Nat.pow_succ]
      omega

theorem lt_bitLen (x : Nat) (h : x < 18446744073709551616) : x < 2 ^ Lib.bitLen x := aux_lt 64 x h

set_option maxRecDepth 100000 in
theorem bitLen_any (b len cap X : Nat) (h0 : 0 < len) (hl : len ≤ 800000) (w : World) (hX1 : X < 18446744073709551616) (hX : w.cell? ⟨b, len - 1, none⟩ = some (.int .u64 (X : Int))) :
    Calls Tryz.prog 72 #[.slice (some ⟨b, 0, none⟩) len cap] w fun e w' => ∃ r : Nat, e = .returned (.int .i64 (((len - 1) * 64 + r : Nat) : Int)) ∧ r ≤ 64 ∧ X < 2 ^ r ∧ w = w' := by
  obtain ⟨v1, e1, l1, g1⟩ := or_in X ((X : Int) / 2) hX1
  obtain ⟨v2, e2, l2, g2⟩ := or_in v1 ((v1 : Int) / 4) l1
  obtain ⟨v3, e3, l3, g3⟩ := or_in v2 ((v2 : Int) / 16) l2
  obtain ⟨v4, e4, l4, g4⟩ := or_in v3 ((v3 : Int) / 256) l3
  obtain ⟨v5, e5, l5, g5⟩ := or_in v4 ((v4 : Int) / 65536) l4
  obtain ⟨v6, e6, l6, g6⟩ := or_in v5 ((v5 : Int) / 65536 / 65536) l5
  have hL := fun w => len_any v6 w l6
  have hb := Lib.bitLen_le v6 64 (by omega) l6
  have hB : Hid (X < 2 ^ Lib.bitLen v6) := Nat.lt_of_le_of_lt (by omega) (lt_bitLen v6 l6)
  have HL := Lib.hid hL
  obtain ⟨q, rfl⟩ : ∃ q, len = q + 1 := ⟨len - 1, by omega⟩
  rw [Nat.add_sub_cancel] at hX
  clear hL g1 g2 g3 g4 g5 g6
  rw [Nat.add_sub_cancel]
  go_enter Tryz.func72, Tryz.ntmps72
  go_wp2_with fail
  refine (HL.out _).mono ?_
  rintro e w1 ⟨rfl, rfl⟩
  generalize Lib.bitLen v6 = r at hb hB
  go_wp2_with fail
  go_ret
  refine ⟨r, ?_, hb, hB.out, rfl⟩
  show Ending.returned (.int .i64 ((q : Int) * 64 + (r : Int))) = _
  rw [show ((q * 64 + r : Nat) : Int) = (q : Int) * 64 + (r : Int) by omega]

/-- The table of the lowest bits lies in its variable. -/
def Tab (w : World) : Prop := TabAt 3 Lib.deBruijn64tab w

set_option maxHeartbeats 1000000 in
theorem tz64_core (x k idx : Nat) (w : World) (hx0 : ((x : Int) == 0) = false)
    (key : IntKind.u64.wrap (bits BinOp.and IntKind.u64 (x : Int) (IntKind.u64.wrap (-(x : Int))) * 285870213051353865) / 288230376151711744 = (idx : Int))
    (hi : idx < 64) (hk : k < 64) (hcell : w.cell? ⟨3, idx, none⟩ = some (.int .u8 k)) :
    Calls Tryz.prog 107 #[.int .u64 x] w fun e w' => e = .returned (.int .i64 k) ∧ w = w' := by
  go_enter Tryz.func107, Tryz.ntmps107
  go_wp2_with (simp only [key])
  go_ret
  exact ⟨rfl, rfl⟩

theorem tz64 (x : Nat) (hx : x < 18446744073709551616) (hx0 : x ≠ 0) (w : World) (hT : Tab w) :
    Calls Tryz.prog 107 #[.int .u64 x] w fun e w' => e = .returned (.int .i64 (Lib.ctz 64 x)) ∧ w = w' := by
  obtain ⟨hlow, hk⟩ := Lib.lowest_bit 64 x hx0 hx
  obtain ⟨hi, htab⟩ := Lib.deBruijn64_at _ hk
  have hcell := hT _ hi
  rw [htab] at hcell
  exact tz64_core x _ _ w (by simp; omega) (tz64_key x _ hx hx0 hlow) hi hk hcell

set_option maxRecDepth 100000 in
theorem tz_any (x : Nat) (hx : x < 18446744073709551616) (hx0 : x ≠ 0) (w : World) (hT : Tab w) :
    Calls Tryz.prog 87 #[.int .u64 x] w fun e w' => e = .returned (.int .i64 (Lib.ctz 64 x)) ∧ w = w' := by
  have H := Lib.hid (tz64 x hx hx0 w hT)
  clear hT
  go_enter Tryz.func87, Tryz.ntmps87
  go_wp2_with fail
  refine (H.out).mono ?_
  rintro e w' ⟨rfl, rfl⟩
  go_wp2_with fail
  go_ret
  exact ⟨rfl, rfl⟩

set_option maxRecDepth 100000 in
theorem tzb_low (b len cap X : Nat) (h0 : 0 < len) (hX0 : X ≠ 0) (hX1 : X < 18446744073709551616) (w : World) (hX : w.cell? ⟨b, 0, none⟩ = some (.int .u64 (X : Int))) (hT : Tab w) :
    Calls Tryz.prog 68 #[.slice (some ⟨b, 0, none⟩) len cap] w fun e w' => e = .returned (.int .u64 (Lib.ctz 64 X)) ∧ w = w' := by
  have H := Lib.hid (tz_any X hX1 hX0 w hT)
  have hk := (Lib.lowest_bit 64 X hX0 hX1).2
  have hx0 : ((X : Int) == 0) = false := by simp; omega
  have hl0 : ((len : Int) == 0) = false := by simp; omega
  have hl : (0 : Int) < (len : Int) := by omega
  generalize Lib.ctz 64 X = k at hk H
  clear hT hX0 hX1
  go_enter Tryz.func68, Tryz.ntmps68
  go_wp2
  go_loopw [3] (fun i wr => i = .int .u64 0 ∧ w = wr) (fun i _ => 1 - (intOf i).toNat)
  case atStart => exact ⟨rfl, rfl⟩
  case round =>
    obtain ⟨rfl, rfl⟩ := hrel
    go_wp2_with fail
    refine (H.out).mono ?_
    rintro e w1 ⟨rfl, rfl⟩
    go_wp2_with fail
    go_ret
    exact ⟨rfl, rfl⟩
end Go.Proofs.YtgmebioogkmfgaaGreatDoor
