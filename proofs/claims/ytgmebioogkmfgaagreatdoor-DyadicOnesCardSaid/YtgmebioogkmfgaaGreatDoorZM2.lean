/- The shifts of rows of words. Condition: it stands in each fact. -/
import Derived.Test.YtgmebioogkmfgaaGreatDoorZM1
import Derived.IntWalk
namespace Go.Proofs.YtgmebioogkmfgaaGreatDoor
open Go.RowKit Go.Pt Go.Mem

theorem and_63 (x : Nat) : bits .and .u64 (x : Int) 63 = ((x % 64 : Nat) : Int) := by
  show IntKind.u64.wrap ((BitVec.ofInt 64 (x : Int) &&& BitVec.ofInt 64 63).toNat : Int) = _
  rw [BitVec.toNat_and, BitVec.ofInt_natCast, BitVec.toNat_ofNat, show (BitVec.ofInt 64 63).toNat = 2 ^ 6 - 1 by decide, Nat.and_two_pow_sub_one_eq_mod, IntKind.wrap_u64]
  omega

theorem add_lt {s : Nat} (hs : s < 64) (a b : Nat) (ha : a < 18446744073709551616) (hd : a % 2 ^ s = 0) (hb : b < 2 ^ s) : a + b < 18446744073709551616 := by
  have hp0 := Nat.two_pow_pos s
  obtain ⟨q, rfl⟩ : ∃ q, a = 2 ^ s * q := ⟨a / 2 ^ s, by have := Nat.div_add_mod a (2 ^ s); omega⟩
  have h1 : 2 ^ s * q + 2 ^ s ≤ 18446744073709551616 := by
    have e : (18446744073709551616 : Nat) = 2 ^ s * 2 ^ (64 - s) := by rw [← Nat.pow_add, show s + (64 - s) = 64 by omega]
    rw [e] at ha ⊢
    have hq : q < 2 ^ (64 - s) := Nat.lt_of_mul_lt_mul_left ha
    rw [← Nat.mul_succ]
    exact Nat.mul_le_mul_left _ hq
  omega

theorem or_add {s : Nat} (hs : s < 64) (a b : Nat) (ha : a < 18446744073709551616) (hd : a % 2 ^ s = 0) (hb : b < 2 ^ s) : bits .or .u64 (a : Int) (b : Int) = ((a + b : Nat) : Int) := by
  have hp : 2 ^ s ≤ 2 ^ 63 := Nat.pow_le_pow_right (by omega) (by omega)
  have hp0 := Nat.two_pow_pos s
  obtain ⟨q, rfl⟩ : ∃ q, a = 2 ^ s * q := ⟨a / 2 ^ s, by have := Nat.div_add_mod a (2 ^ s); omega⟩
  have k := Nat.two_pow_add_eq_or_of_lt hb q
  have lt : 2 ^ s * q + b < 18446744073709551616 := by
    have h1 : 2 ^ s * q + 2 ^ s ≤ 18446744073709551616 := by
      have e : (18446744073709551616 : Nat) = 2 ^ s * 2 ^ (64 - s) := by rw [← Nat.pow_add, show s + (64 - s) = 64 by omega]
      rw [e] at ha ⊢
      have hq : q < 2 ^ (64 - s) := Nat.lt_of_mul_lt_mul_left ha
      rw [← Nat.mul_succ]
      exact Nat.mul_le_mul_left _ hq
    omega
  show IntKind.u64.wrap ((BitVec.ofInt 64 ((2 ^ s * q : Nat) : Int) ||| BitVec.ofInt 64 (b : Int)).toNat : Int) = _
  rw [BitVec.toNat_or, toNat_ofNat64 ha, toNat_ofNat64 (by omega), ← k]
  exact wrap_u64_of (by omega) (by omega)

theorem pow_cast (s : Nat) : ((2 : Int) ^ s) = ((2 ^ s : Nat) : Int) := by push_cast; rfl

theorem shl_mod {s : Nat} (hs : s < 64) (x : Nat) : x * 2 ^ s % 18446744073709551616 % 2 ^ s = 0 := by
  have e : (18446744073709551616 : Nat) = 2 ^ (64 - s) * 2 ^ s := by rw [← Nat.pow_add, show 64 - s + s = 64 by omega]
  rw [e, Nat.mul_mod_mul_right, Nat.mul_mod_left]

theorem shr_lt {s : Nat} (hs : s < 64) {y : Nat} (hy : y < 18446744073709551616) : y / 2 ^ (64 - s) < 2 ^ s := by
  rw [Nat.div_lt_iff_lt_mul (Nat.two_pow_pos _), ← Nat.pow_add, show s + (64 - s) = 64 by omega]
  exact hy

theorem shl_form (s x : Nat) : IntKind.u64.wrap ((x : Int) * 2 ^ s) = ((x * 2 ^ s % 18446744073709551616 : Nat) : Int) := by
  rw [IntKind.wrap_u64, pow_cast, ← Int.natCast_mul]; rfl

theorem shr_form (s x : Nat) : (x : Int) / 2 ^ s = ((x / 2 ^ s : Nat) : Int) := by rw [pow_cast]; rfl

theorem lsh_word {s : Nat} (hs : s < 64) (x y : Nat) (hy : y < 18446744073709551616) :
    bits .or .u64 (IntKind.u64.wrap ((x : Int) * 2 ^ s)) ((y : Int) / 2 ^ (64 - s)) = ((x * 2 ^ s % 18446744073709551616 + y / 2 ^ (64 - s) : Nat) : Int) := by
  rw [shl_form, shr_form]
  exact or_add hs _ _ (Nat.mod_lt _ (by decide)) (shl_mod hs x) (shr_lt hs hy)

/-- One word of a shift to the left. -/
def lshW (s : Nat) (x : Nat → Nat) (j : Nat) : Nat := x j * 2 ^ s % 18446744073709551616 + if j = 0 then 0 else x (j - 1) / 2 ^ (64 - s)

theorem lshW_lt {s : Nat} (hs : s < 64) {x : Nat → Nat} (hx : ∀ j, x j < 18446744073709551616) (j : Nat) : lshW s x j < 18446744073709551616 := by
  unfold lshW
  refine add_lt hs _ _ (Nat.mod_lt _ (by decide)) (shl_mod hs _) ?_
  split
  · exact Nat.two_pow_pos s
  · exact shr_lt hs (hx _)

def LshInv (zb xb q s : Nat) (x : Nat → Nat) (zl : List Nat) (k : Nat) (w wr : World) : Prop :=
  ∃ zl' : List Nat, zl'.length = zl.length ∧ Row wr zb zl' ∧ (∀ j, k < j → j ≤ q → zl'.getD j 0 = lshW s x j) ∧ (∀ j, q < j → zl'.getD j 0 = zl.getD j 0) ∧
    (∀ j, j ≤ k → wr.cell? ⟨xb, j, none⟩ = some (.int .u64 (x j : Int))) ∧ Fr w wr (One zb)

def LshPost (zb q s : Nat) (x : Nat → Nat) (zl : List Nat) (w : World) (e : Ending) (w' : World) : Prop :=
  e = .returned (.int .u64 ((x q / 2 ^ (64 - s) : Nat) : Int)) ∧ ∃ zl' : List Nat, zl'.length = zl.length ∧ Row w' zb zl' ∧ (∀ j, j ≤ q → zl'.getD j 0 = lshW s x j) ∧ (∀ j, q < j → zl'.getD j 0 = zl.getD j 0) ∧ Fr w w' (One zb)

theorem getD_set_self (l : List Nat) (i n : Nat) (h : i < l.length) : (l.set i n).getD i 0 = n := by simp [List.getD_eq_getElem?_getD, h]
theorem getD_set_ne (l : List Nat) (i j n : Nat) (h : i ≠ j) : (l.set i n).getD j 0 = l.getD j 0 := by simp [List.getD_eq_getElem?_getD, h]

set_option maxRecDepth 100000 in
set_option maxHeartbeats 1000000 in
theorem lshVU_row (zb xb m s zc xc : Nat) (x : Nat → Nat) (zl : List Nat) (hs : 0 < s) (hs2 : s < 64) (hm : 0 < m) (hm2 : m < 1000000) (hx : ∀ j, x j < 18446744073709551616) (hz : m ≤ zl.length)
    (w : World) (hr : Row w zb zl) (hc : ∀ j, j < m → w.cell? ⟨xb, j, none⟩ = some (.int .u64 (x j : Int))) :
    Calls Tryz.prog 55 #[.slice (some ⟨zb, 0, none⟩) m zc, .slice (some ⟨xb, 0, none⟩) m xc, .int .u64 (s : Int)] w (LshPost zb (m - 1) s x zl w) := by
  have HR := Lib.hid hr
  have HC := Lib.hid hc
  have HX := Lib.hid hx
  clear hr hc hx
  obtain ⟨q, rfl⟩ : ∃ q, m = q + 1 := ⟨m - 1, by omega⟩
  have a1 := and_63 s
  rw [Nat.mod_eq_of_lt hs2] at a1
  have a2 := and_63 (64 - s)
  rw [Nat.mod_eq_of_lt (by omega), show ((64 - s : Nat) : Int) = 64 - (s : Int) by omega] at a2
  have c0 := HC.out q (by omega)
  have q0 : ((q : Int) + 1 == 0) = false := beq_eq_false_iff_ne.2 (by omega)
  have sz : ((s : Int) == 0) = false := beq_eq_false_iff_ne.2 (by omega)
  go_enter Tryz.func55, Tryz.ntmps55
  go_wp2
  go_loopw [8] (fun i wr => ∃ k : Nat, k ≤ q ∧ i = .int .i64 k ∧ LshInv zb xb q s x zl k w wr) (fun i _ => (intOf i).toNat)
  case atStart => exact ⟨q, by omega, rfl, zl, rfl, HR.out, fun j h1 h2 => by omega, fun j _ => rfl, fun j hj => HC.out j (by omega), Fr.refl _ _⟩
  case round =>
    obtain ⟨k, hk, rfl, hi⟩ := hrel
    have HI := Lib.hid hi
    clear hi c0
    rcases Nat.eq_zero_or_pos k with rfl | c
    · obtain ⟨zl', z1, z2, z3, z4, z5, z6⟩ := HI.out
      have c1 := z5 0 (by omega)
      have c3 := z2.cell (i := 0) (by omega)
      have c4 := z2.free 0
      generalize hv : zl'.getD 0 0 = v at c3
      have H1 := Lib.hid z1
      have H2 := Lib.hid z2
      have H3 := Lib.hid z3
      have H4 := Lib.hid z4
      have H6 := Lib.hid z6
      clear hv z1 z2 z3 z4 z5 z6 HI
      go_wp2
      go_ret
      refine ⟨?_, zl'.set 0 (x 0 * 2 ^ s % 18446744073709551616), by rw [List.length_set]; exact H1.out, ?_, ?_, ?_, ?_⟩
      · rw [Nat.add_sub_cancel, ← shr_form]; rfl
      · have := H2.out.set 0 (x 0 * 2 ^ s % 18446744073709551616) (Nat.mod_lt _ (by decide))
        rw [← shl_form] at this
        exact this
      · intro j hj
        by_cases e : j = 0
        · subst e
          rw [getD_set_self _ _ _ (by rw [H1.out]; omega)]
          unfold lshW; simp
        · rw [getD_set_ne _ _ _ _ (by omega)]
          exact H3.out j (by omega) (by simpa using hj)
      · intro j hj
        rw [getD_set_ne _ _ _ _ (by omega)]
        exact H4.out j (by simpa using hj)
      · exact H6.out.setCell (p := ⟨zb, 0, none⟩) (Or.inl rfl) _
    · obtain ⟨zl', z1, z2, z3, z4, z5, z6⟩ := HI.out
      have c1 := z5 k (by omega)
      have c2 := z5 (k - 1) (by omega)
      have c3 := z2.cell (i := k) (by omega)
      have c4 := z2.free k
      generalize hv : zl'.getD k 0 = v at c3
      have HV := Lib.hid hv
      have H1 := Lib.hid z1
      have H2 := Lib.hid z2
      have H3 := Lib.hid z3
      have H4 := Lib.hid z4
      have H5 := Lib.hid z5
      have H6 := Lib.hid z6
      clear hv z1 z2 z3 z4 z5 z6
      have i0 : (0 : Int) ≤ (k : Int) := by omega
      have i1 : (k : Int) < (q : Int) + 1 := by omega
      have i2 : IntKind.i64.wrap ((k : Int) - 1) = (k : Int) - 1 := IntWalk.i64_in _ (by omega)
      have i3 : (1 : Int) ≤ (k : Int) := by omega
      have i4 : ((k : Int) - 1).toNat = k - 1 := by omega
      have i5 : (k : Int) - 1 < (q : Int) + 1 := by omega
      have j0 : (0 : Int) ≤ 64 - (s : Int) := by omega
      have j1 : (0 : Int) ≤ (s : Int) := by omega
      go_wp2
      go_still_tail 17, (by kernel_rfl)
      have d3 : wr.drew.cell? ⟨zb, k, none⟩ = some (.int .u64 (v : Int)) := c3
      have d4 : wr.drew.frozen? ⟨zb, k, none⟩ = false := c4
      have E2 : Hid (Row wr.drew zb zl') := H2.out
      have E5 : Hid (∀ j, j ≤ k → wr.drew.cell? ⟨xb, j, none⟩ = some (.int .u64 (x j : Int))) := H5.out
      have E6 : Hid (Fr w wr.drew (One zb)) := Lib.hid H6.out.drew
      change wpList _ _ _ _ _ wr.drew
      generalize wr.drew = w2 at d3 d4 E2 E5 E6 ⊢
      clear c1 c2 c3 c4 H2 H5 H6 HI
      go_wp2
      go_roundw
      case rel =>
        refine ⟨k - 1, by omega, by rw [show ((k - 1 : Nat) : Int) = (k : Int) - 1 by omega], zl'.set k (lshW s x k), by rw [List.length_set]; exact H1.out, ?_, ?_, ?_, ?_, ?_⟩
        · have := E2.out.set k (lshW s x k) (lshW_lt hs2 HX.out k)
          rw [lsh_word hs2 _ _ (HX.out _)]
          have e : lshW s x k = x k * 2 ^ s % 18446744073709551616 + x (k - 1) / 2 ^ (64 - s) := by unfold lshW; rw [if_neg (by omega)]
          rw [e] at this
          rw [e]
          exact this
        · intro j h1 h2
          by_cases e : j = k
          · subst e; exact getD_set_self _ _ _ (by rw [H1.out]; omega)
          · rw [getD_set_ne _ _ _ _ (by omega)]; exact H3.out j (by omega) h2
        · intro j h1
          rw [getD_set_ne _ _ _ _ (by omega)]; exact H4.out j h1
        · intro j hj
          rw [World.cell?_setCell_other _ _ _ _ (by intro e; have := congrArg Addr.off e; simp at this; omega)]
          exact E5.out j (by omega)
        · exact E6.out.setCell (p := ⟨zb, k, none⟩) (Or.inl rfl) _
      case measure => simp [intOf]; omega

end Go.Proofs.YtgmebioogkmfgaaGreatDoor
