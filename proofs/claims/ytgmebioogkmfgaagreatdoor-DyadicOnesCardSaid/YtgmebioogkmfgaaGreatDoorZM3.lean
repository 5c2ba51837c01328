/- The shift to the right of a row of words. Condition: it stands in each fact. -/
import Derived.Test.YtgmebioogkmfgaaGreatDoorZM2
namespace Go.Proofs.YtgmebioogkmfgaaGreatDoor
open Go.RowKit Go.Pt Go.Mem

theorem or_add' {s : Nat} (hs : s < 64) (a b : Nat) (ha : a < 18446744073709551616) (hd : a % 2 ^ s = 0) (hb : b < 2 ^ s) : bits .or .u64 (b : Int) (a : Int) = ((b + a : Nat) : Int) := by
  rw [Nat.add_comm, ← or_add hs a b ha hd hb]
  show IntKind.u64.wrap ((BitVec.ofInt 64 (b : Int) ||| BitVec.ofInt 64 (a : Int)).toNat : Int) = IntKind.u64.wrap ((BitVec.ofInt 64 (a : Int) ||| BitVec.ofInt 64 (b : Int)).toNat : Int)
  rw [BitVec.or_comm]

theorem rsh_word {s : Nat} (h0 : 0 < s) (hs : s < 64) (x y : Nat) (hx : x < 18446744073709551616) :
    bits .or .u64 ((x : Int) / 2 ^ s) (IntKind.u64.wrap ((y : Int) * 2 ^ (64 - s))) = ((x / 2 ^ s + y * 2 ^ (64 - s) % 18446744073709551616 : Nat) : Int) := by
  rw [shl_form, shr_form]
  have := shr_lt (s := 64 - s) (by omega) hx
  rw [show 64 - (64 - s) = s by omega] at this
  exact or_add' (by omega) _ _ (Nat.mod_lt _ (by decide)) (shl_mod (by omega) y) this

/-- One word of a shift to the right of m words. -/
def rshW (s m : Nat) (x : Nat → Nat) (j : Nat) : Nat := x j / 2 ^ s + if j + 1 < m then x (j + 1) * 2 ^ (64 - s) % 18446744073709551616 else 0

theorem rshW_lt {s m : Nat} (h0 : 0 < s) (hs : s < 64) {x : Nat → Nat} (hx : ∀ j, x j < 18446744073709551616) (j : Nat) : rshW s m x j < 18446744073709551616 := by
  unfold rshW
  have h1 := shr_lt (s := 64 - s) (by omega) (hx j)
  rw [show 64 - (64 - s) = s by omega] at h1
  rw [Nat.add_comm]
  split
  · exact add_lt (s := 64 - s) (by omega) _ _ (Nat.mod_lt _ (by decide)) (shl_mod (by omega) _) h1
  · have := hx j
    have := Nat.div_le_self (x j) (2 ^ s)
    omega

def RshInv (zb xb xo q s : Nat) (x : Nat → Nat) (zl : List Nat) (k : Nat) (w wr : World) : Prop :=
  ∃ zl' : List Nat, zl'.length = zl.length ∧ Row wr zb zl' ∧ (∀ j, j + 1 < k → zl'.getD j 0 = rshW s (q + 1) x j) ∧ (∀ j, q < j → zl'.getD j 0 = zl.getD j 0) ∧
    (∀ j, k ≤ j + 1 → j ≤ q → wr.cell? ⟨xb, xo + j, none⟩ = some (.int .u64 (x j : Int))) ∧ Fr w wr (One zb)

def RshPost (zb q s : Nat) (x : Nat → Nat) (zl : List Nat) (w : World) (e : Ending) (w' : World) : Prop :=
  ∃ c : Int, e = .returned (.int .u64 c) ∧ ∃ zl' : List Nat, zl'.length = zl.length ∧ Row w' zb zl' ∧ (∀ j, j ≤ q → zl'.getD j 0 = rshW s (q + 1) x j) ∧ (∀ j, q < j → zl'.getD j 0 = zl.getD j 0) ∧ Fr w w' (One zb)

set_option maxRecDepth 100000 in
set_option maxHeartbeats 1000000 in
theorem rshVU_row (zb xb xo m s zc xc : Nat) (x : Nat → Nat) (zl : List Nat) (hs : 0 < s) (hs2 : s < 64) (hm : 0 < m) (hm2 : m < 1000000) (hxo : xo < 1000000) (hx : ∀ j, x j < 18446744073709551616) (hz : m ≤ zl.length)
    (w : World) (hr : Row w zb zl) (hc : ∀ j, j < m → w.cell? ⟨xb, xo + j, none⟩ = some (.int .u64 (x j : Int))) :
    Calls Tryz.prog 56 #[.slice (some ⟨zb, 0, none⟩) m zc, .slice (some ⟨xb, xo, none⟩) m xc, .int .u64 (s : Int)] w (RshPost zb (m - 1) s x zl w) := by
  have HR := Lib.hid hr
  have HC := Lib.hid hc
  have HX := Lib.hid hx
  clear hr hc hx
  obtain ⟨q, rfl⟩ : ∃ q, m = q + 1 := ⟨m - 1, by omega⟩
  have a1 := and_63 s
  rw [Nat.mod_eq_of_lt hs2] at a1
  have a2 := and_63 (64 - s)
  rw [Nat.mod_eq_of_lt (by omega), show ((64 - s : Nat) : Int) = 64 - (s : Int) by omega] at a2
  have c0 := HC.out 0 (by omega)
  rw [Nat.add_zero] at c0
  have q0 : ((q : Int) + 1 == 0) = false := beq_eq_false_iff_ne.2 (by omega)
  have sz : ((s : Int) == 0) = false := beq_eq_false_iff_ne.2 (by omega)
  go_enter Tryz.func56, Tryz.ntmps56
  go_wp2
  go_loopw [8] (fun i wr => ∃ k : Nat, 1 ≤ k ∧ k ≤ q + 1 ∧ i = .int .i64 k ∧ RshInv zb xb xo q s x zl k w wr) (fun i _ => q + 1 - (intOf i).toNat)
  case atStart => exact ⟨1, by omega, by omega, rfl, zl, rfl, HR.out, fun j h1 => by omega, fun j _ => rfl, fun j _ hj => HC.out j (by omega), Fr.refl _ _⟩
  case round =>
    obtain ⟨k, hk0, hk, rfl, hi⟩ := hrel
    have HI := Lib.hid hi
    clear hi c0
    by_cases c : k ≤ q
    · obtain ⟨zl', z1, z2, z3, z4, z5, z6⟩ := HI.out
      have c1 := z5 k (by omega) c
      have c2 := z5 (k - 1) (by omega) (by omega)
      have c3 := z2.cell (i := k - 1) (by omega)
      have c4 := z2.free (k - 1)
      generalize hv : zl'.getD (k - 1) 0 = v at c3
      have HV := Lib.hid hv
      have H1 := Lib.hid z1
      have H2 := Lib.hid z2
      have H3 := Lib.hid z3
      have H4 := Lib.hid z4
      have H5 := Lib.hid z5
      have H6 := Lib.hid z6
      clear hv z1 z2 z3 z4 z5 z6
      have i0 : (0 : Int) ≤ (k : Int) := by omega
      have i1 : (k : Int) < (q : Int) + 1 := by omega
      have i2 : IntKind.i64.wrap ((k : Int) - 1) = (k : Int) - 1 := IntWalk.i64_in _ (by omega)
      have i3 : (1 : Int) ≤ (k : Int) := by omega
      have i4 : ((k : Int) - 1).toNat = k - 1 := by omega
      have i5 : (k : Int) - 1 < (q : Int) + 1 := by omega
      have j0 : (0 : Int) ≤ 64 - (s : Int) := by omega
      have j1 : (0 : Int) ≤ (s : Int) := by omega
      go_wp2
      go_still_tail 18, (by kernel_rfl)
      have d3 : wr.drew.cell? ⟨zb, k - 1, none⟩ = some (.int .u64 (v : Int)) := c3
      have d4 : wr.drew.frozen? ⟨zb, k - 1, none⟩ = false := c4
      have E2 : Hid (Row wr.drew zb zl') := H2.out
      have E5 : Hid (∀ j, k ≤ j + 1 → j ≤ q → wr.drew.cell? ⟨xb, xo + j, none⟩ = some (.int .u64 (x j : Int))) := H5.out
      have E6 : Hid (Fr w wr.drew (One zb)) := Lib.hid H6.out.drew
      change wpList _ _ _ _ _ wr.drew
      generalize wr.drew = w2 at d3 d4 E2 E5 E6 ⊢
      clear c1 c2 c3 c4 H2 H5 H6 HI
      go_wp2
      go_roundw
      case rel =>
        refine ⟨k + 1, by omega, by omega, by go_num, zl'.set (k - 1) (rshW s (q + 1) x (k - 1)), by rw [List.length_set]; exact H1.out, ?_, ?_, ?_, ?_, ?_⟩
        · have := E2.out.set (k - 1) (rshW s (q + 1) x (k - 1)) (rshW_lt hs hs2 HX.out _)
          rw [rsh_word hs hs2 _ _ (HX.out _)]
          have e : rshW s (q + 1) x (k - 1) = x (k - 1) / 2 ^ s + x k * 2 ^ (64 - s) % 18446744073709551616 := by unfold rshW; rw [if_pos (by omega), show k - 1 + 1 = k by omega]
          rw [e] at this
          rw [e]
          exact this
        · intro j h1
          by_cases e : j = k - 1
          · subst e; exact getD_set_self _ _ _ (by rw [H1.out]; omega)
          · rw [getD_set_ne _ _ _ _ (by omega)]; exact H3.out j (by omega)
        · intro j h1
          rw [getD_set_ne _ _ _ _ (by omega)]; exact H4.out j h1
        · intro j h1 h2
          rw [World.cell?_setCell_other _ _ _ _ (by intro e; have := congrArg Addr.off e; simp at this; omega)]
          exact E5.out j (by omega) h2
        · exact E6.out.setCell (p := ⟨zb, k - 1, none⟩) (Or.inl rfl) _
      case measure => simp [intOf]; omega
    · obtain rfl : k = q + 1 := by omega
      obtain ⟨zl', z1, z2, z3, z4, z5, z6⟩ := HI.out
      have c1 := z5 q (by omega) (by omega)
      have c3 := z2.cell (i := q) (by omega)
      have c4 := z2.free q
      generalize hv : zl'.getD q 0 = v at c3
      have H1 := Lib.hid z1
      have H2 := Lib.hid z2
      have H3 := Lib.hid z3
      have H4 := Lib.hid z4
      have H6 := Lib.hid z6
      clear hv z1 z2 z3 z4 z5 z6 HI
      go_wp2
      go_ret
      refine ⟨_, rfl, zl'.set q (x q / 2 ^ s), by rw [List.length_set]; exact H1.out, ?_, ?_, ?_, ?_⟩
      · have := H2.out.set q (x q / 2 ^ s) (Nat.lt_of_le_of_lt (Nat.div_le_self _ _) (HX.out q))
        rw [← shr_form] at this
        exact this
      · intro j hj
        simp only [Nat.add_sub_cancel] at hj ⊢
        by_cases e : j = q
        · subst e
          rw [getD_set_self _ _ _ (by rw [H1.out]; omega)]
          unfold rshW; rw [if_neg (by omega), Nat.add_zero]
        · rw [getD_set_ne _ _ _ _ (by omega)]
          exact H3.out j (by omega)
      · intro j hj
        simp only [Nat.add_sub_cancel] at hj
        rw [getD_set_ne _ _ _ _ (by omega)]
        exact H4.out j hj
      · exact H6.out.setCell (p := ⟨zb, q, none⟩) (Or.inl rfl) _

end Go.Proofs.YtgmebioogkmfgaaGreatDoor
