/- rsh on numbers. Condition: it stands in each fact. -/
import Derived.Test.YtgmebioogkmfgaaGreatDoorZM8
namespace Go.Proofs.YtgmebioogkmfgaaGreatDoor
open Go.RowKit Go.Pt Go.Mem

/-- The upper words of a number. -/
theorem val_split (x : Nat → Nat) (q : Nat) : ∀ n, val x (q + n) = val x q + val (fun j => x (q + j)) n * 2 ^ (64 * q)
  | 0 => by simp [val]
  | n + 1 => by
    show val x (q + n) + x (q + n) * 2 ^ (64 * (q + n)) = val x q + (val (fun j => x (q + j)) n + x (q + n) * 2 ^ (64 * n)) * 2 ^ (64 * q)
    rw [val_split x q n, show 64 * (q + n) = 64 * n + 64 * q by omega, Nat.pow_add, Nat.add_mul, Nat.mul_assoc]
    omega

theorem val_up {x : Nat → Nat} (h : ∀ j, x j < 18446744073709551616) (q n : Nat) : val x (q + n) / 2 ^ (64 * q) = val (fun j => x (q + j)) n := by
  rw [val_split, Nat.add_mul_div_right _ _ (Nat.two_pow_pos _), Nat.div_eq_of_lt (val_lt h q), Nat.zero_add]

set_option maxRecDepth 100000 in
set_option maxHeartbeats 2000000 in
theorem rsh_core (z : Value) (za : Option Addr) (zlen zcap : Nat) (S : Nat → Prop) (hzv : z = .slice za zlen zcap) (xb len cap q r n : Nat) (l : List Nat) (hr0 : 0 < r) (hr2 : r < 64) (h0 : 0 < n) (hqn : len = q + n) (hm : len ≤ 800000) (hll : l.length = cap) (hlc : len ≤ cap) (hcc : cap ≤ 1000000)
    (w : World) (hr : Row w xb l)
    (hmk : Calls Tryz.prog 88 #[z, .int .i64 (n : Int)] w (MkPost S n w)) :
    Calls Tryz.prog 70 #[z, .slice (some ⟨xb, 0, none⟩) len cap, .int .u64 ((64 * q + r : Nat) : Int)] w (NatPost S (val (fun j => l.getD j 0) len / 2 ^ (64 * q + r)) w) := by
  subst hzv
  have HR := Lib.hid hr
  have HB := Lib.hid hr.2
  have HM := Lib.hid hmk
  clear hr hmk
  have sz : (((64 * q + r : Nat) : Int) == 0) = false := beq_eq_false_iff_ne.2 (by omega)
  have rz : ((r : Int) == 0) = false := beq_eq_false_iff_ne.2 (by omega)
  have s1 : ((64 * q + r : Nat) : Int) / 64 = q := by omega
  have s2 : ((64 * q + r : Nat) : Int) % 64 = r := by omega
  have s3 : (len : Int) - (q : Int) = n := by omega
  have s4 : ¬ ((n : Int) ≤ 0) := by omega
  generalize hS : ((64 * q + r : Nat) : Int) = s at sz s1 s2 ⊢
  have t0 : 0 ≤ s := by omega
  have t1 : s < 18446744073709551616 := by omega
  have HS := Lib.hid hS
  have HQN := Lib.hid hqn
  have hn8 : n ≤ 800000 := by omega
  clear hS hqn
  go_enter Tryz.func70, Tryz.ntmps70
  go_wp2_with fail
  refine (HM.out).mono ?_
  rintro e w1 ⟨zb, zc, zl, rfl, m1, m2, m3, m4, m5, m6⟩
  have M1 := Lib.hid m1
  have M2 := Lib.hid m2
  have M5 := Lib.hid m5
  have M6 := Lib.hid m6
  have X1 : Hid (∀ j, j < n → w1.cell? ⟨xb, q + j, none⟩ = some (.int .u64 ((l.getD (q + j) 0 : Nat) : Int))) := by
    intro j hj
    rw [m6.cell (p := ⟨xb, q + j, none⟩) (HR.out).lt (fun x => x)]
    have := HQN.out
    exact (HR.out).cell (by omega)
  clear m1 m2 m5 m6
  have s5 : (len : Int) - (n : Int) = q := by have := HQN.out; omega
  have s6 : len - q = n := by have := HQN.out; omega
  clear s3
  go_wp2_with fail
  refine (rshVU_row zb xb q n r _ _ (fun j => l.getD (q + j) 0) zl hr0 hr2 h0 (by omega) (by omega) (fun j => HB.out _) (by rw [M2.out]; exact m3) _ (M1.out) (X1.out)).mono ?_
  rintro e w2 ⟨c, rfl, zl', n1, n2, n3, n4, n5⟩
  have N := Lib.hid (And.intro n1 (And.intro n3 n5))
  have R2 := Lib.hid n2
  clear n1 n2 n3 n4 n5
  go_wp2_with fail
  refine (norm_row zb n zc zl' (by rw [N.out.1, M2.out]) m3 m4 _ R2.out).mono ?_
  rintro e w4 ⟨k, rfl, hk, rfl⟩
  have HK := Lib.hid hk
  clear hk
  go_wp2_with fail
  go_ret
  obtain ⟨n1, n3, n5⟩ := N.out
  obtain ⟨k1, k2, k3⟩ := HK.out
  have hqn := HQN.out
  have V : val (fun j => zl'.getD j 0) n = val (fun j => l.getD j 0) len / 2 ^ (64 * q + r) := by
    rw [hqn, Nat.pow_add, ← Nat.div_div_eq_div_mul, val_up HB.out]
    obtain ⟨p, rfl⟩ : ∃ p, n = p + 1 := ⟨n - 1, by omega⟩
    rw [← rsh_val hr0 hr2 (fun j => l.getD (q + j) 0) p]
    exact val_congr _ (fun j hj => n3 j (by omega))
  refine ⟨_, rfl, Or.inr ⟨zb, k, zc, zl', rfl, R2.out, by rw [n1, M2.out], by omega, m4, ?_, k3⟩, ?_, ?_⟩
  · rw [← V]; exact (val_zeros (x := fun j => zl'.getD j 0) n k1 k2).symm
  · rintro b ⟨_, _, hb⟩
    cases hb
    exact M5.out
  · exact (M6.out).trans n5 (fun x hx => hx.elim) (fun x hx hb => by
      cases hb
      rcases M5.out with h | h
      · exact h
      · omega)

theorem words_pos {x : Nat → Nat} (h : ∀ j, x j < 18446744073709551616) (n q : Nat) (hN : 2 ^ (64 * q) ≤ val x n) : q < n := by
  by_cases c : q < n
  · exact c
  · have h1 := val_lt h n
    have h2 : 2 ^ (64 * n) ≤ 2 ^ (64 * q) := Nat.pow_le_pow_right (by omega) (by omega)
    omega

/-- rsh: a number moved down, by no multiple of 64; in place or in new memory. -/
theorem rsh_any (z x : Value) (q r K : Nat) (hs : 0 < r) (hs2 : r < 64) (hK : K ≤ 800000) (w : World) (M N : Nat) (hz : NatV w z M) (hx : NatV w x N) (hN : N < 2 ^ (64 * K)) (hq : 2 ^ (64 * q) ≤ N) :
    Calls Tryz.prog 70 #[z, x, .int .u64 ((64 * q + r : Nat) : Int)] w (NatPost (Blk z) (N / 2 ^ (64 * q + r)) w) := by
  have h0 : 0 < N := Nat.lt_of_lt_of_le (Nat.two_pow_pos _) hq
  have hlen := fun b len cap (e : x = .slice (some ⟨b, 0, none⟩) len cap) => NatV.len (w := w) (N := N) (b := b) (cap := cap) (by rw [← e]; exact hx) hN
  obtain ⟨b, len, cap, l, rfl, hr, h1, h2, h3, h4, h5, h6⟩ := hx.pos h0
  have hl := hlen b len cap rfl
  have hql := words_pos hr.2 len q (by rw [h4]; exact hq)
  have hm := make_any z M (len - q) (by omega) (by omega) w hz
  rw [← h4]
  have hzf : ∃ za zlen zcap, z = .slice za zlen zcap := by
    rcases hz with ⟨rfl, _⟩ | ⟨zb, zlen, zcap, zl, rfl, _⟩
    · exact ⟨_, _, _, rfl⟩
    · exact ⟨_, _, _, rfl⟩
  obtain ⟨za, zlen, zcap, hzf⟩ := hzf
  exact rsh_core z za zlen zcap _ hzf b len cap q r (len - q) l hs hs2 (by omega) (by omega) (by omega) h1 h2 h3 w hr hm

/-- rsh by 0 to new memory. -/
theorem rsh_zero (x : Value) (K : Nat) (hK : K ≤ 800000) (w : World) (N : Nat) (h0 : 0 < N) (hx : NatV w x N) (hN : N < 2 ^ (64 * K)) :
    Calls Tryz.prog 70 #[.slice none 0 0, x, .int .u64 0] w (NatPost None N w) := by
  have hset := fun w (hx : NatV w x N) => set_nil x K hK w N h0 hx hN
  have HS := Lib.hid hset
  have HX := Lib.hid hx
  obtain ⟨b, len, cap, l, rfl, hr, h1, h2, h3, h4, h5, h6⟩ := hx.pos h0
  clear hr h4 h6 h1 hx hset
  go_enter Tryz.func70, Tryz.ntmps70
  go_wp2_with fail
  refine (same_nil b len cap h5 w).mono ?_
  rintro e w1 ⟨rfl, f1⟩
  have F1 := Lib.hid f1
  clear f1
  go_wp2_with fail
  refine (alias_nil b len cap w1).mono ?_
  rintro e w2 ⟨rfl, f2⟩
  have F2 : Hid (Fr w w2 None) := (F1.out).trans f2 (fun x h => h) (fun x _ h => h)
  clear f2
  go_wp2_with fail
  refine (HS.out w2 ((HX.out).keep F2.out (fun _ _ h => h))).mono ?_
  rintro e w3 ⟨v, rfl, v1, v2, v3⟩
  have V := Lib.hid (And.intro v1 (And.intro v2 v3))
  clear v1 v2 v3
  go_wp2_with fail
  go_ret
  obtain ⟨v1, v2, v3⟩ := V.out
  exact ⟨_, rfl, v1, fun b hb => (v2 b hb).imp id (fun h => Nat.le_trans F2.out.size h), F2.out.trans v3 (fun x h => h) (fun x _ h => h)⟩
end Go.Proofs.YtgmebioogkmfgaaGreatDoor
