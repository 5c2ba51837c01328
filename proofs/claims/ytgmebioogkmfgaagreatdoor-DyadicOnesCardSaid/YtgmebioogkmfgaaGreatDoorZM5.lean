/- The number of a row of words: plain facts. No condition beside those that stand in each. -/
import Derived.Test.YtgmebioogkmfgaaGreatDoorZM4
namespace Go.Mem

/-- The number of n words. -/
def val (x : Nat → Nat) : Nat → Nat
  | 0 => 0
  | n + 1 => val x n + x n * 2 ^ (64 * n)

theorem val_congr {x y : Nat → Nat} : ∀ n, (∀ j, j < n → x j = y j) → val x n = val y n
  | 0, _ => rfl
  | n + 1, h => by unfold val; rw [val_congr n (fun j hj => h j (by omega)), h n (by omega)]

theorem val_lt {x : Nat → Nat} (h : ∀ j, x j < 18446744073709551616) : ∀ n, val x n < 2 ^ (64 * n)
  | 0 => by simp [val]
  | n + 1 => by
    have h1 := val_lt h n
    have h2 := h n
    unfold val
    rw [show 64 * (n + 1) = 64 * n + 64 by omega, Nat.pow_add]
    have h3 : x n * 2 ^ (64 * n) ≤ 18446744073709551615 * 2 ^ (64 * n) := Nat.mul_le_mul_right _ (by omega)
    have h4 : 2 ^ (64 * n) * 2 ^ 64 = 18446744073709551616 * 2 ^ (64 * n) := by rw [Nat.mul_comm]
    omega

theorem val_zeros {x : Nat → Nat} {k : Nat} : ∀ n, k ≤ n → (∀ i, k ≤ i → i < n → x i = 0) → val x n = val x k
  | n, hkn, h => by
    induction n with
    | zero => have : k = 0 := by omega
              rw [this]
    | succ n ih =>
      by_cases e : k = n + 1
      · rw [e]
      · rw [← ih (by omega) (fun i h1 h2 => h i h1 (by omega))]
        show val x n + x n * 2 ^ (64 * n) = _
        rw [h n (by omega) (by omega), Nat.zero_mul, Nat.add_zero]

theorem val_ge {x : Nat → Nat} {n : Nat} (h : 0 < n) (h2 : x (n - 1) ≠ 0) : 2 ^ (64 * (n - 1)) ≤ val x n := by
  obtain ⟨q, rfl⟩ : ∃ q, n = q + 1 := ⟨n - 1, by omega⟩
  rw [Nat.add_sub_cancel] at *
  show _ ≤ val x q + x q * 2 ^ (64 * q)
  have : 1 * 2 ^ (64 * q) ≤ x q * 2 ^ (64 * q) := Nat.mul_le_mul_right _ (by omega)
  omega

theorem shl_split {s : Nat} (hs : s < 64) (x : Nat) : x * 2 ^ s % 18446744073709551616 + x / 2 ^ (64 - s) * 2 ^ 64 = x * 2 ^ s := by
  have e : x / 2 ^ (64 - s) = x * 2 ^ s / 2 ^ 64 := by
    rw [show (2 : Nat) ^ 64 = 2 ^ (64 - s) * 2 ^ s by rw [← Nat.pow_add, show 64 - s + s = 64 by omega], Nat.mul_div_mul_right _ _ (Nat.two_pow_pos s)]
  rw [e]
  have := Nat.div_add_mod (x * 2 ^ s) (2 ^ 64)
  rw [Nat.mul_comm] at this
  rw [show (18446744073709551616 : Nat) = 2 ^ 64 from rfl]
  omega

theorem lsh_val {s : Nat} (hs : s < 64) (x : Nat → Nat) : ∀ q, val (Go.Proofs.YtgmebioogkmfgaaGreatDoor.lshW s x) (q + 1) + x q / 2 ^ (64 - s) * 2 ^ (64 * (q + 1)) = val x (q + 1) * 2 ^ s
  | 0 => by
    have h := shl_split hs (x 0)
    simp only [val, Go.Proofs.YtgmebioogkmfgaaGreatDoor.lshW, if_true, Nat.zero_add, Nat.mul_zero, Nat.pow_zero, Nat.mul_one, Nat.add_zero]
    exact h
  | q + 1 => by
    have ih := lsh_val hs x q
    have h := shl_split hs (x (q + 1))
    have e : Go.Proofs.YtgmebioogkmfgaaGreatDoor.lshW s x (q + 1) = x (q + 1) * 2 ^ s % 18446744073709551616 + x q / 2 ^ (64 - s) := by
      unfold Go.Proofs.YtgmebioogkmfgaaGreatDoor.lshW; rw [if_neg (by omega)]; rfl
    show val (Go.Proofs.YtgmebioogkmfgaaGreatDoor.lshW s x) (q + 1) + Go.Proofs.YtgmebioogkmfgaaGreatDoor.lshW s x (q + 1) * 2 ^ (64 * (q + 1)) + x (q + 1) / 2 ^ (64 - s) * 2 ^ (64 * (q + 1 + 1)) = (val x (q + 1) + x (q + 1) * 2 ^ (64 * (q + 1))) * 2 ^ s
    rw [e, Nat.add_mul, Nat.add_mul (val x (q + 1)), ← ih, show 64 * (q + 1 + 1) = 64 + 64 * (q + 1) by omega, Nat.pow_add]
    generalize 2 ^ (64 * (q + 1)) = B at *
    generalize val (Go.Proofs.YtgmebioogkmfgaaGreatDoor.lshW s x) (q + 1) = V at *
    generalize x q / 2 ^ (64 - s) = c at *
    generalize x (q + 1) / 2 ^ (64 - s) = d at *
    generalize x (q + 1) * 2 ^ s % 18446744073709551616 = a at *
    rw [Nat.mul_right_comm (x (q + 1)), ← h, Nat.add_mul, ← Nat.mul_assoc]
    omega

theorem shr_split {s : Nat} (h0 : 0 < s) (hs : s < 64) (y : Nat) : y * 2 ^ (64 - s) % 18446744073709551616 * 2 ^ s = y % 2 ^ s * 2 ^ 64 := by
  have e : (18446744073709551616 : Nat) = 2 ^ s * 2 ^ (64 - s) := by rw [← Nat.pow_add, show s + (64 - s) = 64 by omega]
  rw [e, Nat.mul_mod_mul_right, Nat.mul_assoc, ← Nat.pow_add, show 64 - s + s = 64 by omega]

theorem rsh_val_pre {s m : Nat} (h0 : 0 < s) (hs : s < 64) (x : Nat → Nat) : ∀ k, k < m → val (Go.Proofs.YtgmebioogkmfgaaGreatDoor.rshW s m x) k * 2 ^ s + x 0 % 2 ^ s = val x k + x k % 2 ^ s * 2 ^ (64 * k)
  | 0, _ => by simp [val]
  | k + 1, hk => by
    have ih := rsh_val_pre (m := m) h0 hs x k (by omega)
    have h := shr_split h0 hs (x (k + 1))
    have h2 := Nat.div_add_mod (x k) (2 ^ s)
    have e : Go.Proofs.YtgmebioogkmfgaaGreatDoor.rshW s m x k = x k / 2 ^ s + x (k + 1) * 2 ^ (64 - s) % 18446744073709551616 := by unfold Go.Proofs.YtgmebioogkmfgaaGreatDoor.rshW; rw [if_pos hk]
    show (val (Go.Proofs.YtgmebioogkmfgaaGreatDoor.rshW s m x) k + Go.Proofs.YtgmebioogkmfgaaGreatDoor.rshW s m x k * 2 ^ (64 * k)) * 2 ^ s + x 0 % 2 ^ s = val x k + x k * 2 ^ (64 * k) + x (k + 1) % 2 ^ s * 2 ^ (64 * (k + 1))
    rw [e, show 64 * (k + 1) = 64 + 64 * k by omega, Nat.pow_add 2 64]
    generalize 2 ^ (64 * k) = B at *
    generalize val (Go.Proofs.YtgmebioogkmfgaaGreatDoor.rshW s m x) k = V at *
    generalize x (k + 1) * 2 ^ (64 - s) % 18446744073709551616 = a at *
    generalize x (k + 1) % 2 ^ s = c at *
    generalize 2 ^ s = u at *
    rw [Nat.add_mul, Nat.add_mul, Nat.add_mul, ← Nat.mul_assoc, ← h, Nat.mul_right_comm (x k / u), Nat.mul_right_comm a]
    have h3 : x k * B = x k / u * u * B + x k % u * B := by
      rw [← Nat.add_mul, Nat.mul_comm (x k / u), h2]
    omega

theorem rsh_val {s : Nat} (h0 : 0 < s) (hs : s < 64) (x : Nat → Nat) (q : Nat) : val (Go.Proofs.YtgmebioogkmfgaaGreatDoor.rshW s (q + 1) x) (q + 1) = val x (q + 1) / 2 ^ s := by
  have h := rsh_val_pre (m := q + 1) h0 hs x q (by omega)
  have h2 := Nat.div_add_mod (x q) (2 ^ s)
  have e : Go.Proofs.YtgmebioogkmfgaaGreatDoor.rshW s (q + 1) x q = x q / 2 ^ s := by unfold Go.Proofs.YtgmebioogkmfgaaGreatDoor.rshW; rw [if_neg (by omega), Nat.add_zero]
  have hp := Nat.two_pow_pos s
  have k : val x (q + 1) = 2 ^ s * val (Go.Proofs.YtgmebioogkmfgaaGreatDoor.rshW s (q + 1) x) (q + 1) + x 0 % 2 ^ s := by
    show val x q + x q * 2 ^ (64 * q) = 2 ^ s * (val (Go.Proofs.YtgmebioogkmfgaaGreatDoor.rshW s (q + 1) x) q + Go.Proofs.YtgmebioogkmfgaaGreatDoor.rshW s (q + 1) x q * 2 ^ (64 * q)) + x 0 % 2 ^ s
    rw [e]
    generalize 2 ^ (64 * q) = B at *
    generalize val (Go.Proofs.YtgmebioogkmfgaaGreatDoor.rshW s (q + 1) x) q = V at *
    have h3 : x q * B = x q / 2 ^ s * 2 ^ s * B + x q % 2 ^ s * B := by
      rw [← Nat.add_mul, Nat.mul_comm (x q / 2 ^ s), h2]
    rw [Nat.mul_add, Nat.mul_comm _ V, ← Nat.mul_assoc, Nat.mul_comm (2 ^ s) (x q / 2 ^ s)]
    omega
  rw [k, Nat.mul_add_div hp, Nat.div_eq_of_lt (Nat.mod_lt _ hp)]
  rfl

/-- A value is a natural number in memory: nil, or a row of words without a zero on top. -/
def NatV (w : World) (v : Value) (N : Nat) : Prop :=
  (v = .slice none 0 0 ∧ N = 0) ∨ ∃ (b len cap : Nat) (l : List Nat), v = .slice (some ⟨b, 0, none⟩) len cap ∧ Row w b l ∧ l.length = cap ∧ len ≤ cap ∧ cap ≤ 1000000 ∧
    val (fun j => l.getD j 0) len = N ∧ (0 < len → l.getD (len - 1) 0 ≠ 0)

/-- The block that a slice lies in. -/
def Blk (v : Value) (b : Nat) : Prop := ∃ l c, v = .slice (some ⟨b, 0, none⟩) l c

theorem NatV.keep {w w' : World} {v : Value} {N : Nat} {S : Nat → Prop} (h : NatV w v N) (f : Fr w w' S) (hn : ∀ b, Blk v b → ¬ S b) : NatV w' v N := by
  rcases h with h | ⟨b, len, cap, l, rfl, hr, h⟩
  · exact Or.inl h
  · exact Or.inr ⟨b, len, cap, l, rfl, hr.keep f (hn b ⟨_, _, rfl⟩), h⟩

theorem NatV.lt {w : World} {v : Value} {N b : Nat} (h : NatV w v N) (hb : Blk v b) : b < w.heap.size := by
  obtain ⟨l, c, rfl⟩ := hb
  rcases h with ⟨h, _⟩ | ⟨b', len, cap, l', h, hr, _⟩
  · cases h
  · cases h; exact hr.lt

/-- How many words. -/
theorem len_le {x : Nat → Nat} {n K : Nat} (h : 0 < n → x (n - 1) ≠ 0) (hN : val x n < 2 ^ (64 * K)) : n ≤ K := by
  by_cases c : n ≤ K
  · exact c
  · have h1 := val_ge (x := x) (n := n) (by omega) (h (by omega))
    have h2 : 2 ^ (64 * K) ≤ 2 ^ (64 * (n - 1)) := Nat.pow_le_pow_right (by omega) (by omega)
    omega

end Go.Mem
