/- trim, Low, Shr of plumbref2, Norm of plumbref3. Condition: it stands in each fact. -/
import Derived.Test.YtgmebioogkmfgaaGreatDoorQ2
import Derived.Deep.QuietTactic
import Derived.BigQuiet
import Derived.Test.YtgmebioogkmfgaaGreatDoorQ3
namespace Go.Proofs.YtgmebioogkmfgaaGreatDoor
open Go.RowKit Go.Pt Go.Mem

/-- v is a slice of n ints in memory that was made since (nil, or a block from base on). -/
def IRow (w : World) (v : Value) (n : Nat) (x : Nat → Nat) (base : Nat) : Prop :=
  (v = .slice none 0 0 ∧ n = 0) ∨ ∃ b cap cs, v = .slice (some ⟨b, 0, none⟩) n cap ∧ n ≤ cap ∧ base ≤ b ∧ At w b cs 3 ∧ cs.size = cap ∧ ∀ j, j < n → cs[j]? = some (.int .i64 ((x j : Nat) : Int))
theorem IRow.nil (w : World) (x : Nat → Nat) (base : Nat) : IRow w (.slice none 0 0) 0 x base := Or.inl ⟨rfl, rfl⟩
theorem IRow.keep {w w' : World} {v : Value} {n base : Nat} {x : Nat → Nat} (h : IRow w v n x base) (f : Fr w w' None) : IRow w' v n x base := by
  rcases h with h | ⟨b, cap, cs, rfl, h1, h2, h3, h4⟩
  · exact Or.inl h
  · exact Or.inr ⟨b, cap, cs, rfl, h1, h2, h3.keep f (fun x => x), h4⟩
theorem IRow.dig {w : World} {v : Value} {n base : Nat} {x : Nat → Nat} (h : IRow w v n x base) : DigV w v n x := by
  rcases h with h | ⟨b, cap, cs, rfl, h1, h2, h3, h4, h5⟩
  · exact Or.inl h
  · exact Or.inr ⟨b, cap, rfl, h1, h3.lt, fun j hj => by rw [h3.cell]; exact h5 j hj⟩
theorem IRow.congr {w : World} {v : Value} {n base : Nat} {x y : Nat → Nat} (h : IRow w v n x base) (e : ∀ j, j < n → x j = y j) : IRow w v n y base := by
  rcases h with h | ⟨b, cap, cs, rfl, h1, h2, h3, h4, h5⟩
  · exact Or.inl h
  · exact Or.inr ⟨b, cap, cs, rfl, h1, h2, h3, h4, fun j hj => by rw [← e j hj]; exact h5 j hj⟩
theorem IRow.shape {w : World} {v : Value} {n base : Nat} {x : Nat → Nat} (h : IRow w v n x base) : ∃ a c, v = .slice a n c := by
  rcases h with ⟨rfl, rfl⟩ | ⟨b, cap, cs, rfl, _⟩
  · exact ⟨_, _, rfl⟩
  · exact ⟨_, _, rfl⟩

/-- One more at the end. -/
def snoc (x : Nat → Nat) (n d : Nat) (j : Nat) : Nat := if j = n then d else x j

theorem app_own {w w0 : World} {v : Value} {n d nb : Nat} {x : Nat → Nat} (h : IRow w v n x w0.heap.size) (hf : Fr w0 w None) (hn : w.cell? ⟨nb, 0, none⟩ = some (.int .i64 (d : Int))) (hlen : n < 100000) (ty : Nat) :
    ∃ v' w', (Builtin.append_ #[22, 22] ty #[v, .slice (some ⟨nb, 0, none⟩) 1 1]).run Tryz.prog w = .ok v' w' ∧ IRow w' v' (n + 1) (snoc x n d) w0.heap.size ∧ Fr w0 w' None := by
  obtain ⟨i0, hi, hz0, hz1, hz2⟩ := info_parts infoN
  have hnews : ∀ j u, ([.int .i64 (d : Int)] : List Value)[j]? = some u → w.cell? ((⟨nb, 0, none⟩ : Addr).add j) = some u := by
    intro k u hk
    rcases k with _ | k
    · cases hk; exact hn
    · cases hk
  rcases h with ⟨rfl, rfl⟩ | ⟨b, cap, cs, rfl, h1, h2, h3, h4, h5⟩
  · have hr := run_append_nil (P := Tryz.prog) w 22 ty 3 i0 (.int .i64 0) Tryz.underlying22 hi hz0 ⟨nb, 0, none⟩ 1 1 [.int .i64 (d : Int)] (by rw [hz1]; rfl) hnews (by omega) (by omega) (by rw [hz2]; omega)
    have hge := grownCap_ge w 1 0 3
    refine ⟨_, _, hr, Or.inr ⟨w.heap.size, _, _, rfl, hge, hf.size, At.alloc w.drew _ _, ?_, fun j hj => ?_⟩, hf.drew.alloc _⟩
    · simp only [Array.size_append, List.size_toArray, size_zeroCells]
      simp [Value.cells]
      omega
    · obtain rfl : j = 0 := by omega
      rw [Array.getElem?_append_left (by simp)]
      simp [snoc]
  · by_cases c : n + 1 ≤ cap
    · have hr := run_appI w b n cap nb d c (by rw [h3.cell, Array.getElem?_eq_getElem (by omega)]; rfl) (h3.free n) hn ty
      refine ⟨_, _, hr, Or.inr ⟨b, cap, _, rfl, c, h2, h3.put n _, by rw [Array.size_setIfInBounds]; exact h4, fun j hj => ?_⟩, hf.setCell (p := ⟨b, n, none⟩) (Or.inr h2) _⟩
      rw [Array.getElem?_setIfInBounds]
      unfold snoc
      by_cases e : n = j
      · subst e
        rw [if_pos rfl, if_pos (by omega), if_pos rfl]
      · rw [if_neg e, if_neg (fun k => e k.symm)]
        exact h5 j (by omega)
    · obtain rfl : cap = n := by omega
      have hr := run_append_grow (P := Tryz.prog) w 22 ty 3 i0 (.int .i64 0) Tryz.underlying22 hi hz0 ⟨b, 0, none⟩ cap cap cs.toList (by rw [hz1, Array.length_toList, h4, Nat.mul_one])
        (fun j u hu => by
          have hadd : (⟨b, 0, none⟩ : Addr).add j = ⟨b, j, none⟩ := by unfold Addr.add; split <;> simp_all
          rw [hadd, h3.cell]
          simpa using hu)
        ⟨nb, 0, none⟩ 1 1 [.int .i64 (d : Int)] (by rw [hz1]; rfl) hnews (by omega) (by omega) (growslice_fits (by omega) (by rw [hz2]; omega))
      have hge := grownCap_ge w (cap + 1) cap 3
      refine ⟨_, _, hr, Or.inr ⟨w.heap.size, _, _, rfl, hge, hf.size, At.alloc w.drew _ _, ?_, fun j hj => ?_⟩, hf.drew.alloc _⟩
      · simp only [Array.size_append, List.size_toArray, size_zeroCells, Array.length_toList]
        simp [Value.cells]
        omega
      · rw [Array.getElem?_append_left (by simp; omega)]
        unfold snoc
        by_cases e : j = cap
        · subst e
          rw [if_pos rfl, Array.getElem?_append_right (by simp; omega)]
          simp [h4]
        · rw [if_neg e, Array.getElem?_append_left (by simp; omega)]
          have := h5 j (by omega)
          simpa using this
theorem app_next {w w0 : World} {v : Value} {n : Nat} {x : Nat → Nat} (h : IRow w v n x w0.heap.size) (hf : Fr w0 w None) (hlen : n < 100000) (d : Nat) (z : Int) (hz : z = (d : Int)) (ty : Nat) :
    ∃ v' w', (Builtin.append_ #[22, 22] ty #[v, .slice (some ⟨w.heap.size, 0, none⟩) 1 1]).run Tryz.prog (w.alloc (.cells #[.int .i64 z] 3)) = .ok v' w' ∧ IRow w' v' (n + 1) (snoc x n d) w0.heap.size ∧ Fr w0 w' None := by
  subst hz
  exact app_own (h.keep ((Fr.refl w None).alloc _)) (hf.alloc _) ((At.alloc w _ _).cell 0) hlen ty
end Go.Proofs.YtgmebioogkmfgaaGreatDoor

namespace Go.Mem
open Go.RowKit

theorem dgt_dv {x : Nat → Nat} (h : ∀ j, x j < 1073741824) : ∀ n i, dgt (dv x n) i = if i < n then x i else 0
  | 0, i => by simp [dv, dgt]
  | n + 1, i => by
    have ih := dgt_dv h n i
    have hl := dv_lt h n
    unfold dgt at ih ⊢
    rcases Nat.lt_trichotomy i n with c | c | c
    · rw [if_pos (by omega)]
      rw [if_pos c] at ih
      rw [← ih]
      show (dv x n + x n * 2 ^ (30 * n)) / 2 ^ (30 * i) % 1073741824 = _
      rw [show 30 * n = 30 * i + 30 + 30 * (n - i - 1) by omega, Nat.pow_add, Nat.pow_add, show x n * (2 ^ (30 * i) * 2 ^ 30 * 2 ^ (30 * (n - i - 1))) = 2 ^ (30 * i) * (1073741824 * (x n * 2 ^ (30 * (n - i - 1)))) by
        rw [show (2 : Nat) ^ 30 = 1073741824 from rfl]; generalize 2 ^ (30 * i) = P; generalize 2 ^ (30 * (n - i - 1)) = R
        rw [Nat.mul_assoc P, Nat.mul_left_comm (x n), Nat.mul_left_comm (x n)]]
      rw [Nat.add_mul_div_left _ _ (Nat.two_pow_pos _), Nat.add_mul_mod_self_left]
    · subst c
      rw [if_pos (by omega)]
      show (dv x i + x i * 2 ^ (30 * i)) / 2 ^ (30 * i) % 1073741824 = _
      rw [Nat.add_mul_div_right _ _ (Nat.two_pow_pos _), Nat.div_eq_of_lt hl, Nat.zero_add, Nat.mod_eq_of_lt (h i)]
    · rw [if_neg (by omega)]
      have := dv_lt h (n + 1)
      rw [Nat.div_eq_of_lt (Nat.lt_of_lt_of_le this (two_mono _ _ (by omega)))]

/-- A digit of what is shifted to the right, out of two digits. -/
theorem shr_digit {A k i q r : Nat} (hq : q = k / 30) (hr : r = k % 30) (hi : q ≤ i) : dgt (A / 2 ^ k) (i - q) = dgt A i / 2 ^ r + dgt A (i + 1) % 2 ^ r * 2 ^ (30 - r) := by
  have hk : k + 30 * (i - q) = 30 * i + r := by omega
  have hrl : r < 30 := by omega
  have e1 : A / 2 ^ k / 2 ^ (30 * (i - q)) = A / 2 ^ (30 * i) / 2 ^ r := by
    rw [Nat.div_div_eq_div_mul, Nat.div_div_eq_div_mul, ← Nat.pow_add, ← Nat.pow_add, hk]
  have e2 : A / 2 ^ (30 * (i + 1)) = A / 2 ^ (30 * i) / 1073741824 := by
    rw [show 30 * (i + 1) = 30 * i + 30 by omega, Nat.pow_add, Nat.div_div_eq_div_mul]
  unfold dgt
  rw [e1, e2]
  generalize A / 2 ^ (30 * i) = Y
  have hU : (2 : Nat) ^ r * 2 ^ (30 - r) = 1073741824 := by rw [← Nat.pow_add, show r + (30 - r) = 30 by omega]
  have hU0 := Nat.two_pow_pos r
  have hV0 := Nat.two_pow_pos (30 - r)
  generalize (2 : Nat) ^ r = U at *
  generalize (2 : Nat) ^ (30 - r) = V at *
  -- Y = lo + 2^30 * hi, hi = U * t + s
  have h1 := Nat.div_add_mod Y 1073741824
  have h2 := Nat.div_add_mod (Y / 1073741824) U
  have h5 : Y / 1073741824 % 1073741824 % U = Y / 1073741824 % U := by rw [← hU, Nat.mod_mul_right_mod]
  rw [h5]
  have hs : Y / 1073741824 % U < U := Nat.mod_lt _ hU0
  have hlo : Y % 1073741824 / U < V := by
    rw [Nat.div_lt_iff_lt_mul hU0, Nat.mul_comm, hU]
    exact Nat.mod_lt _ (by omega)
  generalize hsv : Y / 1073741824 % U = s at *
  generalize Y / 1073741824 / U = t at h2
  generalize Y / 1073741824 = H at *
  generalize hlv : Y % 1073741824 = l at *
  have h3 : Y = l + U * (V * (U * t + s)) := by
    rw [h2, ← Nat.mul_assoc, hU, Nat.add_comm]; exact h1.symm
  rw [h3, Nat.add_mul_div_left _ _ hU0]
  have h4 : l / U + V * (U * t + s) = (l / U + s * V) + 1073741824 * t := by
    rw [Nat.mul_add, ← Nat.mul_assoc, Nat.mul_comm V U, hU, Nat.mul_comm V s]
    omega
  rw [h4, Nat.add_mul_mod_self_left, Nat.mod_eq_of_lt]
  have h6 : s * V + V ≤ U * V := by rw [← Nat.succ_mul]; exact Nat.mul_le_mul_right _ hs
  omega

/-- The lowest digit that is not 0. -/
theorem dv_first {x : Nat → Nat} {i : Nat} (h : ∀ j, j < i → x j = 0) : ∀ n, i < n → ∃ R, dv x n = 2 ^ (30 * i) * (x i + 1073741824 * R)
  | 0, c => by omega
  | n + 1, c => by
    by_cases e : i = n
    · subst e
      refine ⟨0, ?_⟩
      have hz : ∀ m, m ≤ i → dv x m = 0 := by
        intro m
        induction m with
        | zero => intro _; rfl
        | succ m ih => intro hm; show dv x m + x m * _ = 0; rw [ih (by omega), h m (by omega)]; simp
      show dv x i + x i * 2 ^ (30 * i) = _
      rw [hz i (by omega), Nat.mul_zero, Nat.add_zero, Nat.zero_add, Nat.mul_comm]
    · obtain ⟨R, hR⟩ := dv_first h n (by omega)
      refine ⟨R + x n * 2 ^ (30 * (n - i - 1)), ?_⟩
      show dv x n + x n * 2 ^ (30 * n) = _
      rw [hR, show 30 * n = 30 * i + 30 + 30 * (n - i - 1) by omega, Nat.pow_add, Nat.pow_add, show (2 : Nat) ^ 30 = 1073741824 from rfl]
      generalize 2 ^ (30 * i) = P
      generalize 2 ^ (30 * (n - i - 1)) = T
      rw [Nat.mul_add, Nat.mul_add, Nat.mul_add, Nat.mul_add, Nat.add_assoc]
      congr 2
      rw [Nat.mul_left_comm (x n), Nat.mul_assoc P]
theorem dv_zero {x : Nat → Nat} : ∀ n, (∀ j, j < n → x j = 0) → dv x n = 0
  | 0, _ => rfl
  | n + 1, h => by show dv x n + x n * _ = 0; rw [dv_zero n (fun j hj => h j (by omega)), h n (by omega)]; simp

/-- How many twos there are: in the lowest digit that is not 0. -/
theorem low_odd {x : Nat → Nat} {n i c o : Nat} (hi : i < n) (h : ∀ j, j < i → x j = 0) (ho : o % 2 = 1) (hc : x i = o * 2 ^ c) (hlt : x i < 1073741824) :
    c < 30 ∧ dv x n / 2 ^ (30 * i + c) % 2 = 1 ∧ dv x n / 2 ^ (30 * i + c) * 2 ^ (30 * i + c) = dv x n := by
  obtain ⟨R, hR⟩ := dv_first h n hi
  have hc30 : c < 30 := by
    rcases Nat.lt_or_ge c 30 with g | g
    · exact g
    · have h2 : 2 ^ 30 ≤ 2 ^ c := two_mono _ _ g
      have h3 : 1 * 2 ^ c ≤ o * 2 ^ c := Nat.mul_le_mul_right _ (by omega)
      rw [show (2 : Nat) ^ 30 = 1073741824 from rfl] at h2
      omega
  have e : dv x n = 2 ^ (30 * i + c) * (o + 2 * (2 ^ (29 - c) * R)) := by
    rw [hR, hc, Nat.pow_add, Nat.mul_assoc]
    congr 1
    rw [show (1073741824 : Nat) = 2 ^ c * (2 * 2 ^ (29 - c)) by rw [← Nat.pow_succ', ← Nat.pow_add, show c + (29 - c + 1) = 30 by omega]]
    rw [Nat.mul_add, Nat.mul_comm o, Nat.mul_assoc, Nat.mul_assoc]
  refine ⟨hc30, ?_, ?_⟩
  · rw [e, Nat.mul_div_cancel_left _ (Nat.two_pow_pos _)]
    omega
  · rw [e, Nat.mul_div_cancel_left _ (Nat.two_pow_pos _), Nat.mul_comm]
end Go.Mem

namespace Go.Proofs.YtgmebioogkmfgaaGreatDoor
open Go.RowKit Go.Pt Go.Mem

def TrimPost (n : Nat) (x : Nat → Nat) (base : Nat) (w : World) (e : Ending) (w' : World) : Prop :=
  ∃ m u, e = .returned u ∧ w = w' ∧ IRow w u m x base ∧ m ≤ n ∧ (∀ j, m ≤ j → j < n → x j = 0) ∧ (0 < m → x (m - 1) ≠ 0)

/-- What Low gives: -1 where all is 0, else how many twos there are. -/
def LowPost (n : Nat) (x : Nat → Nat) (w : World) (e : Ending) (w' : World) : Prop :=
  w = w' ∧ ((e = .returned (.int .i64 (-1)) ∧ ∀ j, j < n → x j = 0) ∨ ∃ k : Nat, e = .returned (.int .i64 (k : Int)) ∧ k < 30 * n ∧ dv x n / 2 ^ k % 2 = 1 ∧ dv x n / 2 ^ k * 2 ^ k = dv x n)

end Go.Proofs.YtgmebioogkmfgaaGreatDoor

namespace Go.Proofs.YtgmebioogkmfgaaGreatDoor
open Go.RowKit Go.Pt Go.Mem

/-- What Shr gives: the digits of the number that is left. -/
def ShrPost (A : Nat) (n base : Nat) (w : World) (e : Ending) (w' : World) : Prop :=
  ∃ m u, e = .returned u ∧ IRow w' u m (dgt A) base ∧ m ≤ n ∧ (0 < m → dgt A (m - 1) ≠ 0) ∧ dv (dgt A) m = A ∧ Fr w w' None

def ShInv (n q A : Nat) (w : World) (v i : Value) (wr : World) : Prop :=
  ∃ k : Nat, q ≤ k ∧ k ≤ n ∧ i = .int .i64 (k : Int) ∧ IRow wr v (k - q) (dgt A) w.heap.size ∧ Fr w wr None

end Go.Proofs.YtgmebioogkmfgaaGreatDoor

namespace Go.Proofs.YtgmebioogkmfgaaGreatDoor
open Go.RowKit Go.Pt Go.Mem

/-- What Norm gives: the one form of neg, N times 2^e, where N has at most 30 n bits. -/
def NormIs (neg : Bool) (N : Nat) (e : Int) (n : Nat) (w : World) (x : Value) : Prop :=
  (N = 0 ∧ NumV w x false 0 0) ∨ ∃ k : Nat, k < 30 * n ∧ N / 2 ^ k % 2 = 1 ∧ N / 2 ^ k * 2 ^ k = N ∧ NumV w x neg (N / 2 ^ k) (e + k)
def NrmPost (neg : Bool) (N : Nat) (e : Int) (n : Nat) (w : World) (en : Ending) (w' : World) : Prop :=
  ∃ x, en = .returned x ∧ NormIs neg N e n w' x ∧ Fr w w' None

theorem NumV.of_row {w : World} {u : Value} {neg : Bool} {A m base : Nat} {E : Int} (h : IRow w u m (dgt A) base) (hm : m ≤ 2000) (ht : 0 < m → dgt A (m - 1) ≠ 0) (hd : dv (dgt A) m = A) (ho : A % 2 = 1) (e1 : -1048576 ≤ E) (e2 : E ≤ 1048576) :
    NumV w (.agg #[.bool neg, u, .int .i64 E]) neg A E :=
  ⟨u, m, rfl, h.dig, ⟨dgt_lt A, ht, hm⟩, hd, fun c => by omega, fun _ => ⟨ho, e1, e2⟩⟩

end Go.Proofs.YtgmebioogkmfgaaGreatDoor
