/- trim, Low, Shr of plumbref2, Norm of plumbref3. Condition: it stands in each fact. -/
import Derived.Test.YtgmebioogkmfgaaDoorQ2
import Derived.Deep.QuietTactic
import Derived.BigQuiet
import Derived.Test.YtgmebioogkmfgaaDoorQ3
namespace Go.Proofs.YtgmebioogkmfgaaDoor
open Go.RowKit Go.Pt Go.Mem

/-- v is a slice of n ints in memory that was made since (nil, or a block from base on). -/
def IRow (w : World) (v : Value) (n : Nat) (x : Nat → Nat) (base : Nat) : Prop :=
  (v = .slice none 0 0 ∧ n = 0) ∨ ∃ b cap cs, v = .slice (some ⟨b, 0, none⟩) n cap ∧ n ≤ cap ∧ base ≤ b ∧ At w b cs 3 ∧ cs.size = cap ∧ ∀ j, j < n → cs[j]? = some (.int .i64 ((x j : Nat) : Int))
theorem IRow.nil (w : World) (x : Nat → Nat) (base : Nat) : IRow w (.slice none 0 0) 0 x base := Or.inl ⟨rfl, rfl⟩
theorem IRow.keep {w w' : World} {v : Value} {n base : Nat} {x : Nat → Nat} (h : IRow w v n x base) (f : Fr w w' None) : IRow w' v n x base := by
  rcases h with h | ⟨b, cap, cs, rfl, h1, h2, h3, h4⟩
  · exact Or.inl h
  · exact Or.inr ⟨b, cap, cs, rfl, h1, h2, h3.keep f (fun x => x), h4⟩
theorem IRow.dig {w : World} {v : Value} {n base : Nat} {x : Nat → Nat} (h : IRow w v n x base) : DigV w v n x := by
  rcases h with h | ⟨b, cap, cs, rfl, h1, h2, h3, h4, h5⟩
  · exact Or.inl h
  · exact Or.inr ⟨b, cap, rfl, h1, h3.lt, fun j hj => by rw [h3.cell]; exact h5 j hj⟩
theorem IRow.congr {w : World} {v : Value} {n base : Nat} {x y : Nat → Nat} (h : IRow w v n x base) (e : ∀ j, j < n → x j = y j) : IRow w v n y base := by
  rcases h with h | ⟨b, cap, cs, rfl, h1, h2, h3, h4, h5⟩
  · exact Or.inl h
  · exact Or.inr ⟨b, cap, cs, rfl, h1, h2, h3, h4, fun j hj => by rw [← e j hj]; exact h5 j hj⟩
theorem IRow.shape {w : World} {v : Value} {n base : Nat} {x : Nat → Nat} (h : IRow w v n x base) : ∃ a c, v = .slice a n c := by
  rcases h with ⟨rfl, rfl⟩ | ⟨b, cap, cs, rfl, _⟩
  · exact ⟨_, _, rfl⟩
  · exact ⟨_, _, rfl⟩

/-- One more at the end. -/
def snoc (x : Nat → Nat) (n d : Nat) (j : Nat) : Nat := if j = n then d else x j

theorem app_own {w w0 : World} {v : Value} {n d nb : Nat} {x : Nat → Nat} (h : IRow w v n x w0.heap.size) (hf : Fr w0 w None) (hn : w.cell? ⟨nb, 0, none⟩ = some (.int .i64 (d : Int))) (hlen : n < 100000) (ty : Nat) :
    ∃ v' w', (Builtin.append_ #[22, 22] ty #[v, .slice (some ⟨nb, 0, none⟩) 1 1]).run Tryd.prog w = .ok v' w' ∧ IRow w' v' (n + 1) (snoc x n d) w0.heap.size ∧ Fr w0 w' None := by
  obtain ⟨i0, hi, hz0, hz1, hz2⟩ := info_parts infoN
  have hnews : ∀ j u, ([.int .i64 (d : Int)] : List Value)[j]? = some u → w.cell? ((⟨nb, 0, none⟩ : Addr).add j) = some u := by
    intro k u hk
    rcases k with _ | k
    · cases hk; exact hn
    · cases hk
  rcases h with ⟨rfl, rfl⟩ | ⟨b, cap, cs, rfl, h1, h2, h3, h4, h5⟩
  · have hr := run_append_nil (P := Tryd.prog) w 22 ty 3 i0 (.int .i64 0) Tryd.underlying22 hi hz0 ⟨nb, 0, none⟩ 1 1 [.int .i64 (d : Int)] (by rw [hz1]; rfl) hnews (by omega) (by omega) (by rw [hz2]; omega)
    have hge := grownCap_ge w 1 0 3
    refine ⟨_, _, hr, Or.inr ⟨w.heap.size, _, _, rfl, hge, hf.size, At.alloc w.drew _ _, ?_, fun j hj => ?_⟩, hf.drew.alloc _⟩
    · simp only [Array.size_append, List.size_toArray, size_zeroCells]
      simp [Value.cells]
      omega
    · obtain rfl : j = 0 := by omega
      rw [Array.getElem?_append_left (by simp)]
      simp [snoc]
  · by_cases c : n + 1 ≤ cap
    · have hr := run_appI w b n cap nb d c (by rw [h3.cell, Array.getElem?_eq_getElem (by omega)]; rfl) (h3.free n) hn ty
      refine ⟨_, _, hr, Or.inr ⟨b, cap, _, rfl, c, h2, h3.put n _, by rw [Array.size_setIfInBounds]; exact h4, fun j hj => ?_⟩, hf.setCell (p := ⟨b, n, none⟩) (Or.inr h2) _⟩
      rw [Array.getElem?_setIfInBounds]
      unfold snoc
      by_cases e : n = j
      · subst e
        rw [if_pos rfl, if_pos (by omega), if_pos rfl]
      · rw [if_neg e, if_neg (fun k => e k.symm)]
        exact h5 j (by omega)
    · obtain rfl : cap = n := by omega
      have hr := run_append_grow (P := Tryd.prog) w 22 ty 3 i0 (.int .i64 0) Tryd.underlying22 hi hz0 ⟨b, 0, none⟩ cap cap cs.toList (by rw [hz1, Array.length_toList, h4, Nat.mul_one])
        (fun j u hu => by
          have hadd : (⟨b, 0, none⟩ : Addr).add j = ⟨b, j, none⟩ := by unfold Addr.add; split <;> simp_all
          rw [hadd, h3.cell]
          simpa using hu)
        ⟨nb, 0, none⟩ 1 1 [.int .i64 (d : Int)] (by rw [hz1]; rfl) hnews (by omega) (by omega) (growslice_fits (by omega) (by rw [hz2]; omega))
      have hge := grownCap_ge w (cap + 1) cap 3
      refine ⟨_, _, hr, Or.inr ⟨w.heap.size, _, _, rfl, hge, hf.size, At.alloc w.drew _ _, ?_, fun j hj => ?_⟩, hf.drew.alloc _⟩
      · simp only [Array.size_append, List.size_toArray, size_zeroCells, Array.length_toList]
        simp [Value.cells]
        omega
      · rw [Array.getElem?_append_left (by simp; omega)]
        unfold snoc
        by_cases e : j = cap
        · subst e
          rw [if_pos rfl, Array.getElem?_append_right (by simp; omega)]
          simp [h4]
        · rw [if_neg e, Array.getElem?_append_left (by simp; omega)]
          have := h5 j (by omega)
          simpa using this
theorem app_next {w w0 : World} {v : Value} {n : Nat} {x : Nat → Nat} (h : IRow w v n x w0.heap.size) (hf : Fr w0 w None) (hlen : n < 100000) (d : Nat) (z : Int) (hz : z = (d : Int)) (ty : Nat) :
    ∃ v' w', (Builtin.append_ #[22, 22] ty #[v, .slice (some ⟨w.heap.size, 0, none⟩) 1 1]).run Tryd.prog (w.alloc (.cells #[.int .i64 z] 3)) = .ok v' w' ∧ IRow w' v' (n + 1) (snoc x n d) w0.heap.size ∧ Fr w0 w' None := by
  subst hz
  exact app_own (h.keep ((Fr.refl w None).alloc _)) (hf.alloc _) ((At.alloc w _ _).cell 0) hlen ty
end Go.Proofs.YtgmebioogkmfgaaDoor

namespace Go.Mem
open Go.RowKit

theorem dgt_dv {x : Nat → Nat} (h : ∀ j, x j < 1073741824) : ∀ n i, dgt (dv x n) i = if i < n then x i else 0
  | 0, i => by simp [dv, dgt]
  | n + 1, i => by
    have ih := dgt_dv h n i
    have hl := dv_lt h n
    unfold dgt at ih ⊢
    rcases Nat.lt_trichotomy i n with c | c | c
    · rw [if_pos (by omega)]
      rw [if_pos c] at ih
      rw [← ih]
      show (dv x n + x n * 2 ^ (30 * n)) / 2 ^ (30 * i) % 1073741824 = _
      rw [show 30 * n = 30 * i + 30 + 30 * (n - i - 1) by omega, Nat.pow_add, Nat.pow_add, show x n * (2 ^ (30 * i) * 2 ^ 30 * 2 ^ (30 * (n - i - 1))) = 2 ^ (30 * i) * (1073741824 * (x n * 2 ^ (30 * (n - i - 1)))) by
        rw [show (2 : Nat) ^ 30 = 1073741824 from rfl]; generalize 2 ^ (30 * i) = P; generalize 2 ^ (30 * (n - i - 1)) = R
        rw [Nat.mul_assoc P, Nat.mul_left_comm (x n), Nat.mul_left_comm (x n)]]
      rw [Nat.add_mul_div_left _ _ (Nat.two_pow_pos _), Nat.add_mul_mod_self_left]
    · subst c
      rw [if_pos (by omega)]
      show (dv x i + x i * 2 ^ (30 * i)) / 2 ^ (30 * i) % 1073741824 = _
      rw [Nat.add_mul_div_right _ _ (Nat.two_pow_pos _), Nat.div_eq_of_lt hl, Nat.zero_add, Nat.mod_eq_of_lt (h i)]
    · rw [if_neg (by omega)]
      have := dv_lt h (n + 1)
      rw [Nat.div_eq_of_lt (Nat.lt_of_lt_of_le this (two_mono _ _ (by omega)))]

/-- A digit of what is shifted to the right, out of two digits. -/
theorem shr_digit {A k i q r : Nat} (hq : q = k / 30) (hr : r = k % 30) (hi : q ≤ i) : dgt (A / 2 ^ k) (i - q) = dgt A i / 2 ^ r + dgt A (i + 1) % 2 ^ r * 2 ^ (30 - r) := by
  have hk : k + 30 * (i - q) = 30 * i + r := by omega
  have hrl : r < 30 := by omega
  have e1 : A / 2 ^ k / 2 ^ (30 * (i - q)) = A / 2 ^ (30 * i) / 2 ^ r := by
    rw [Nat.div_div_eq_div_mul, Nat.div_div_eq_div_mul, ← Nat.pow_add, ← Nat.pow_add, hk]
  have e2 : A / 2 ^ (30 * (i + 1)) = A / 2 ^ (30 * i) / 1073741824 := by
    rw [show 30 * (i + 1) = 30 * i + 30 by omega, Nat.pow_add, Nat.div_div_eq_div_mul]
  unfold dgt
  rw [e1, e2]
  generalize A / 2 ^ (30 * i) = Y
  have hU : (2 : Nat) ^ r * 2 ^ (30 - r) = 1073741824 := by rw [← Nat.pow_add, show r + (30 - r) = 30 by omega]
  have hU0 := Nat.two_pow_pos r
  have hV0 := Nat.two_pow_pos (30 - r)
  generalize (2 : Nat) ^ r = U at *
  generalize (2 : Nat) ^ (30 - r) = V at *
  -- Y = lo + 2^30 * hi, hi = U * t + s
  have h1 := Nat.div_add_mod Y 1073741824
  have h2 := Nat.div_add_mod (Y / 1073741824) U
  have h5 : Y / 1073741824 % 1073741824 % U = Y / 1073741824 % U := by rw [← hU, Nat.mod_mul_right_mod]
  rw [h5]
  have hs : Y / 1073741824 % U < U := Nat.mod_lt _ hU0
  have hlo : Y % 1073741824 / U < V := by
    rw [Nat.div_lt_iff_lt_mul hU0, Nat.mul_comm, hU]
    exact Nat.mod_lt _ (by omega)
  generalize hsv : Y / 1073741824 % U = s at *
  generalize Y / 1073741824 / U = t at h2
  generalize Y / 1073741824 = H at *
  generalize hlv : Y % 1073741824 = l at *
  have h3 : Y = l + U * (V * (U * t + s)) := by
    rw [h2, ← Nat.mul_assoc, hU, Nat.add_comm]; exact h1.symm
  rw [h3, Nat.add_mul_div_left _ _ hU0]
  have h4 : l / U + V * (U * t + s) = (l / U + s * V) + 1073741824 * t := by
    rw [Nat.mul_add, ← Nat.mul_assoc, Nat.mul_comm V U, hU, Nat.mul_comm V s]
    omega
  rw [h4, Nat.add_mul_mod_self_left, Nat.mod_eq_of_lt]
  have h6 : s * V + V ≤ U * V := by rw [← Nat.succ_mul]; exact Nat.mul_le_mul_right _ hs
  omega

/-- The lowest digit that is not 0. -/
theorem dv_first {x : Nat → Nat} {i : Nat} (h : ∀ j, j < i → x j = 0) : ∀ n, i < n → ∃ R, dv x n = 2 ^ (30 * i) * (x i + 1073741824 * R)
  | 0, c => by omega
  | n + 1, c => by
    by_cases e : i = n
    · subst e
      refine ⟨0, ?_⟩
      have hz : ∀ m, m ≤ i → dv x m = 0 := by
        intro m
        induction m with
        | zero => intro _; rfl
        | succ m ih => intro hm; show dv x m + x m * _ = 0; rw [ih (by omega), h m (by omega)]; simp
      show dv x i + x i * 2 ^ (30 * i) = _
      rw [hz i (by omega), Nat.mul_zero, Nat.add_zero, Nat.zero_add, Nat.mul_comm]
    · obtain ⟨R, hR⟩ := dv_first h n (by omega)
      refine ⟨R + x n * 2 ^ (30 * (n - i - 1)), ?_⟩
      show dv x n + x n * 2 ^ (30 * n) = _
      rw [hR, show 30 * n = 30 * i + 30 + 30 * (n - i - 1) by omega, Nat.pow_add, Nat.pow_add, show (2 : Nat) ^ 30 = 1073741824 from rfl]
      generalize 2 ^ (30 * i) = P
      generalize 2 ^ (30 * (n - i - 1)) = T
      rw [Nat.mul_add, Nat.mul_add, Nat.mul_add, Nat.mul_add, Nat.add_assoc]
      congr 2
      rw [Nat.mul_left_comm (x n), Nat.mul_assoc P]
theorem dv_zero {x : Nat → Nat} : ∀ n, (∀ j, j < n → x j = 0) → dv x n = 0
  | 0, _ => rfl
  | n + 1, h => by show dv x n + x n * _ = 0; rw [dv_zero n (fun j hj => h j (by omega)), h n (by omega)]; simp

/-- How many twos there are: in the lowest digit that is not 0. -/
theorem low_odd {x : Nat → Nat} {n i c o : Nat} (hi : i < n) (h : ∀ j, j < i → x j = 0) (ho : o % 2 = 1) (hc : x i = o * 2 ^ c) (hlt : x i < 1073741824) :
    c < 30 ∧ dv x n / 2 ^ (30 * i + c) % 2 = 1 ∧ dv x n / 2 ^ (30 * i + c) * 2 ^ (30 * i + c) = dv x n := by
  obtain ⟨R, hR⟩ := dv_first h n hi
  have hc30 : c < 30 := by
    rcases Nat.lt_or_ge c 30 with g | g
    · exact g
    · have h2 : 2 ^ 30 ≤ 2 ^ c := two_mono _ _ g
      have h3 : 1 * 2 ^ c ≤ o * 2 ^ c := Nat.mul_le_mul_right _ (by omega)
      rw [show (2 : Nat) ^ 30 = 1073741824 from rfl] at h2
      omega
  have e : dv x n = 2 ^ (30 * i + c) * (o + 2 * (2 ^ (29 - c) * R)) := by
    rw [hR, hc, Nat.pow_add, Nat.mul_assoc]
    congr 1
    rw [show (1073741824 : Nat) = 2 ^ c * (2 * 2 ^ (29 - c)) by rw [← Nat.pow_succ', ← Nat.pow_add, show c + (29 - c + 1) = 30 by omega]]
    rw [Nat.mul_add, Nat.mul_comm o, Nat.mul_assoc, Nat.mul_assoc]
  refine ⟨hc30, ?_, ?_⟩
  · rw [e, Nat.mul_div_cancel_left _ (Nat.two_pow_pos _)]
    omega
  · rw [e, Nat.mul_div_cancel_left _ (Nat.two_pow_pos _), Nat.mul_comm]
end Go.Mem

namespace Go.Proofs.YtgmebioogkmfgaaDoor
open Go.RowKit Go.Pt Go.Mem

def TrimPost (n : Nat) (x : Nat → Nat) (base : Nat) (w : World) (e : Ending) (w' : World) : Prop :=
  ∃ m u, e = .returned u ∧ w = w' ∧ IRow w u m x base ∧ m ≤ n ∧ (∀ j, m ≤ j → j < n → x j = 0) ∧ (0 < m → x (m - 1) ≠ 0)

set_option maxRecDepth 100000 in
set_option maxHeartbeats 4000000 in
theorem trim_ok (v : Value) (n : Nat) (x : Nat → Nat) (base : Nat) (w : World) (hn : n ≤ 100000) (h : IRow w v n x base) :
    Calls Tryd.prog 76 #[v] w (TrimPost n x base w) := by
  rcases h with ⟨rfl, rfl⟩ | ⟨b, cap, cs, rfl, h1, h2, h3, h4, h5⟩
  · go_enter Tryd.func76, Tryd.ntmps76
    go_wp2
    go_loop [3] (fun i => i = .int .i64 0) (fun i => 0)
    case atStart => rfl
    case round =>
      obtain rfl := hrel
      go_wp2
      go_ret
      exact ⟨0, _, rfl, rfl, Or.inl ⟨rfl, rfl⟩, Nat.le_refl _, fun j _ hj => by omega, fun h => by omega⟩
  · have H := Lib.hid (And.intro h3 (And.intro h4 h5))
    have H2 := Lib.hid h2
    clear h2 h3 h4 h5
    go_enter Tryd.func76, Tryd.ntmps76
    go_wp2
    go_loop [3] (fun i => ∃ k : Nat, k ≤ n ∧ i = .int .i64 (k : Int) ∧ ∀ j, k ≤ j → j < n → x j = 0) (fun i => (intOf i).toNat)
    case atStart => exact ⟨n, Nat.le_refl _, rfl, fun j h1 h2 => by omega⟩
    case round =>
      obtain ⟨k, hk, rfl, hz⟩ := hrel
      have HZ := Lib.hid hz
      clear hz
      have P : ∀ (hnz : 0 < k → x (k - 1) ≠ 0), TrimPost n x base w (.returned (.slice (some ⟨b, 0, none⟩) k cap)) w := fun hnz =>
        ⟨k, _, rfl, rfl, Or.inr ⟨b, cap, cs, rfl, by omega, H2.out, H.out.1, H.out.2.1, fun j hj => H.out.2.2 j (by omega)⟩, hk, HZ.out, hnz⟩
      have HP := Lib.hid P
      clear P
      have icap : (k : Int) ≤ (cap : Int) := by omega
      rcases Nat.eq_zero_or_pos k with rfl | c
      · go_wp2
        go_ret
        exact HP.out (fun h => by omega)
      · obtain ⟨q, rfl⟩ : ∃ q, k = q + 1 := ⟨k - 1, by omega⟩
        have hc : w.cell? ⟨b, q, none⟩ = some (.int .i64 ((x q : Nat) : Int)) := by rw [H.out.1.cell]; exact H.out.2.2 q (by omega)
        have p1 : ((q + 1 : Nat) : Int) = (q : Int) + 1 := by omega
        have p2 : (q : Int) < (n : Int) := by omega
        have p3 : (0 : Int) < (q : Int) + 1 := by omega
        generalize hd : x q = d at hc
        have HD := Lib.hid hd
        clear hd
        by_cases z : d = 0
        · subst z
          go_wp2
          go_round
          case rel =>
            refine ⟨q, by omega, by go_num, fun j g1 g2 => ?_⟩
            by_cases e : j = q
            · subst e; exact HD.out
            · exact HZ.out j (by omega) g2
          case measure => simp [intOf]
        · have z' : ((d : Int) == 0) = false := beq_eq_false_iff_ne.2 (by omega)
          go_wp2
          go_ret
          exact HP.out (fun _ => by rw [Nat.add_sub_cancel, HD.out]; exact z)

/-- What Low gives: -1 where all is 0, else how many twos there are. -/
def LowPost (n : Nat) (x : Nat → Nat) (w : World) (e : Ending) (w' : World) : Prop :=
  w = w' ∧ ((e = .returned (.int .i64 (-1)) ∧ ∀ j, j < n → x j = 0) ∨ ∃ k : Nat, e = .returned (.int .i64 (k : Int)) ∧ k < 30 * n ∧ dv x n / 2 ^ k % 2 = 1 ∧ dv x n / 2 ^ k * 2 ^ k = dv x n)

set_option maxRecDepth 100000 in
set_option maxHeartbeats 4000000 in
theorem low_ok (v : Value) (n : Nat) (x : Nat → Nat) (w : World) (hn : n ≤ 100000) (hx : ∀ j, x j < 1073741824) (h : DigV w v n x) :
    Calls Tryd.prog 54 #[v] w (LowPost n x w) := by
  have hsh : ∃ a c, v = .slice a n c ∧ ∀ j, j < n → ∃ b, a = some ⟨b, 0, none⟩ ∧ w.cell? ⟨b, j, none⟩ = some (.int .i64 ((x j : Nat) : Int)) := by
    rcases h with ⟨rfl, rfl⟩ | ⟨b, cap, rfl, h1, h2, h3⟩
    · exact ⟨_, _, rfl, fun j hj => by omega⟩
    · exact ⟨_, _, rfl, fun j hj => ⟨b, rfl, h3 j hj⟩⟩
  obtain ⟨a, c, rfl, hcell⟩ := hsh
  have HC := Lib.hid hcell
  have HX := Lib.hid hx
  clear h hcell hx
  go_enter Tryd.func54, Tryd.ntmps54
  go_wp2
  go_loop [3] (fun i => ∃ k : Nat, k ≤ n ∧ i = .int .i64 (k : Int) ∧ ∀ j, j < k → x j = 0) (fun i => n - (intOf i).toNat)
  case atStart => exact ⟨0, Nat.zero_le _, rfl, fun j hj => by omega⟩
  case round =>
    obtain ⟨k, hk, rfl, hz⟩ := hrel
    have HZ := Lib.hid hz
    clear hz
    by_cases ck : k < n
    · obtain ⟨b, rfl, hc⟩ := HC.out k ck
      have p2 : (k : Int) < (n : Int) := by omega
      have hxl := HX.out k
      generalize hd : x k = d at hc hxl
      have HD := Lib.hid hd
      clear hd
      by_cases z : d = 0
      · subst z
        go_wp2
        go_round
        case rel =>
          refine ⟨k + 1, by omega, by push_cast; rfl, fun j g => ?_⟩
          by_cases e : j = k
          · subst e; exact HD.out
          · exact HZ.out j (by omega)
        case measure => simp [intOf]; omega
      · have z' : ((d : Int) == 0) = false := beq_eq_false_iff_ne.2 (by omega)
        have z2 : ((d : Int) != 0) = true := by rw [bne, z']; rfl
        have hk9 : (k : Int) ≤ 100000 := by omega
        go_wp2
        go_loop [4, 5] (fun s u => ∃ c o : Nat, c < 64 ∧ s = .int .i64 (30 * (k : Int) + (c : Int)) ∧ u = .int .i64 (o : Int) ∧ o * 2 ^ c = d) (fun _ u => (intOf u).toNat)
        case atStart => exact ⟨0, d, by omega, by simp, rfl, by simp⟩
        case round =>
          obtain ⟨c, o, hc64, rfl, rfl, hod⟩ := hrel
          have ho0 : o ≠ 0 := fun e => by rw [e, Nat.zero_mul] at hod; exact z hod.symm
          have hcb : c < 30 := by
            rcases Nat.lt_or_ge c 30 with g | g
            · exact g
            · have h2 : 2 ^ 30 ≤ 2 ^ c := two_mono _ _ g
              have h3 : 1 * 2 ^ c ≤ o * 2 ^ c := Nat.mul_le_mul_right _ (by omega)
              rw [show (2 : Nat) ^ 30 = 1073741824 from rfl] at h2
              omega
          have hol : o < 1073741824 := by
            have h3 : o * 1 ≤ o * 2 ^ c := Nat.mul_le_mul_left _ (Nat.two_pow_pos c)
            omega
          have hcb2 : (c : Int) < 30 := by omega
          by_cases par : o % 2 = 1
          · have P : LowPost n x w (.returned (.int .i64 (30 * (k : Int) + (c : Int)))) w := by
              obtain ⟨g1, g2, g3⟩ := low_odd ck HZ.out par (by rw [HD.out]; exact hod.symm) (HX.out k)
              exact ⟨rfl, Or.inr ⟨30 * k + c, by push_cast; rfl, by omega, g2, g3⟩⟩
            have HP := Lib.hid P
            clear P hod
            have par2 : ((o : Int) % 2 == 0) = false := beq_eq_false_iff_ne.2 (by omega)
            have par3 : (Int.tmod (o : Int) 2 == 0) = false := by rw [Int.tmod_eq_emod_of_nonneg (by omega)]; exact par2
            go_wp2
            go_ret
            exact HP.out
          · obtain ⟨o', rfl⟩ : ∃ o', o = 2 * o' := ⟨o / 2, by omega⟩
            have HO := Lib.hid hod
            clear hod
            have par2 : (((2 * o' : Nat) : Int) % 2 == 0) = true := beq_iff_eq.2 (by omega)
            have par3 : (Int.tmod ((2 * o' : Nat) : Int) 2 == 0) = true := by rw [Int.tmod_eq_emod_of_nonneg (by omega)]; exact par2
            have d2 : ((2 * o' : Nat) : Int) / 2 = (o' : Int) := by omega
            have d3 : Int.tdiv ((2 * o' : Nat) : Int) 2 = (o' : Int) := by rw [Int.tdiv_eq_ediv_of_nonneg (by omega)]; exact d2
            go_wp2
            refine ⟨⟨c + 1, o', by omega, ?_, rfl, ?_⟩, ?_⟩
            · rw [show ((c + 1 : Nat) : Int) = (c : Int) + 1 by omega, Int.add_assoc]
            · rw [Nat.pow_succ, Nat.mul_comm (2 ^ c) 2, ← Nat.mul_assoc, Nat.mul_comm o' 2]
              exact HO.out
            · simp [intOf]; omega
    · obtain rfl : k = n := by omega
      go_wp2
      go_ret
      exact ⟨rfl, Or.inl ⟨rfl, HZ.out⟩⟩
end Go.Proofs.YtgmebioogkmfgaaDoor

namespace Go.Proofs.YtgmebioogkmfgaaDoor
open Go.RowKit Go.Pt Go.Mem

/-- What Shr gives: the digits of the number that is left. -/
def ShrPost (A : Nat) (n base : Nat) (w : World) (e : Ending) (w' : World) : Prop :=
  ∃ m u, e = .returned u ∧ IRow w' u m (dgt A) base ∧ m ≤ n ∧ (0 < m → dgt A (m - 1) ≠ 0) ∧ dv (dgt A) m = A ∧ Fr w w' None

def ShInv (n q A : Nat) (w : World) (v i : Value) (wr : World) : Prop :=
  ∃ k : Nat, q ≤ k ∧ k ≤ n ∧ i = .int .i64 (k : Int) ∧ IRow wr v (k - q) (dgt A) w.heap.size ∧ Fr w wr None

set_option maxRecDepth 100000 in
set_option maxHeartbeats 4000000 in
theorem shr_ok (v : Value) (n k : Nat) (x : Nat → Nat) (w : World) (hn : n ≤ 50000) (hx : ∀ j, x j < 1073741824) (h : DigV w v n x) (hk : k < 30 * n) :
    Calls Tryd.prog 55 #[v, .int .i64 (k : Int)] w (ShrPost (dv x n / 2 ^ k) n w.heap.size w) := by
  obtain ⟨b, cap, rfl, hcap, hb, hcell⟩ : ∃ b cap, v = .slice (some ⟨b, 0, none⟩) n cap ∧ n ≤ cap ∧ b < w.heap.size ∧ ∀ j, j < n → w.cell? ⟨b, j, none⟩ = some (.int .i64 ((x j : Nat) : Int)) := by
    rcases h with ⟨rfl, rfl⟩ | ⟨b, cap, rfl, h1, h2, h3⟩
    · omega
    · exact ⟨b, cap, rfl, h1, h2, h3⟩
  obtain ⟨q, hq⟩ : ∃ q, k / 30 = q := ⟨_, rfl⟩
  obtain ⟨r, hr⟩ : ∃ r, k % 30 = r := ⟨_, rfl⟩
  have q1 : (k : Int) / 30 = (q : Int) := by omega
  have r1 : (k : Int) % 30 = (r : Int) := by omega
  have q2 : Int.tdiv (k : Int) 30 = (q : Int) := by rw [Int.tdiv_eq_ediv_of_nonneg (by omega)]; exact q1
  have r2 : Int.tmod (k : Int) 30 = (r : Int) := by rw [Int.tmod_eq_emod_of_nonneg (by omega)]; exact r1
  have q3 : (q : Int) < (n : Int) := by omega
  have r3 : (r : Int) < 64 := by omega
  have HC := Lib.hid (And.intro hb hcell)
  have HX := Lib.hid hx
  clear h hcell hx hb
  go_enter Tryd.func55, Tryd.ntmps55
  go_wp2
  have hU2 : wrap64 ((2 : Int) ^ r) = ((2 ^ r : Nat) : Int) := by
    rw [pow_cast]
    have : 2 ^ r ≤ 2 ^ 29 := two_mono _ _ (by omega)
    generalize (2 : Nat) ^ r = U at *
    exact IntWalk.wrap64_in _ (by omega)
  rw [hU2, decide_eq_false (show ¬ n ≤ q by omega)]
  have hUV : 2 ^ r * 2 ^ (30 - r) = 1073741824 := by rw [← Nat.pow_add, show r + (30 - r) = 30 by omega]
  have hU0 := Nat.two_pow_pos r
  have hdig : ∀ i, q ≤ i → i < n → dgt (dv x n / 2 ^ k) (i - q) = x i / 2 ^ r + (if i + 1 < n then x (i + 1) else 0) % 2 ^ r * 2 ^ (30 - r) := fun i h1 h2 => by
    rw [shr_digit hq.symm hr.symm h1, dgt_dv HX.out, dgt_dv HX.out, if_pos h2]
  have hVle : 2 ^ (30 - r) ≤ 2 ^ 30 := two_mono _ _ (by omega)
  have hUle : 2 ^ r ≤ 2 ^ 29 := two_mono _ _ (by omega)
  generalize (2 : Nat) ^ (30 - r) = V at hUV hdig hVle
  generalize hUe : (2 : Nat) ^ r = U at hUV hU0 hdig hUle ⊢
  have hVc : (1073741824 : Nat) / U = V := by rw [← hUV, Nat.mul_div_cancel_left _ hU0]
  generalize hA : dv x n / 2 ^ k = A at hdig ⊢
  have HD := Lib.hid (And.intro hdig (And.intro hUV (And.intro hU0 (And.intro hVc (And.intro hA hUe)))))
  have u0 : ¬ ((U : Int) = 0) := by omega
  have u9 : (1 : Int) ≤ (U : Int) := by omega
  have u1 : ((U : Int) == 0) = false := beq_eq_false_iff_ne.2 u0
  have uV : Int.tdiv 1073741824 (U : Int) = (V : Int) := by
    rw [Int.tdiv_eq_ediv_of_nonneg (by omega), ← hVc]; rfl
  have uV2 : (1073741824 : Int) / (U : Int) = (V : Int) := by rw [← hVc]; rfl
  have uVb : (V : Int) ≤ 1073741824 := by rw [show (2 : Nat) ^ 30 = 1073741824 from rfl] at hVle; omega
  clear hdig hUV hVc hA hU2 hUe hVle hUle q1 r1 q2 r2
  go_loopw [5, 7] (fun l ix wr => ShInv n q A w l ix wr) (fun _ ix _ => n - (intOf ix).toNat)
  case atStart => exact ⟨q, Nat.le_refl _, by omega, rfl, by rw [Nat.sub_self]; exact IRow.nil _ _ _, Fr.refl _ _⟩
  case round =>
    obtain ⟨i, h1, h2, rfl, hrow, hf⟩ := hrel
    obtain ⟨la, lc, rfl⟩ := hrow.shape
    have HR := Lib.hid (And.intro hrow hf)
    clear hrow hf
    by_cases c : i < n
    · have i1 : (i : Int) < (n : Int) := by omega
      have c0 : wr.cell? ⟨b, i, none⟩ = some (.int .i64 ((x i : Nat) : Int)) := by rw [HR.out.2.cell (p := ⟨b, i, none⟩) HC.out.1 (fun x => x)]; exact HC.out.2 i c
      have hd := HD.out.1 i h1 c
      have hlt := HX.out i
      have hdl := dgt_lt A (i - q)
      generalize hDD : dgt A (i - q) = D at hd hdl
      have HDD := Lib.hid hDD
      clear hDD
      generalize x i = d at c0 hd hlt
      by_cases c2 : i + 1 < n
      · rw [if_pos c2] at hd
        have i2 : (i : Int) + 1 < (n : Int) := by omega
        have c1 : wr.cell? ⟨b, i + 1, none⟩ = some (.int .i64 ((x (i + 1) : Nat) : Int)) := by rw [HR.out.2.cell (p := ⟨b, i + 1, none⟩) HC.out.1 (fun x => x)]; exact HC.out.2 (i + 1) c2
        have hel0 := HX.out (i + 1)
        generalize x (i + 1) = e at c1 hd hel0
        have hDz : (D : Int) = (d : Int) / (U : Int) + (e : Int) % (U : Int) * (V : Int) := by rw [hd]; push_cast; rfl
        have p1 : 0 ≤ (d : Int) / (U : Int) := Int.ediv_nonneg (by omega) (by omega)
        have p2 : 0 ≤ (e : Int) % (U : Int) * (V : Int) := Int.mul_nonneg (Int.emod_nonneg _ u0) (by omega)
        have p3 : (d : Int) / (U : Int) + (e : Int) % (U : Int) * (V : Int) < 1073741824 := by omega
        have hel : (e : Int) < 1073741824 := by omega
        go_wp2_with fail
        go_quiet (fail)
        have RW0 := Lib.hid (And.intro (HR.out.1.keep ((Fr.refl wr None).drewN nq)) (HR.out.2.drewN nq))
        generalize wr.drewN nq = W at RW0 ⊢
        have RW := RW0
        clear RW0
        obtain ⟨v', wn, happ, g1, g2⟩ := app_next (w := W) (w0 := w) RW.out.1 RW.out.2 (by omega) D _ hDz.symm 22
        have R : Hid (ShInv n q A w v' (.int .i64 ((i : Int) + 1)) wn) := by
          refine Lib.hid ⟨i + 1, by omega, c, by push_cast; rfl, ?_, g2⟩
          rw [show i + 1 - q = i - q + 1 by omega]
          refine g1.congr (fun j hj => ?_)
          unfold snoc
          split
          · rename_i e
            rw [e]
            exact HDD.out.symm
          · rfl
        clear g1 g2
        go_wp2_with (refine wpList_appI _ _ rfl _ _ rfl _ _ _ rfl rfl happ ?_)
        clear happ hDz p1 p2 p3 hel c0 c1 uV uV2 hd hdl hlt
        go_roundw
        case rel => exact R.out
        case measure => simp [intOf]; omega
      · rw [if_neg c2] at hd
        have i2 : ¬ ((i : Int) + 1 < (n : Int)) := by omega
        have hDz : (D : Int) = (d : Int) / (U : Int) := by rw [hd, Nat.zero_mod, Nat.zero_mul, Nat.add_zero]; push_cast; rfl
        have RW := HR
        generalize wr = W at *
        obtain ⟨v', wn, happ, g1, g2⟩ := app_next (w := W) (w0 := w) RW.out.1 RW.out.2 (by omega) D _ hDz.symm 22
        have R : Hid (ShInv n q A w v' (.int .i64 ((i : Int) + 1)) wn) := by
          refine Lib.hid ⟨i + 1, by omega, c, by push_cast; rfl, ?_, g2⟩
          rw [show i + 1 - q = i - q + 1 by omega]
          refine g1.congr (fun j hj => ?_)
          unfold snoc
          split
          · rename_i e
            rw [e]
            exact HDD.out.symm
          · rfl
        clear g1 g2
        go_wp2_with (refine wpList_appI _ _ rfl _ _ rfl _ _ _ rfl rfl happ ?_)
        go_roundw
        case rel => exact R.out
        case measure => simp [intOf]; omega
    · obtain rfl : i = n := by omega
      have ht := trim_ok _ _ _ _ wr (by omega) HR.out.1
      have HTR := Lib.hid ht
      clear ht
      go_wp2_with fail
      refine (HTR.out).mono ?_
      rintro en w9 ⟨m, u, rfl, rfl, g1, g2, g3, g4⟩
      have P : Hid (ShrPost (dv x i / 2 ^ k) i w.heap.size w (.returned u) wr) := by
        rw [HD.out.2.2.2.2.1]
        have hAn : A < 2 ^ (30 * (i - q)) := by
          have h5 := dv_lt HX.out i
          rw [← HD.out.2.2.2.2.1]
          refine Nat.div_lt_of_lt_mul ?_
          rw [← Nat.pow_add]
          exact Nat.lt_of_lt_of_le h5 (two_mono _ _ (by omega))
        refine ⟨m, u, rfl, g1, by omega, g4, ?_, HR.out.2⟩
        rw [dv_dgt, Nat.mod_eq_of_lt]
        rcases Nat.lt_or_ge A (2 ^ (30 * m)) with h6 | h6
        · exact h6
        · exfalso
          have h7 : A / 2 ^ (30 * m) = 0 := by
            have hz : ∀ t, m + t ≤ i - q → A / 2 ^ (30 * (i - q - t)) = 0 ∨ A / 2 ^ (30 * (i - q - t)) = 0 := by
              intro t
              induction t with
              | zero => intro _; exact Or.inl (Nat.div_eq_of_lt hAn)
              | succ t ih =>
                intro ht
                have h8 := (ih (by omega)).elim id id
                have h9 := g3 (i - q - (t + 1)) (by omega) (by omega)
                unfold dgt at h9
                have h10 : A / 2 ^ (30 * (i - q - t)) = A / 2 ^ (30 * (i - q - (t + 1))) / 1073741824 := by
                  rw [Nat.div_div_eq_div_mul, show (1073741824 : Nat) = 2 ^ 30 from rfl, ← Nat.pow_add, show 30 * (i - q - (t + 1)) + 30 = 30 * (i - q - t) by omega]
                rw [h10] at h8
                exact Or.inl (by omega)
            have := (hz (i - q - m) (by omega)).elim id id
            rw [show i - q - (i - q - m) = m by omega] at this
            exact this
          have := Nat.div_pos h6 (Nat.two_pow_pos _)
          omega
      clear g1 g3 g4
      go_wp2_with fail
      go_ret
      exact P.out
end Go.Proofs.YtgmebioogkmfgaaDoor

namespace Go.Proofs.YtgmebioogkmfgaaDoor
open Go.RowKit Go.Pt Go.Mem

/-- What Norm gives: the one form of neg, N times 2^e, where N has at most 30 n bits. -/
def NormIs (neg : Bool) (N : Nat) (e : Int) (n : Nat) (w : World) (x : Value) : Prop :=
  (N = 0 ∧ NumV w x false 0 0) ∨ ∃ k : Nat, k < 30 * n ∧ N / 2 ^ k % 2 = 1 ∧ N / 2 ^ k * 2 ^ k = N ∧ NumV w x neg (N / 2 ^ k) (e + k)
def NrmPost (neg : Bool) (N : Nat) (e : Int) (n : Nat) (w : World) (en : Ending) (w' : World) : Prop :=
  ∃ x, en = .returned x ∧ NormIs neg N e n w' x ∧ Fr w w' None

theorem NumV.of_row {w : World} {u : Value} {neg : Bool} {A m base : Nat} {E : Int} (h : IRow w u m (dgt A) base) (hm : m ≤ 2000) (ht : 0 < m → dgt A (m - 1) ≠ 0) (hd : dv (dgt A) m = A) (ho : A % 2 = 1) (e1 : -1048576 ≤ E) (e2 : E ≤ 1048576) :
    NumV w (.agg #[.bool neg, u, .int .i64 E]) neg A E :=
  ⟨u, m, rfl, h.dig, ⟨dgt_lt A, ht, hm⟩, hd, fun c => by omega, fun _ => ⟨ho, e1, e2⟩⟩

set_option maxRecDepth 100000 in
set_option maxHeartbeats 4000000 in
theorem norm_ref (neg : Bool) (v : Value) (n : Nat) (x : Nat → Nat) (e : Int) (w : World) (hn : n ≤ 2000) (hx : ∀ j, x j < 1073741824) (h : DigV w v n x) (e1 : -900000 ≤ e) (e2 : e ≤ 900000) :
    Calls Tryd.prog 33 #[.bool neg, v, .int .i64 e] w (NrmPost neg (dv x n) e n w) := by
  have f0 := (Fr.refl w None).alloc (.cells #[.bool false, .slice none 0 0, .int .i64 0] 31)
  have r0 := At.alloc w #[.bool false, .slice none 0 0, .int .i64 0] 31
  have hl := low_ok v n x _ (by omega) hx (h.keep f0 (fun _ _ x => x))
  have hs := fun k hk => shr_ok v n k x _ (by omega) hx (h.keep f0 (fun _ _ x => x)) hk
  have c0 := r0.cell 0
  have c1 := r0.cell 1
  have c2 := r0.cell 2
  have d0 := r0.free 0
  have d1 := r0.free 1
  have d2 := r0.free 2
  have HL := Lib.hid hl
  have HS := Lib.hid hs
  have F0 := Lib.hid f0
  have R0 := Lib.hid r0
  clear hl hs f0 r0 h hx
  go_enter Tryd.func33, Tryd.ntmps33
  go_wp2_with fail
  generalize w.alloc (.cells #[.bool false, .slice none 0 0, .int .i64 0] 31) = w0 at HL HS F0 R0 c0 c1 c2 d0 d1 d2 ⊢
  refine (HL.out).mono ?_
  rintro en w1 ⟨rfl, ⟨rfl, hz⟩ | ⟨k, rfl, hk, ho, hd⟩⟩
  · have HZ := Lib.hid hz
    clear hz
    go_wp2_with fail
    obtain ⟨az, fz⟩ := put3 R0.out (.bool false) (.slice none 0 0) (.int .i64 0)
    generalize ((w0.setCell ⟨w.heap.size, 0, none⟩ (.bool false)).setCell ⟨w.heap.size, 1, none⟩ (.slice none 0 0)).setCell ⟨w.heap.size, 2, none⟩ (.int .i64 0) = wz at az fz ⊢
    refine bodyPost_ret (results_cell_row rfl _ _ _ _ _ _ _ rfl az Tryd.underlying31 rfl (by kernel_rfl)) rfl ?_
    exact ⟨_, rfl, Or.inl ⟨dv_zero n HZ.out, zero_num wz⟩, F0.out.trans fz (fun _ h => h) (fun x hx h => by unfold Mem.One at h; omega)⟩
  · have hk0 : ((k : Int) < 0) = False := eq_false (by omega)
    have hsk := HS.out k hk
    have HSK := Lib.hid hsk
    have HD := Lib.hid (And.intro ho hd)
    clear hsk HS HL ho hd
    go_wp2_with fail
    refine (HSK.out).mono ?_
    rintro en w2 ⟨m, u, rfl, g1, g2, g3, g4, g5⟩
    have r2 := R0.out.keep g5 (fun x => x)
    have c0 := r2.cell 0
    have c1 := r2.cell 1
    have c2 := r2.cell 2
    have d0 := r2.free 0
    have d1 := r2.free 1
    have d2 := r2.free 2
    have R2 := Lib.hid r2
    have hnum : NumV w2 (.agg #[.bool neg, u, .int .i64 (e + (k : Int))]) neg (dv x n / 2 ^ k) (e + k) := NumV.of_row g1 (by omega) g3 g4 HD.out.1 (by omega) (by omega)
    obtain ⟨ua, uc, rfl⟩ := g1.shape
    have HN := Lib.hid hnum
    have FX := Lib.hid (F0.out.trans g5 (fun _ h => h) (fun _ _ h => h))
    clear g1 g2 g3 g4 g5 r2 hnum
    go_wp2_with fail
    obtain ⟨az, fz⟩ := put3 R2.out (.bool neg) (.slice ua m uc) (.int .i64 (e + (k : Int)))
    generalize ((w2.setCell ⟨w.heap.size, 0, none⟩ (.bool neg)).setCell ⟨w.heap.size, 1, none⟩ (.slice ua m uc)).setCell ⟨w.heap.size, 2, none⟩ (.int .i64 (e + (k : Int))) = wz at az fz ⊢
    refine bodyPost_ret (results_cell_row rfl _ _ _ _ _ _ _ rfl az Tryd.underlying31 rfl (by kernel_rfl)) rfl ?_
    exact ⟨_, rfl, Or.inr ⟨k, hk, HD.out.1, HD.out.2, HN.out.over R2.out rfl fz⟩, FX.out.trans fz (fun _ h => h) (fun x hx h => by unfold Mem.One at h; omega)⟩
end Go.Proofs.YtgmebioogkmfgaaDoor
