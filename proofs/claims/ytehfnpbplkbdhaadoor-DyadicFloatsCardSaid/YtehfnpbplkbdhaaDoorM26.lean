/- whole of plumb/dyadic. Condition: it stands in each fact. -/
import Derived.Test.YtehfnpbplkbdhaaDoorM24
namespace Go.Mem
open Go.RowKit

/-- The number of n digits of 30 bits. -/
def dv (x : Nat → Nat) : Nat → Nat
  | 0 => 0
  | n + 1 => dv x n + x n * 2 ^ (30 * n)
/-- The number of the k highest of n digits. -/
def tp (x : Nat → Nat) (n : Nat) : Nat → Nat
  | 0 => 0
  | k + 1 => tp x n k * 1073741824 + x (n - 1 - k)
theorem tp_dv (x : Nat → Nat) (n : Nat) : ∀ k, k ≤ n → dv x n = tp x n k * 2 ^ (30 * (n - k)) + dv x (n - k)
  | 0, _ => by simp [tp]
  | k + 1, h => by
    rw [tp_dv x n k (by omega)]
    obtain ⟨q, hq⟩ : ∃ q, n - k = q + 1 := ⟨n - k - 1, by omega⟩
    rw [hq, show n - (k + 1) = q by omega]
    show tp x n k * 2 ^ (30 * (q + 1)) + (dv x q + x q * 2 ^ (30 * q)) = (tp x n k * 1073741824 + x (n - 1 - k)) * 2 ^ (30 * q) + dv x q
    rw [show n - 1 - k = q by omega, show 30 * (q + 1) = 30 + 30 * q by omega, Nat.pow_add, Nat.add_mul, Nat.mul_assoc, show (2 : Nat) ^ 30 = 1073741824 from rfl]
    omega
theorem tp_all (x : Nat → Nat) (n : Nat) : tp x n n = dv x n := by
  have := tp_dv x n n (Nat.le_refl _)
  simp [dv] at this
  omega
theorem dv_lt {x : Nat → Nat} (h : ∀ j, x j < 1073741824) : ∀ n, dv x n < 2 ^ (30 * n)
  | 0 => by simp [dv]
  | n + 1 => by
    have h1 := dv_lt h n
    have h2 := h n
    unfold dv
    rw [show 30 * (n + 1) = 30 * n + 30 by omega, Nat.pow_add]
    have h3 : x n * 2 ^ (30 * n) ≤ 1073741823 * 2 ^ (30 * n) := Nat.mul_le_mul_right _ (by omega)
    have h4 : 2 ^ (30 * n) * 2 ^ 30 = 1073741824 * 2 ^ (30 * n) := by rw [Nat.mul_comm]
    omega
theorem tp_lt {x : Nat → Nat} (h : ∀ j, x j < 1073741824) (n : Nat) : ∀ k, tp x n k < 2 ^ (30 * k)
  | 0 => by simp [tp]
  | k + 1 => by
    have h1 := tp_lt h n k
    have h2 := h (n - 1 - k)
    unfold tp
    rw [show 30 * (k + 1) = 30 * k + 30 by omega, Nat.pow_add]
    have h3 : (tp x n k + 1) * 1073741824 ≤ 2 ^ (30 * k) * 1073741824 := Nat.mul_le_mul_right _ h1
    omega
theorem tp_pos {x : Nat → Nat} {n : Nat} (h : x (n - 1) ≠ 0) : ∀ k, 0 < tp x n (k + 1)
  | 0 => by simp [tp]; omega
  | k + 1 => by
    have := tp_pos h k
    show 0 < tp x n (k + 1) * 1073741824 + _
    omega

/-- A value is a slice of digits. -/
def DigV (w : World) (v : Value) (n : Nat) (x : Nat → Nat) : Prop :=
  (v = .slice none 0 0 ∧ n = 0) ∨ ∃ b cap, v = .slice (some ⟨b, 0, none⟩) n cap ∧ n ≤ cap ∧ b < w.heap.size ∧ ∀ j, j < n → w.cell? ⟨b, j, none⟩ = some (.int .i64 ((x j : Nat) : Int))
/-- The digits are a number's: each of 30 bits, none of them 0 on top. -/
def Digs (n : Nat) (x : Nat → Nat) : Prop := (∀ j, x j < 1073741824) ∧ (0 < n → x (n - 1) ≠ 0) ∧ n ≤ 2000
theorem DigV.keep {w w' : World} {v : Value} {n : Nat} {x : Nat → Nat} {S : Nat → Prop} (h : DigV w v n x) (f : Fr w w' S) (hn : ∀ b, Blk v b → ¬ S b) : DigV w' v n x := by
  rcases h with h | ⟨b, cap, rfl, h1, h2, h3⟩
  · exact Or.inl h
  · exact Or.inr ⟨b, cap, rfl, h1, Nat.lt_of_lt_of_le h2 f.size, fun j hj => by rw [f.cell (p := ⟨b, j, none⟩) h2 (hn b ⟨_, _, rfl⟩)]; exact h3 j hj⟩
end Go.Mem
namespace Go.Proofs.YtehfnpbplkbdhaaDoor
open Go.RowKit Go.Pt Go.Mem

/-- What the loop of whole has done after k rounds. -/
def WhInv (m : Nat) (n : Nat) (x : Nat → Nat) (w : World) (i : Value) (wr : World) : Prop :=
  ∃ k v, k ≤ n ∧ i = .int .i64 (k : Int) ∧ IntV wr m v false (tp x n k) ∧ (∀ b, Blk v b → w.heap.size ≤ b) ∧ Fr w wr None

set_option maxRecDepth 100000 in
set_option maxHeartbeats 4000000 in
theorem whole_pos (b cap n : Nat) (x : Nat → Nat) (neg : Bool) (w : World) (hn : 0 < n) (hD : Digs n x) (hcap : n ≤ cap) (hb : b < w.heap.size) (hx : ∀ j, j < n → w.cell? ⟨b, j, none⟩ = some (.int .i64 ((x j : Nat) : Int))) :
    Calls Tryd.prog 33 #[.bool neg, .slice (some ⟨b, 0, none⟩) n cap] w (NewPost neg (dv x n) w) := by
  have h0 : IntV (w.alloc (.cells #[.bool false, .slice none 0 0] 87)) w.heap.size (.slice none 0 0) false 0 := ⟨alloc_shell w false _, Or.inl ⟨rfl, rfl⟩⟩
  have f0 : Fr w (w.alloc (.cells #[.bool false, .slice none 0 0] 87)) None := (Fr.refl w None).alloc _
  have I : Hid (WhInv w.heap.size n x w (.int .i64 0) (w.alloc (.cells #[.bool false, .slice none 0 0] 87))) :=
    ⟨0, _, Nat.zero_le _, rfl, h0, (fun b h => by obtain ⟨_, _, h⟩ := h; cases h), f0⟩
  have HD := Lib.hid hD
  have HX := Lib.hid (And.intro hb hx)
  clear h0 f0 hD hb hx
  have hn2 : n ≤ 2000 := HD.out.2.2
  go_enter Tryd.func33, Tryd.ntmps33
  go_wp2
  generalize w.alloc (.cells #[.bool false, .slice none 0 0] 87) = w0 at I ⊢
  go_loopw [10] (fun i wr => WhInv w.heap.size n x w i wr) (fun i _ => n - (intOf i).toNat)
  case atStart => exact I.out
  case round =>
    obtain ⟨k, v, hk, rfl, hi, hv, hf⟩ := hrel
    have HI := Lib.hid hi
    have HV := Lib.hid hv
    have HF := Lib.hid hf
    clear hi hv hf
    by_cases c : k < n
    · have i0 : (k : Int) < (n : Int) := by omega
      have i3 : (0 : Int) ≤ (n : Int) - 1 - (k : Int) := by omega
      have i4 : (n : Int) - 1 - (k : Int) < (n : Int) := by omega
      have i5 : ((n : Int) - 1 - (k : Int)).toNat = n - 1 - k := by omega
      go_wp2_with fail
      refine (intLsh w.heap.size w.heap.size v v false false (tp x n k) (tp x n k) 30 n (by omega) (by omega) (by omega) wr HI.out HI.out
        (Nat.lt_of_lt_of_le (tp_lt HD.out.1 n k) (Nat.pow_le_pow_right (by omega) (by omega)))).mono ?_
      rintro e w1 ⟨rfl, v1, a1, a2, a3⟩
      have f1 : Fr w w1 None := HF.out.trans a3 (fun _ h => h) (fun q hq hs => by
        rcases hs with rfl | hs
        · omega
        · have := HV.out q hs; omega)
      have c1 : w1.cell? ⟨b, n - 1 - k, none⟩ = some (.int .i64 ((x (n - 1 - k) : Nat) : Int)) := by
        rw [f1.cell (p := ⟨b, n - 1 - k, none⟩) HX.out.1 (fun x => x)]
        exact HX.out.2 _ (by omega)
      have hd := HD.out.1 (n - 1 - k)
      have hpos : 0 < tp x n k * 1073741824 + x (n - 1 - k) := by
        have := tp_pos (HD.out.2.1 hn) k
        exact this
      have htp : tp x n (k + 1) = tp x n k * 1073741824 + x (n - 1 - k) := rfl
      generalize x (n - 1 - k) = d at c1 hd hpos htp
      have hnew := newInt (d : Int) (by unfold I64; omega) w1
      rw [decide_eq_false (by omega), Int.natAbs_natCast] at hnew
      have HNEW := Lib.hid hnew
      have A := Lib.hid (And.intro a1 (And.intro a2 (And.intro f1 (And.intro hd (And.intro hpos htp)))))
      have SZ : Hid (wr.heap.size ≤ w1.heap.size) := a3.size
      clear hnew a1 a2 a3 f1 hd hpos htp
      go_wp2_with fail
      refine (HNEW.out).mono ?_
      rintro e w2 ⟨p, pv, rfl, b1, b2, b3, b4⟩
      have B := Lib.hid (And.intro b1 (And.intro b2 (And.intro b3 b4)))
      clear b1 b2 b3 b4
      go_wp2_with fail
      obtain ⟨a1, a2, f1, hd, hpos, htp⟩ := A.out
      refine (intOr w.heap.size p v1 pv (tp x n k * 2 ^ 30) d w2 (Nat.mul_mod_left _ _) hd hpos (a1.keep B.out.2.2.2 (fun x => x) (fun _ _ x => x)) B.out.1).mono ?_
      rintro e w3 ⟨rfl, v3, d1, d2, d3⟩
      have fv1 : ∀ q, Blk v1 q → w.heap.size ≤ q := fun q hq => by
        rcases a2 q hq with h | h
        · exact HV.out q h
        · exact Nat.le_trans HF.out.size h
      have R : Hid (WhInv w.heap.size n x w (.int .i64 ((k : Int) + 1)) w3) := by
        refine ⟨k + 1, v3, by omega, rfl, by rw [htp]; exact d1, fun q hq => ?_, ?_⟩
        · rcases d2 q hq with h | h
          · exact fv1 q h
          · exact Nat.le_trans (Nat.le_trans f1.size B.out.2.2.2.size) h
        · exact (f1.trans B.out.2.2.2 (fun _ h => h) (fun _ _ h => h)).trans d3 (fun _ h => h) (fun q hq hs => by
            rcases hs with rfl | hs
            · omega
            · have := fv1 q hs; omega)
      clear a1 a2 f1 hd hpos htp d1 d2 d3 fv1
      go_wp2_with fail
      go_roundw
      case rel => exact R.out
      case measure => simp [intOf]; omega
    · obtain rfl : k = n := by omega
      have e := tp_all x k
      cases neg
      · go_wp2
        go_ret
        exact ⟨_, v, rfl, by rw [← e]; exact HI.out, Nat.le_refl _, HV.out, HF.out⟩
      · have hp : 0 < tp x k k := by
          obtain ⟨q, rfl⟩ : ∃ q, k = q + 1 := ⟨k - 1, by omega⟩
          exact tp_pos (HD.out.2.1 hn) q
        go_wp2_with fail
        refine (intNeg w.heap.size v false _ wr hp HI.out).mono ?_
        rintro e' w1 ⟨rfl, g1, g2⟩
        have P : Hid (NewPost true (dv x k) w (.returned (.pointer (some ⟨w.heap.size, 0, none⟩))) w1) :=
          ⟨_, v, rfl, by rw [← e]; exact g1, Nat.le_refl _, HV.out, HF.out.trans g2 (fun _ h => h) (fun q hq hs => by cases hs; omega)⟩
        clear g1 g2
        go_wp2_with fail
        go_ret
        exact P.out
end Go.Proofs.YtehfnpbplkbdhaaDoor
