/- Bytes and words of a number; rows of bytes. Condition: it stands in each fact. -/
import Derived.Test.YtgmebioogkmfgaaDoorZM9
import Derived.Test.YtgmebioogkmfgaaDoorQ0
namespace Go.Mem
open Go.RowKit

/-- Byte q of A; word k of A. -/
def byt (A q : Nat) : Nat := A / 2 ^ (8 * q) % 256
def wrd (A k : Nat) : Nat := A / 2 ^ (64 * k) % 18446744073709551616
theorem byt_lt (A q : Nat) : byt A q < 256 := Nat.mod_lt _ (by omega)
theorem wd_lt (A q : Nat) : wrd A q < 18446744073709551616 := Nat.mod_lt _ (by omega)

/-- A field of bits of what is cut off. -/
theorem mod_field (A p q r : Nat) (h : q + r ≤ p) : A % 2 ^ p / 2 ^ q % 2 ^ r = A / 2 ^ q % 2 ^ r := by
  apply Nat.eq_of_testBit_eq
  intro i
  simp only [Nat.testBit_mod_two_pow, Nat.testBit_div_two_pow]
  by_cases c : i < r
  · simp [c, show i + q < p by omega]
  · simp [c]

theorem cut_low (B n : Nat) : B % 2 ^ (n + 8) = B % 2 ^ n + B / 2 ^ n % 256 * 2 ^ n := by
  rw [Nat.pow_add, Nat.mod_mul, show (2 : Nat) ^ 8 = 256 from rfl, Nat.mul_comm (2 ^ n)]

/-- A word out of its bytes. -/
theorem wd_bytes (A k : Nat) : wrd A k = byt A (8 * k) + byt A (8 * k + 1) * 256 + byt A (8 * k + 2) * 65536 + byt A (8 * k + 3) * 16777216 + byt A (8 * k + 4) * 4294967296 + byt A (8 * k + 5) * 1099511627776 + byt A (8 * k + 6) * 281474976710656 + byt A (8 * k + 7) * 72057594037927936 := by
  unfold wrd byt
  have e : ∀ j, A / 2 ^ (8 * (8 * k + j)) = A / 2 ^ (64 * k) / 2 ^ (8 * j) := fun j => by
    rw [Nat.div_div_eq_div_mul, ← Nat.pow_add]; congr 2; omega
  rw [show A / 2 ^ (8 * (8 * k)) = A / 2 ^ (64 * k) by congr 2; omega]
  simp only [e]
  generalize A / 2 ^ (64 * k) = B
  simp only [show (2 : Nat) ^ (8 * 1) = 256 from rfl, show (2 : Nat) ^ (8 * 2) = 65536 from rfl, show (2 : Nat) ^ (8 * 3) = 16777216 from rfl, show (2 : Nat) ^ (8 * 4) = 4294967296 from rfl, show (2 : Nat) ^ (8 * 5) = 1099511627776 from rfl, show (2 : Nat) ^ (8 * 6) = 281474976710656 from rfl, show (2 : Nat) ^ (8 * 7) = 72057594037927936 from rfl]
  omega

theorem val_wd (A : Nat) : ∀ n, val (wrd A) n = A % 2 ^ (64 * n)
  | 0 => by simp [val, Nat.mod_one]
  | n + 1 => by
    show val (wrd A) n + wrd A n * 2 ^ (64 * n) = _
    rw [val_wd A n, show 64 * (n + 1) = 64 * n + 64 by omega, Nat.pow_add, Nat.mod_mul, show (2 : Nat) ^ 64 = 18446744073709551616 from rfl]
    unfold wrd
    rw [Nat.mul_comm (A / 2 ^ (64 * n) % 18446744073709551616)]

/-- The word on top, out of the bytes that are left. -/
theorem byt_up (A k t : Nat) : byt A (8 * k + t) = A / 2 ^ (64 * k) / 2 ^ (8 * t) % 256 := by
  unfold byt
  rw [Nat.div_div_eq_div_mul, ← Nat.pow_add]
  congr 3
  omega

/-- Cells o .. of block b are the bytes of A, the highest of L first. -/
def Bytes (w : World) (b L A : Nat) : Prop := b < w.heap.size ∧ ∀ q, q < L → w.cell? ⟨b, q, none⟩ = some (.int .u8 ((byt A (L - 1 - q) : Nat) : Int))
theorem Bytes.keep {w w' : World} {b L A : Nat} {S : Nat → Prop} (h : Bytes w b L A) (f : Fr w w' S) (hn : ¬ S b) : Bytes w' b L A :=
  ⟨Nat.lt_of_lt_of_le h.1 f.size, fun q hq => by rw [f.cell (p := ⟨b, q, none⟩) h.1 hn]; exact h.2 q hq⟩
end Go.Mem
namespace Go.Proofs.YtgmebioogkmfgaaDoor
open Go.RowKit Go.Pt Go.Mem

theorem or8 {s : Nat} (hs : s < 57) (D : Nat) (hD : D = 2 ^ s) (C : Int) (hC : C = (D : Int)) (a b : Nat) (ha : a < D) (hb : b < 256) : bits .or .u64 (a : Int) ((b : Int) * C) = ((a + b * D : Nat) : Int) := by
  subst hC
  have h1 : b * D < 18446744073709551616 := by
    subst hD
    have h2 : b * 2 ^ s < 256 * 2 ^ s := Nat.mul_lt_mul_of_pos_right hb (Nat.two_pow_pos s)
    have h3 : 256 * 2 ^ s ≤ 256 * 2 ^ 56 := Nat.mul_le_mul_left _ (Nat.pow_le_pow_right (by omega) (by omega))
    omega
  rw [← Int.natCast_mul]
  exact or_add' (s := s) (by omega) _ _ h1 (by rw [hD]; exact Nat.mul_mod_left _ _) (by rw [← hD]; exact ha)

theorem or8w {s : Nat} (hs : s < 57) (a b : Nat) (ha : a < 2 ^ s) (hb : b < 256) : bits .or .u64 (a : Int) (IntKind.u64.wrap ((b : Int) * 2 ^ s)) = ((a + b * 2 ^ s : Nat) : Int) := by
  have h1 : b * 2 ^ s < 18446744073709551616 := by
    have h2 : b * 2 ^ s < 256 * 2 ^ s := Nat.mul_lt_mul_of_pos_right hb (Nat.two_pow_pos s)
    have h3 : 256 * 2 ^ s ≤ 256 * 2 ^ 56 := Nat.mul_le_mul_left _ (Nat.pow_le_pow_right (by omega) (by omega))
    omega
  rw [shl_form, Nat.mod_eq_of_lt h1]
  exact or_add' (s := s) (by omega) _ _ h1 (Nat.mul_mod_left _ _) ha

/-- What SetBytes' first loop has done after k words. -/
def SbInv (bb zb zcap L A : Nat) (w1 : World) (k : Nat) (wr : World) : Prop :=
  ∃ l, Row wr zb l ∧ l.length = zcap ∧ (∀ j, j < k → l.getD j 0 = wrd A j) ∧ Bytes wr bb L A ∧ Fr w1 wr (One zb)

end Go.Proofs.YtgmebioogkmfgaaDoor

namespace Go.Proofs.YtgmebioogkmfgaaDoor
open Go.RowKit Go.Pt Go.Mem

/-- A row that holds the words of A, its zeros on top left away, is A. -/
theorem natv_norm {w : World} {zb zcap q k A : Nat} {l : List Nat} (hr : Row w zb l) (hl : l.length = zcap) (hq : q ≤ zcap) (hc : zcap ≤ 1000000) (hw : ∀ j, j < q → l.getD j 0 = wrd A j) (hA : A < 2 ^ (64 * q)) (h : NormOf l q k) :
    NatV w (.slice (some ⟨zb, 0, none⟩) k zcap) A := by
  obtain ⟨h1, h2, h3⟩ := h
  refine Or.inr ⟨zb, k, zcap, l, rfl, hr, hl, by omega, hc, ?_, h3⟩
  rw [← val_zeros (x := fun j => l.getD j 0) q h1 h2, val_congr q (fun j hj => hw j hj), val_wd, Nat.mod_eq_of_lt hA]

/-- What SetBytes gives when all words are laid. -/
theorem sb_post {w w1 wr : World} {zb zcap L A q k : Nat} (hq0 : (L + 7) / 8 = q) (hA : A < 2 ^ (8 * L)) (hq : q ≤ zcap) (hc : zcap ≤ 1000000) (hzw : w.heap.size ≤ zb) (hf : Fr w w1 None) {l : List Nat} (hr : Row wr zb l) (hl : l.length = zcap)
    (hw : ∀ j, j < q → l.getD j 0 = wrd A j) (h : NormOf l q k) (h5 : Fr w1 wr (One zb)) : NatPost (Blk (.slice none 0 0)) A w (.returned (.slice (some ⟨zb, 0, none⟩) k zcap)) wr := by
  refine ⟨_, rfl, natv_norm hr hl hq hc hw (Nat.lt_of_lt_of_le hA (Nat.pow_le_pow_right (by omega) (by omega))) h, fun b hb => ?_, hf.trans h5 (fun _ h => h.elim) (fun x hx e => by unfold Mem.One at e; omega)⟩
  obtain ⟨_, _, hb⟩ := hb
  cases hb
  exact Or.inr hzw

end Go.Proofs.YtgmebioogkmfgaaDoor

namespace Go.Proofs.YtgmebioogkmfgaaDoor
open Go.RowKit Go.Pt Go.Mem

theorem infoB : (Tryd.prog.info? 5).map (fun i => (i.zero, i.size, i.bytes)) = some (some (.int .u8 0), 1, 1) := by kernel_rfl

/-- A new row of bytes. -/
def brow (c : Nat) : Obj := .cells (List.replicate c (Value.int .u8 0)).toArray 5

/-- A number of 30 bits more, beside one of s bits. -/
theorem or30 {s : Nat} (hs : s ≤ 8) (a b : Nat) (ha : a < 2 ^ s) (hb : b < 1073741824) : bits .or .i64 (a : Int) ((b : Int) * 2 ^ s) = ((a + b * 2 ^ s : Nat) : Int) := by
  have hp : 2 ^ s ≤ 2 ^ 8 := Nat.pow_le_pow_right (by omega) hs
  have h1 : b * 2 ^ s < 1073741824 * 256 := by
    have h2 : b * 2 ^ s < 1073741824 * 2 ^ s := Nat.mul_lt_mul_of_pos_right hb (Nat.two_pow_pos s)
    have h3 : 1073741824 * 2 ^ s ≤ 1073741824 * 256 := Nat.mul_le_mul_left _ hp
    omega
  have k := Nat.two_pow_add_eq_or_of_lt ha b
  rw [Nat.mul_comm (2 ^ s) b] at k
  rw [pow_cast, ← Int.natCast_mul]
  show IntKind.i64.wrap ((BitVec.ofInt 64 (a : Int) ||| BitVec.ofInt 64 ((b * 2 ^ s : Nat) : Int)).toNat : Int) = _
  rw [BitVec.toNat_or, toNat_ofNat64 (by omega), toNat_ofNat64 (by omega), Nat.or_comm, ← k, IntKind.wrap_i64]
  clear k
  generalize b * 2 ^ s = P at *
  omega
theorem or30w {s : Nat} (hs : s ≤ 8) (a b : Nat) (ha : a < 2 ^ s) (hb : b < 1073741824) : bits .or .i64 (a : Int) (wrap64 ((b : Int) * 2 ^ s)) = ((a + b * 2 ^ s : Nat) : Int) := by
  have hp : 2 ^ s ≤ 2 ^ 8 := Nat.pow_le_pow_right (by omega) hs
  have h1 : b * 2 ^ s < 1073741824 * 256 := by
    have h2 : b * 2 ^ s < 1073741824 * 2 ^ s := Nat.mul_lt_mul_of_pos_right hb (Nat.two_pow_pos s)
    have h3 : 1073741824 * 2 ^ s ≤ 1073741824 * 256 := Nat.mul_le_mul_left _ hp
    omega
  have e : wrap64 ((b : Int) * 2 ^ s) = (b : Int) * 2 ^ s := by
    rw [pow_cast, ← Int.natCast_mul]
    unfold wrap64
    generalize b * 2 ^ s = P at *
    omega
  rw [e]
  exact or30 hs a b ha hb
end Go.Proofs.YtgmebioogkmfgaaDoor
