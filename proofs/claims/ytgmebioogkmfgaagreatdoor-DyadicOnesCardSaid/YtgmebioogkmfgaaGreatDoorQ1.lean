/- Bytes and words of a number; rows of bytes. Condition: it stands in each fact. -/
import Derived.Test.YtgmebioogkmfgaaGreatDoorZM9
import Derived.Test.YtgmebioogkmfgaaGreatDoorQ0
namespace Go.Mem
open Go.RowKit

/-- Byte q of A; word k of A. -/
def byt (A q : Nat) : Nat := A / 2 ^ (8 * q) % 256
def wrd (A k : Nat) : Nat := A / 2 ^ (64 * k) % 18446744073709551616
theorem byt_lt (A q : Nat) : byt A q < 256 := Nat.mod_lt _ (by omega)
theorem wd_lt (A q : Nat) : wrd A q < 18446744073709551616 := Nat.mod_lt _ (by omega)

/-- A field of bits of what is cut off. -/
theorem mod_field (A p q r : Nat) (h : q + r ≤ p) : A % 2 ^ p / 2 ^ q % 2 ^ r = A / 2 ^ q % 2 ^ r := by
  apply Nat.eq_of_testBit_eq
  intro i
  simp only [Nat.testBit_mod_two_pow, Nat.testBit_div_two_pow]
  by_cases c : i < r
  · simp [c, show i + q < p by omega]
  · simp [c]

theorem cut_low (B n : Nat) : B % 2 ^ (n + 8) = B % 2 ^ n + B / 2 ^ n % 256 * 2 ^ n := by
  rw [Nat.pow_add, Nat.mod_mul, show (2 : Nat) ^ 8 = 256 from rfl, Nat.mul_comm (2 ^ n)]

/-- A word out of its bytes. -/
theorem wd_bytes (A k : Nat) : wrd A k = byt A (8 * k) + byt A (8 * k + 1) * 256 + byt A (8 * k + 2) * 65536 + byt A (8 * k + 3) * 16777216 + byt A (8 * k + 4) * 4294967296 + byt A (8 * k + 5) * 1099511627776 + byt A (8 * k + 6) * 281474976710656 + byt A (8 * k + 7) * 72057594037927936 := by
  unfold wrd byt
  have e : ∀ j, A / 2 ^ (8 * (8 * k + j)) = A / 2 ^ (64 * k) / 2 ^ (8 * j) := fun j => by
    rw [Nat.div_div_eq_div_mul, ← Nat.pow_add]; congr 2; omega
  rw [show A / 2 ^ (8 * (8 * k)) = A / 2 ^ (64 * k) by congr 2; omega]
  simp only [e]
  generalize A / 2 ^ (64 * k) = B
  simp only [show (2 : Nat) ^ (8 * 1) = 256 from rfl, show (2 : Nat) ^ (8 * 2) = 65536 from rfl, show (2 : Nat) ^ (8 * 3) = 16777216 from rfl, show (2 : Nat) ^ (8 * 4) = 4294967296 from rfl, show (2 : Nat) ^ (8 * 5) = 1099511627776 from rfl, show (2 : Nat) ^ (8 * 6) = 281474976710656 from rfl, show (2 : Nat) ^ (8 * 7) = 72057594037927936 from rfl]
  omega

theorem val_wd (A : Nat) : ∀ n, val (wrd A) n = A % 2 ^ (64 * n)
  | 0 => by simp [val, Nat.mod_one]
  | n + 1 => by
    show val (wrd A) n + wrd A n * 2 ^ (64 * n) = _
    rw [val_wd A n, show 64 * (n + 1) = 64 * n + 64 by omega, Nat.pow_add, Nat.mod_mul, show (2 : Nat) ^ 64 = 18446744073709551616 from rfl]
    unfold wrd
    rw [Nat.mul_comm (A / 2 ^ (64 * n) % 18446744073709551616)]

/-- The word on top, out of the bytes that are left. -/
theorem byt_up (A k t : Nat) : byt A (8 * k + t) = A / 2 ^ (64 * k) / 2 ^ (8 * t) % 256 := by
  unfold byt
  rw [Nat.div_div_eq_div_mul, ← Nat.pow_add]
  congr 3
  omega

/-- Cells o .. of block b are the bytes of A, the highest of L first. -/
def Bytes (w : World) (b L A : Nat) : Prop := b < w.heap.size ∧ ∀ q, q < L → w.cell? ⟨b, q, none⟩ = some (.int .u8 ((byt A (L - 1 - q) : Nat) : Int))
theorem Bytes.keep {w w' : World} {b L A : Nat} {S : Nat → Prop} (h : Bytes w b L A) (f : Fr w w' S) (hn : ¬ S b) : Bytes w' b L A :=
  ⟨Nat.lt_of_lt_of_le h.1 f.size, fun q hq => by rw [f.cell (p := ⟨b, q, none⟩) h.1 hn]; exact h.2 q hq⟩
end Go.Mem
namespace Go.Proofs.YtgmebioogkmfgaaGreatDoor
open Go.RowKit Go.Pt Go.Mem

theorem or8 {s : Nat} (hs : s < 57) (D : Nat) (hD : D = 2 ^ s) (C : Int) (hC : C = (D : Int)) (a b : Nat) (ha : a < D) (hb : b < 256) : bits .or .u64 (a : Int) ((b : Int) * C) = ((a + b * D : Nat) : Int) := by
  subst hC
  have h1 : b * D < 18446744073709551616 := by
    subst hD
    have h2 : b * 2 ^ s < 256 * 2 ^ s := Nat.mul_lt_mul_of_pos_right hb (Nat.two_pow_pos s)
    have h3 : 256 * 2 ^ s ≤ 256 * 2 ^ 56 := Nat.mul_le_mul_left _ (Nat.pow_le_pow_right (by omega) (by omega))
    omega
  rw [← Int.natCast_mul]
  exact or_add' (s := s) (by omega) _ _ h1 (by rw [hD]; exact Nat.mul_mod_left _ _) (by rw [← hD]; exact ha)

theorem or8w {s : Nat} (hs : s < 57) (a b : Nat) (ha : a < 2 ^ s) (hb : b < 256) : bits .or .u64 (a : Int) (IntKind.u64.wrap ((b : Int) * 2 ^ s)) = ((a + b * 2 ^ s : Nat) : Int) := by
  have h1 : b * 2 ^ s < 18446744073709551616 := by
    have h2 : b * 2 ^ s < 256 * 2 ^ s := Nat.mul_lt_mul_of_pos_right hb (Nat.two_pow_pos s)
    have h3 : 256 * 2 ^ s ≤ 256 * 2 ^ 56 := Nat.mul_le_mul_left _ (Nat.pow_le_pow_right (by omega) (by omega))
    omega
  rw [shl_form, Nat.mod_eq_of_lt h1]
  exact or_add' (s := s) (by omega) _ _ h1 (Nat.mul_mod_left _ _) ha

theorem beWord (bb o cap : Nat) (x : Nat → Nat) (w : World) (hx : ∀ j, x j < 256) (hc : ∀ j, j < 8 → w.cell? ⟨bb, o + j, none⟩ = some (.int .u8 ((x j : Nat) : Int))) :
    Calls Tryz.prog 115 #[.slice (some ⟨bb, o, none⟩) 8 cap] w fun e w' =>
      e = .returned (.int .u64 ((x 7 + x 6 * 256 + x 5 * 65536 + x 4 * 16777216 + x 3 * 4294967296 + x 2 * 1099511627776 + x 1 * 281474976710656 + x 0 * 72057594037927936 : Nat) : Int)) ∧ Fr w w' None := by
  have c0 : w.cell? ⟨bb, o, none⟩ = some (.int .u8 ((x 0 : Nat) : Int)) := hc 0 (by omega)
  have c1 := hc 1 (by omega)
  have c2 := hc 2 (by omega)
  have c3 := hc 3 (by omega)
  have c4 := hc 4 (by omega)
  have c5 := hc 5 (by omega)
  have c6 := hc 6 (by omega)
  have c7 := hc 7 (by omega)
  have h0 := hx 0
  have h1 := hx 1
  have h2 := hx 2
  have h3 := hx 3
  have h4 := hx 4
  have h5 := hx 5
  have h6 := hx 6
  have h7 := hx 7
  generalize x 0 = x0 at *
  generalize x 1 = x1 at *
  generalize x 2 = x2 at *
  generalize x 3 = x3 at *
  generalize x 4 = x4 at *
  generalize x 5 = x5 at *
  generalize x 6 = x6 at *
  generalize x 7 = x7 at *
  have o1 := or8 (s := 8) (by omega) 256 rfl 256 rfl x7 x6 (by omega) h6
  have o2 := or8 (s := 16) (by omega) 65536 rfl 65536 rfl (x7 + x6 * 256) x5 (by omega) h5
  have o3 := or8 (s := 24) (by omega) 16777216 rfl 16777216 rfl (x7 + x6 * 256 + x5 * 65536) x4 (by omega) h4
  have o4 := or8 (s := 32) (by omega) 4294967296 rfl 4294967296 rfl (x7 + x6 * 256 + x5 * 65536 + x4 * 16777216) x3 (by omega) h3
  have o5 := or8 (s := 40) (by omega) 1099511627776 rfl 1099511627776 rfl (x7 + x6 * 256 + x5 * 65536 + x4 * 16777216 + x3 * 4294967296) x2 (by omega) h2
  have o6 := or8 (s := 48) (by omega) 281474976710656 rfl 281474976710656 rfl (x7 + x6 * 256 + x5 * 65536 + x4 * 16777216 + x3 * 4294967296 + x2 * 1099511627776) x1 (by omega) h1
  have o7 := or8 (s := 56) (by omega) 72057594037927936 rfl 72057594037927936 rfl (x7 + x6 * 256 + x5 * 65536 + x4 * 16777216 + x3 * 4294967296 + x2 * 1099511627776 + x1 * 281474976710656) x0 (by omega) h0
  have O := Lib.hid (And.intro o1 (And.intro o2 (And.intro o3 (And.intro o4 (And.intro o5 (And.intro o6 o7))))))
  clear hx hc o1 o2 o3 o4 o5 o6 o7
  go_enter Tryz.func115, Tryz.ntmps115
  go_wp2
  go_quiet (fail)
  go_wp2
  go_ret
  refine ⟨?_, (Fr.refl w None).drewN _⟩
  obtain ⟨o1, o2, o3, o4, o5, o6, o7⟩ := O.out
  show Ending.returned (Value.int .u64 (bits .or .u64 (bits .or .u64 (bits .or .u64 (bits .or .u64 (bits .or .u64 (bits .or .u64 (bits .or .u64 (x7 : Int) ((x6 : Int) * 256)) ((x5 : Int) * 65536)) ((x4 : Int) * 16777216)) ((x3 : Int) * 4294967296)) ((x2 : Int) * 1099511627776)) ((x1 : Int) * 281474976710656)) ((x0 : Int) * 72057594037927936))) = _
  rw [o1, o2, o3, o4, o5, o6, o7]

/-- What SetBytes' first loop has done after k words. -/
def SbInv (bb zb zcap L A : Nat) (w1 : World) (k : Nat) (wr : World) : Prop :=
  ∃ l, Row wr zb l ∧ l.length = zcap ∧ (∀ j, j < k → l.getD j 0 = wrd A j) ∧ Bytes wr bb L A ∧ Fr w1 wr (One zb)

theorem beWordA (bb L A o k cap : Nat) (w : World) (hB : Bytes w bb L A) (ho : o + 8 * k + 8 = L) :
    Calls Tryz.prog 114 #[.slice (some ⟨bb, o, none⟩) 8 cap] w fun e w' => e = .returned (.int .u64 ((wrd A k : Nat) : Int)) ∧ Fr w w' None := by
  have h := beWord bb o cap (fun j => byt A (8 * k + (7 - j))) w (fun j => byt_lt _ _) (fun j hj => by rw [hB.2 (o + j) (by omega), show L - 1 - (o + j) = 8 * k + (7 - j) by omega])
  have e : byt A (8 * k + (7 - 7)) + byt A (8 * k + (7 - 6)) * 256 + byt A (8 * k + (7 - 5)) * 65536 + byt A (8 * k + (7 - 4)) * 16777216 + byt A (8 * k + (7 - 3)) * 4294967296 + byt A (8 * k + (7 - 2)) * 1099511627776 + byt A (8 * k + (7 - 1)) * 281474976710656 + byt A (8 * k + (7 - 0)) * 72057594037927936 = wrd A k := (wd_bytes A k).symm
  have h : Calls Tryz.prog 115 #[.slice (some ⟨bb, o, none⟩) 8 cap] w fun e w' => e = .returned (.int .u64 ((byt A (8 * k + (7 - 7)) + byt A (8 * k + (7 - 6)) * 256 + byt A (8 * k + (7 - 5)) * 65536 + byt A (8 * k + (7 - 4)) * 16777216 + byt A (8 * k + (7 - 3)) * 4294967296 + byt A (8 * k + (7 - 2)) * 1099511627776 + byt A (8 * k + (7 - 1)) * 281474976710656 + byt A (8 * k + (7 - 0)) * 72057594037927936 : Nat) : Int)) ∧ Fr w w' None := h
  rw [e] at h
  have H := Lib.hid h
  clear h e hB
  go_enter Tryz.func114, Tryz.ntmps114
  go_wp2_with fail
  refine (H.out).mono ?_
  rintro e w1 ⟨rfl, f1⟩
  have F1 := Lib.hid f1
  clear f1
  go_wp2_with fail
  go_ret
  exact ⟨rfl, F1.out⟩
end Go.Proofs.YtgmebioogkmfgaaGreatDoor

namespace Go.Proofs.YtgmebioogkmfgaaGreatDoor
open Go.RowKit Go.Pt Go.Mem

/-- A row that holds the words of A, its zeros on top left away, is A. -/
theorem natv_norm {w : World} {zb zcap q k A : Nat} {l : List Nat} (hr : Row w zb l) (hl : l.length = zcap) (hq : q ≤ zcap) (hc : zcap ≤ 1000000) (hw : ∀ j, j < q → l.getD j 0 = wrd A j) (hA : A < 2 ^ (64 * q)) (h : NormOf l q k) :
    NatV w (.slice (some ⟨zb, 0, none⟩) k zcap) A := by
  obtain ⟨h1, h2, h3⟩ := h
  refine Or.inr ⟨zb, k, zcap, l, rfl, hr, hl, by omega, hc, ?_, h3⟩
  rw [← val_zeros (x := fun j => l.getD j 0) q h1 h2, val_congr q (fun j hj => hw j hj), val_wd, Nat.mod_eq_of_lt hA]

/-- What SetBytes gives when all words are laid. -/
theorem sb_post {w w1 wr : World} {zb zcap L A q k : Nat} (hq0 : (L + 7) / 8 = q) (hA : A < 2 ^ (8 * L)) (hq : q ≤ zcap) (hc : zcap ≤ 1000000) (hzw : w.heap.size ≤ zb) (hf : Fr w w1 None) {l : List Nat} (hr : Row wr zb l) (hl : l.length = zcap)
    (hw : ∀ j, j < q → l.getD j 0 = wrd A j) (h : NormOf l q k) (h5 : Fr w1 wr (One zb)) : NatPost (Blk (.slice none 0 0)) A w (.returned (.slice (some ⟨zb, 0, none⟩) k zcap)) wr := by
  refine ⟨_, rfl, natv_norm hr hl hq hc hw (Nat.lt_of_lt_of_le hA (Nat.pow_le_pow_right (by omega) (by omega))) h, fun b hb => ?_, hf.trans h5 (fun _ h => h.elim) (fun x hx e => by unfold Mem.One at e; omega)⟩
  obtain ⟨_, _, hb⟩ := hb
  cases hb
  exact Or.inr hzw

set_option maxRecDepth 100000 in
set_option maxHeartbeats 1000000 in
theorem setBytes_any (bb L bcap A : Nat) (w : World) (hL : 0 < L) (hL2 : L ≤ 100000) (hA : A < 2 ^ (8 * L)) (hB : Bytes w bb L A) (hcap : L ≤ bcap) :
    Calls Tryz.prog 101 #[.slice none 0 0, .slice (some ⟨bb, 0, none⟩) L bcap] w (NatPost (Blk (.slice none 0 0)) A w) := by
  obtain ⟨q, hq0⟩ : ∃ q, (L + 7) / 8 = q := ⟨_, rfl⟩
  have hq : ((L : Int) + 8 - 1) / 8 = (q : Int) := by omega
  have hm := make_new none 0 0 q (by omega) (by omega) w
  rw [← hq] at hm
  have HA := Lib.hid hA
  have HB := Lib.hid hB
  have HM := Lib.hid hm
  clear hA hB hm hq
  go_enter Tryz.func101, Tryz.ntmps101
  go_wp2_with fail
  refine (HM.out).mono ?_
  rintro e w1 ⟨zb, zcap, zl, rfl, z1, z2, z3, z4, z5, z6⟩
  have hbz : bb ≠ zb := by
    have := HB.out.1
    rcases z5 with z5 | z5
    · exact z5.elim
    · omega
  have B1 : Bytes w1 bb L A := HB.out.keep z6 (fun x => x)
  have hzw : w.heap.size ≤ zb := z5.elim (fun x => x.elim) id
  have I : Hid (SbInv bb zb zcap L A w1 0 w1) := ⟨zl, z1, z2, fun j hj => by omega, B1, Fr.refl _ _⟩
  have Z6 := Lib.hid z6
  clear z1 z2 z5 z6 B1
  go_wp2_with fail
  go_loopw [5, 6] (fun i k wr => ∃ kk m : Nat, m + 8 * kk = L ∧ i = .int .i64 (m : Int) ∧ k = .int .i64 (kk : Int) ∧ SbInv bb zb zcap L A w1 kk wr) (fun i _ _ => (intOf i).toNat)
  case atStart => exact ⟨0, L, by omega, rfl, rfl, I.out⟩
  case round =>
    obtain ⟨kk, m, hmk, rfl, rfl, l, i1, i2, i3, i4, i5⟩ := hrel
    have I1 := Lib.hid i1
    have IB := Lib.hid i4
    have I3 := Lib.hid (And.intro i3 i5)
    clear i1 i3 i4 i5
    by_cases c : 8 ≤ m
    · obtain ⟨o, rfl⟩ : ∃ o, m = o + 8 := ⟨m - 8, by omega⟩
      have e1 : (((o + 8 : Nat) : Int)) = (o : Int) + 8 := by omega
      have n1 : ¬ bcap = o := by omega
      rw [e1]
      go_wp2_with fail
      refine (beWordA bb L A o kk (bcap - o) wr IB.out (by omega)).mono ?_
      rintro e w2 ⟨rfl, f1⟩
      have r2 := I1.out.keep f1 (fun x => x)
      have hkq : kk < q := by omega
      have hkq' : (kk : Int) < (q : Int) := by omega
      have c2 := r2.cell (i := kk) (by omega)
      have d2 := r2.free kk
      have hwd := wd_lt A kk
      generalize hW : wrd A kk = W at hwd
      have HW := Lib.hid hW
      clear hW
      have R2 := Lib.hid (And.intro r2 (And.intro f1 hwd))
      clear r2 f1 hwd e1
      go_wp2_with fail
      go_roundw
      case rel =>
        obtain ⟨r2, f1, hwd⟩ := R2.out
        obtain ⟨i3, i5⟩ := I3.out
        have fz : Fr w2 (w2.setCell ⟨zb, kk, none⟩ (.int .u64 (W : Int))) (One zb) := (Fr.refl w2 (One zb)).setCell (p := ⟨zb, kk, none⟩) (Or.inl rfl) _
        refine ⟨kk + 1, o, by omega, rfl, by push_cast; rfl, l.set kk W, r2.set kk W hwd, by rw [List.length_set]; exact i2, fun j hj => ?_, (IB.out.keep f1 (fun x => x)).keep fz (fun e => hbz e), ?_⟩
        · by_cases e : j = kk
          · subst e
            rw [getD_set_self _ _ _ (by omega)]
            exact HW.out.symm
          · rw [getD_set_ne _ _ _ _ (by omega)]
            exact i3 j (by omega)
        · exact (i5.trans f1 (fun _ h => h) (fun _ _ h => h.elim)).trans fz (fun _ h => h) (fun _ _ h => h)
      case measure => simp [intOf]; omega
    · by_cases c0 : m = 0
      · subst c0
        have hkq : kk = q := by omega
        have hkq' : kk ≤ zcap := by omega
        go_wp2_with fail
        refine (norm_row zb q zcap l i2 z3 z4 wr I1.out).mono ?_
        rintro e w2 ⟨k, rfl, hk, rfl⟩
        have P := Lib.hid (sb_post (w := w) hq0 HA.out z3 z4 hzw Z6.out I1.out i2 (fun j hj => I3.out.1 j (by omega)) hk I3.out.2)
        clear hk
        go_wp2_with fail
        go_ret
        exact P.out
      · have c1 : (0 : Int) < (m : Int) := by omega
        have c2 : (m : Int) < 8 := by omega
        go_wp2_with fail
        go_loop [5, 7, 8] (fun i d s => ∃ u t : Nat, u + t = m ∧ i = .int .i64 (u : Int) ∧ d = .int .u64 ((A / 2 ^ (64 * kk) % 2 ^ (8 * t) : Nat) : Int) ∧ s = .int .u64 ((8 * t : Nat) : Int)) (fun i _ _ => (intOf i).toNat)
        case atStart => exact ⟨m, 0, by omega, rfl, by simp [Nat.mod_one], by simp⟩
        case round =>
          obtain ⟨u, t, hut, rfl, rfl, rfl⟩ := hrel
          by_cases c3 : u = 0
          · subst c3
            obtain rfl : t = m := by omega
            have hB8 : A / 2 ^ (64 * kk) < 2 ^ (8 * t) := by
              refine Nat.div_lt_of_lt_mul ?_
              rw [← Nat.pow_add, show 64 * kk + 8 * t = 8 * L by omega]
              exact HA.out
            have hd : A / 2 ^ (64 * kk) % 2 ^ (8 * t) = wrd A kk := by
              unfold wrd
              rw [Nat.mod_eq_of_lt hB8, Nat.mod_eq_of_lt (Nat.lt_of_lt_of_le hB8 (by rw [show (18446744073709551616 : Nat) = 2 ^ 64 from rfl]; exact Nat.pow_le_pow_right (by omega) (by omega)))]
            clear hB8
            obtain rfl : q = kk + 1 := by omega
            have r3 := I1.out.cell (i := kk) (by omega)
            have d3 := I1.out.free kk
            have hwd := wd_lt A kk
            rw [hd]
            generalize hW : wrd A kk = W at hwd ⊢
            have HW := Lib.hid hW
            have HWD := Lib.hid hwd
            clear hd hW hwd
            go_wp2_with fail
            have fz : Fr wr (wr.setCell ⟨zb, kk, none⟩ (.int .u64 (W : Int))) (One zb) := (Fr.refl wr (One zb)).setCell (p := ⟨zb, kk, none⟩) (Or.inl rfl) _
            have rz := I1.out.set kk W HWD.out
            generalize wr.setCell ⟨zb, kk, none⟩ (.int .u64 (W : Int)) = wz at fz rz ⊢
            refine (norm_row zb (kk + 1) zcap (l.set kk W) (by rw [List.length_set]; exact i2) z3 z4 wz rz).mono ?_
            rintro e w2 ⟨k, rfl, hk, rfl⟩
            have P := Lib.hid (sb_post (w := w) hq0 HA.out z3 z4 hzw Z6.out rz (by rw [List.length_set]; exact i2) (fun j hj => by
              by_cases e : j = kk
              · subst e
                rw [getD_set_self _ _ _ (by omega)]
                exact HW.out.symm
              · rw [getD_set_ne _ _ _ _ (by omega)]
                exact I3.out.1 j (by omega)) hk (I3.out.2.trans fz (fun _ h => h) (fun _ _ h => h)))
            clear hk rz fz
            go_wp2_with fail
            go_ret
            exact P.out
          · obtain ⟨p, rfl⟩ : ∃ p, u = p + 1 := ⟨u - 1, by omega⟩
            have hc := IB.out.2 p (by omega)
            rw [show L - 1 - p = 8 * kk + t by omega, byt_up] at hc
            have hlt : A / 2 ^ (64 * kk) % 2 ^ (8 * t) < 2 ^ (8 * t) := Nat.mod_lt _ (Nat.two_pow_pos _)
            have hcut := cut_low (A / 2 ^ (64 * kk)) (8 * t)
            have hbl : A / 2 ^ (64 * kk) / 2 ^ (8 * t) % 256 < 256 := Nat.mod_lt _ (by omega)
            generalize A / 2 ^ (64 * kk) % 2 ^ (8 * t) = d at hlt hcut ⊢
            generalize A / 2 ^ (64 * kk) / 2 ^ (8 * t) % 256 = x at hc hbl hcut
            have ho := or8w (s := 8 * t) (by omega) d x hlt hbl
            have HC := Lib.hid (And.intro hlt hcut)
            have HO := Lib.hid ho
            clear hlt hcut ho
            have p1 : ((p + 1 : Nat) : Int) = (p : Int) + 1 := by omega
            have p2 : (p : Int) < (L : Int) := by omega
            have t1 : ((8 * t : Nat) : Int) < 64 := by omega
            rw [p1]
            have ht8 : 8 * t < 64 := by omega
            go_wp2_with fail
            go_round
            case rel =>
              refine ⟨p, t + 1, by omega, rfl, ?_, ?_⟩
              · rw [HO.out, show 8 * (t + 1) = 8 * t + 8 by omega, HC.out.2]
              · rw [show 8 * (t + 1) = 8 * t + 8 by omega]; push_cast; rfl
            case measure => simp [intOf]
end Go.Proofs.YtgmebioogkmfgaaGreatDoor

namespace Go.Proofs.YtgmebioogkmfgaaGreatDoor
open Go.RowKit Go.Pt Go.Mem

set_option maxRecDepth 100000 in
set_option maxHeartbeats 2000000 in
theorem intSetBytes (z bb L bcap A : Nat) (w : World) (hL : 0 < L) (hL2 : L ≤ 100000) (hA : A < 2 ^ (8 * L)) (hB : Bytes w bb L A) (hcap : L ≤ bcap) (hz : IntV w z (.slice none 0 0) false 0) :
    Calls Tryz.prog 80 #[.pointer (some ⟨z, 0, none⟩), .slice (some ⟨bb, 0, none⟩) L bcap] w (IntPost z (Blk (.slice none 0 0)) false A w) := by
  have hl := setBytes_any bb L bcap A w hL hL2 hA hB hcap
  have z1 := hz.1.c1
  have HL := Lib.hid hl
  have HZ := Lib.hid hz
  clear hl hz hA hB
  go_enter Tryz.func80, Tryz.ntmps80
  go_wp2_with fail
  refine (HL.out).mono ?_
  rintro e w1 ⟨v, rfl, v1, v2, v3⟩
  obtain ⟨va, vn, vc, rfl⟩ := v1.slice
  have sh := HZ.out.1.keep v3 (HZ.out.1.blk HZ.out.2)
  have k0 := sh.c0
  have k1 := sh.c1
  have k2 := sh.free 0
  have k3 := sh.free 1
  have P := Lib.hid (fin_post (nx := false) HZ.out v1 v2 v3)
  clear v1 v2 v3 sh
  go_wp2_with fail
  go_ret
  exact P.out

theorem infoB : (Tryz.prog.info? 5).map (fun i => (i.zero, i.size, i.bytes)) = some (some (.int .u8 0), 1, 1) := by kernel_rfl

/-- A new row of bytes. -/
def brow (c : Nat) : Obj := .cells (List.replicate c (Value.int .u8 0)).toArray 5

theorem run_mkB (n c : Nat) (hn : n ≤ c) (hc : c ≤ 1000000) (w : World) :
    (Instr.makeSlice 103 (.int .i64 (n : Int)) (.int .i64 (c : Int))).run Tryz.prog w = .ok (.slice (some ⟨w.heap.size, 0, none⟩) n c) (w.alloc (brow c)) := by
  obtain ⟨i0, hi, hz0, hz1, hz2⟩ := info_parts infoB
  have := run_make (P := Tryz.prog) w 103 5 i0 (.int .u8 0) Tryz.underlying103 hi hz0 .i64 .i64 n c (by omega) (by omega) (by rw [hz2]; omega) (by omega)
  rw [this, hz1, Nat.mul_one]
  simp only [Int.toNat_natCast]
  have e : madeCells (Value.int .u8 0).cells c = (List.replicate c (Value.int .u8 0)).toArray := by
    apply Array.toList_inj.1
    rw [show (Value.int .u8 0).cells = #[Value.int .u8 0] from rfl, toList_madeCells_one]
  rw [e]
  rfl

theorem run_appB (w : World) (db j C nb : Nat) (d : Int) (hj : j + 1 ≤ C) (hc : (w.cell? ⟨db, j, none⟩).isSome = true) (hf : w.frozen? ⟨db, j, none⟩ = false) (hn : w.cell? ⟨nb, 0, none⟩ = some (.int .u8 d)) (ty : Nat) :
    (Builtin.append_ #[103, 103] ty #[.slice (some ⟨db, 0, none⟩) j C, .slice (some ⟨nb, 0, none⟩) 1 1]).run Tryz.prog w = .ok (.slice (some ⟨db, 0, none⟩) (j + 1) C) (w.setCell ⟨db, j, none⟩ (.int .u8 d)) := by
  obtain ⟨i0, hi, hz0, hz1, hz2⟩ := info_parts infoB
  have h := run_append_room_cells (P := Tryz.prog) w 103 ty 5 i0 Tryz.underlying103 hi db 0 j C ⟨nb, 0, none⟩ 1 1 [.int .u8 d] (by rw [hz1]; rfl)
    (by
      intro k u hk
      rcases k with _ | k
      · cases hk; exact hn
      · cases hk)
    (by intro u hu; cases hu with | head => rfl | tail _ h => cases h)
    hj
    (by
      intro k hk
      have : k = 0 := by simp at hk; omega
      subst this
      rw [hz1, Nat.zero_add, Nat.mul_one, Nat.add_zero]; exact hc)
    (by
      intro k hk
      have : k = 0 := by simp at hk; omega
      subst this
      rw [hz1, Nat.zero_add, Nat.mul_one, Nat.add_zero]; exact hf)
  rw [h, hz1, Nat.zero_add, Nat.mul_one]
  rfl

theorem wpList_appB {ops : Array Oper} {rest : List Oper} {o : Oper} {a : Act} {Q : Exit → Act → World → Prop} (w w' : World)
    (hg : o.guard = none) (s x : Operand) (hop : o.op = Op.call { callee := Callee.builtin Builtin.append, args := #[s, x], argTypes := #[103, 103] })
    (u v r : Value) (hs : a.eval s = u) (hx : a.eval x = v) (hrun : (Builtin.append_ #[103, 103] o.type #[u, v]).run Tryz.prog w = .ok r w')
    (hK : wpList Tryz.prog ops Q rest (a.put o.dst r) w') : wpList Tryz.prog ops Q (o :: rest) a w := by
  refine wpList_plain hg fun K hK' => ?_
  unfold Oper.wp
  simp [execOp, hop, resolve, invoke, builtin, hs, hx, hrun, Result.andThen]
  exact hK' _ _ hK

/-- A number of 30 bits more, beside one of s bits. -/
theorem or30 {s : Nat} (hs : s ≤ 8) (a b : Nat) (ha : a < 2 ^ s) (hb : b < 1073741824) : bits .or .i64 (a : Int) ((b : Int) * 2 ^ s) = ((a + b * 2 ^ s : Nat) : Int) := by
  have hp : 2 ^ s ≤ 2 ^ 8 := Nat.pow_le_pow_right (by omega) hs
  have h1 : b * 2 ^ s < 1073741824 * 256 := by
    have h2 : b * 2 ^ s < 1073741824 * 2 ^ s := Nat.mul_lt_mul_of_pos_right hb (Nat.two_pow_pos s)
    have h3 : 1073741824 * 2 ^ s ≤ 1073741824 * 256 := Nat.mul_le_mul_left _ hp
    omega
  have k := Nat.two_pow_add_eq_or_of_lt ha b
  rw [Nat.mul_comm (2 ^ s) b] at k
  rw [pow_cast, ← Int.natCast_mul]
  show IntKind.i64.wrap ((BitVec.ofInt 64 (a : Int) ||| BitVec.ofInt 64 ((b * 2 ^ s : Nat) : Int)).toNat : Int) = _
  rw [BitVec.toNat_or, toNat_ofNat64 (by omega), toNat_ofNat64 (by omega), Nat.or_comm, ← k, IntKind.wrap_i64]
  clear k
  generalize b * 2 ^ s = P at *
  omega
theorem or30w {s : Nat} (hs : s ≤ 8) (a b : Nat) (ha : a < 2 ^ s) (hb : b < 1073741824) : bits .or .i64 (a : Int) (wrap64 ((b : Int) * 2 ^ s)) = ((a + b * 2 ^ s : Nat) : Int) := by
  have hp : 2 ^ s ≤ 2 ^ 8 := Nat.pow_le_pow_right (by omega) hs
  have h1 : b * 2 ^ s < 1073741824 * 256 := by
    have h2 : b * 2 ^ s < 1073741824 * 2 ^ s := Nat.mul_lt_mul_of_pos_right hb (Nat.two_pow_pos s)
    have h3 : 1073741824 * 2 ^ s ≤ 1073741824 * 256 := Nat.mul_le_mul_left _ hp
    omega
  have e : wrap64 ((b : Int) * 2 ^ s) = (b : Int) * 2 ^ s := by
    rw [pow_cast, ← Int.natCast_mul]
    unfold wrap64
    generalize b * 2 ^ s = P at *
    omega
  rw [e]
  exact or30 hs a b ha hb
end Go.Proofs.YtgmebioogkmfgaaGreatDoor
