/- read of plumb/nat. Condition: it stands in each fact. -/
import Derived.Test.YtehfnpbplkbdhaaDoorQ1
import Derived.BigRegion
namespace Go.Proofs.YtehfnpbplkbdhaaDoor
open Go.RowKit Go.Pt Go.Mem

/-- Bytes taken off so far: len of them lie in block db. -/
def RdInv (db C A len : Nat) (w wr : World) : Prop :=
  ∃ cs, At wr db cs 5 ∧ cs.size = C ∧ (∀ q, q < len → cs[q]? = some (.int .u8 ((byt A q : Nat) : Int))) ∧ Fr w wr None

theorem RdInv.put {db C A len : Nat} {w wr : World} (h : RdInv db C A len w wr) (hlen : len < C) (hdb : w.heap.size ≤ db) :
    RdInv db C A (len + 1) w ((wr.alloc (.cells #[.int .u8 ((byt A len : Nat) : Int)] 5)).setCell ⟨db, len, none⟩ (.int .u8 ((byt A len : Nat) : Int))) := by
  obtain ⟨cs, h1, h2, h3, h4⟩ := h
  refine ⟨cs.setIfInBounds len (.int .u8 ((byt A len : Nat) : Int)), (h1.keep ((Fr.refl wr None).alloc _) (fun x => x)).put len _, by rw [Array.size_setIfInBounds]; exact h2, fun q hq => ?_, (h4.alloc _).setCell (p := ⟨db, len, none⟩) (Or.inr hdb) _⟩
  rw [Array.getElem?_setIfInBounds]
  by_cases e : len = q
  · subst e
    rw [if_pos rfl, if_pos (by omega)]
  · rw [if_neg e]
    exact h3 q (by omega)

/-- The append of one byte more. -/
theorem RdInv.app {db C A len : Nat} {w wr : World} (h : RdInv db C A len w wr) (hlen : len < C) (ty : Nat) (d : Int) :
    (Builtin.append_ #[98, 98] ty #[.slice (some ⟨db, 0, none⟩) len C, .slice (some ⟨wr.heap.size, 0, none⟩) 1 1]).run Tryd.prog (wr.alloc (.cells #[.int .u8 d] 5)) =
      .ok (.slice (some ⟨db, 0, none⟩) (len + 1) C) ((wr.alloc (.cells #[.int .u8 d] 5)).setCell ⟨db, len, none⟩ (.int .u8 d)) := by
  obtain ⟨cs, h1, h2, h3, h4⟩ := h
  have k := h1.keep ((Fr.refl wr None).alloc (.cells #[.int .u8 d] 5)) (fun x => x)
  exact run_appB _ db len C wr.heap.size d hlen (by rw [k.cell, Array.getElem?_eq_getElem (by omega)]; rfl) (k.free len) ((At.alloc wr _ _).cell 0) ty

/-- What the outer loop of read has done after i digits, and the inner one within. -/
def RdOut (db n A : Nat) (w : World) (b bits have_ ix : Value) (wr : World) : Prop :=
  ∃ i len h : Nat, i ≤ n ∧ h < 8 ∧ 8 * len + h = 30 * i ∧ b = .slice (some ⟨db, 0, none⟩) len (4 * n) ∧ bits = .int .i64 ((A % 2 ^ (30 * i) / 2 ^ (8 * len) : Nat) : Int) ∧ have_ = .int .i64 (h : Int) ∧ ix = .int .i64 (i : Int) ∧ RdInv db (4 * n) A len w wr
def RdIn (db n A i : Nat) (w : World) (b bits have_ : Value) (wr : World) : Prop :=
  ∃ len h : Nat, 8 * len + h = 30 * (i + 1) ∧ b = .slice (some ⟨db, 0, none⟩) len (4 * n) ∧ bits = .int .i64 ((A % 2 ^ (30 * (i + 1)) / 2 ^ (8 * len) : Nat) : Int) ∧ have_ = .int .i64 (h : Int) ∧ RdInv db (4 * n) A len w wr

theorem digit_in (A i len h : Nat) (e : 8 * len + h = 30 * i) : A % 2 ^ (30 * i) / 2 ^ (8 * len) + dgt A i * 2 ^ h = A % 2 ^ (30 * (i + 1)) / 2 ^ (8 * len) := by
  have e1 : A % 2 ^ (30 * (i + 1)) = A % 2 ^ (30 * i) + dgt A i * 2 ^ h * 2 ^ (8 * len) := by
    rw [show 30 * (i + 1) = 30 * i + 30 by omega, Nat.pow_add, Nat.mod_mul, show (2 : Nat) ^ 30 = 1073741824 from rfl, Nat.mul_assoc, ← Nat.pow_add, show h + 8 * len = 30 * i by omega, Nat.mul_comm (2 ^ (30 * i))]
    rfl
  rw [e1, Nat.add_mul_div_right _ _ (Nat.two_pow_pos _)]
theorem low_in (A i len h : Nat) (e : 8 * len + h = 30 * i) : A % 2 ^ (30 * i) / 2 ^ (8 * len) < 2 ^ h := by
  refine Nat.div_lt_of_lt_mul ?_
  rw [← Nat.pow_add, e]
  exact Nat.mod_lt _ (Nat.two_pow_pos _)
theorem byte_off (A p len : Nat) (h : 8 * len + 8 ≤ p) : A % 2 ^ p / 2 ^ (8 * len) % 256 = byt A len := by
  have := mod_field A p (8 * len) 8 h
  exact this
theorem byte_next (A p len : Nat) : A % 2 ^ p / 2 ^ (8 * len) / 256 = A % 2 ^ p / 2 ^ (8 * (len + 1)) := by
  rw [Nat.div_div_eq_div_mul, show 8 * (len + 1) = 8 * len + 8 by omega, Nat.pow_add]

/-- What the loop that turns the bytes round has done after k swaps. -/
def RvInv (db C A len : Nat) (w : World) (ix : Value) (wr : World) : Prop :=
  ∃ k cs, k ≤ (len + 1) / 2 ∧ ix = .int .i64 (k : Int) ∧ At wr db cs 5 ∧ cs.size = C ∧ (∀ q, q < len + 1 → cs[q]? = some (.int .u8 ((byt A (if q < k ∨ len + 1 - k ≤ q then len - q else q) : Nat) : Int))) ∧ Fr w wr None

set_option maxRecDepth 100000 in
set_option maxHeartbeats 4000000 in
theorem read_ok (b cap n A : Nat) (w : World) (hn : 0 < n) (hn2 : n ≤ 2000) (hA : A < 2 ^ (30 * n)) (hcap : n ≤ cap) (hb : b < w.heap.size) (hx : ∀ j, j < n → w.cell? ⟨b, j, none⟩ = some (.int .i64 ((dgt A j : Nat) : Int))) :
    Calls Tryd.prog 47 #[.slice (some ⟨b, 0, none⟩) n cap] w (NewPost false A w) := by
  have hmk := run_mkB 0 (4 * n) (by omega) (by omega) w
  rw [show ((4 * n : Nat) : Int) = 4 * (n : Int) by omega] at hmk
  have hmk : (Instr.makeSlice 98 (.int .i64 0) (.int .i64 (4 * (n : Int)))).run Tryd.prog w = .ok (.slice (some ⟨w.heap.size, 0, none⟩) 0 (4 * n)) (w.alloc (brow (4 * n))) := hmk
  have I : Hid (RdInv w.heap.size (4 * n) A 0 w (w.alloc (brow (4 * n)))) :=
    ⟨_, At.alloc w _ _, by simp, fun q hq => by omega, (Fr.refl w None).alloc _⟩
  have HA := Lib.hid hA
  have HX := Lib.hid (And.intro hb hx)
  clear hA hx hb
  go_enter Tryd.func47, Tryd.ntmps47
  go_wp2_with fail
  clear hmk
  generalize w.alloc (brow (4 * n)) = w0 at I ⊢
  go_loopw [3, 4, 5, 15] (fun b bits have_ ix wr => RdOut w.heap.size n A w b bits have_ ix wr) (fun _ _ _ ix _ => n - (intOf ix).toNat)
  case atStart => exact ⟨0, 0, 0, by omega, by omega, rfl, rfl, by simp [Nat.mod_one], rfl, rfl, I.out⟩
  case round =>
    obtain ⟨i, len, h, hi, hh, hlh, rfl, rfl, rfl, rfl, hr⟩ := hrel
    have HR := Lib.hid hr
    clear hr
    by_cases c : i < n
    · have i0 : (i : Int) < (n : Int) := by omega
      have fr : Fr w wr None := by obtain ⟨_, _, _, _, f⟩ := HR.out; exact f
      have hc : wr.cell? ⟨b, i, none⟩ = some (.int .i64 ((dgt A i : Nat) : Int)) := by
        rw [fr.cell (p := ⟨b, i, none⟩) HX.out.1 (fun x => x)]
        exact HX.out.2 i c
      have hlt := dgt_lt A i
      have hlow := low_in A i len h hlh
      have hdig := digit_in A i len h hlh
      clear fr
      generalize dgt A i = d at hc hlt hdig
      generalize A % 2 ^ (30 * i) / 2 ^ (8 * len) = u at hlow hdig ⊢
      have hor := or30w (s := h) (by omega) u d hlow hlt
      rw [hdig] at hor
      have HO := Lib.hid (And.intro hor (And.intro hlt hlow))
      have hh0 : (h : Int) < 64 := by omega
      clear hor hdig hlt hlow
      go_wp2_with fail
      go_loopw [3, 4, 5] (fun b bits have_ wz => RdIn w.heap.size n A i w b bits have_ wz) (fun _ _ have_ _ => (intOf have_).toNat)
      case atStart => exact ⟨len, h + 30, by omega, rfl, by rw [HO.out.1], by push_cast; rfl, HR.out⟩
      case round =>
        obtain ⟨ln, g, hg, rfl, rfl, rfl, hz⟩ := hrel
        have HZ := Lib.hid hz
        clear hz HR
        by_cases c2 : 8 ≤ g
        · obtain ⟨g', rfl⟩ : ∃ g', g = g' + 8 := ⟨g - 8, by omega⟩
          have hln : ln < 4 * n := by omega
          have hb8 := byte_off A (30 * (i + 1)) ln (by omega)
          have hnx := byte_next A (30 * (i + 1)) ln
          generalize A % 2 ^ (30 * (i + 1)) / 2 ^ (8 * ln) = u at hb8 hnx ⊢
          have happ := (HZ.out).app hln 98 ((u : Int) % 256)
          have HB := Lib.hid (And.intro hb8 hnx)
          have p1 : ((g' + 8 : Nat) : Int) = (g' : Int) + 8 := by omega
          clear hb8 hnx
          rw [p1]
          go_wp2_with (refine wpList_appB _ _ rfl _ _ rfl _ _ _ rfl rfl happ ?_)
          go_roundw
          case rel =>
            have hb : ((u : Int) % 256) = ((byt A ln : Nat) : Int) := by have := HB.out.1; omega
            refine ⟨ln + 1, g', by omega, rfl, by rw [← HB.out.2]; rfl, rfl, ?_⟩
            rw [hb]
            exact (HZ.out).put hln (Nat.le_refl _)
          case measure => simp [intOf]; omega
        · go_wp2_with fail
          go_roundw
          case rel =>
            refine ⟨i + 1, ln, g, by omega, by omega, by omega, rfl, rfl, rfl, by push_cast; rfl, HZ.out⟩
          case measure => simp [intOf]; omega
    · obtain rfl : i = n := by omega
      have hl2 : len + 1 ≤ 4 * i := by omega
      have hcut : A % 2 ^ (30 * i) = A := Nat.mod_eq_of_lt HA.out
      rw [hcut]
      have hb8 : A / 2 ^ (8 * len) % 256 = byt A len := rfl
      generalize A / 2 ^ (8 * len) = u at hb8 ⊢
      have happ := (HR.out).app hl2 98 ((u : Int) % 256)
      have hput := (HR.out).put (A := A) hl2 (Nat.le_refl _)
      rw [← hb8, show ((u % 256 : Nat) : Int) = (u : Int) % 256 by omega] at hput
      have HP := Lib.hid hput
      clear hcut hb8 hput
      go_wp2_with (refine wpList_appB _ _ rfl _ _ rfl _ _ _ rfl rfl happ ?_)
      clear happ HR I
      generalize (wr.alloc (.cells #[.int .u8 ((u : Int) % 256)] 5)).setCell ⟨w.heap.size, len, none⟩ (.int .u8 ((u : Int) % 256)) = wb at HP ⊢
      have J : Hid (RvInv w.heap.size (4 * i) A len w (.int .i64 0) wb) := by
        obtain ⟨cs, h1, h2, h3, h4⟩ := HP.out
        refine ⟨0, cs, by omega, rfl, h1, h2, fun q hq => ?_, h4⟩
        rw [if_neg (by omega)]
        exact h3 q hq
      have hbl : len < 4 * i := hl2
      have hA2 : Hid (A < 2 ^ (8 * (len + 1))) := Lib.hid (Nat.lt_of_lt_of_le HA.out (two_mono _ _ (by omega)))
      clear hl2 HP HA HX
      go_loopw [46] (fun ix wz => RvInv w.heap.size (4 * i) A len w ix wz) (fun ix _ => len - (intOf ix).toNat)
      case atStart => exact J.out
      case round =>
        obtain ⟨k, cs, hk, rfl, h1, h2, h3, h4⟩ := hrel
        by_cases c3 : k < (len + 1) / 2
        · have x1 := h1.cell k
          have x2 := h1.cell (len - k)
          have y1 := h1.free k
          have y2 := h1.free (len - k)
          rw [h3 k (by omega), if_neg (by omega)] at x1
          rw [h3 (len - k) (by omega), if_neg (by omega)] at x2
          have H := Lib.hid (And.intro h1 (And.intro h2 (And.intro h3 h4)))
          clear h1 h2 h3 h4
          have i1 : (k : Int) < ((len : Int) + 1) / 2 := by omega
          have i2 : (0 : Int) ≤ (len : Int) - (k : Int) := by omega
          have i3 : ((len : Int) - (k : Int)).toNat = len - k := by omega
          have i4 : (len : Int) - (k : Int) < (len : Int) + 1 := by omega
          have i5 : (k : Int) < (len : Int) + 1 := by omega
          have hk1 : k < (len + 1) / 2 := c3
          have R : Hid (∀ (bl bh : Nat), byt A k = bl → byt A (len - k) = bh → RvInv w.heap.size (4 * i) A len w (.int .i64 ((k : Int) + 1)) (((wr.setCell ⟨w.heap.size, k, none⟩ (.int .u8 (bh : Int))).setCell ⟨w.heap.size, len - k, none⟩ (.int .u8 (bl : Int))).drew)) := by
            refine Lib.hid fun bl bh e1 e2 => ?_
            obtain ⟨h1, h2, h3, h4⟩ := H.out
            refine ⟨k + 1, _, by omega, rfl, (h1.put k (.int .u8 (bh : Int))).put (len - k) (.int .u8 (bl : Int)), by rw [Array.size_setIfInBounds, Array.size_setIfInBounds]; exact h2, fun q hq => ?_,
              ((h4.setCell (p := ⟨w.heap.size, k, none⟩) (Or.inr (Nat.le_refl _)) _).setCell (p := ⟨w.heap.size, len - k, none⟩) (Or.inr (Nat.le_refl _)) _).drew⟩
            rw [Array.getElem?_setIfInBounds, Array.getElem?_setIfInBounds, Array.size_setIfInBounds]
            by_cases q1 : len - k = q
            · rw [if_pos q1, if_pos (by omega), if_pos (by omega), ← e1, show len - q = k by omega]
            · rw [if_neg q1]
              by_cases q2 : k = q
              · rw [if_pos q2, if_pos (by omega), if_pos (by omega), ← e2, show len - q = len - k by omega]
              · rw [if_neg q2, h3 q hq]
                by_cases q3 : q < k ∨ len + 1 - k ≤ q
                · rw [if_pos q3, if_pos (by omega)]
                · rw [if_neg q3, if_neg (by omega)]
          generalize hbl1 : byt A k = bl at x1
          generalize hbh1 : byt A (len - k) = bh at x2
          have R2 := Lib.hid (R.out bl bh hbl1 hbh1)
          clear hbl1 hbh1 R
          go_wp2_with fail
          go_region
          clear x1 x2 y1 y2 H
          generalize ((wr.setCell ⟨w.heap.size, k, none⟩ (.int .u8 (bh : Int))).setCell ⟨w.heap.size, len - k, none⟩ (.int .u8 (bl : Int))).drew = wy at R2 ⊢
          go_wp2_with fail
          go_roundw
          case rel => exact R2.out
          case measure => simp [intOf]; omega
        · obtain rfl : k = (len + 1) / 2 := by omega
          have hB : Bytes wr w.heap.size (len + 1) A := by
            refine ⟨h1.lt, fun q hq => ?_⟩
            rw [h1.cell, h3 q hq]
            congr 4
            split <;> omega
          have hF := h4
          clear h1 h2 h3 h4
          have f1 : Fr wr (wr.alloc (.cells #[.bool false, .slice none 0 0] 87)) None := (Fr.refl wr None).alloc _
          have z1 : IntV (wr.alloc (.cells #[.bool false, .slice none 0 0] 87)) wr.heap.size (.slice none 0 0) false 0 := ⟨alloc_shell wr false _, Or.inl ⟨rfl, rfl⟩⟩
          have hs := intSetBytes wr.heap.size w.heap.size (len + 1) (4 * i) A (wr.alloc (.cells #[.bool false, .slice none 0 0] 87)) (by omega) (by omega) hA2.out (hB.keep f1 (fun x => x)) (by omega) z1
          have HS := Lib.hid hs
          have HF := Lib.hid (And.intro hF f1)
          clear hs hF f1 z1 hB J
          go_wp2_with fail
          refine (HS.out).mono ?_
          rintro e w9 ⟨rfl, v, v1, v2, v3⟩
          have P : Hid (NewPost false A w (.returned (.pointer (some ⟨wr.heap.size, 0, none⟩))) w9) := by
            obtain ⟨hF, f1⟩ := HF.out
            refine ⟨_, v, rfl, v1, hF.size, fun q hq => ?_, (hF.trans f1 (fun _ h => h) (fun _ _ h => h)).trans v3 (fun _ h => h) (fun x hx h => ?_)⟩
            · rcases v2 q hq with ⟨_, _, h⟩ | h
              · cases h
              · exact Nat.le_trans (Nat.le_trans hF.size f1.size) h
            · rcases h with h | ⟨_, _, h⟩
              · have := hF.size
                omega
              · cases h
          clear v1 v2 v3
          go_wp2_with fail
          go_ret
          exact P.out
end Go.Proofs.YtehfnpbplkbdhaaDoor
