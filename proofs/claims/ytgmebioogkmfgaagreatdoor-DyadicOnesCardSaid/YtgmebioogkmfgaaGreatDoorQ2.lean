/- Valid of plumb/nat and plumb/dyadic. Condition: it stands in each fact. -/
import Derived.Test.YtgmebioogkmfgaaGreatDoorQ1
import Derived.BigRegion
import Derived.Laws.Append
namespace Go.Proofs.YtgmebioogkmfgaaGreatDoor
open Go.RowKit Go.Pt Go.Mem

/-- Bytes taken off so far: len of them lie in block db. -/
def RdInv (db C A len : Nat) (w wr : World) : Prop :=
  ∃ cs, At wr db cs 5 ∧ cs.size = C ∧ (∀ q, q < len → cs[q]? = some (.int .u8 ((byt A q : Nat) : Int))) ∧ Fr w wr None

theorem RdInv.put {db C A len : Nat} {w wr : World} (h : RdInv db C A len w wr) (hlen : len < C) (hdb : w.heap.size ≤ db) :
    RdInv db C A (len + 1) w ((wr.alloc (.cells #[.int .u8 ((byt A len : Nat) : Int)] 5)).setCell ⟨db, len, none⟩ (.int .u8 ((byt A len : Nat) : Int))) := by
  obtain ⟨cs, h1, h2, h3, h4⟩ := h
  refine ⟨cs.setIfInBounds len (.int .u8 ((byt A len : Nat) : Int)), (h1.keep ((Fr.refl wr None).alloc _) (fun x => x)).put len _, by rw [Array.size_setIfInBounds]; exact h2, fun q hq => ?_, (h4.alloc _).setCell (p := ⟨db, len, none⟩) (Or.inr hdb) _⟩
  rw [Array.getElem?_setIfInBounds]
  by_cases e : len = q
  · subst e
    rw [if_pos rfl, if_pos (by omega)]
  · rw [if_neg e]
    exact h3 q (by omega)

/-- The append of one byte more. -/
theorem RdInv.app {db C A len : Nat} {w wr : World} (h : RdInv db C A len w wr) (hlen : len < C) (ty : Nat) (d : Int) :
    (Builtin.append_ #[103, 103] ty #[.slice (some ⟨db, 0, none⟩) len C, .slice (some ⟨wr.heap.size, 0, none⟩) 1 1]).run Tryz.prog (wr.alloc (.cells #[.int .u8 d] 5)) =
      .ok (.slice (some ⟨db, 0, none⟩) (len + 1) C) ((wr.alloc (.cells #[.int .u8 d] 5)).setCell ⟨db, len, none⟩ (.int .u8 d)) := by
  obtain ⟨cs, h1, h2, h3, h4⟩ := h
  have k := h1.keep ((Fr.refl wr None).alloc (.cells #[.int .u8 d] 5)) (fun x => x)
  exact run_appB _ db len C wr.heap.size d hlen (by rw [k.cell, Array.getElem?_eq_getElem (by omega)]; rfl) (k.free len) ((At.alloc wr _ _).cell 0) ty

/-- What the outer loop of read has done after i digits, and the inner one within. -/
def RdOut (db n A : Nat) (w : World) (b bits have_ ix : Value) (wr : World) : Prop :=
  ∃ i len h : Nat, i ≤ n ∧ h < 8 ∧ 8 * len + h = 30 * i ∧ b = .slice (some ⟨db, 0, none⟩) len (4 * n) ∧ bits = .int .i64 ((A % 2 ^ (30 * i) / 2 ^ (8 * len) : Nat) : Int) ∧ have_ = .int .i64 (h : Int) ∧ ix = .int .i64 (i : Int) ∧ RdInv db (4 * n) A len w wr
def RdIn (db n A i : Nat) (w : World) (b bits have_ : Value) (wr : World) : Prop :=
  ∃ len h : Nat, 8 * len + h = 30 * (i + 1) ∧ b = .slice (some ⟨db, 0, none⟩) len (4 * n) ∧ bits = .int .i64 ((A % 2 ^ (30 * (i + 1)) / 2 ^ (8 * len) : Nat) : Int) ∧ have_ = .int .i64 (h : Int) ∧ RdInv db (4 * n) A len w wr

theorem digit_in (A i len h : Nat) (e : 8 * len + h = 30 * i) : A % 2 ^ (30 * i) / 2 ^ (8 * len) + dgt A i * 2 ^ h = A % 2 ^ (30 * (i + 1)) / 2 ^ (8 * len) := by
  have e1 : A % 2 ^ (30 * (i + 1)) = A % 2 ^ (30 * i) + dgt A i * 2 ^ h * 2 ^ (8 * len) := by
    rw [show 30 * (i + 1) = 30 * i + 30 by omega, Nat.pow_add, Nat.mod_mul, show (2 : Nat) ^ 30 = 1073741824 from rfl, Nat.mul_assoc, ← Nat.pow_add, show h + 8 * len = 30 * i by omega, Nat.mul_comm (2 ^ (30 * i))]
    rfl
  rw [e1, Nat.add_mul_div_right _ _ (Nat.two_pow_pos _)]
theorem low_in (A i len h : Nat) (e : 8 * len + h = 30 * i) : A % 2 ^ (30 * i) / 2 ^ (8 * len) < 2 ^ h := by
  refine Nat.div_lt_of_lt_mul ?_
  rw [← Nat.pow_add, e]
  exact Nat.mod_lt _ (Nat.two_pow_pos _)
theorem byte_off (A p len : Nat) (h : 8 * len + 8 ≤ p) : A % 2 ^ p / 2 ^ (8 * len) % 256 = byt A len := by
  have := mod_field A p (8 * len) 8 h
  exact this
theorem byte_next (A p len : Nat) : A % 2 ^ p / 2 ^ (8 * len) / 256 = A % 2 ^ p / 2 ^ (8 * (len + 1)) := by
  rw [Nat.div_div_eq_div_mul, show 8 * (len + 1) = 8 * len + 8 by omega, Nat.pow_add]

/-- What the loop that turns the bytes round has done after k swaps. -/
def RvInv (db C A len : Nat) (w : World) (ix : Value) (wr : World) : Prop :=
  ∃ k cs, k ≤ (len + 1) / 2 ∧ ix = .int .i64 (k : Int) ∧ At wr db cs 5 ∧ cs.size = C ∧ (∀ q, q < len + 1 → cs[q]? = some (.int .u8 ((byt A (if q < k ∨ len + 1 - k ≤ q then len - q else q) : Nat) : Int))) ∧ Fr w wr None

set_option maxRecDepth 100000 in
set_option maxHeartbeats 4000000 in
theorem read_ok (b cap n A : Nat) (w : World) (hn : 0 < n) (hn2 : n ≤ 2000) (hA : A < 2 ^ (30 * n)) (hcap : n ≤ cap) (hb : b < w.heap.size) (hx : ∀ j, j < n → w.cell? ⟨b, j, none⟩ = some (.int .i64 ((dgt A j : Nat) : Int))) :
    Calls Tryz.prog 60 #[.slice (some ⟨b, 0, none⟩) n cap] w (NewPost false A w) := by
  have hmk := run_mkB 0 (4 * n) (by omega) (by omega) w
  rw [show ((4 * n : Nat) : Int) = 4 * (n : Int) by omega] at hmk
  have hmk : (Instr.makeSlice 103 (.int .i64 0) (.int .i64 (4 * (n : Int)))).run Tryz.prog w = .ok (.slice (some ⟨w.heap.size, 0, none⟩) 0 (4 * n)) (w.alloc (brow (4 * n))) := hmk
  have I : Hid (RdInv w.heap.size (4 * n) A 0 w (w.alloc (brow (4 * n)))) :=
    ⟨_, At.alloc w _ _, by simp, fun q hq => by omega, (Fr.refl w None).alloc _⟩
  have HA := Lib.hid hA
  have HX := Lib.hid (And.intro hb hx)
  clear hA hx hb
  go_enter Tryz.func60, Tryz.ntmps60
  go_wp2_with fail
  clear hmk
  generalize w.alloc (brow (4 * n)) = w0 at I ⊢
  go_loopw [3, 4, 5, 15] (fun b bits have_ ix wr => RdOut w.heap.size n A w b bits have_ ix wr) (fun _ _ _ ix _ => n - (intOf ix).toNat)
  case atStart => exact ⟨0, 0, 0, by omega, by omega, rfl, rfl, by simp [Nat.mod_one], rfl, rfl, I.out⟩
  case round =>
    obtain ⟨i, len, h, hi, hh, hlh, rfl, rfl, rfl, rfl, hr⟩ := hrel
    have HR := Lib.hid hr
    clear hr
    by_cases c : i < n
    · have i0 : (i : Int) < (n : Int) := by omega
      have fr : Fr w wr None := by obtain ⟨_, _, _, _, f⟩ := HR.out; exact f
      have hc : wr.cell? ⟨b, i, none⟩ = some (.int .i64 ((dgt A i : Nat) : Int)) := by
        rw [fr.cell (p := ⟨b, i, none⟩) HX.out.1 (fun x => x)]
        exact HX.out.2 i c
      have hlt := dgt_lt A i
      have hlow := low_in A i len h hlh
      have hdig := digit_in A i len h hlh
      clear fr
      generalize dgt A i = d at hc hlt hdig
      generalize A % 2 ^ (30 * i) / 2 ^ (8 * len) = u at hlow hdig ⊢
      have hor := or30w (s := h) (by omega) u d hlow hlt
      rw [hdig] at hor
      have HO := Lib.hid (And.intro hor (And.intro hlt hlow))
      have hh0 : (h : Int) < 64 := by omega
      clear hor hdig hlt hlow
      go_wp2_with fail
      go_loopw [3, 4, 5] (fun b bits have_ wz => RdIn w.heap.size n A i w b bits have_ wz) (fun _ _ have_ _ => (intOf have_).toNat)
      case atStart => exact ⟨len, h + 30, by omega, rfl, by rw [HO.out.1], by push_cast; rfl, HR.out⟩
      case round =>
        obtain ⟨ln, g, hg, rfl, rfl, rfl, hz⟩ := hrel
        have HZ := Lib.hid hz
        clear hz HR
        by_cases c2 : 8 ≤ g
        · obtain ⟨g', rfl⟩ : ∃ g', g = g' + 8 := ⟨g - 8, by omega⟩
          have hln : ln < 4 * n := by omega
          have hb8 := byte_off A (30 * (i + 1)) ln (by omega)
          have hnx := byte_next A (30 * (i + 1)) ln
          generalize A % 2 ^ (30 * (i + 1)) / 2 ^ (8 * ln) = u at hb8 hnx ⊢
          have happ := (HZ.out).app hln 103 ((u : Int) % 256)
          have HB := Lib.hid (And.intro hb8 hnx)
          have p1 : ((g' + 8 : Nat) : Int) = (g' : Int) + 8 := by omega
          clear hb8 hnx
          rw [p1]
          go_wp2_with (refine wpList_appB _ _ rfl _ _ rfl _ _ _ rfl rfl happ ?_)
          go_roundw
          case rel =>
            have hb : ((u : Int) % 256) = ((byt A ln : Nat) : Int) := by have := HB.out.1; omega
            refine ⟨ln + 1, g', by omega, rfl, by rw [← HB.out.2]; rfl, rfl, ?_⟩
            rw [hb]
            exact (HZ.out).put hln (Nat.le_refl _)
          case measure => simp [intOf]; omega
        · go_wp2_with fail
          go_roundw
          case rel =>
            refine ⟨i + 1, ln, g, by omega, by omega, by omega, rfl, rfl, rfl, by push_cast; rfl, HZ.out⟩
          case measure => simp [intOf]; omega
    · obtain rfl : i = n := by omega
      have hl2 : len + 1 ≤ 4 * i := by omega
      have hcut : A % 2 ^ (30 * i) = A := Nat.mod_eq_of_lt HA.out
      rw [hcut]
      have hb8 : A / 2 ^ (8 * len) % 256 = byt A len := rfl
      generalize A / 2 ^ (8 * len) = u at hb8 ⊢
      have happ := (HR.out).app hl2 103 ((u : Int) % 256)
      have hput := (HR.out).put (A := A) hl2 (Nat.le_refl _)
      rw [← hb8, show ((u % 256 : Nat) : Int) = (u : Int) % 256 by omega] at hput
      have HP := Lib.hid hput
      clear hcut hb8 hput
      go_wp2_with (refine wpList_appB _ _ rfl _ _ rfl _ _ _ rfl rfl happ ?_)
      clear happ HR I
      generalize (wr.alloc (.cells #[.int .u8 ((u : Int) % 256)] 5)).setCell ⟨w.heap.size, len, none⟩ (.int .u8 ((u : Int) % 256)) = wb at HP ⊢
      have J : Hid (RvInv w.heap.size (4 * i) A len w (.int .i64 0) wb) := by
        obtain ⟨cs, h1, h2, h3, h4⟩ := HP.out
        refine ⟨0, cs, by omega, rfl, h1, h2, fun q hq => ?_, h4⟩
        rw [if_neg (by omega)]
        exact h3 q hq
      have hbl : len < 4 * i := hl2
      have hA2 : Hid (A < 2 ^ (8 * (len + 1))) := Lib.hid (Nat.lt_of_lt_of_le HA.out (two_mono _ _ (by omega)))
      clear hl2 HP HA HX
      go_loopw [46] (fun ix wz => RvInv w.heap.size (4 * i) A len w ix wz) (fun ix _ => len - (intOf ix).toNat)
      case atStart => exact J.out
      case round =>
        obtain ⟨k, cs, hk, rfl, h1, h2, h3, h4⟩ := hrel
        by_cases c3 : k < (len + 1) / 2
        · have x1 := h1.cell k
          have x2 := h1.cell (len - k)
          have y1 := h1.free k
          have y2 := h1.free (len - k)
          rw [h3 k (by omega), if_neg (by omega)] at x1
          rw [h3 (len - k) (by omega), if_neg (by omega)] at x2
          have H := Lib.hid (And.intro h1 (And.intro h2 (And.intro h3 h4)))
          clear h1 h2 h3 h4
          have i1 : (k : Int) < ((len : Int) + 1) / 2 := by omega
          have i2 : (0 : Int) ≤ (len : Int) - (k : Int) := by omega
          have i3 : ((len : Int) - (k : Int)).toNat = len - k := by omega
          have i4 : (len : Int) - (k : Int) < (len : Int) + 1 := by omega
          have i5 : (k : Int) < (len : Int) + 1 := by omega
          have hk1 : k < (len + 1) / 2 := c3
          have R : Hid (∀ (bl bh : Nat), byt A k = bl → byt A (len - k) = bh → RvInv w.heap.size (4 * i) A len w (.int .i64 ((k : Int) + 1)) (((wr.setCell ⟨w.heap.size, k, none⟩ (.int .u8 (bh : Int))).setCell ⟨w.heap.size, len - k, none⟩ (.int .u8 (bl : Int))).drew)) := by
            refine Lib.hid fun bl bh e1 e2 => ?_
            obtain ⟨h1, h2, h3, h4⟩ := H.out
            refine ⟨k + 1, _, by omega, rfl, (h1.put k (.int .u8 (bh : Int))).put (len - k) (.int .u8 (bl : Int)), by rw [Array.size_setIfInBounds, Array.size_setIfInBounds]; exact h2, fun q hq => ?_,
              ((h4.setCell (p := ⟨w.heap.size, k, none⟩) (Or.inr (Nat.le_refl _)) _).setCell (p := ⟨w.heap.size, len - k, none⟩) (Or.inr (Nat.le_refl _)) _).drew⟩
            rw [Array.getElem?_setIfInBounds, Array.getElem?_setIfInBounds, Array.size_setIfInBounds]
            by_cases q1 : len - k = q
            · rw [if_pos q1, if_pos (by omega), if_pos (by omega), ← e1, show len - q = k by omega]
            · rw [if_neg q1]
              by_cases q2 : k = q
              · rw [if_pos q2, if_pos (by omega), if_pos (by omega), ← e2, show len - q = len - k by omega]
              · rw [if_neg q2, h3 q hq]
                by_cases q3 : q < k ∨ len + 1 - k ≤ q
                · rw [if_pos q3, if_pos (by omega)]
                · rw [if_neg q3, if_neg (by omega)]
          generalize hbl1 : byt A k = bl at x1
          generalize hbh1 : byt A (len - k) = bh at x2
          have R2 := Lib.hid (R.out bl bh hbl1 hbh1)
          clear hbl1 hbh1 R
          go_wp2_with fail
          go_region
          clear x1 x2 y1 y2 H
          generalize ((wr.setCell ⟨w.heap.size, k, none⟩ (.int .u8 (bh : Int))).setCell ⟨w.heap.size, len - k, none⟩ (.int .u8 (bl : Int))).drew = wy at R2 ⊢
          go_wp2_with fail
          go_roundw
          case rel => exact R2.out
          case measure => simp [intOf]; omega
        · obtain rfl : k = (len + 1) / 2 := by omega
          have hB : Bytes wr w.heap.size (len + 1) A := by
            refine ⟨h1.lt, fun q hq => ?_⟩
            rw [h1.cell, h3 q hq]
            congr 4
            split <;> omega
          have hF := h4
          clear h1 h2 h3 h4
          have f1 : Fr wr (wr.alloc (.cells #[.bool false, .slice none 0 0] 81)) None := (Fr.refl wr None).alloc _
          have z1 : IntV (wr.alloc (.cells #[.bool false, .slice none 0 0] 81)) wr.heap.size (.slice none 0 0) false 0 := ⟨alloc_shell wr false _, Or.inl ⟨rfl, rfl⟩⟩
          have hs := intSetBytes wr.heap.size w.heap.size (len + 1) (4 * i) A (wr.alloc (.cells #[.bool false, .slice none 0 0] 81)) (by omega) (by omega) hA2.out (hB.keep f1 (fun x => x)) (by omega) z1
          have HS := Lib.hid hs
          have HF := Lib.hid (And.intro hF f1)
          clear hs hF f1 z1 hB J
          go_wp2_with fail
          refine (HS.out).mono ?_
          rintro e w9 ⟨rfl, v, v1, v2, v3⟩
          have P : Hid (NewPost false A w (.returned (.pointer (some ⟨wr.heap.size, 0, none⟩))) w9) := by
            obtain ⟨hF, f1⟩ := HF.out
            refine ⟨_, v, rfl, v1, hF.size, fun q hq => ?_, (hF.trans f1 (fun _ h => h) (fun _ _ h => h)).trans v3 (fun _ h => h) (fun x hx h => ?_)⟩
            · rcases v2 q hq with ⟨_, _, h⟩ | h
              · cases h
              · exact Nat.le_trans (Nat.le_trans hF.size f1.size) h
            · rcases h with h | ⟨_, _, h⟩
              · have := hF.size
                omega
              · cases h
          clear v1 v2 v3
          go_wp2_with fail
          go_ret
          exact P.out
end Go.Proofs.YtgmebioogkmfgaaGreatDoor

namespace Go.Proofs.YtgmebioogkmfgaaGreatDoor
open Go.RowKit Go.Pt Go.Mem

set_option maxRecDepth 100000 in
set_option maxHeartbeats 4000000 in
theorem valid_ok (v : Value) (n : Nat) (x : Nat → Nat) (w : World) (hv : DigV w v n x) (hd : Digs n x) :
    Calls Tryz.prog 28 #[v] w fun e w' => e = .returned (.bool true) ∧ w = w' := by
  rcases hv with ⟨rfl, rfl⟩ | ⟨b, cap, rfl, h1, h2, h3⟩
  · clear hd
    go_enter Tryz.func28, Tryz.ntmps28
    go_wp2
    go_loop [7] (fun i => i = .int .i64 0) (fun i => 0)
    case atStart => rfl
    case round =>
      obtain rfl := hrel
      go_wp2
      go_ret
      exact ⟨rfl, rfl⟩
  · obtain ⟨d1, d2, d3⟩ := hd
    have D := Lib.hid (And.intro d1 d2)
    have H := Lib.hid h3
    have i9 : (n : Int) ≤ 2000 := by omega
    clear d1 d2 h3 h2
    go_enter Tryz.func28, Tryz.ntmps28
    go_wp2
    go_loop [7] (fun i => ∃ k : Nat, k ≤ n ∧ i = .int .i64 (k : Int)) (fun i => n - (intOf i).toNat)
    case atStart => exact ⟨0, Nat.zero_le _, rfl⟩
    case round =>
      obtain ⟨k, hk, rfl⟩ := hrel
      by_cases c : k < n
      · have hc := H.out k c
        have hlt := D.out.1 k
        generalize x k = d at hc hlt
        have i0 : (k : Int) < (n : Int) := by omega
        have i1 : ¬ ((d : Int) < 0) := by omega
        have i2 : ¬ ((1073741824 : Int) ≤ (d : Int)) := by omega
        go_wp2
        go_round
        case rel => exact ⟨k + 1, by omega, by push_cast; rfl⟩
        case measure => simp [intOf]; omega
      · obtain rfl : k = n := by omega
        rcases Nat.eq_zero_or_pos k with rfl | c0
        · go_wp2
          go_ret
          exact ⟨rfl, rfl⟩
        · obtain ⟨q, rfl⟩ : ∃ q, k = q + 1 := ⟨k - 1, by omega⟩
          have hc := H.out q (by omega)
          have ht := D.out.2 (by omega)
          rw [Nat.add_sub_cancel] at ht
          generalize x q = d at hc ht
          have t1 : ((d : Int) == 0) = false := beq_eq_false_iff_ne.2 (by omega)
          have t9 : ((d : Int) != 0) = true := by rw [bne, t1]; rfl
          have t2 : (((q + 1 : Nat) : Int) == 0) = false := beq_eq_false_iff_ne.2 (by omega)
          have t3 : (((q : Int) + 1) == 0) = false := beq_eq_false_iff_ne.2 (by omega)
          go_wp2
          go_ret
          exact ⟨rfl, rfl⟩

/-- What Int of plumb/nat gives. -/
def IntOfPost (A : Nat) (w : World) (e : Ending) (w' : World) : Prop :=
  e = .returned (.tuple #[.int .i64 (if A < 9223372036854775808 then (A : Int) else 0), .bool (decide (A < 9223372036854775808))]) ∧ Fr w w' None

theorem dv_lt_dgt {n A : Nat} (h : dv (dgt A) n = A) : A < 2 ^ (30 * n) := by
  have := dv_lt (x := dgt A) (dgt_lt A) n
  rw [h] at this
  exact this

set_option maxRecDepth 100000 in
set_option maxHeartbeats 4000000 in
theorem natInt_pos (b cap n A : Nat) (w : World) (hn : 0 < n) (hd : Digs n (dgt A)) (hA : dv (dgt A) n = A) (hcap : n ≤ cap) (hb : b < w.heap.size) (hx : ∀ j, j < n → w.cell? ⟨b, j, none⟩ = some (.int .i64 ((dgt A j : Nat) : Int))) :
    Calls Tryz.prog 40 #[.slice (some ⟨b, 0, none⟩) n cap] w (IntOfPost A w) := by
  have hv := valid_ok (.slice (some ⟨b, 0, none⟩) n cap) n (dgt A) w (Or.inr ⟨b, cap, rfl, hcap, hb, hx⟩) hd
  have hr := read_ok b cap n A w hn hd.2.2 (dv_lt_dgt hA) hcap hb hx
  have HV := Lib.hid hv
  have HR := Lib.hid hr
  have HX := Lib.hid (And.intro hb hx)
  have HD := Lib.hid (And.intro hd hA)
  clear hv hr hx hd hA hb
  go_enter Tryz.func40, Tryz.ntmps40
  go_wp2_with fail
  refine (HV.out).mono ?_
  rintro e w1 ⟨rfl, rfl⟩
  go_wp2_with fail
  refine (HR.out).mono ?_
  rintro e w1 ⟨p, pv, rfl, a1, a2, a3, a4⟩
  have A1 := Lib.hid a1
  have A4 := Lib.hid a4
  clear a1 a2 a3 a4
  go_wp2_with fail
  by_cases c : A < 9223372036854775808
  · have hi := isInt64_any p pv A w1 A1.out
    rw [decide_eq_true c] at hi
    refine hi.mono ?_
    clear hi
    rintro e w2 ⟨rfl, rfl⟩
    have hr2 := read_ok b cap n A w1 hn HD.out.1.2.2 (dv_lt_dgt HD.out.2) hcap (Nat.lt_of_lt_of_le HX.out.1 A4.out.size) (fun j hj => by rw [A4.out.cell (p := ⟨b, j, none⟩) HX.out.1 (fun x => x)]; exact HX.out.2 j hj)
    have HR2 := Lib.hid hr2
    clear hr2
    have CC := Lib.hid c
    clear c
    go_wp2_with fail
    refine (HR2.out).mono ?_
    rintro e w3 ⟨p2, pv2, rfl, b1, b2, b3, b4⟩
    have hj := int64_any p2 pv2 A CC.out w3 b1
    have HJ := Lib.hid hj
    have F := Lib.hid (A4.out.trans b4 (fun _ h => h) (fun _ _ h => h))
    clear hj b1 b2 b3 b4
    go_wp2_with fail
    refine (HJ.out).mono ?_
    rintro e w4 ⟨rfl, rfl⟩
    go_wp2_with fail
    go_ret2
    exact ⟨by rw [if_pos CC.out, decide_eq_true CC.out]; rfl, F.out⟩
  · have hi := isInt64_any p pv A w1 A1.out
    rw [decide_eq_false c] at hi
    refine hi.mono ?_
    clear hi
    rintro e w2 ⟨rfl, rfl⟩
    have CC := Lib.hid c
    clear c
    go_wp2_with fail
    go_ret2
    exact ⟨by rw [if_neg CC.out, decide_eq_false CC.out]; rfl, A4.out⟩
end Go.Proofs.YtgmebioogkmfgaaGreatDoor

namespace Go.Proofs.YtgmebioogkmfgaaGreatDoor
open Go.RowKit Go.Pt Go.Mem

theorem app_nilB (w : World) (a : Addr) (nb : Nat) (ty : Nat) (hn : w.cell? ⟨nb, 0, none⟩ = some (.int .u8 0)) :
    ∃ C w', (Builtin.append_ #[103, 103] ty #[.slice (some a) 0 0, .slice (some ⟨nb, 0, none⟩) 1 1]).run Tryz.prog w = .ok (.slice (some ⟨w.heap.size, 0, none⟩) 1 C) w' ∧ 1 ≤ C ∧ w'.cell? ⟨w.heap.size, 0, none⟩ = some (.int .u8 0) ∧ w.heap.size < w'.heap.size ∧ Fr w w' None := by
  obtain ⟨i0, hi, hz0, hz1, hz2⟩ := info_parts infoB
  have h := run_append_grow (P := Tryz.prog) w 103 ty 5 i0 (.int .u8 0) Tryz.underlying103 hi hz0 a 0 0 [] (by simp) (by intro j v hj; cases hj) ⟨nb, 0, none⟩ 1 1 [.int .u8 0] (by rw [hz1]; rfl)
    (by
      intro k u hk
      rcases k with _ | k
      · cases hk; exact hn
      · cases hk)
    (by omega) (by omega) (by rw [hz2]; decide)
  have hge := grownCap_ge w (0 + 1) 0 5
  refine ⟨_, _, h, hge, ?_, by simp, ((Fr.refl w None).drew).alloc _⟩
  have k := At.alloc w.drew ((#[] : Array Value) ++ #[Value.int .u8 0] ++ Builtin.zeroCells (Value.int .u8 0).cells (grownCap w (0 + 1) 0 5 - (0 + 1))) 5
  have k2 := k.cell 0
  rw [show w.drew.heap.size = w.heap.size from rfl] at k2
  refine Eq.trans k2 ?_
  rw [Array.getElem?_append_left (by simp)]
  rfl

set_option maxRecDepth 100000 in
set_option maxHeartbeats 4000000 in
theorem read_nil (w : World) : Calls Tryz.prog 60 #[.slice none 0 0] w (NewPost false 0 w) := by
  have hmk : (Instr.makeSlice 103 (.int .i64 0) (.int .i64 0)).run Tryz.prog w = .ok (.slice (some ⟨w.heap.size, 0, none⟩) 0 0) (w.alloc (brow 0)) := run_mkB 0 0 (by omega) (by omega) w
  have f0 : Fr w (w.alloc (brow 0)) None := (Fr.refl w None).alloc _
  have F0 := Lib.hid f0
  clear f0
  go_enter Tryz.func60, Tryz.ntmps60
  go_wp2_with fail
  clear hmk
  generalize hdb : w.heap.size = db
  generalize w.alloc (brow 0) = w0 at F0 ⊢
  go_loopw [3, 4, 5, 15] (fun b bits have_ ix wr => b = .slice (some ⟨db, 0, none⟩) 0 0 ∧ bits = .int .i64 0 ∧ have_ = .int .i64 0 ∧ ix = .int .i64 0 ∧ w0 = wr) (fun _ _ _ _ _ => 0)
  case atStart => exact ⟨rfl, rfl, rfl, rfl, rfl⟩
  case round =>
    obtain ⟨rfl, rfl, rfl, rfl, rfl⟩ := hrel
    obtain ⟨C, w1, happ, hC, hc, hlt, hf⟩ := app_nilB (w0.alloc (.cells #[.int .u8 0] 5)) ⟨db, 0, none⟩ w0.heap.size 103 ((At.alloc w0 _ _).cell 0)
    have h0 : w.heap.size ≤ (w0.alloc (.cells #[.int .u8 0] 5)).heap.size := Nat.le_trans F0.out.size (by simp)
    generalize hb : (w0.alloc (.cells #[.int .u8 0] 5)).heap.size = bb at happ hc hlt h0
    have B : Hid (Bytes w1 bb 1 0) := Lib.hid ⟨hlt, fun q hq => by
      have : q = 0 := by omega
      subst this
      rw [hc]
      rfl⟩
    have F1 : Hid (Fr w w1 None) := Lib.hid (((F0.out).alloc _).trans hf (fun _ h => h) (fun _ _ h => h))
    have HC := Lib.hid (And.intro hC h0)
    clear hC hc hlt hf h0 hb
    go_wp2_with (refine wpList_appB _ _ rfl _ _ rfl _ _ _ rfl rfl happ ?_)
    clear happ
    go_loopw [46] (fun ix wz => ix = .int .i64 0 ∧ w1 = wz) (fun _ _ => 0)
    case atStart => exact ⟨rfl, rfl⟩
    case round =>
      obtain ⟨rfl, rfl⟩ := hrel
      have f1 : Fr w1 (w1.alloc (.cells #[.bool false, .slice none 0 0] 81)) None := (Fr.refl w1 None).alloc _
      have z1 : IntV (w1.alloc (.cells #[.bool false, .slice none 0 0] 81)) w1.heap.size (.slice none 0 0) false 0 := ⟨alloc_shell w1 false _, Or.inl ⟨rfl, rfl⟩⟩
      have hs := intSetBytes w1.heap.size bb 1 C 0 (w1.alloc (.cells #[.bool false, .slice none 0 0] 81)) (by omega) (by omega) (by decide) (B.out.keep f1 (fun x => x)) HC.out.1 z1
      have HS := Lib.hid hs
      have FF := Lib.hid f1
      clear hs f1 z1
      go_wp2_with fail
      refine (HS.out).mono ?_
      rintro e w9 ⟨rfl, v, v1, v2, v3⟩
      have P : Hid (NewPost false 0 w (.returned (.pointer (some ⟨w1.heap.size, 0, none⟩))) w9) := by
        refine Lib.hid ⟨_, v, rfl, v1, F1.out.size, fun q hq => ?_, (F1.out.trans FF.out (fun _ h => h) (fun _ _ h => h)).trans v3 (fun _ h => h) (fun x hx h => ?_)⟩
        · rcases v2 q hq with ⟨_, _, h⟩ | h
          · cases h
          · exact Nat.le_trans (Nat.le_trans F1.out.size FF.out.size) h
        · rcases h with h | ⟨_, _, h⟩
          · have := F1.out.size
            omega
          · cases h
      clear v1 v2 v3
      go_wp2_with fail
      go_ret
      exact P.out

set_option maxRecDepth 100000 in
set_option maxHeartbeats 4000000 in
theorem natInt_nil (w : World) : Calls Tryz.prog 40 #[.slice none 0 0] w (IntOfPost 0 w) := by
  have hv := valid_ok (.slice none 0 0) 0 (fun _ => 0) w (Or.inl ⟨rfl, rfl⟩) ⟨fun _ => (by decide : (0 : Nat) < 1073741824), fun h => by omega, by omega⟩
  have HV := Lib.hid hv
  clear hv
  go_enter Tryz.func40, Tryz.ntmps40
  go_wp2_with fail
  refine (HV.out).mono ?_
  rintro e w1 ⟨rfl, rfl⟩
  go_wp2_with fail
  refine (read_nil w).mono ?_
  rintro e w1 ⟨p, pv, rfl, a1, a2, a3, a4⟩
  have A1 := Lib.hid a1
  have A4 := Lib.hid a4
  clear a1 a2 a3 a4
  go_wp2_with fail
  refine (isInt64_any p pv 0 w1 A1.out).mono ?_
  rintro e w2 ⟨rfl, rfl⟩
  go_wp2_with fail
  refine (read_nil w1).mono ?_
  rintro e w3 ⟨p2, pv2, rfl, b1, b2, b3, b4⟩
  have hj := int64_any p2 pv2 0 (by omega) w3 b1
  have HJ := Lib.hid hj
  have F := Lib.hid (A4.out.trans b4 (fun _ h => h) (fun _ _ h => h))
  clear hj b1 b2 b3 b4
  go_wp2_with fail
  refine (HJ.out).mono ?_
  rintro e w4 ⟨rfl, rfl⟩
  go_wp2_with fail
  go_ret2
  exact ⟨rfl, F.out⟩
end Go.Proofs.YtgmebioogkmfgaaGreatDoor

namespace Go.Proofs.YtgmebioogkmfgaaGreatDoor
open Go.RowKit Go.Pt Go.Mem

/-- x is an exact number in its one form: neg, A times 2^E. -/
def NumV (w : World) (x : Value) (neg : Bool) (A : Nat) (E : Int) : Prop :=
  ∃ v n, x = .agg #[.bool neg, v, .int .i64 E] ∧ DigV w v n (dgt A) ∧ Digs n (dgt A) ∧ dv (dgt A) n = A ∧ (A = 0 → neg = false ∧ E = 0 ∧ v = .slice none 0 0) ∧ (A ≠ 0 → A % 2 = 1 ∧ -1048576 ≤ E ∧ E ≤ 1048576)
theorem NumV.keep {w w' : World} {x : Value} {neg : Bool} {A : Nat} {E : Int} (h : NumV w x neg A E) (f : Fr w w' None) : NumV w' x neg A E := by
  obtain ⟨v, n, h1, h2, h3⟩ := h
  exact ⟨v, n, h1, h2.keep f (fun _ _ x => x), h3⟩
theorem dgt_zero (j : Nat) : dgt 0 j = 0 := by unfold dgt; simp
theorem NumV.cases {w : World} {x : Value} {neg : Bool} {A : Nat} {E : Int} (h : NumV w x neg A E) :
    (A = 0 ∧ neg = false ∧ E = 0 ∧ x = .agg #[.bool false, .slice none 0 0, .int .i64 0]) ∨
    (A ≠ 0 ∧ A % 2 = 1 ∧ -1048576 ≤ E ∧ E ≤ 1048576 ∧ ∃ b n cap, x = .agg #[.bool neg, .slice (some ⟨b, 0, none⟩) n cap, .int .i64 E] ∧ 0 < n ∧ n ≤ cap ∧ b < w.heap.size ∧ Digs n (dgt A) ∧ dv (dgt A) n = A ∧ ∀ j, j < n → w.cell? ⟨b, j, none⟩ = some (.int .i64 ((dgt A j : Nat) : Int))) := by
  obtain ⟨v, n, h1, h2, h3, h4, h5, h6⟩ := h
  by_cases c : A = 0
  · obtain ⟨rfl, rfl, rfl⟩ := h5 c
    exact Or.inl ⟨c, rfl, rfl, h1⟩
  · obtain ⟨g1, g2, g3⟩ := h6 c
    have hn : 0 < n := by
      rcases Nat.eq_zero_or_pos n with rfl | h
      · exact absurd h4.symm c
      · exact h
    rcases h2 with ⟨_, rfl⟩ | ⟨b, cap, rfl, k1, k2, k3⟩
    · omega
    · exact Or.inr ⟨c, g1, g2, g3, b, n, cap, h1, hn, k1, k2, h3, h4, k3⟩

/-- The struct of a number in a new variable. -/
theorem box_at (w : World) (a b c : Value) (t : Nat) : At (w.alloc (.cells #[a, b, c] t)) w.heap.size #[a, b, c] t ∧ Fr w (w.alloc (.cells #[a, b, c] t)) None := ⟨At.alloc w _ _, (Fr.refl w None).alloc _⟩

theorem dgt_odd {A : Nat} (h : A % 2 = 1) : dgt A 0 % 2 = 1 := by
  unfold dgt
  rw [Nat.mul_zero, Nat.pow_zero, Nat.div_one]
  omega

set_option maxRecDepth 100000 in
set_option maxHeartbeats 4000000 in
theorem valid_num (x : Value) (neg : Bool) (A : Nat) (E : Int) (w : World) (h : NumV w x neg A E) :
    Calls Tryz.prog 11 #[x] w fun e w' => e = .returned (.bool true) ∧ Fr w w' None := by
  rcases h.cases with ⟨rfl, rfl, rfl, rfl⟩ | ⟨hA, ho, e1, e2, b, n, cap, rfl, hn, hc, hb, hd, hdv, hx⟩
  · obtain ⟨t0, f0⟩ := box_at w (.bool false) (.slice none 0 0) (.int .i64 0) 24
    have c0 := t0.cell 0
    have c1 := t0.cell 1
    have c2 := t0.cell 2
    have F0 := Lib.hid f0
    clear t0 f0 h
    go_enter Tryz.func11, Tryz.ntmps11
    go_wp2_with fail
    go_ret
    exact ⟨rfl, F0.out⟩
  · obtain ⟨t0, f0⟩ := box_at w (.bool neg) (.slice (some ⟨b, 0, none⟩) n cap) (.int .i64 E) 24
    have c0 := t0.cell 0
    have c1 := t0.cell 1
    have c2 := t0.cell 2
    have hx1 : ∀ j, j < n → (w.alloc (.cells #[.bool neg, .slice (some ⟨b, 0, none⟩) n cap, .int .i64 E] 24)).cell? ⟨b, j, none⟩ = some (.int .i64 ((dgt A j : Nat) : Int)) := fun j hj => by
      rw [f0.cell (p := ⟨b, j, none⟩) hb (fun x => x)]; exact hx j hj
    have hval := valid_ok (.slice (some ⟨b, 0, none⟩) n cap) n (dgt A) _ (Or.inr ⟨b, cap, rfl, hc, Nat.lt_of_lt_of_le hb f0.size, hx1⟩) hd
    have d0 := hx1 0 hn
    have hodd := dgt_odd ho
    generalize dgt A 0 = d at d0 hodd
    have a1 := and_one (d : Int)
    have a2 : (d : Int) % 2 = 1 := by omega
    rw [a2] at a1
    have i0 : (0 : Int) < (n : Int) := by omega
    have i1 : ((n : Int) == 0) = false := beq_eq_false_iff_ne.2 (by omega)
    have HV := Lib.hid hval
    have F0 := Lib.hid f0
    clear hval f0 t0 hx hx1 hd hdv h ho a2 hodd
    go_enter Tryz.func11, Tryz.ntmps11
    go_wp2_with fail
    generalize w.alloc (.cells #[.bool neg, .slice (some ⟨b, 0, none⟩) n cap, .int .i64 E] 24) = w0 at HV F0 c0 c1 c2 d0 ⊢
    refine (HV.out).mono ?_
    rintro e w1 ⟨rfl, rfl⟩
    go_wp2_with fail
    go_ret
    exact ⟨rfl, F0.out⟩

theorem nat_lt63 {A : Nat} (h : A < 9223372036854775808) : (A : Int) < 9223372036854775808 := by omega

/-- What Float gives. -/
def FloatPost (neg : Bool) (A : Nat) (E : Int) (w : World) (e : Ending) (w' : World) : Prop :=
  e = .returned (.tuple #[.int .i64 (if A < 9223372036854775808 then jv64 neg A E else 0), .bool (decide (A < 9223372036854775808) && jo64 A E)]) ∧ Fr w w' None

theorem float_lo {neg : Bool} {A : Nat} {E : Int} {w w' : World} (c : A < 9223372036854775808) (f : Fr w w' None) : FloatPost neg A E w (.returned (.tuple #[.int .i64 (jv64 neg A E), .bool (jo64 A E)])) w' := by
  refine ⟨?_, f⟩
  rw [if_pos c, decide_eq_true c, Bool.true_and]
theorem float_hi {neg : Bool} {A : Nat} {E : Int} {w w' : World} (c : ¬ A < 9223372036854775808) (f : Fr w w' None) : FloatPost neg A E w (.returned (.tuple #[.int .i64 0, .bool false])) w' := by
  refine ⟨?_, f⟩
  rw [if_neg c, decide_eq_false c, Bool.false_and]
theorem intof_lo {A : Nat} {w w' : World} {e : Ending} (c : A < 9223372036854775808) (h : IntOfPost A w e w') : e = .returned (.tuple #[.int .i64 (A : Int), .bool true]) ∧ Fr w w' None := by
  obtain ⟨h, f⟩ := h
  rw [if_pos c, decide_eq_true c] at h
  exact ⟨h, f⟩
theorem intof_hi {A : Nat} {w w' : World} {e : Ending} (c : ¬ A < 9223372036854775808) (h : IntOfPost A w e w') : e = .returned (.tuple #[.int .i64 0, .bool false]) ∧ Fr w w' None := by
  obtain ⟨h, f⟩ := h
  rw [if_neg c, decide_eq_false c] at h
  exact ⟨h, f⟩

set_option maxRecDepth 100000 in
set_option maxHeartbeats 4000000 in
theorem float_num (x : Value) (neg : Bool) (A : Nat) (E : Int) (w : World) (h : NumV w x neg A E) :
    Calls Tryz.prog 17 #[x] w (FloatPost neg A E w) := by
  have H := Lib.hid h
  have hint : ∃ v, x = .agg #[.bool neg, v, .int .i64 E] ∧ (∃ a c d, v = .slice a c d) ∧ ∀ W, Fr w W None → Calls Tryz.prog 40 #[v] W (IntOfPost A W) := by
    rcases h.cases with ⟨rfl, rfl, rfl, rfl⟩ | ⟨hA, ho, e1, e2, b, n, cap, rfl, hn, hc, hb, hd, hdv, hx⟩
    · exact ⟨_, rfl, ⟨_, _, _, rfl⟩, fun W _ => natInt_nil W⟩
    · exact ⟨_, rfl, ⟨_, _, _, rfl⟩, fun W f => natInt_pos b cap n A W hn hd hdv hc (Nat.lt_of_lt_of_le hb f.size) (fun j hj => by rw [f.cell (p := ⟨b, j, none⟩) hb (fun x => x)]; exact hx j hj)⟩
  clear h
  obtain ⟨v, rfl, ⟨va, vc, vd, rfl⟩, hint⟩ := hint
  generalize hv : Value.slice va vc vd = v at H hint
  obtain ⟨t0, f0⟩ := box_at w (.bool neg) v (.int .i64 E) 24
  have hval := valid_num (.agg #[.bool neg, v, .int .i64 E]) neg A E _ (H.out.keep f0)
  subst hv
  have HV := Lib.hid hval
  have HI := Lib.hid hint
  have T0 := Lib.hid t0
  have F0 := Lib.hid f0
  clear hint hval t0 f0
  go_enter Tryz.func17, Tryz.ntmps17
  go_wp2_with fail
  generalize w.alloc (.cells #[.bool neg, .slice va vc vd, .int .i64 E] 24) = w0 at HV T0 F0 ⊢
  refine (HV.out).mono ?_
  rintro e w1 ⟨rfl, f1⟩
  have F1 := Lib.hid (F0.out.trans f1 (fun _ h => h) (fun _ _ h => h))
  have t1 := T0.out.keep f1 (fun x => x)
  have c1 := t1.cell 1
  have T1 := Lib.hid t1
  clear f1 t1
  go_wp2_with fail
  by_cases c : A < 9223372036854775808
  · have CC := Lib.hid c
    clear c
    refine (HI.out _ F1.out).mono ?_
    intro e w2 hpost
    obtain ⟨rfl, f2⟩ := intof_lo CC.out hpost
    clear hpost
    have F2 := Lib.hid (F1.out.trans f2 (fun _ h => h) (fun _ _ h => h))
    have t2 := T1.out.keep f2 (fun x => x)
    have c0 := t2.cell 0
    have c2 := t2.cell 2
    have HJ := Lib.hid (join_any neg (A : Int) E (nat_lt63 CC.out) w2)
    have P : Hid (FloatPost neg A E w (.returned (.tuple #[.int .i64 (jv64 neg A E), .bool (jo64 A E)])) w2) := Lib.hid (float_lo CC.out F2.out)
    clear t2 f2 c1
    go_wp2_with fail
    refine (HJ.out).mono ?_
    rintro e w3 ⟨rfl, rfl⟩
    go_wp2_with fail
    go_ret2
    exact P.out
  · have CC := Lib.hid c
    clear c
    refine (HI.out _ F1.out).mono ?_
    intro e w2 hpost
    obtain ⟨rfl, f2⟩ := intof_hi CC.out hpost
    clear hpost
    have P : Hid (FloatPost neg A E w (.returned (.tuple #[.int .i64 0, .bool false])) w2) := Lib.hid (float_hi CC.out (F1.out.trans f2 (fun _ h => h) (fun _ _ h => h)))
    clear f2 c1
    go_wp2_with fail
    go_ret2
    exact P.out
end Go.Proofs.YtgmebioogkmfgaaGreatDoor
