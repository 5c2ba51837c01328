/- and with a mask of 30 bits. Condition: it stands in each fact. -/
import Derived.Test.YtgmebioogkmfgaaGreatDoorZM9
namespace Go.Proofs.YtgmebioogkmfgaaGreatDoor
open Go.RowKit Go.Pt Go.Mem

theorem and_30 (x : Nat) : bits .and .u64 (x : Int) 1073741823 = ((x % 1073741824 : Nat) : Int) := by
  show IntKind.u64.wrap ((BitVec.ofInt 64 (x : Int) &&& BitVec.ofInt 64 1073741823).toNat : Int) = _
  rw [BitVec.toNat_and, BitVec.ofInt_natCast, BitVec.toNat_ofNat, show (BitVec.ofInt 64 1073741823).toNat = 2 ^ 30 - 1 by decide, Nat.and_two_pow_sub_one_eq_mod, IntKind.wrap_u64]
  omega

/-- A number of one word. -/
theorem _root_.Go.Mem.NatV.one {w : World} {v : Value} {N : Nat} (h : NatV w v N) (h0 : 0 < N) (hN : N < 18446744073709551616) : ∃ (b cap : Nat) (l : List Nat), v = .slice (some ⟨b, 0, none⟩) 1 cap ∧ Row w b l ∧ l.length = cap ∧ 1 ≤ cap ∧ cap ≤ 1000000 ∧ l.getD 0 0 = N := by
  have hlen := fun b len cap (e : v = .slice (some ⟨b, 0, none⟩) len cap) => NatV.len (w := w) (N := N) (b := b) (cap := cap) (K := 1) (by rw [← e]; exact h) hN
  obtain ⟨b, len, cap, l, rfl, hr, h1, h2, h3, h4, h5, h6⟩ := h.pos h0
  have hl := hlen b len cap rfl
  obtain rfl : len = 1 := by omega
  refine ⟨b, cap, l, rfl, hr, h1, h2, h3, ?_⟩
  rw [← h4]
  simp [val]

theorem val_low (x : Nat → Nat) {n : Nat} (h : 0 < n) : ∃ t, val x n = x 0 + 18446744073709551616 * t := by
  obtain ⟨q, rfl⟩ : ∃ q, n = 1 + q := ⟨n - 1, by omega⟩
  refine ⟨val (fun j => x (1 + j)) q, ?_⟩
  rw [val_split x 1 q]
  simp [val]
  omega

/-- The one round of the loop. -/
def AndInv (zb : Nat) (zl : List Nat) (v : Nat) (w1 : World) (i : Value) (wr : World) : Prop :=
  (i = .int .i64 0 ∧ w1 = wr) ∨ (i = .int .i64 1 ∧ Row wr zb (zl.set 0 v) ∧ Fr w1 wr (One zb))

theorem and_post {w w1 wr : World} {zb zc v k : Nat} {zl : List Nat} (_m1 : Row w1 zb zl) (m2 : zl.length = zc) (m5 : w.heap.size ≤ zb) (m6 : Fr w w1 None) (m3 : 1 ≤ zc) (m4 : zc ≤ 1000000)
    (r1 : Row wr zb (zl.set 0 v)) (r2 : Fr w1 wr (One zb)) (hk : NormOf (zl.set 0 v) 1 k) : NatPost None v w (.returned (.slice (some ⟨zb, 0, none⟩) k zc)) wr := by
  obtain ⟨k1, k2, k3⟩ := hk
  refine ⟨_, rfl, Or.inr ⟨zb, k, zc, zl.set 0 v, rfl, r1, by rw [List.length_set, m2], by omega, m4, ?_, k3⟩, ?_, ?_⟩
  · rw [← val_zeros (x := fun j => (zl.set 0 v).getD j 0) 1 k1 k2]
    have := getD_set_self zl 0 v (by omega)
    simp only [val]
    rw [this]
    omega
  · rintro b ⟨_, _, hb⟩
    cases hb
    exact Or.inr m5
  · exact m6.trans r2 (fun x hx => hx) (fun x hx hb => by cases hb; omega)

set_option maxRecDepth 100000 in
set_option maxHeartbeats 2000000 in
theorem and_mask (x y : Value) (w : World) (N : Nat) (h0 : 0 < N) (hx : NatV w x N) (hy : NatV w y 1073741823) :
    Calls Tryz.prog 74 #[.slice none 0 0, x, y] w (NatPost None (N % 1073741824) w) := by
  obtain ⟨b, len, cap, l, rfl, hr, h1, h2, h3, h4, h5, h6⟩ := hx.pos h0
  obtain ⟨yb, yc, yl, rfl, yr, y1, y2, y3, y4⟩ := hy.one (by omega) (by omega)
  have hm := make_new none 0 0 1 (by omega) (by omega) w
  have xc := hr.cell (i := 0) (by omega)
  have yc' := yr.cell (i := 0) (by omega)
  rw [y4] at yc'
  have V : N % 1073741824 = l.getD 0 0 % 1073741824 := by
    obtain ⟨t, ht⟩ := val_low (fun j => l.getD j 0) h5
    rw [← h4, ht]
    omega
  rw [V]
  generalize l.getD 0 0 = X at xc
  generalize hv : X % 1073741824 = v
  have hvl : v < 1073741824 := by omega
  have e1 := and_30 X
  rw [hv] at e1
  have HM := Lib.hid hm
  have XC := Lib.hid (And.intro hr.lt xc)
  have YC := Lib.hid (And.intro yr.lt yc')
  clear hm hr yr xc yc' h4 h6 h1 hx hy hv V y1 y4
  rcases Nat.lt_or_ge 1 len with c | c
  · have i2 : (1 : Int) < (len : Int) := by omega
    go_enter Tryz.func74, Tryz.ntmps74
    go_wp2_with fail
    refine (HM.out).mono ?_
    rintro e w1 ⟨zb, zc, zl, rfl, m1, m2, m3, m4, m5, m6⟩
    obtain ⟨xlt, xc⟩ := XC.out
    obtain ⟨ylt, yc'⟩ := YC.out
    have hzf : w.heap.size ≤ zb := m5.elim (fun h => h.elim) id
    have x1 : w1.cell? ⟨b, 0, none⟩ = some (.int .u64 (X : Int)) := by rw [m6.cell (p := ⟨b, 0, none⟩) xlt (fun x => x)]; exact xc
    have y1 : w1.cell? ⟨yb, 0, none⟩ = some (.int .u64 1073741823) := by rw [m6.cell (p := ⟨yb, 0, none⟩) ylt (fun x => x)]; exact yc'
    have z1 := m1.cell (i := 0) (by omega)
    have z2 := m1.free 0
    generalize zl.getD 0 0 = zv at z1
    have M := Lib.hid (And.intro m1 (And.intro m2 (And.intro hzf m6)))
    clear m1 m2 m5 m6 xlt ylt xc yc' hzf
    go_wp2_with fail
    go_loopw [9] (fun i wr => AndInv zb zl v w1 i wr) (fun i _ => 1 - (intOf i).toNat)
    case atStart => exact Or.inl ⟨rfl, rfl⟩
    case round =>
      rcases hrel with ⟨rfl, rfl⟩ | ⟨rfl, r1, r2⟩
      · go_wp2
        go_still_tail 12, (by kernel_rfl)
        change wpList _ _ _ _ _ w1.drew
        have d1 : w1.drew.cell? ⟨zb, 0, none⟩ = some (.int .u64 (zv : Int)) := z1
        have d2 : w1.drew.frozen? ⟨zb, 0, none⟩ = false := z2
        have D : Hid (Row (w1.drew.setCell ⟨zb, 0, none⟩ (.int .u64 (v : Int))) zb (zl.set 0 v) ∧ Fr w1 (w1.drew.setCell ⟨zb, 0, none⟩ (.int .u64 (v : Int))) (One zb)) :=
          ⟨((M.out.1).drewN 1).set 0 v (by omega), ((Fr.refl w1 (One zb)).drew).setCell (p := ⟨zb, 0, none⟩) (Or.inl rfl) _⟩
        generalize w1.drew = w2 at d1 d2 D ⊢
        go_wp2
        go_roundw
        case rel => exact Or.inr ⟨rfl, D.out⟩
        case measure => simp [intOf]
      · have R := Lib.hid (And.intro r1 r2)
        clear r1 r2
        go_wp2_with fail
        refine (norm_row zb 1 zc (zl.set 0 v) (by rw [List.length_set]; exact M.out.2.1) m3 m4 _ R.out.1).mono ?_
        rintro e w4 ⟨k, rfl, hk, rfl⟩
        have HK := Lib.hid hk
        clear hk
        go_wp2_with fail
        go_ret
        exact and_post M.out.1 M.out.2.1 M.out.2.2.1 M.out.2.2.2 m3 m4 R.out.1 R.out.2 HK.out
  · obtain rfl : len = 1 := by omega
    go_enter Tryz.func74, Tryz.ntmps74
    go_wp2_with fail
    refine (HM.out).mono ?_
    rintro e w1 ⟨zb, zc, zl, rfl, m1, m2, m3, m4, m5, m6⟩
    obtain ⟨xlt, xc⟩ := XC.out
    obtain ⟨ylt, yc'⟩ := YC.out
    have hzf : w.heap.size ≤ zb := m5.elim (fun h => h.elim) id
    have x1 : w1.cell? ⟨b, 0, none⟩ = some (.int .u64 (X : Int)) := by rw [m6.cell (p := ⟨b, 0, none⟩) xlt (fun x => x)]; exact xc
    have y1 : w1.cell? ⟨yb, 0, none⟩ = some (.int .u64 1073741823) := by rw [m6.cell (p := ⟨yb, 0, none⟩) ylt (fun x => x)]; exact yc'
    have z1 := m1.cell (i := 0) (by omega)
    have z2 := m1.free 0
    generalize zl.getD 0 0 = zv at z1
    have M := Lib.hid (And.intro m1 (And.intro m2 (And.intro hzf m6)))
    clear m1 m2 m5 m6 xlt ylt xc yc' hzf
    go_wp2_with fail
    go_loopw [9] (fun i wr => AndInv zb zl v w1 i wr) (fun i _ => 1 - (intOf i).toNat)
    case atStart => exact Or.inl ⟨rfl, rfl⟩
    case round =>
      rcases hrel with ⟨rfl, rfl⟩ | ⟨rfl, r1, r2⟩
      · go_wp2
        go_still_tail 12, (by kernel_rfl)
        change wpList _ _ _ _ _ w1.drew
        have d1 : w1.drew.cell? ⟨zb, 0, none⟩ = some (.int .u64 (zv : Int)) := z1
        have d2 : w1.drew.frozen? ⟨zb, 0, none⟩ = false := z2
        have D : Hid (Row (w1.drew.setCell ⟨zb, 0, none⟩ (.int .u64 (v : Int))) zb (zl.set 0 v) ∧ Fr w1 (w1.drew.setCell ⟨zb, 0, none⟩ (.int .u64 (v : Int))) (One zb)) :=
          ⟨((M.out.1).drewN 1).set 0 v (by omega), ((Fr.refl w1 (One zb)).drew).setCell (p := ⟨zb, 0, none⟩) (Or.inl rfl) _⟩
        generalize w1.drew = w2 at d1 d2 D ⊢
        go_wp2
        go_roundw
        case rel => exact Or.inr ⟨rfl, D.out⟩
        case measure => simp [intOf]
      · have R := Lib.hid (And.intro r1 r2)
        clear r1 r2
        go_wp2_with fail
        refine (norm_row zb 1 zc (zl.set 0 v) (by rw [List.length_set]; exact M.out.2.1) m3 m4 _ R.out.1).mono ?_
        rintro e w4 ⟨k, rfl, hk, rfl⟩
        have HK := Lib.hid hk
        clear hk
        go_wp2_with fail
        go_ret
        exact and_post M.out.1 M.out.2.1 M.out.2.2.1 M.out.2.2.2 m3 m4 R.out.1 R.out.2 HK.out
end Go.Proofs.YtgmebioogkmfgaaGreatDoor
