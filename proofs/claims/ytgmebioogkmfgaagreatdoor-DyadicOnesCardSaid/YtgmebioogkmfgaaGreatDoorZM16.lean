/- A small number added to one of two words; the number added in any order. Condition: it stands in each fact. -/
import Derived.Test.YtgmebioogkmfgaaGreatDoorZM15
namespace Go.Proofs.YtgmebioogkmfgaaGreatDoor
open Go.RowKit Go.Pt Go.Mem

set_option maxRecDepth 100000 in
set_option maxHeartbeats 2000000 in
theorem add2 (xb xc : Nat) (l : List Nat) (yb yc : Nat) (yl : List Nat) (w : World) (hx : Row w xb l) (hxl : l.length = xc) (hxc : 2 ≤ xc) (hy : Row w yb yl) (hyl : yl.length = yc) (hyc : 1 ≤ yc)
    (h : l.getD 0 0 + yl.getD 0 0 < 18446744073709551616) :
    Calls Tryz.prog 71 #[.slice none 0 0, .slice (some ⟨xb, 0, none⟩) 2 xc, .slice (some ⟨yb, 0, none⟩) 1 yc] w (NatPost None (val (fun j => l.getD j 0) 2 + yl.getD 0 0) w) := by
  have hm := make_new none 0 0 3 (by omega) (by omega) w
  have HM := Lib.hid hm
  have H := Lib.hid (And.intro hx (And.intro hxl (And.intro hy hyl)))
  have i1 : (1 : Int) ≤ (xc : Int) := by omega
  have i2 : (1 : Int) ≤ (yc : Int) := by omega
  have i4 : (2 : Int) ≤ (xc : Int) := by omega
  have i5 : ¬ xc = 1 := by omega
  have hV : val (fun j => l.getD j 0) 2 + yl.getD 0 0 = (l.getD 0 0 + yl.getD 0 0) + l.getD 1 0 * 18446744073709551616 := by simp only [val]; omega
  rw [hV]
  generalize hX : l.getD 0 0 = X at h ⊢
  generalize hY : yl.getD 0 0 = Y at h ⊢
  generalize hX1 : l.getD 1 0 = X1
  have hX1l : X1 < 18446744073709551616 := by rw [← hX1]; exact hx.2 1
  have HXY := Lib.hid (And.intro hX (And.intro hY (And.intro h (And.intro hX1 hX1l))))
  clear hm hx hxl hy hyl hX hY h hV hX1 hX1l
  go_enter Tryz.func71, Tryz.ntmps71
  go_wp2_with fail
  refine (HM.out).mono ?_
  rintro e w1 ⟨zb, zc, zl, rfl, m1, m2, m3, m4, m5, m6⟩
  have M := Lib.hid (And.intro m1 (And.intro m2 (And.intro m5 m6)))
  have i3 : (1 : Int) ≤ (zc : Int) := by omega
  have i6 : (2 : Int) ≤ (zc : Int) := by omega
  have i7 : ¬ zc = 1 := by omega
  clear m1 m2 m5 m6
  go_wp2_with fail
  go_still_tail 9, (by kernel_rfl)
  change wpList _ _ _ _ _ w1.drew
  have hxz : zb ≠ xb := by
    have := H.out.1.lt
    rcases M.out.2.2.1 with h | h
    · exact h.elim
    · omega
  have hvv := addVV_one zb 0 zc xb 0 xc yb 0 yc X Y zl HXY.out.2.2.1 w1.drew (M.out.1.drewN 1) (by rw [M.out.2.1]; omega)
    (by have := ((H.out.1).keep M.out.2.2.2 (fun x => x)).cell (i := 0) (by rw [H.out.2.1]; omega); rw [HXY.out.1] at this; exact this)
    (by have := ((H.out.2.2.1).keep M.out.2.2.2 (fun x => x)).cell (i := 0) (by rw [H.out.2.2.2]; omega); rw [HXY.out.2.1] at this; exact this)
  have HV := Lib.hid hvv
  clear hvv
  have F2 : Hid (Fr w w1.drew None) := M.out.2.2.2.drew
  generalize w1.drew = w2 at HV F2 ⊢
  go_wp2_with fail
  refine (HV.out).mono ?_
  rintro e w3 ⟨rfl, r1, r2⟩
  have RX : Row w3 xb l := ((H.out.1).keep F2.out (fun x => x)).keep r2 (fun e => hxz e.symm)
  have hvw := addVW_one zb 1 (zc - 1) xb 1 (xc - 1) X1 (zl.set 0 (X + Y)) HXY.out.2.2.2.2 (by omega) (by omega) hxz w3.drew (r1.drewN 1) (by rw [List.length_set, M.out.2.1]; omega)
    (by have := RX.cell (i := 1) (by rw [H.out.2.1]; omega); rw [HXY.out.2.2.2.1] at this; exact this) l (RX.drewN 1)
  have HW := Lib.hid hvw
  have F3 : Hid (Fr w2 w3.drew (One zb)) := r2.drew
  clear hvw RX r1 r2 HV
  go_wp2_with fail
  go_still_tail 8, (by kernel_rfl)
  change wpList _ _ _ _ _ w3.drew
  generalize w3.drew = w4 at HW F3 ⊢
  go_wp2_with fail
  refine (HW.out).mono ?_
  rintro e w5 ⟨rfl, r1, r2⟩
  have z1 := r1.cell (i := 2) (by rw [List.length_set, List.length_set, M.out.2.1]; omega)
  have z2 := r1.free 2
  generalize ((zl.set 0 (X + Y)).set 1 X1).getD 2 0 = zv at z1
  have R3 : Hid (Row (w5.setCell ⟨zb, 2, none⟩ (.int .u64 0)) zb (((zl.set 0 (X + Y)).set 1 X1).set 2 0) ∧ Fr w2 (w5.setCell ⟨zb, 2, none⟩ (.int .u64 0)) (One zb)) :=
    ⟨r1.set 2 0 (by omega), (F3.out.trans r2 (fun x h => h) (fun x _ h => h)).setCell (p := ⟨zb, 2, none⟩) (Or.inl rfl) _⟩
  clear r1 r2
  go_wp2_with fail
  have hl3 : Hid ((((zl.set 0 (X + Y)).set 1 X1).set 2 0).length = zc) := by rw [List.length_set, List.length_set, List.length_set]; exact M.out.2.1
  refine (norm_row zb 3 zc _ hl3.out m3 m4 _ R3.out.1).mono ?_
  rintro e w4 ⟨k, rfl, hk, rfl⟩
  have HK := Lib.hid hk
  clear hk
  go_wp2_with fail
  go_ret
  refine new_post M.out.2.2.1 F2.out R3.out.1 R3.out.2 hl3.out m3 m4 ?_ HK.out
  have ml := M.out.2.1
  have e0 : (((zl.set 0 (X + Y)).set 1 X1).set 2 0).getD 0 0 = X + Y := by rw [getD_set_ne _ _ _ _ (by omega), getD_set_ne _ _ _ _ (by omega)]; exact getD_set_self _ _ _ (by omega)
  have e1 : (((zl.set 0 (X + Y)).set 1 X1).set 2 0).getD 1 0 = X1 := by rw [getD_set_ne _ _ _ _ (by omega)]; exact getD_set_self _ _ _ (by rw [List.length_set]; omega)
  have e2 : (((zl.set 0 (X + Y)).set 1 X1).set 2 0).getD 2 0 = 0 := getD_set_self _ _ _ (by rw [List.length_set, List.length_set]; omega)
  simp only [val]
  rw [e0, e1, e2]
  omega
end Go.Proofs.YtgmebioogkmfgaaGreatDoor
