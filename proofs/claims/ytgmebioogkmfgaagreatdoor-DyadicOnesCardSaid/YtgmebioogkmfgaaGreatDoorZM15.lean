/- A small number added. Condition: it stands in each fact. -/
import Derived.Test.YtgmebioogkmfgaaGreatDoorZM14
namespace Go.Proofs.YtgmebioogkmfgaaGreatDoor
open Go.RowKit Go.Pt Go.Mem

theorem new_post {w w2 w3 : World} {zb zc n k N : Nat} {zl : List Nat} (h0 : None zb ∨ w.heap.size ≤ zb) (f2 : Fr w w2 None) (R : Row w3 zb zl) (f3 : Fr w2 w3 (One zb)) (hl : zl.length = zc) (hn : n ≤ zc) (m4 : zc ≤ 1000000)
    (hv : val (fun j => zl.getD j 0) n = N) (hk : NormOf zl n k) : NatPost None N w (.returned (.slice (some ⟨zb, 0, none⟩) k zc)) w3 := by
  obtain ⟨k1, k2, k3⟩ := hk
  have h : w.heap.size ≤ zb := h0.elim (fun h => h.elim) id
  refine ⟨_, rfl, Or.inr ⟨zb, k, zc, zl, rfl, R, hl, by omega, m4, ?_, k3⟩, ?_, ?_⟩
  · rw [← hv]; exact (val_zeros (x := fun j => zl.getD j 0) n k1 k2).symm
  · rintro b ⟨_, _, hb⟩
    cases hb
    exact Or.inr h
  · exact f2.trans f3 (fun x hx => hx) (fun x hx hb => by cases hb; omega)

set_option maxRecDepth 100000 in
set_option maxHeartbeats 2000000 in
theorem add1 (xb xc : Nat) (l : List Nat) (yb yc : Nat) (yl : List Nat) (w : World) (hx : Row w xb l) (hxl : l.length = xc) (hxc : 1 ≤ xc) (hy : Row w yb yl) (hyl : yl.length = yc) (hyc : 1 ≤ yc)
    (h : l.getD 0 0 + yl.getD 0 0 < 18446744073709551616) :
    Calls Tryz.prog 71 #[.slice none 0 0, .slice (some ⟨xb, 0, none⟩) 1 xc, .slice (some ⟨yb, 0, none⟩) 1 yc] w (NatPost None (l.getD 0 0 + yl.getD 0 0) w) := by
  have hm := make_new none 0 0 2 (by omega) (by omega) w
  have HM := Lib.hid hm
  have H := Lib.hid (And.intro hx (And.intro hxl (And.intro hy hyl)))
  have i1 : (1 : Int) ≤ (xc : Int) := by omega
  have i2 : (1 : Int) ≤ (yc : Int) := by omega
  generalize hX : l.getD 0 0 = X at h ⊢
  generalize hY : yl.getD 0 0 = Y at h ⊢
  have HXY := Lib.hid (And.intro hX (And.intro hY h))
  clear hm hx hxl hy hyl hX hY h
  go_enter Tryz.func71, Tryz.ntmps71
  go_wp2_with fail
  refine (HM.out).mono ?_
  rintro e w1 ⟨zb, zc, zl, rfl, m1, m2, m3, m4, m5, m6⟩
  have M := Lib.hid (And.intro m1 (And.intro m2 (And.intro m5 m6)))
  have i3 : (1 : Int) ≤ (zc : Int) := by omega
  clear m1 m2 m5 m6
  go_wp2_with fail
  go_still_tail 9, (by kernel_rfl)
  change wpList _ _ _ _ _ w1.drew
  have hvv := addVV_one zb 0 zc xb 0 xc yb 0 yc X Y zl HXY.out.2.2 w1.drew (M.out.1.drewN 1) (by rw [M.out.2.1]; omega)
    (by have := ((H.out.1).keep M.out.2.2.2 (fun x => x)).cell (i := 0) (by rw [H.out.2.1]; omega); rw [HXY.out.1] at this; exact this)
    (by have := ((H.out.2.2.1).keep M.out.2.2.2 (fun x => x)).cell (i := 0) (by rw [H.out.2.2.2]; omega); rw [HXY.out.2.1] at this; exact this)
  have HV := Lib.hid hvv
  clear hvv
  have F2 : Hid (Fr w w1.drew None) := M.out.2.2.2.drew
  generalize w1.drew = w2 at HV F2 ⊢
  go_wp2_with fail
  refine (HV.out).mono ?_
  rintro e w3 ⟨rfl, r1, r2⟩
  have z1 := r1.cell (i := 1) (by rw [List.length_set, M.out.2.1]; omega)
  have z2 := r1.free 1
  generalize (zl.set 0 (X + Y)).getD 1 0 = zv at z1
  have R3 : Hid (Row (w3.setCell ⟨zb, 1, none⟩ (.int .u64 0)) zb ((zl.set 0 (X + Y)).set 1 0) ∧ Fr w2 (w3.setCell ⟨zb, 1, none⟩ (.int .u64 0)) (One zb)) := ⟨r1.set 1 0 (by omega), r2.setCell (p := ⟨zb, 1, none⟩) (Or.inl rfl) _⟩
  clear r1 r2
  go_wp2_with fail
  have hl3 : Hid (((zl.set 0 (X + Y)).set 1 0).length = zc) := by rw [List.length_set, List.length_set]; exact M.out.2.1
  refine (norm_row zb 2 zc _ hl3.out m3 m4 _ R3.out.1).mono ?_
  rintro e w4 ⟨k, rfl, hk, rfl⟩
  have HK := Lib.hid hk
  clear hk
  go_wp2_with fail
  go_ret
  refine new_post M.out.2.2.1 F2.out R3.out.1 R3.out.2 hl3.out m3 m4 ?_ HK.out
  have e0 : ((zl.set 0 (X + Y)).set 1 0).getD 0 0 = X + Y := by rw [getD_set_ne _ _ _ _ (by omega)]; exact getD_set_self _ _ _ (by rw [M.out.2.1]; omega)
  have e1 : ((zl.set 0 (X + Y)).set 1 0).getD 1 0 = 0 := getD_set_self _ _ _ (by rw [List.length_set, M.out.2.1]; omega)
  simp only [val]
  rw [e0, e1]
  omega
end Go.Proofs.YtgmebioogkmfgaaGreatDoor
