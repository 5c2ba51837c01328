/- alive of the statements. Condition: it stands in each fact. -/
import Derived.Test.YtgmebioogkmfgaaGreatDoorZM25
import Derived.Test.YtgmebioogkmfgaaGreatDoorQ5
namespace Go.Proofs.YtgmebioogkmfgaaGreatDoor
open Go.RowKit Go.Pt Go.Mem

theorem digs_one {d : Nat} (h0 : d ≠ 0) (h : d < 1073741824) : Digs 1 (fun _ => d) ∧ dv (fun _ => d) 1 = d :=
  ⟨⟨fun _ => h, fun _ => h0, by omega⟩, by simp [dv]⟩

/-- A number of one digit in a row of its own. -/
theorem lit_num (w : World) (b cap d : Nat) (neg : Bool) (E : Int) (hb : b < w.heap.size) (hc : w.cell? ⟨b, 0, none⟩ = some (.int .i64 (d : Int))) (hcap : 1 ≤ cap) (h : d < 1073741824) (ho : d % 2 = 1) (e0 : -1048576 ≤ E) (e1 : E ≤ 1048576) :
    NumV w (.agg #[.bool neg, .slice (some ⟨b, 0, none⟩) 1 cap, .int .i64 E]) neg d E := by
  have hd : dgt d 0 = d := by
    unfold dgt
    rw [Nat.mul_zero, Nat.pow_zero, Nat.div_one, Nat.mod_eq_of_lt h]
  refine ⟨_, 1, rfl, Or.inr ⟨b, cap, rfl, hcap, hb, fun j hj => ?_⟩, ⟨dgt_lt d, fun _ => ?_, by omega⟩, ?_, fun c => by omega, fun _ => ⟨ho, e0, e1⟩⟩
  · obtain rfl : j = 0 := by omega
    rw [hd]
    exact hc
  · rw [Nat.sub_self, hd]
    omega
  · simp [dv, hd]

theorem pow_room (d a b : Nat) (h : d < 2 ^ a) (k : a ≤ b) : d < 2 ^ b := Nat.lt_of_lt_of_le h (two_mono a b k)
theorem nat_small (d b : Nat) (h : d < 1073741824) (hb : 30 ≤ b) : d < 2 ^ b := pow_room d 30 b h hb

/-- Make of one digit. -/
theorem make_one (neg : Bool) (b d : Nat) (e : Int) (w : World) (h0 : d ≠ 0) (h : d < 1073741824) (hb : b < w.heap.size) (hc : w.cell? ⟨b, 0, none⟩ = some (.int .i64 (d : Int))) (he0 : -1048576 ≤ e) (he1 : e ≤ 1000000) (hT : Tab w) :
    Calls Tryz.prog 7 #[.bool neg, .slice (some ⟨b, 0, none⟩) 1 1, .int .i64 e] w (AnsPost neg d e w) := by
  obtain ⟨h1, h2⟩ := digs_one h0 h
  have h3 := nat_small d (64 * 30) h (by omega)
  have := make_ok neg b 1 1 (fun _ => d) e w (by omega) h1 (by omega) hb (fun j hj => by rw [show j = 0 by omega]; exact hc) (Nat.lt_of_le_of_lt (Nat.le_of_eq h2) h3) (by rw [h2]; omega) he0 he1 hT
  rw [h2] at this
  exact this

theorem of_half (w : World) (hT : Tab w) : Calls Tryz.prog 8 #[.int .i64 4609434218613702656] w (AnsPost false 6755399441055744 (-52) w) := by
  have := dOf_ok 4609434218613702656 w (by decide) hT
  rw [show pneg 4609434218613702656 = false by decide, show pmag 4609434218613702656 = 6755399441055744 by decide, show pexp 4609434218613702656 = -52 by decide] at this
  exact this

set_option maxRecDepth 100000 in
set_option maxHeartbeats 4000000 in
theorem alive_ok (w : World) (hT : Tab w) : Calls Tryz.prog 4 #[] w fun e w' => e = .returned (.bool true) ∧ Fr w w' None := by
  have f0 := (Fr.refl w None).alloc (.cells #[.int .i64 6] 3)
  have hm := make_one true w.heap.size 6 (-1) (w.alloc (.cells #[.int .i64 6] 3)) (by omega) (by omega) (At.alloc w _ _).lt ((At.alloc w _ _).cell 0) (by omega) (by omega) (hT.keep f0)
  have HM := Lib.hid hm
  have HT := Lib.hid hT
  have F0 := Lib.hid f0
  clear hm hT f0
  go_enter Tryz.func4, Tryz.ntmps4
  go_wp2_with fail
  generalize w.alloc (.cells #[.int .i64 6] 3) = w0 at HM F0 ⊢
  refine (HM.out).mono ?_
  rintro en w1 ⟨x, rfl, hx, fx⟩
  have hx1 := hx.num (B := 3) (j := 1) rfl rfl
  obtain ⟨e1, e2, _, xa, xn, xc, rfl⟩ := hx1.form (by omega)
  rw [show (-1 : Int) + ((1 : Nat) : Int) = 0 from rfl] at hx1 ⊢
  have X := Lib.hid hx1
  have F1 := Lib.hid (F0.out.trans fx (fun _ h => h) (fun _ _ h => h))
  clear hx hx1 fx e1 e2
  go_wp2_with fail
  have ta := At.alloc w1 #[.bool true, .slice xa xn xc, .int .i64 0] 24
  have fa := (Fr.refl w1 None).alloc (.cells #[.bool true, .slice xa xn xc, .int .i64 0] 24)
  have FA := Lib.hid (F1.out.trans fa (fun _ h => h) (fun _ _ h => h))
  have XA := Lib.hid (X.out.keep fa)
  have TA := Lib.hid ta
  clear ta fa X F1 F0
  generalize hb1 : w1.heap.size = b1 at TA ⊢
  generalize w1.alloc (.cells #[.bool true, .slice xa xn xc, .int .i64 0] 24) = wa at FA XA TA ⊢
  clear hb1
  refine (of_half wa (HT.out.keep FA.out)).mono ?_
  rintro en w2 ⟨y, rfl, hy, fy⟩
  have hy1 := hy.num (B := 3) (j := 51) rfl rfl
  obtain ⟨e1, e2, _, ya, yn, yc, rfl⟩ := hy1.form (by omega)
  rw [show (-52 : Int) + ((51 : Nat) : Int) = -1 from rfl] at hy1 ⊢
  have Y2 := Lib.hid hy1
  have X2 := Lib.hid (XA.out.keep fy)
  have T2 := Lib.hid (TA.out.keep fy (fun x => x))
  have F2 := Lib.hid (FA.out.trans fy (fun _ h => h) (fun _ _ h => h))
  have tb := At.alloc w2 #[.bool false, .slice ya yn yc, .int .i64 (-1)] 24
  have fb := (Fr.refl w2 None).alloc (.cells #[.bool false, .slice ya yn yc, .int .i64 (-1)] 24)
  have tc := T2.out.keep fb (fun x => x)
  have c0 := tc.cell 0
  have c1 := tc.cell 1
  have c2 := tc.cell 2
  obtain ⟨R, hR⟩ : ∃ R, R = 3 := ⟨3, rfl⟩
  have hadd : ∀ W z p1 zl vx vl, IntV W z (.slice none 0 0) false 0 → IntV W p1 vx false 3 → IntV W zl vl true (3 * 2 ^ 1) → Calls Tryz.prog 52 #[.pointer (some ⟨z, 0, none⟩), .pointer (some ⟨p1, 0, none⟩), .pointer (some ⟨zl, 0, none⟩)] W (IntPost z (Blk (.slice none 0 0)) true R W) :=
    fun W z p1 zl vx vl k1 k2 k3 => by rw [hR]; exact intAdd_diff z p1 zl vx vl false true 6 3 W (by omega) (by omega) (by decide) (by decide) k1 k2 k3
  have hsm := nat_small R (64 * 30) (by omega) (by omega)
  have ha := add_ok _ _ true false true 3 3 1 R 0 (-1) _ (X2.out.keep fb) (Y2.out.keep fb) (by omega) (by omega) (by omega) (by omega) (by decide) rfl (by omega) hsm (by omega) (HT.out.keep (F2.out.trans fb (fun _ h => h) (fun _ _ h => h))) hadd
  clear hsm
  subst hR
  have HA := Lib.hid ha
  have X3 := Lib.hid (X2.out.keep fb)
  have Y3 := Lib.hid (Y2.out.keep fb)
  have T3 := Lib.hid tc
  have U3 := Lib.hid tb
  have F3 := Lib.hid (F2.out.trans fb (fun _ h => h) (fun _ _ h => h))
  clear hy hy1 fy e1 e2 XA TA FA ha hadd tb fb tc X2 Y2 T2 F2
  go_wp2_with fail
  generalize hb2 : w2.heap.size = b2 at U3 ⊢
  generalize w2.alloc (.cells #[.bool false, .slice ya yn yc, .int .i64 (-1)] 24) = wb at HA X3 Y3 T3 U3 F3 c0 c1 c2 ⊢
  clear hb2 c0 c1 c2
  refine (HA.out).mono ?_
  rintro en w4 ⟨s, rfl, hs, fs⟩
  have hs1 := hs.num (B := 3) (j := 0) rfl rfl
  obtain ⟨e1, e2, _, sa, sn, sc, rfl⟩ := hs1.form (by omega)
  rw [show (-1 : Int) + ((0 : Nat) : Int) = -1 from rfl] at hs1 ⊢
  have S4 := Lib.hid hs1
  have X4 := Lib.hid (X3.out.keep fs)
  have Y4 := Lib.hid (Y3.out.keep fs)
  have T4 := Lib.hid (T3.out.keep fs (fun x => x))
  have U4 := Lib.hid (U3.out.keep fs (fun x => x))
  have F4 := Lib.hid (F3.out.trans fs (fun _ h => h) (fun _ _ h => h))
  clear hs hs1 fs e1 e2 X3 Y3 T3 U3 F3
  -- the third variable
  have tv := At.alloc w4 #[.bool true, .slice sa sn sc, .int .i64 (-1)] 24
  have fv := (Fr.refl w4 None).alloc (.cells #[.bool true, .slice sa sn sc, .int .i64 (-1)] 24)
  have T5 := Lib.hid (T4.out.keep fv (fun x => x))
  have U5 := Lib.hid (U4.out.keep fv (fun x => x))
  have V5 := Lib.hid tv
  have X5 := Lib.hid (X4.out.keep fv)
  have Y5 := Lib.hid (Y4.out.keep fv)
  have S5 := Lib.hid (S4.out.keep fv)
  have F5 := Lib.hid (F4.out.trans fv (fun _ h => h) (fun _ _ h => h))
  have c0 := T5.out.cell 0
  have c1 := T5.out.cell 1
  have c2 := T5.out.cell 2
  clear tv fv X4 Y4 S4 F4 T4 U4
  go_wp2_with fail
  generalize hb3 : w4.heap.size = b3 at V5 ⊢
  generalize hw5 : w4.alloc (.cells #[.bool true, .slice sa sn sc, .int .i64 (-1)] 24) = w5 at T5 U5 V5 X5 Y5 S5 F5 c0 c1 c2 ⊢
  have hz5 : w5.heap.size = b3 + 1 := by rw [← hw5, ← hb3]; simp
  clear hw5 hb3 c0 c1 c2
  -- is x as it is to be?
  have t6 := At.alloc w5 #[.int .i64 3] 3
  rw [hz5] at t6
  have f6 := (Fr.refl w5 None).alloc (.cells #[.int .i64 3] 3)
  have q6 := same_num _ _ true 3 0 _ (X5.out.keep f6) (lit_num _ (b3 + 1) 1 3 true 0 t6.lt (t6.cell 0) (by omega) (by omega) (by omega) (by omega) (by omega))
  refine q6.mono ?_
  clear q6 t6
  rintro en w7 ⟨rfl, g7⟩
  have f7 := f6.trans g7 (fun _ h => h) (fun _ _ h => h)
  have Y7 := Lib.hid (Y5.out.keep f7)
  have S7 := Lib.hid (S5.out.keep f7)
  have U7 := Lib.hid (U5.out.keep f7 (fun x => x))
  have V7 := Lib.hid (V5.out.keep f7 (fun x => x))
  have F7 := Lib.hid (F5.out.trans f7 (fun _ h => h) (fun _ _ h => h))
  have c0 := U7.out.cell 0
  have c1 := U7.out.cell 1
  have c2 := U7.out.cell 2
  clear f6 g7 f7 X5 Y5 S5 T5 U5 V5 F5 hz5
  go_wp2_with fail
  clear c0 c1 c2
  -- is y?
  have t8 := At.alloc w7 #[.int .i64 3] 3
  have f8 := (Fr.refl w7 None).alloc (.cells #[.int .i64 3] 3)
  have q8 := same_num _ _ false 3 (-1) _ (Y7.out.keep f8) (lit_num _ w7.heap.size 1 3 false (-1) t8.lt (t8.cell 0) (by omega) (by omega) (by omega) (by omega) (by omega))
  refine q8.mono ?_
  clear q8 t8
  rintro en w9 ⟨rfl, g9⟩
  have f9 := f8.trans g9 (fun _ h => h) (fun _ _ h => h)
  have S9 := Lib.hid (S7.out.keep f9)
  have V9 := Lib.hid (V7.out.keep f9 (fun x => x))
  have F9 := Lib.hid (F7.out.trans f9 (fun _ h => h) (fun _ _ h => h))
  have c0 := V9.out.cell 0
  have c1 := V9.out.cell 1
  have c2 := V9.out.cell 2
  clear f8 g9 f9 Y7 S7 U7 V7 F7
  go_wp2_with fail
  clear c0 c1 c2
  -- is their sum?
  have ta := At.alloc w9 #[.int .i64 3] 3
  have fa := (Fr.refl w9 None).alloc (.cells #[.int .i64 3] 3)
  have qa := same_num _ _ true 3 (-1) _ (S9.out.keep fa) (lit_num _ w9.heap.size 1 3 true (-1) ta.lt (ta.cell 0) (by omega) (by omega) (by omega) (by omega) (by omega))
  refine qa.mono ?_
  clear qa ta
  rintro en wa2 ⟨rfl, ga⟩
  have fb := fa.trans ga (fun _ h => h) (fun _ _ h => h)
  have SA := Lib.hid (S9.out.keep fb)
  have VA := Lib.hid (V9.out.keep fb (fun x => x))
  have FA2 := Lib.hid (F9.out.trans fb (fun _ h => h) (fun _ _ h => h))
  have c0 := VA.out.cell 0
  have c1 := VA.out.cell 1
  have c2 := VA.out.cell 2
  clear fa ga fb S9 V9 F9
  go_wp2_with fail
  clear c0 c1 c2
  -- is it valid?
  refine (valid_num _ true 3 (-1) _ SA.out).mono ?_
  rintro en wb2 ⟨rfl, gb⟩
  have FB := Lib.hid (FA2.out.trans gb (fun _ h => h) (fun _ _ h => h))
  clear gb
  go_wp2_with fail
  go_ret
  exact ⟨rfl, FB.out⟩
end Go.Proofs.YtgmebioogkmfgaaGreatDoor
