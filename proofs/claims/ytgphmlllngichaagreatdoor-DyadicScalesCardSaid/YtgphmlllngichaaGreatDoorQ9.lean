/- num, alive of the statements; the walk of DyadicScales; its argument. Condition: it stands in each fact. -/
import Derived.Test.YtgphmlllngichaaGreatDoorM25
import Derived.Test.YtgphmlllngichaaGreatDoorQ5
import Derived.Test.YtgphmlllngichaaGreatDoorQ8
import Derived.Test.YtgphmlllngichaaGreatDoorQ7
import Derived.ProofKit
import Derived.Deep.Slices
namespace Go.Proofs.YtgphmlllngichaaGreatDoor
open Go.RowKit Go.Pt Go.Mem

theorem digs_one {d : Nat} (h0 : d ≠ 0) (h : d < 1073741824) : Digs 1 (fun _ => d) ∧ dv (fun _ => d) 1 = d :=
  ⟨⟨fun _ => h, fun _ => h0, by omega⟩, by simp [dv]⟩

/-- A number of one digit in a row of its own. -/
theorem lit_num (w : World) (b cap d : Nat) (neg : Bool) (E : Int) (hb : b < w.heap.size) (hc : w.cell? ⟨b, 0, none⟩ = some (.int .i64 (d : Int))) (hcap : 1 ≤ cap) (h : d < 1073741824) (ho : d % 2 = 1) (e0 : -1048576 ≤ E) (e1 : E ≤ 1048576) :
    NumV w (.agg #[.bool neg, .slice (some ⟨b, 0, none⟩) 1 cap, .int .i64 E]) neg d E := by
  have hd : dgt d 0 = d := by
    unfold dgt
    rw [Nat.mul_zero, Nat.pow_zero, Nat.div_one, Nat.mod_eq_of_lt h]
  refine ⟨_, 1, rfl, Or.inr ⟨b, cap, rfl, hcap, hb, fun j hj => ?_⟩, ⟨dgt_lt d, fun _ => ?_, by omega⟩, ?_, fun c => by omega, fun _ => ⟨ho, e0, e1⟩⟩
  · obtain rfl : j = 0 := by omega
    rw [hd]
    exact hc
  · rw [Nat.sub_self, hd]
    omega
  · simp [dv, hd]

theorem pow_room (d a b : Nat) (h : d < 2 ^ a) (k : a ≤ b) : d < 2 ^ b := Nat.lt_of_lt_of_le h (two_mono a b k)
theorem nat_small (d b : Nat) (h : d < 1073741824) (hb : 30 ≤ b) : d < 2 ^ b := pow_room d 30 b h hb

/-- Make of one digit. -/
theorem make_one (neg : Bool) (b d : Nat) (e : Int) (w : World) (h0 : d ≠ 0) (h : d < 1073741824) (hb : b < w.heap.size) (hc : w.cell? ⟨b, 0, none⟩ = some (.int .i64 (d : Int))) (he0 : -1048576 ≤ e) (he1 : e ≤ 1000000) (hT : Tab w) :
    Calls Tryz.prog 6 #[.bool neg, .slice (some ⟨b, 0, none⟩) 1 1, .int .i64 e] w (AnsPost neg d e w) := by
  obtain ⟨h1, h2⟩ := digs_one h0 h
  have h3 := nat_small d (64 * 30) h (by omega)
  have := make_ok neg b 1 1 (fun _ => d) e w (by omega) h1 (by omega) hb (fun j hj => by rw [show j = 0 by omega]; exact hc) (Nat.lt_of_le_of_lt (Nat.le_of_eq h2) h3) (by rw [h2]; omega) he0 he1 hT
  rw [h2] at this
  exact this

theorem of_half (w : World) (hT : Tab w) : Calls Tryz.prog 17 #[.int .i64 4609434218613702656] w (AnsPost false 6755399441055744 (-52) w) := by
  have := dOf_ok 4609434218613702656 w (by decide) hT
  rw [show pneg 4609434218613702656 = false by decide, show pmag 4609434218613702656 = 6755399441055744 by decide, show pexp 4609434218613702656 = -52 by decide] at this
  exact this

set_option maxRecDepth 100000 in
set_option maxHeartbeats 4000000 in
theorem alive_ok (w : World) (hT : Tab w) : Calls Tryz.prog 8 #[] w fun e w' => e = .returned (.bool true) ∧ Fr w w' None := by
  have f0 := (Fr.refl w None).alloc (.cells #[.int .i64 6] 3)
  have hm := make_one true w.heap.size 6 (-1) (w.alloc (.cells #[.int .i64 6] 3)) (by omega) (by omega) (At.alloc w _ _).lt ((At.alloc w _ _).cell 0) (by omega) (by omega) (hT.keep f0)
  have HM := Lib.hid hm
  have HT := Lib.hid hT
  have F0 := Lib.hid f0
  clear hm hT f0
  go_enter Tryz.func8, Tryz.ntmps8
  go_wp2_with fail
  generalize w.alloc (.cells #[.int .i64 6] 3) = w0 at HM F0 ⊢
  refine (HM.out).mono ?_
  rintro en w1 ⟨x, rfl, hx, fx⟩
  have hx1 := hx.num (B := 3) (j := 1) rfl rfl
  obtain ⟨e1, e2, _, xa, xn, xc, rfl⟩ := hx1.form (by omega)
  rw [show (-1 : Int) + ((1 : Nat) : Int) = 0 from rfl] at hx1 ⊢
  have X := Lib.hid hx1
  have F1 := Lib.hid (F0.out.trans fx (fun _ h => h) (fun _ _ h => h))
  clear hx hx1 fx e1 e2
  go_wp2_with fail
  have ta := At.alloc w1 #[.bool true, .slice xa xn xc, .int .i64 0] 24
  have fa := (Fr.refl w1 None).alloc (.cells #[.bool true, .slice xa xn xc, .int .i64 0] 24)
  have FA := Lib.hid (F1.out.trans fa (fun _ h => h) (fun _ _ h => h))
  have XA := Lib.hid (X.out.keep fa)
  have TA := Lib.hid ta
  clear ta fa X F1 F0
  generalize hb1 : w1.heap.size = b1 at TA ⊢
  generalize w1.alloc (.cells #[.bool true, .slice xa xn xc, .int .i64 0] 24) = wa at FA XA TA ⊢
  clear hb1
  refine (of_half wa (HT.out.keep FA.out)).mono ?_
  rintro en w2 ⟨y, rfl, hy, fy⟩
  have hy1 := hy.num (B := 3) (j := 51) rfl rfl
  obtain ⟨e1, e2, _, ya, yn, yc, rfl⟩ := hy1.form (by omega)
  rw [show (-52 : Int) + ((51 : Nat) : Int) = -1 from rfl] at hy1 ⊢
  have Y2 := Lib.hid hy1
  have X2 := Lib.hid (XA.out.keep fy)
  have T2 := Lib.hid (TA.out.keep fy (fun x => x))
  have F2 := Lib.hid (FA.out.trans fy (fun _ h => h) (fun _ _ h => h))
  have tb := At.alloc w2 #[.bool false, .slice ya yn yc, .int .i64 (-1)] 24
  have fb := (Fr.refl w2 None).alloc (.cells #[.bool false, .slice ya yn yc, .int .i64 (-1)] 24)
  have tc := T2.out.keep fb (fun x => x)
  have c0 := tc.cell 0
  have c1 := tc.cell 1
  have c2 := tc.cell 2
  obtain ⟨R, hR⟩ : ∃ R, R = 3 := ⟨3, rfl⟩
  have hadd : ∀ W z p1 zl vx vl, IntV W z (.slice none 0 0) false 0 → IntV W p1 vx false 3 → IntV W zl vl true (3 * 2 ^ 1) → Calls Tryz.prog 57 #[.pointer (some ⟨z, 0, none⟩), .pointer (some ⟨p1, 0, none⟩), .pointer (some ⟨zl, 0, none⟩)] W (IntPost z (Blk (.slice none 0 0)) true R W) :=
    fun W z p1 zl vx vl k1 k2 k3 => by rw [hR]; exact intAdd_diff z p1 zl vx vl false true 6 3 W (by omega) (by omega) (by decide) (by decide) k1 k2 k3
  have hsm := nat_small R (64 * 30) (by omega) (by omega)
  have ha := add_ok _ _ true false true 3 3 1 R 0 (-1) _ (X2.out.keep fb) (Y2.out.keep fb) (by omega) (by omega) (by omega) (by omega) (by decide) rfl (by omega) hsm (by omega) (HT.out.keep (F2.out.trans fb (fun _ h => h) (fun _ _ h => h))) hadd
  clear hsm
  subst hR
  have HA := Lib.hid ha
  have X3 := Lib.hid (X2.out.keep fb)
  have Y3 := Lib.hid (Y2.out.keep fb)
  have T3 := Lib.hid tc
  have U3 := Lib.hid tb
  have F3 := Lib.hid (F2.out.trans fb (fun _ h => h) (fun _ _ h => h))
  clear hy hy1 fy e1 e2 XA TA FA ha hadd tb fb tc X2 Y2 T2 F2
  go_wp2_with fail
  generalize hb2 : w2.heap.size = b2 at U3 ⊢
  generalize w2.alloc (.cells #[.bool false, .slice ya yn yc, .int .i64 (-1)] 24) = wb at HA X3 Y3 T3 U3 F3 c0 c1 c2 ⊢
  clear hb2 c0 c1 c2
  refine (HA.out).mono ?_
  rintro en w4 ⟨s, rfl, hs, fs⟩
  have hs1 := hs.num (B := 3) (j := 0) rfl rfl
  obtain ⟨e1, e2, _, sa, sn, sc, rfl⟩ := hs1.form (by omega)
  rw [show (-1 : Int) + ((0 : Nat) : Int) = -1 from rfl] at hs1 ⊢
  have S4 := Lib.hid hs1
  have X4 := Lib.hid (X3.out.keep fs)
  have Y4 := Lib.hid (Y3.out.keep fs)
  have T4 := Lib.hid (T3.out.keep fs (fun x => x))
  have U4 := Lib.hid (U3.out.keep fs (fun x => x))
  have F4 := Lib.hid (F3.out.trans fs (fun _ h => h) (fun _ _ h => h))
  clear hs hs1 fs e1 e2 X3 Y3 T3 U3 F3
  -- the third variable
  have tv := At.alloc w4 #[.bool true, .slice sa sn sc, .int .i64 (-1)] 24
  have fv := (Fr.refl w4 None).alloc (.cells #[.bool true, .slice sa sn sc, .int .i64 (-1)] 24)
  have T5 := Lib.hid (T4.out.keep fv (fun x => x))
  have U5 := Lib.hid (U4.out.keep fv (fun x => x))
  have V5 := Lib.hid tv
  have X5 := Lib.hid (X4.out.keep fv)
  have Y5 := Lib.hid (Y4.out.keep fv)
  have S5 := Lib.hid (S4.out.keep fv)
  have F5 := Lib.hid (F4.out.trans fv (fun _ h => h) (fun _ _ h => h))
  have c0 := T5.out.cell 0
  have c1 := T5.out.cell 1
  have c2 := T5.out.cell 2
  clear tv fv X4 Y4 S4 F4 T4 U4
  go_wp2_with fail
  generalize hb3 : w4.heap.size = b3 at V5 ⊢
  generalize hw5 : w4.alloc (.cells #[.bool true, .slice sa sn sc, .int .i64 (-1)] 24) = w5 at T5 U5 V5 X5 Y5 S5 F5 c0 c1 c2 ⊢
  have hz5 : w5.heap.size = b3 + 1 := by rw [← hw5, ← hb3]; simp
  clear hw5 hb3 c0 c1 c2
  -- is x as it is to be?
  have t6 := At.alloc w5 #[.int .i64 3] 3
  rw [hz5] at t6
  have f6 := (Fr.refl w5 None).alloc (.cells #[.int .i64 3] 3)
  have q6 := same_num _ _ true 3 0 _ (X5.out.keep f6) (lit_num _ (b3 + 1) 1 3 true 0 t6.lt (t6.cell 0) (by omega) (by omega) (by omega) (by omega) (by omega))
  refine q6.mono ?_
  clear q6 t6
  rintro en w7 ⟨rfl, g7⟩
  have f7 := f6.trans g7 (fun _ h => h) (fun _ _ h => h)
  have Y7 := Lib.hid (Y5.out.keep f7)
  have S7 := Lib.hid (S5.out.keep f7)
  have U7 := Lib.hid (U5.out.keep f7 (fun x => x))
  have V7 := Lib.hid (V5.out.keep f7 (fun x => x))
  have F7 := Lib.hid (F5.out.trans f7 (fun _ h => h) (fun _ _ h => h))
  have c0 := U7.out.cell 0
  have c1 := U7.out.cell 1
  have c2 := U7.out.cell 2
  clear f6 g7 f7 X5 Y5 S5 T5 U5 V5 F5 hz5
  go_wp2_with fail
  clear c0 c1 c2
  -- is y?
  have t8 := At.alloc w7 #[.int .i64 3] 3
  have f8 := (Fr.refl w7 None).alloc (.cells #[.int .i64 3] 3)
  have q8 := same_num _ _ false 3 (-1) _ (Y7.out.keep f8) (lit_num _ w7.heap.size 1 3 false (-1) t8.lt (t8.cell 0) (by omega) (by omega) (by omega) (by omega) (by omega))
  refine q8.mono ?_
  clear q8 t8
  rintro en w9 ⟨rfl, g9⟩
  have f9 := f8.trans g9 (fun _ h => h) (fun _ _ h => h)
  have S9 := Lib.hid (S7.out.keep f9)
  have V9 := Lib.hid (V7.out.keep f9 (fun x => x))
  have F9 := Lib.hid (F7.out.trans f9 (fun _ h => h) (fun _ _ h => h))
  have c0 := V9.out.cell 0
  have c1 := V9.out.cell 1
  have c2 := V9.out.cell 2
  clear f8 g9 f9 Y7 S7 U7 V7 F7
  go_wp2_with fail
  clear c0 c1 c2
  -- is their sum?
  have ta := At.alloc w9 #[.int .i64 3] 3
  have fa := (Fr.refl w9 None).alloc (.cells #[.int .i64 3] 3)
  have qa := same_num _ _ true 3 (-1) _ (S9.out.keep fa) (lit_num _ w9.heap.size 1 3 true (-1) ta.lt (ta.cell 0) (by omega) (by omega) (by omega) (by omega) (by omega))
  refine qa.mono ?_
  clear qa ta
  rintro en wa2 ⟨rfl, ga⟩
  have fb := fa.trans ga (fun _ h => h) (fun _ _ h => h)
  have SA := Lib.hid (S9.out.keep fb)
  have VA := Lib.hid (V9.out.keep fb (fun x => x))
  have FA2 := Lib.hid (F9.out.trans fb (fun _ h => h) (fun _ _ h => h))
  have c0 := VA.out.cell 0
  have c1 := VA.out.cell 1
  have c2 := VA.out.cell 2
  clear fa ga fb S9 V9 F9
  go_wp2_with fail
  clear c0 c1 c2
  -- is it valid?
  refine (valid_num _ true 3 (-1) _ SA.out).mono ?_
  rintro en wb2 ⟨rfl, gb⟩
  have FB := Lib.hid (FA2.out.trans gb (fun _ h => h) (fun _ _ h => h))
  clear gb
  go_wp2_with fail
  go_ret
  exact ⟨rfl, FB.out⟩
end Go.Proofs.YtgphmlllngichaaGreatDoor

namespace Go.Proofs.YtgphmlllngichaaGreatDoor
open Go.RowKit Go.Pt Go.Mem

/-- A slice of ints that was handed in. -/
def InV (w : World) (v : Value) (n : Nat) (x : Nat → Int) : Prop :=
  ∃ a cap, v = .slice a n cap ∧ ∀ j, j < n → ∃ b off, a = some ⟨b, off, none⟩ ∧ b < w.heap.size ∧ w.cell? ⟨b, off + j, none⟩ = some (.int .i64 (x j))
theorem InV.keep {w w' : World} {v : Value} {n : Nat} {x : Nat → Int} (h : InV w v n x) (f : Fr w w' None) : InV w' v n x := by
  obtain ⟨a, cap, rfl, h⟩ := h
  refine ⟨a, cap, rfl, fun j hj => ?_⟩
  obtain ⟨b, off, rfl, h1, h2⟩ := h j hj
  exact ⟨b, off, rfl, Nat.lt_of_lt_of_le h1 f.size, by rw [f.cell (p := ⟨b, off + j, none⟩) h1 (fun x => x)]; exact h2⟩

/-- The low 30 bits. -/
def low30 (x : Nat → Int) (j : Nat) : Nat := (x j % 1073741824).toNat
theorem low30_lt (x : Nat → Int) (j : Nat) : low30 x j < 1073741824 := by unfold low30; omega
theorem and_30i (x : Nat → Int) (j : Nat) : bits .and .i64 (x j) 1073741823 = ((low30 x j : Nat) : Int) := by
  rw [show (1073741823 : Int) = ((2 ^ 30 - 1 : Nat) : Int) from rfl, and_mask_aux _ 30 (by omega)]
  unfold low30
  omega

/-- A number of at most 900 bits. -/
def Small (A : Nat) : Prop := ∃ b, b ≤ 900 ∧ A < 2 ^ b
def AnyNum (w : World) (en : Ending) (w' : World) : Prop :=
  ∃ x ng A E, en = .returned x ∧ NumV w' x ng A E ∧ Small A ∧ -3000 ≤ E ∧ E ≤ 3900 ∧ Fr w w' None

theorem tmod_3000 (e : Int) : -3000 ≤ Int.tmod e 3000 ∧ Int.tmod e 3000 ≤ 3000 := by
  have h := Int.natAbs_tmod e 3000
  have h2 : (3000 : Int).natAbs = 3000 := rfl
  rw [h2] at h
  have h3 := Nat.mod_lt e.natAbs (show 0 < 3000 by omega)
  omega

theorem norm_any (neg : Bool) (v : Value) (m : Nat) (x : Nat → Int) (e : Int) (w : World) (hm : m ≤ 30) (h : DigV w v m (low30 x)) :
    Calls Tryz.prog 22 #[.bool neg, v, .int .i64 (Int.tmod e 3000)] w (AnyNum w) := by
  obtain ⟨t1, t2⟩ := tmod_3000 e
  generalize Int.tmod e 3000 = t at t1 t2 ⊢
  refine (norm_ref neg v m (low30 x) t w (by omega) (low30_lt x) h (by omega) (by omega)).mono ?_
  have hlt := dv_lt (low30_lt x) m
  generalize dv (low30 x) m = N at hlt ⊢
  rintro en w' ⟨y, rfl, ⟨rfl, hy⟩ | ⟨k, k1, k2, k3, hy⟩, hf⟩
  · exact ⟨_, _, _, _, rfl, hy, ⟨0, by omega, by simp⟩, by omega, by omega, hf⟩
  · exact ⟨_, _, _, _, rfl, hy, ⟨30 * m, by omega, Nat.lt_of_le_of_lt (Nat.div_le_self _ _) hlt⟩, by omega, by omega, hf⟩

set_option maxRecDepth 100000 in
set_option maxHeartbeats 4000000 in
theorem norm_law (neg : Bool) (v : Value) (n : Nat) (x : Nat → Int) (e : Int) (w : World) (h : InV w v n x) :
    Calls Tryz.prog 10 #[.agg #[.bool neg, v, .int .i64 e], .int .i64 30, .int .i64 3000] w (AnyNum w) := by
  obtain ⟨a, cap, rfl, hin⟩ := h
  obtain ⟨t0, f0⟩ := box_at w (.bool neg) (.slice a n cap) (.int .i64 e) 24
  obtain ⟨t1, f1⟩ := box_at (w.alloc (.cells #[.bool neg, .slice a n cap, .int .i64 e] 24)) (.bool false) (.slice none 0 0) (.int .i64 0) 24
  rw [show (w.alloc (.cells #[.bool neg, .slice a n cap, .int .i64 e] 24)).heap.size = w.heap.size + 1 by simp] at t1
  have hin0 : InV w (.slice a n cap) n x := ⟨a, cap, rfl, hin⟩
  have FF := f0.trans f1 (fun _ h => h) (fun _ _ h => h)
  have I0 := Lib.hid (And.intro (t0.keep f1 (fun x => x)) (And.intro t1 (And.intro FF (hin0.keep FF))))
  clear t0 t1 f0 f1 hin hin0 FF
  go_enter Tryz.func10, Tryz.ntmps10
  go_wp2_with fail
  generalize (w.alloc (.cells #[.bool neg, .slice a n cap, .int .i64 e] 24)).alloc (.cells #[.bool false, .slice none 0 0, .int .i64 0] 24) = w0 at I0 ⊢
  go_loopw [7, 8] (fun l i wr => ∃ k : Nat, k ≤ n ∧ k ≤ 30 ∧ i = .int .i64 (k : Int) ∧ IRow wr l k (low30 x) w0.heap.size ∧ Fr w0 wr None) (fun _ i _ => 30 - (intOf i).toNat)
  case atStart => exact ⟨0, Nat.zero_le _, Nat.zero_le _, rfl, IRow.nil _ _ _, Fr.refl _ _⟩
  case round =>
    obtain ⟨k, hk, hk30, rfl, hrow, hf⟩ := hrel
    obtain ⟨la, lc, rfl⟩ := hrow.shape
    have b0 := I0.out.1.keep hf (fun x => x)
    have c0 := b0.cell 0
    have c1 := b0.cell 1
    have c2 := b0.cell 2
    have HR := Lib.hid (And.intro hrow hf)
    clear hrow hf b0
    by_cases c : k < n ∧ k < 30
    · obtain ⟨ck, ck30⟩ := c
      obtain ⟨a', cap', e', hin⟩ := I0.out.2.2.2.keep HR.out.2
      cases e'
      obtain ⟨b, off, rfl, hb, hc⟩ := hin k ck
      have a1 := and_30i x k
      generalize x k = d at hc a1
      generalize hy : low30 x k = y at a1
      have HY := Lib.hid hy
      have i1 : (k : Int) < (n : Int) := by omega
      have i2 : (k : Int) < 30 := by omega
      clear hin hb hy
      obtain ⟨v', wn, happ, g1, g2⟩ := app_next (w := wr) (w0 := w0) HR.out.1 HR.out.2 (by omega) y _ rfl 22
      have R : Hid (∃ j : Nat, j ≤ n ∧ j ≤ 30 ∧ Value.int .i64 ((k : Int) + 1) = .int .i64 (j : Int) ∧ IRow wn v' j (low30 x) w0.heap.size ∧ Fr w0 wn None) := by
        refine Lib.hid ⟨k + 1, by omega, by omega, by push_cast; rfl, g1.congr (fun j hj => ?_), g2⟩
        unfold snoc
        split
        · rename_i e
          rw [e]
          exact HY.out.symm
        · rfl
      clear g1 g2
      go_wp2_with (refine wpList_appI _ _ rfl _ _ rfl _ _ _ rfl rfl happ ?_)
      clear happ
      go_roundw
      case rel => exact R.out
      case measure => simp [intOf]; omega
    · have hcc : k = n ∨ (k < n ∧ k = 30) := by omega
      rcases hcc with rfl | ⟨ck, rfl⟩
      case' inr => have i1 : (30 : Int) < (n : Int) := by omega
      all_goals
        have hb0 := (I0.out.2.1.keep HR.out.2 (fun x => x))
        have r0 := hb0.cell 0
        have r1 := hb0.cell 1
        have r2 := hb0.cell 2
        have d0 := hb0.free 0
        have d1 := hb0.free 1
        have d2 := hb0.free 2
        have B0 := Lib.hid hb0
        have FX := Lib.hid (I0.out.2.2.1.trans HR.out.2 (fun _ h => h) (fun _ _ h => h))
        have LOW : Hid (∀ m v, m ≤ 30 → IRow wr v m (low30 x) w0.heap.size → Calls Tryz.prog 21 #[v] wr (LowPost m (low30 x) wr)) :=
          Lib.hid fun m v hm h => low_ok v m (low30 x) wr (by omega) (low30_lt x) h.dig
        have NRM : Hid (∀ m v, m ≤ 30 → IRow wr v m (low30 x) w0.heap.size → Calls Tryz.prog 22 #[.bool neg, v, .int .i64 (Int.tmod e 3000)] wr (AnyNum wr)) :=
          Lib.hid fun m v hm h => norm_any neg v m x e wr hm h.dig
        clear hb0
        go_wp2_with fail
        go_loop [7] (fun l => ∃ m : Nat, m ≤ 30 ∧ IRow wr l m (low30 x) w0.heap.size) (fun l => lenS l)
        case atStart => exact ⟨_, by omega, HR.out.1⟩
        case round =>
          obtain ⟨m, hm, hrow⟩ := hrel
          have HL := Lib.hid (LOW.out m _ hm hrow)
          have HN := Lib.hid (NRM.out m _ hm hrow)
          rcases hrow with ⟨rfl, rfl⟩ | ⟨b, mc, cs, rfl, h1, h2, h3, h4, h5⟩
          · go_wp2_with fail
            refine (HL.out).mono ?_
            rintro en w1 ⟨rfl, ⟨rfl, _⟩ | ⟨q, rfl, hq, _, _⟩⟩
            case' inr => exact absurd hq (by omega)
            · clear HL HN LOW NRM
              go_wp2_with fail
              obtain ⟨az, fz⟩ := put3 B0.out (.bool false) (.slice none 0 0) (.int .i64 0)
              generalize ((wr.setCell ⟨w.heap.size + 1, 0, none⟩ (.bool false)).setCell ⟨w.heap.size + 1, 1, none⟩ (.slice none 0 0)).setCell ⟨w.heap.size + 1, 2, none⟩ (.int .i64 0) = wz at az fz ⊢
              refine bodyPost_ret (results_cell_row rfl _ _ _ _ _ _ _ rfl az Tryz.underlying24 rfl (by kernel_rfl)) rfl ?_
              exact ⟨_, _, _, _, rfl, zero_num wz, ⟨0, by omega, by simp⟩, by omega, by omega, FX.out.trans fz (fun _ h => h) (fun x hx h => by unfold Mem.One at h; omega)⟩
          · have H5 := Lib.hid (And.intro h2 (And.intro h3 (And.intro h4 h5)))
            have icap : (m : Int) ≤ (mc : Int) := by omega
            clear h2 h3 h4 h5
            rcases Nat.eq_zero_or_pos m with rfl | hp
            · go_wp2_with fail
              refine (HL.out).mono ?_
              rintro en w1 ⟨rfl, ⟨rfl, _⟩ | ⟨q, rfl, hq, _, _⟩⟩
              case' inr => exact absurd hq (by omega)
              · clear HL HN LOW NRM
                go_wp2_with fail
                obtain ⟨az, fz⟩ := put3 B0.out (.bool false) (.slice none 0 0) (.int .i64 0)
                generalize ((wr.setCell ⟨w.heap.size + 1, 0, none⟩ (.bool false)).setCell ⟨w.heap.size + 1, 1, none⟩ (.slice none 0 0)).setCell ⟨w.heap.size + 1, 2, none⟩ (.int .i64 0) = wz at az fz ⊢
                refine bodyPost_ret (results_cell_row rfl _ _ _ _ _ _ _ rfl az Tryz.underlying24 rfl (by kernel_rfl)) rfl ?_
                exact ⟨_, _, _, _, rfl, zero_num wz, ⟨0, by omega, by simp⟩, by omega, by omega, FX.out.trans fz (fun _ h => h) (fun x hx h => by unfold Mem.One at h; omega)⟩
            · obtain ⟨q, rfl⟩ : ∃ q, m = q + 1 := ⟨m - 1, by omega⟩
              have hc : wr.cell? ⟨b, q, none⟩ = some (.int .i64 ((low30 x q : Nat) : Int)) := by rw [H5.out.2.1.cell]; exact H5.out.2.2.2 q (by omega)
              have p1 : ((q + 1 : Nat) : Int) = (q : Int) + 1 := by omega
              have p3 : (0 : Int) < (q : Int) + 1 := by omega
              generalize low30 x q = d at hc
              by_cases z : d = 0
              · subst z
                go_wp2_with fail
                go_round
                case rel => exact ⟨q, by omega, Or.inr ⟨b, mc, cs, rfl, by omega, H5.out.1, H5.out.2.1, H5.out.2.2.1, fun j hj => H5.out.2.2.2 j (by omega)⟩⟩
                case measure => simp [lenS]
              · have z' : ((d : Int) == 0) = false := beq_eq_false_iff_ne.2 (by omega)
                go_wp2_with fail
                refine (HL.out).mono ?_
                rintro en w1 ⟨rfl, ⟨rfl, _⟩ | ⟨q, rfl, _, _, _⟩⟩
                · clear HL HN LOW NRM
                  go_wp2_with fail
                  obtain ⟨az, fz⟩ := put3 B0.out (.bool false) (.slice none 0 0) (.int .i64 0)
                  generalize ((wr.setCell ⟨w.heap.size + 1, 0, none⟩ (.bool false)).setCell ⟨w.heap.size + 1, 1, none⟩ (.slice none 0 0)).setCell ⟨w.heap.size + 1, 2, none⟩ (.int .i64 0) = wz at az fz ⊢
                  refine bodyPost_ret (results_cell_row rfl _ _ _ _ _ _ _ rfl az Tryz.underlying24 rfl (by kernel_rfl)) rfl ?_
                  exact ⟨_, _, _, _, rfl, zero_num wz, ⟨0, by omega, by simp⟩, by omega, by omega, FX.out.trans fz (fun _ h => h) (fun x hx h => by unfold Mem.One at h; omega)⟩
                · clear HL LOW NRM
                  have q0 : ¬ ((q : Int) < 0) := by omega
                  go_wp2_with fail
                  refine (HN.out).mono ?_
                  rintro en w2 ⟨y, ng, A, E, rfl, hy, hA, e1, e2, f2⟩
                  obtain ⟨yg, ya, yn, yc, ye, rfl⟩ := hy.shape
                  have hb2 := B0.out.keep f2 (fun x => x)
                  have r0 := hb2.cell 0
                  have r1 := hb2.cell 1
                  have r2 := hb2.cell 2
                  have d0 := hb2.free 0
                  have d1 := hb2.free 1
                  have d2 := hb2.free 2
                  have B2 := Lib.hid hb2
                  have Y := Lib.hid (And.intro hy (And.intro hA (And.intro e1 (And.intro e2 (FX.out.trans f2 (fun _ h => h) (fun _ _ h => h))))))
                  clear hb2 hy hA e1 e2 f2 HN
                  go_wp2_with fail
                  obtain ⟨az, fz⟩ := put3 B2.out (.bool yg) (.slice ya yn yc) (.int .i64 ye)
                  generalize ((w2.setCell ⟨w.heap.size + 1, 0, none⟩ (.bool yg)).setCell ⟨w.heap.size + 1, 1, none⟩ (.slice ya yn yc)).setCell ⟨w.heap.size + 1, 2, none⟩ (.int .i64 ye) = wz at az fz ⊢
                  refine bodyPost_ret (results_cell_row rfl _ _ _ _ _ _ _ rfl az Tryz.underlying24 rfl (by kernel_rfl)) rfl ?_
                  exact ⟨_, _, _, _, rfl, Y.out.1.over B2.out rfl fz, Y.out.2.1, Y.out.2.2.1, Y.out.2.2.2.1, Y.out.2.2.2.2.trans fz (fun _ h => h) (fun x hx h => by unfold Mem.One at h; omega)⟩
end Go.Proofs.YtgphmlllngichaaGreatDoor

namespace Go.Proofs.YtgphmlllngichaaGreatDoor
open Go.RowKit Go.Pt Go.Mem

set_option maxRecDepth 100000 in
set_option maxHeartbeats 4000000 in
theorem num_ok (neg : Bool) (v : Value) (n : Nat) (x : Nat → Int) (e : Int) (w : World) (h : InV w v n x) :
    Calls Tryz.prog 4 #[.agg #[.bool neg, v, .int .i64 e]] w (AnyNum w) := by
  obtain ⟨a, cap, rfl, hin⟩ := h
  have hin0 : InV w (.slice a n cap) n x := ⟨a, cap, rfl, hin⟩
  obtain ⟨t0, f0⟩ := box_at w (.bool neg) (.slice a n cap) (.int .i64 e) 24
  obtain ⟨t1, f1⟩ := box_at (w.alloc (.cells #[.bool neg, .slice a n cap, .int .i64 e] 24)) (.bool false) (.slice none 0 0) (.int .i64 0) 24
  rw [show (w.alloc (.cells #[.bool neg, .slice a n cap, .int .i64 e] 24)).heap.size = w.heap.size + 1 by simp] at t1
  have FF := f0.trans f1 (fun _ h => h) (fun _ _ h => h)
  have hn := norm_law neg (.slice a n cap) n x e _ (hin0.keep FF)
  have hb := t0.keep f1 (fun x => x)
  have c0 := hb.cell 0
  have c1 := hb.cell 1
  have c2 := hb.cell 2
  have HN := Lib.hid hn
  have I0 := Lib.hid (And.intro t1 FF)
  clear t0 t1 f0 f1 hin hin0 FF hb hn
  go_enter Tryz.func4, Tryz.ntmps4
  go_wp2_with fail
  generalize (w.alloc (.cells #[.bool neg, .slice a n cap, .int .i64 e] 24)).alloc (.cells #[.bool false, .slice none 0 0, .int .i64 0] 24) = w0 at HN I0 c0 c1 c2 ⊢
  refine (HN.out).mono ?_
  rintro en w2 ⟨y, ng, A, E, rfl, hy, hA, e1, e2, f2⟩
  obtain ⟨yg, ya, yn, yc, ye, rfl⟩ := hy.shape
  have hb2 := I0.out.1.keep f2 (fun x => x)
  have r0 := hb2.cell 0
  have r1 := hb2.cell 1
  have r2 := hb2.cell 2
  have d0 := hb2.free 0
  have d1 := hb2.free 1
  have d2 := hb2.free 2
  have B2 := Lib.hid hb2
  have Y := Lib.hid (And.intro hy (And.intro hA (And.intro e1 (And.intro e2 (I0.out.2.trans f2 (fun _ h => h) (fun _ _ h => h))))))
  clear hb2 hy hA e1 e2 f2 HN c0 c1 c2
  go_wp2_with fail
  obtain ⟨az, fz⟩ := put3 B2.out (.bool yg) (.slice ya yn yc) (.int .i64 ye)
  generalize ((w2.setCell ⟨w.heap.size + 1, 0, none⟩ (.bool yg)).setCell ⟨w.heap.size + 1, 1, none⟩ (.slice ya yn yc)).setCell ⟨w.heap.size + 1, 2, none⟩ (.int .i64 ye) = wz at az fz ⊢
  refine bodyPost_ret (results_cell_row rfl _ _ _ _ _ _ _ rfl az Tryz.underlying24 rfl (by kernel_rfl)) rfl ?_
  exact ⟨_, _, _, _, rfl, Y.out.1.over B2.out rfl fz, Y.out.2.1, Y.out.2.2.1, Y.out.2.2.2.1, Y.out.2.2.2.2.trans fz (fun _ h => h) (fun x hx h => by unfold Mem.One at h; omega)⟩

/-- Block b is a variable that holds a number. -/
def VarAt (w : World) (b : Nat) (ng : Bool) (a : Option Addr) (n c A : Nat) (E : Int) : Prop :=
  At w b #[.bool ng, .slice a n c, .int .i64 E] 24 ∧ NumV w (.agg #[.bool ng, .slice a n c, .int .i64 E]) ng A E
theorem VarAt.keep {w w' : World} {b n c A : Nat} {ng : Bool} {a : Option Addr} {E : Int} (h : VarAt w b ng a n c A E) (f : Fr w w' None) : VarAt w' b ng a n c A E := ⟨h.1.keep f (fun x => x), h.2.keep f⟩
theorem var_new {w : World} {ng : Bool} {a : Option Addr} {n c A : Nat} {E : Int} (hx : NumV w (.agg #[.bool ng, .slice a n c, .int .i64 E]) ng A E) :
    VarAt (w.alloc (.cells #[.bool ng, .slice a n c, .int .i64 E] 24)) w.heap.size ng a n c A E ∧ Fr w (w.alloc (.cells #[.bool ng, .slice a n c, .int .i64 E] 24)) None :=
  ⟨⟨At.alloc w _ _, hx.keep ((Fr.refl w None).alloc _)⟩, (Fr.refl w None).alloc _⟩

/-- A number told: at 0 the exponent is 0. -/
theorem ToldIs.fix {ng : Bool} {A : Nat} {e : Int} {w : World} {x : Value} (h : ToldIs ng A e w x) (ho : A ≠ 0 → A % 2 = 1) (h0 : A = 0 → ng = false) :
    ∃ E a n c, x = .agg #[.bool ng, .slice a n c, .int .i64 E] ∧ NumV w x ng A E ∧ (A = 0 → E = 0) ∧ (A ≠ 0 → E = e) := by
  by_cases c : A = 0
  · subst c
    obtain rfl := h0 rfl
    have hz := h.zero
    obtain ⟨a, n, c, rfl⟩ := hz.form0
    exact ⟨_, _, _, _, rfl, hz, fun _ => rfl, fun k => absurd rfl k⟩
  · have hn := h.num (B := A) (j := 0) (by rw [Nat.pow_zero, Nat.mul_one]) (ho c)
    obtain ⟨a, n, cc, rfl⟩ := hn.form0
    exact ⟨_, _, _, _, rfl, hn, fun k => absurd k c, fun _ => by omega⟩
theorem Small.lt {A : Nat} (h : Small A) : A < 2 ^ (64 * 30) := by
  obtain ⟨b, hb, h⟩ := h
  have := pow_room A b (64 * 30) h (by omega)
  exact this
theorem low_ne {A : Nat} (ho : A ≠ 0 → A % 2 = 1) : A ≠ 0 → A % 18446744073709551616 ≠ 0 := fun h => by have := ho h; omega
theorem NumV.facts {w : World} {x : Value} {ng : Bool} {A : Nat} {E : Int} (h : NumV w x ng A E) : (A ≠ 0 → A % 2 = 1) ∧ (A = 0 → ng = false) ∧ (A = 0 → E = 0) := by
  rcases h.cases with ⟨_, rfl, rfl, _⟩ | ⟨h, ho, _⟩
  · exact ⟨fun c => absurd ‹A = 0› c, fun _ => rfl, fun _ => rfl⟩
  · exact ⟨fun _ => ho, fun c => absurd c h, fun c => absurd c h⟩
end Go.Proofs.YtgphmlllngichaaGreatDoor

namespace Go.Proofs.YtgphmlllngichaaGreatDoor
open Go.RowKit Go.Pt Go.Mem

theorem tmod_5000 (e : Int) : -5000 ≤ Int.tmod e 5000 ∧ Int.tmod e 5000 ≤ 5000 := by
  have h := Int.natAbs_tmod e 5000
  have h2 : (5000 : Int).natAbs = 5000 := rfl
  rw [h2] at h
  have h3 := Nat.mod_lt e.natAbs (show 0 < 5000 by omega)
  omega

set_option maxRecDepth 100000 in
set_option maxHeartbeats 8000000 in
theorem law_ok (neg : Bool) (v : Value) (n : Nat) (x : Nat → Int) (e k : Int) (w : World) (h : InV w v n x) (hT : Tab w) :
    Calls Tryz.prog 3 #[.agg #[.bool neg, v, .int .i64 e], .int .i64 k] w fun en w' => en = .returned (.bool true) ∧ Fr w w' None := by
  obtain ⟨a, cap, rfl, hin⟩ := h
  have hin0 : InV w (.slice a n cap) n x := ⟨a, cap, rfl, hin⟩
  obtain ⟨t0, f0⟩ := box_at w (.bool neg) (.slice a n cap) (.int .i64 e) 24
  have HN := Lib.hid (num_ok neg (.slice a n cap) n x e _ (hin0.keep f0))
  have c0 := t0.cell 0
  have c1 := t0.cell 1
  have c2 := t0.cell 2
  have F0 := Lib.hid f0
  have HT := Lib.hid hT
  obtain ⟨kk, hkk⟩ : ∃ kk, Int.tmod k 5000 = kk := ⟨_, rfl⟩
  obtain ⟨k0, k1⟩ := tmod_5000 k
  rw [hkk] at k0 k1
  clear t0 f0 hin hin0 hT
  go_enter Tryz.func3, Tryz.ntmps3
  go_wp2_with fail
  generalize w.alloc (.cells #[.bool neg, .slice a n cap, .int .i64 e] 24) = w0 at HN F0 c0 c1 c2 ⊢
  refine (HN.out).mono ?_
  rintro en w1 ⟨y, ng, A, E, rfl, hy, hA, e1, e2, f1⟩
  obtain ⟨ya, yn, yc, rfl⟩ := hy.form0
  obtain ⟨ho, h0, hE⟩ := hy.facts
  have HA := Lib.hid (And.intro hA.lt (And.intro ho (And.intro h0 (And.intro hE (low_ne ho)))))
  obtain ⟨va, fa⟩ := var_new hy
  have VA := Lib.hid va
  have FA := Lib.hid ((F0.out.trans f1 (fun _ h => h) (fun _ _ h => h)).trans fa (fun _ h => h) (fun _ _ h => h))
  have c0 := va.1.cell 0
  have c1 := va.1.cell 1
  have c2 := va.1.cell 2
  clear hA ho h0 hE hy va fa f1 HN F0
  go_wp2_with fail
  generalize hb5 : w1.heap.size = b5 at VA c0 c1 c2 ⊢
  generalize w1.alloc (.cells #[.bool ng, .slice ya yn yc, .int .i64 E] 24) = wa at VA FA c0 c1 c2 ⊢
  clear c0 c1 c2 hb5
  -- s
  have hs := scale_q _ ng A E kk wa VA.out.2 HA.out.1 (by omega) (by omega) (by omega) (by omega) HA.out.2.2.2.2 (HT.out.keep FA.out)
  refine hs.mono ?_
  clear hs
  rintro en w2 ⟨s, rfl, hs, fs⟩
  obtain ⟨Es, sa, sn, sc, rfl, hs, es0, es1⟩ := hs.fix HA.out.2.1 HA.out.2.2.1
  obtain ⟨vs, fb⟩ := var_new hs
  have VS := Lib.hid vs
  have fsb := fs.trans fb (fun _ h => h) (fun _ _ h => h)
  have VA2 := Lib.hid (VA.out.keep fsb)
  have FB := Lib.hid (FA.out.trans fsb (fun _ h => h) (fun _ _ h => h))
  have ES := Lib.hid (And.intro es0 es1)
  have eb : -9000 ≤ Es ∧ Es ≤ 9000 := by
    by_cases c : A = 0
    · have := es0 c; omega
    · have := es1 c; omega
  obtain ⟨eb0, eb1⟩ := eb
  have c0 := vs.1.cell 0
  have c1 := vs.1.cell 1
  have c2 := vs.1.cell 2
  clear hs es0 es1 vs fb fs fsb VA FA
  go_wp2_with fail
  generalize hb6 : w2.heap.size = b6 at VS c0 c1 c2 ⊢
  generalize w2.alloc (.cells #[.bool ng, .slice sa sn sc, .int .i64 Es] 24) = wb at VA2 VS FB c0 c1 c2 ⊢
  clear c0 c1 c2 hb6
  -- back
  have hb := scale_q _ ng A Es (-kk) wb VS.out.2 HA.out.1 (by omega) (by omega) (by omega) (by omega) HA.out.2.2.2.2 (HT.out.keep FB.out)
  refine hb.mono ?_
  clear hb
  rintro en w3 ⟨r, rfl, hr, fr⟩
  obtain ⟨Er, ra, rn, rc, rfl, hr, er0, er1⟩ := hr.fix HA.out.2.1 HA.out.2.2.1
  obtain rfl : Er = E := by
    by_cases c : A = 0
    · have := er0 c; have := HA.out.2.2.2.1 c; omega
    · have := er1 c; have := ES.out.2 c; omega
  obtain ⟨vr, fc⟩ := var_new hr
  have VR := Lib.hid vr
  have frc := fr.trans fc (fun _ h => h) (fun _ _ h => h)
  have VA3 := Lib.hid (VA2.out.keep frc)
  have VS3 := Lib.hid (VS.out.keep frc)
  have FC := Lib.hid (FB.out.trans frc (fun _ h => h) (fun _ _ h => h))
  have sz : (w3.alloc (.cells #[.bool ng, .slice ra rn rc, .int .i64 Er] 24)).heap.size = w3.heap.size + 1 := by simp
  clear hr er0 er1 vr fc fr frc VA2 VS FB
  go_wp2_with fail
  generalize hb8 : w3.heap.size = b8 at VR sz ⊢
  generalize w3.alloc (.cells #[.bool ng, .slice ra rn rc, .int .i64 Er] 24) = wc at VA3 VS3 VR FC sz ⊢
  clear hb8
  -- a power of 2
  have t4 := At.alloc wc #[.int .i64 1] 3
  rw [sz] at t4
  have f4 := (Fr.refl wc None).alloc (.cells #[.int .i64 1] 3)
  have hm := make_one false (b8 + 1) 1 kk _ (by omega) (by omega) t4.lt (t4.cell 0) (by omega) (by omega) (HT.out.keep (FC.out.trans f4 (fun _ h => h) (fun _ _ h => h)))
  refine hm.mono ?_
  clear hm t4
  rintro en w4 ⟨p, rfl, hp1, fp⟩
  obtain ⟨Ep, pa, pn, pc, rfl, hp, ep9, ep1⟩ := hp1.fix (fun _ => rfl) (fun _ => rfl)
  obtain rfl : Ep = kk := ep1 (by omega)
  obtain ⟨vp, fd⟩ := var_new hp
  have VP := Lib.hid vp
  have fpd := (f4.trans fp (fun _ h => h) (fun _ _ h => h)).trans fd (fun _ h => h) (fun _ _ h => h)
  have VA4 := Lib.hid (VA3.out.keep fpd)
  have VS4 := Lib.hid (VS3.out.keep fpd)
  have VR4 := Lib.hid (VR.out.keep fpd)
  have FD := Lib.hid (FC.out.trans fpd (fun _ h => h) (fun _ _ h => h))
  have c0 := vp.1.cell 0
  have c1 := vp.1.cell 1
  have c2 := vp.1.cell 2
  have d0 := VA4.out.1.cell 0
  have d1 := VA4.out.1.cell 1
  have d2 := VA4.out.1.cell 2
  clear hp1 hp ep1 ep9 vp fd fp fpd f4 VA3 VS3 VR FC sz
  go_wp2_with fail
  generalize hb10 : w4.heap.size = b10 at VP c0 c1 c2 ⊢
  generalize w4.alloc (.cells #[.bool false, .slice pa pn pc, .int .i64 Ep] 24) = wd at VA4 VS4 VR4 VP FD c0 c1 c2 d0 d1 d2 ⊢
  clear c0 c1 c2 d0 d1 d2 hb10
  -- the product
  have hq := mulp_ok _ _ ng A Er Ep wd VA4.out.2 VP.out.2 HA.out.1 (by omega) (by omega) HA.out.2.2.2.2 (HT.out.keep FD.out)
  refine hq.mono ?_
  clear hq
  rintro en w5 ⟨q, rfl, hq1, fq⟩
  obtain ⟨Eq, qa, qn, qc, rfl, hq, eq0, eq1⟩ := hq1.fix HA.out.2.1 HA.out.2.2.1
  obtain rfl : Eq = Es := by
    by_cases c : A = 0
    · have := eq0 c; have := ES.out.1 c; omega
    · have := eq1 c; have := ES.out.2 c; omega
  obtain ⟨vq, fe⟩ := var_new hq
  have VQ := Lib.hid vq
  have fqe := fq.trans fe (fun _ h => h) (fun _ _ h => h)
  have VA5 := Lib.hid (VA4.out.keep fqe)
  have VS5 := Lib.hid (VS4.out.keep fqe)
  have VR5 := Lib.hid (VR4.out.keep fqe)
  have FE := Lib.hid (FD.out.trans fqe (fun _ h => h) (fun _ _ h => h))
  clear hq1 hq eq0 eq1 vq fe fq fqe VA4 VS4 VR4 FD VP
  go_wp2_with fail
  generalize hb12 : w5.heap.size = b12 at VQ ⊢
  generalize w5.alloc (.cells #[.bool ng, .slice qa qn qc, .int .i64 Eq] 24) = we at VA5 VS5 VR5 VQ FE ⊢
  clear hb12
  refine (alive_ok we (HT.out.keep FE.out)).mono ?_
  rintro en w6 ⟨rfl, f6⟩
  have VA6 := Lib.hid (VA5.out.keep f6)
  have VS6 := Lib.hid (VS5.out.keep f6)
  have VR6 := Lib.hid (VR5.out.keep f6)
  have VQ6 := Lib.hid (VQ.out.keep f6)
  have FF := Lib.hid (FE.out.trans f6 (fun _ h => h) (fun _ _ h => h))
  have c0 := VA6.out.1.cell 0
  have c1 := VA6.out.1.cell 1
  have c2 := VA6.out.1.cell 2
  have d0 := VR6.out.1.cell 0
  have d1 := VR6.out.1.cell 1
  have d2 := VR6.out.1.cell 2
  clear f6 VA5 VS5 VR5 VQ FE
  go_wp2_with fail
  clear c0 c1 c2 d0 d1 d2
  refine (same_num _ _ ng A Er w6 VR6.out.2 VA6.out.2).mono ?_
  rintro en w7 ⟨rfl, f7⟩
  have VS7 := Lib.hid (VS6.out.keep f7)
  have VQ7 := Lib.hid (VQ6.out.keep f7)
  have FG := Lib.hid (FF.out.trans f7 (fun _ h => h) (fun _ _ h => h))
  have c0 := VS7.out.1.cell 0
  have c1 := VS7.out.1.cell 1
  have c2 := VS7.out.1.cell 2
  have d0 := VQ7.out.1.cell 0
  have d1 := VQ7.out.1.cell 1
  have d2 := VQ7.out.1.cell 2
  clear f7 VS6 VQ6 VA6 VR6 FF
  go_wp2_with fail
  clear c0 c1 c2 d0 d1 d2
  refine (same_num _ _ ng A Eq w7 VS7.out.2 VQ7.out.2).mono ?_
  rintro en w8 ⟨rfl, f8⟩
  have FH := Lib.hid (FG.out.trans f8 (fun _ h => h) (fun _ _ h => h))
  clear f8 VS7 VQ7
  go_wp2_with fail
  go_ret
  exact ⟨rfl, FH.out⟩
end Go.Proofs.YtgphmlllngichaaGreatDoor

namespace Go.Proofs.YtgphmlllngichaaGreatDoor
open Go.ChangeShapes Go.WideShapes Go.ChangeAt Go.RowKit Go.Pt Go.Mem Go.Deep

theorem cellsI : Tryz.prog.cellsOf 3 = 1 := by kernel_rfl
theorem cellsBo : Tryz.prog.cellsOf 4 = 1 := by kernel_rfl
theorem cellsS : Tryz.prog.cellsOf 22 = 1 := by kernel_rfl
theorem cellsNum : Tryz.prog.cellsOf 24 = 3 := by kernel_rfl

theorem addr_add (b off j : Nat) : (⟨b, off, none⟩ : Addr).add j = ⟨b, off + j, none⟩ := by
  unfold Addr.add; split <;> simp_all

/-- The int that lies there. -/
def intAt (W : World) (a : Option Addr) (j : Nat) : Int :=
  match a with
  | some p => match W.cell? (p.add j) with
    | some (.int .i64 x) => x
    | _ => 0
  | none => 0

section
variable {H : Type} {enc : TypeId × Value → H}

set_option maxRecDepth 100000 in
theorem ints_of {W : World} {n len cap : Nat} {a : Option Addr} {x : DataW H × List MemPlace} (h : DataW.trod enc Tryz.prog W 0 (fun _ => true) true n 22 [.slice a len cap] = some x) :
    InV W (.slice a len cap) len (intAt W a) := by
  refine ⟨a, cap, rfl, ?_⟩
  rcases open_slice Tryz.underlying22 h with ⟨hcs, _⟩ | ⟨p, l, c, m, n', D, Pl, hcs, _, hl, _, hmm, _, hi⟩
  · simp at hcs
    obtain ⟨_, rfl, _⟩ := hcs
    intro j hj
    omega
  · simp at hcs
    obtain ⟨rfl, rfl, rfl⟩ := hcs
    intro j hj
    have hm : m = cap := by simpa using hmm
    obtain ⟨cs', hc, ht⟩ := hi j (by omega)
    rw [cellsI, Nat.mul_one] at hc
    obtain ⟨_, hcl, hat⟩ := World.cells?_some hc
    obtain ⟨k, e0, _, w0⟩ := DataW.trod_int Tryz.underlying3 ht
    subst e0
    have q0 : W.cell? ((p.add j).add 0) = some (.int .i64 k) := hat 0 (by omega)
    obtain ⟨cs1, hc1, ht1⟩ := hi 0 (by omega)
    rw [cellsI] at hc1
    obtain ⟨_, hcl1, hat1⟩ := World.cells?_some hc1
    obtain ⟨k1, e1, _, _⟩ := DataW.trod_int Tryz.underlying3 ht1
    subst e1
    have q1 : W.cell? ((p.add (0 * 1)).add 0) = some (.int .i64 k1) := hat1 0 (by omega)
    obtain ⟨b, off, spot⟩ := p
    have hspot : spot = none := by simpa [Addr.add] using World.cell?_spot q1
    subst hspot
    rw [addr_add, addr_add, Nat.add_zero] at q0
    refine ⟨b, off, rfl, World.block_lt_of_cell? W _ q0, ?_⟩
    unfold intAt
    simp only [addr_add, q0]

set_option maxRecDepth 100000 in
/-- The struct. -/
theorem num_of {W : World} {v : Value} {d : DataW H} {ps : List MemPlace} {base : Nat} (hv : Value.okWide Tryz.prog W .any base 24 v) (h : DataW.Trod enc Tryz.prog W 0 (fun _ => true) true 24 v d ps) :
    ∃ neg a n cap e xs, v = .agg #[.bool neg, .slice a n cap, .int .i64 e] ∧ InV W (.slice a n cap) n xs := by
  obtain ⟨cs, rfl, hsz⟩ := okWide_struct Tryz.underlying24 hv
  rw [cellsNum] at hsz
  obtain ⟨fuel, hf⟩ := h
  have hf' : DataW.trod enc Tryz.prog W 0 (fun _ => true) true fuel 24 cs.toList = some (d, ps) := by simpa [Value.cells] using hf
  have hl : cs.toList.length = 3 := by simpa using hsz
  obtain ⟨ys, m, _, _, _, hyl, hg⟩ := DataW.trod_struct Tryz.underlying24 hf'
  match hcs : cs.toList, hl with
  | [c0, c1, c2], _ =>
    match ys, hyl with
    | [y0, y1, y2], _ =>
      have f0 := hg 0 _ rfl
      have f1 := hg 1 _ rfl
      have f2 := hg 2 _ rfl
      simp [cellsI, cellsBo, cellsS, hcs] at f0 f1 f2
      obtain ⟨g, e0, _⟩ := DataW.trod_bool Tryz.underlying4 f0
      obtain ⟨k, e2, _, w2⟩ := DataW.trod_int Tryz.underlying3 f2
      simp at e0 e2
      subst e0 e2
      have e1 : ∃ a n cap, c1 = .slice a n cap := by
        rcases open_slice Tryz.underlying22 f1 with ⟨hc, _⟩ | ⟨p, l, c, _, _, _, _, hc, _⟩
        · simp at hc; exact ⟨_, _, _, hc⟩
        · simp at hc; exact ⟨_, _, _, hc⟩
      obtain ⟨a, n, cap, rfl⟩ := e1
      refine ⟨g, a, n, cap, k, _, ?_, ints_of f1⟩
      congr 1
      exact Array.toList_inj.1 hcs
end
end Go.Proofs.YtgphmlllngichaaGreatDoor
