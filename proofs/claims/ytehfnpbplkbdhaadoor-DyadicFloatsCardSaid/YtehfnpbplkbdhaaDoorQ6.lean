/- alive of the statements; the walk of DyadicFloats. Condition: it stands in each fact. -/
import Derived.Test.YtehfnpbplkbdhaaDoorM25
import Derived.Test.YtehfnpbplkbdhaaDoorQ5
namespace Go.Proofs.YtehfnpbplkbdhaaDoor
open Go.RowKit Go.Pt Go.Mem

theorem digs_one {d : Nat} (h0 : d ≠ 0) (h : d < 1073741824) : Digs 1 (fun _ => d) ∧ dv (fun _ => d) 1 = d :=
  ⟨⟨fun _ => h, fun _ => h0, by omega⟩, by simp [dv]⟩

/-- A number of one digit in a row of its own. -/
theorem lit_num (w : World) (b cap d : Nat) (neg : Bool) (E : Int) (hb : b < w.heap.size) (hc : w.cell? ⟨b, 0, none⟩ = some (.int .i64 (d : Int))) (hcap : 1 ≤ cap) (h : d < 1073741824) (ho : d % 2 = 1) (e0 : -1048576 ≤ E) (e1 : E ≤ 1048576) :
    NumV w (.agg #[.bool neg, .slice (some ⟨b, 0, none⟩) 1 cap, .int .i64 E]) neg d E := by
  have hd : dgt d 0 = d := by
    unfold dgt
    rw [Nat.mul_zero, Nat.pow_zero, Nat.div_one, Nat.mod_eq_of_lt h]
  refine ⟨_, 1, rfl, Or.inr ⟨b, cap, rfl, hcap, hb, fun j hj => ?_⟩, ⟨dgt_lt d, fun _ => ?_, by omega⟩, ?_, fun c => by omega, fun _ => ⟨ho, e0, e1⟩⟩
  · obtain rfl : j = 0 := by omega
    rw [hd]
    exact hc
  · rw [Nat.sub_self, hd]
    omega
  · simp [dv, hd]

theorem pow_room (d a b : Nat) (h : d < 2 ^ a) (k : a ≤ b) : d < 2 ^ b := Nat.lt_of_lt_of_le h (two_mono a b k)
theorem nat_small (d b : Nat) (h : d < 1073741824) (hb : 30 ≤ b) : d < 2 ^ b := pow_room d 30 b h hb

/-- Make of one digit. -/
theorem make_one (neg : Bool) (b d : Nat) (e : Int) (w : World) (h0 : d ≠ 0) (h : d < 1073741824) (hb : b < w.heap.size) (hc : w.cell? ⟨b, 0, none⟩ = some (.int .i64 (d : Int))) (he0 : -1048576 ≤ e) (he1 : e ≤ 1000000) (hT : Tab w) :
    Calls Tryd.prog 11 #[.bool neg, .slice (some ⟨b, 0, none⟩) 1 1, .int .i64 e] w (AnsPost neg d e w) := by
  obtain ⟨h1, h2⟩ := digs_one h0 h
  have h3 := nat_small d (64 * 30) h (by omega)
  have := make_ok neg b 1 1 (fun _ => d) e w (by omega) h1 (by omega) hb (fun j hj => by rw [show j = 0 by omega]; exact hc) (Nat.lt_of_le_of_lt (Nat.le_of_eq h2) h3) (by rw [h2]; omega) he0 he1 hT
  rw [h2] at this
  exact this

theorem of_half (w : World) (hT : Tab w) : Calls Tryd.prog 8 #[.int .i64 4609434218613702656] w (AnsPost false 6755399441055744 (-52) w) := by
  have := dOf_ok 4609434218613702656 w (by decide) hT
  rw [show pneg 4609434218613702656 = false by decide, show pmag 4609434218613702656 = 6755399441055744 by decide, show pexp 4609434218613702656 = -52 by decide] at this
  exact this

set_option maxRecDepth 100000 in
set_option maxHeartbeats 4000000 in
theorem alive_ok (w : World) (hT : Tab w) : Calls Tryd.prog 5 #[] w fun e w' => e = .returned (.bool true) ∧ Fr w w' None := by
  have f0 := (Fr.refl w None).alloc (.cells #[.int .i64 6] 3)
  have hm := make_one true w.heap.size 6 (-1) (w.alloc (.cells #[.int .i64 6] 3)) (by omega) (by omega) (At.alloc w _ _).lt ((At.alloc w _ _).cell 0) (by omega) (by omega) (hT.keep f0)
  have HM := Lib.hid hm
  have HT := Lib.hid hT
  have F0 := Lib.hid f0
  clear hm hT f0
  go_enter Tryd.func5, Tryd.ntmps5
  go_wp2_with fail
  generalize w.alloc (.cells #[.int .i64 6] 3) = w0 at HM F0 ⊢
  refine (HM.out).mono ?_
  rintro en w1 ⟨x, rfl, hx, fx⟩
  have hx1 := hx.num (B := 3) (j := 1) rfl rfl
  obtain ⟨e1, e2, _, xa, xn, xc, rfl⟩ := hx1.form (by omega)
  rw [show (-1 : Int) + ((1 : Nat) : Int) = 0 from rfl] at hx1 ⊢
  have X := Lib.hid hx1
  have F1 := Lib.hid (F0.out.trans fx (fun _ h => h) (fun _ _ h => h))
  clear hx hx1 fx e1 e2
  go_wp2_with fail
  have ta := At.alloc w1 #[.bool true, .slice xa xn xc, .int .i64 0] 31
  have fa := (Fr.refl w1 None).alloc (.cells #[.bool true, .slice xa xn xc, .int .i64 0] 31)
  have FA := Lib.hid (F1.out.trans fa (fun _ h => h) (fun _ _ h => h))
  have XA := Lib.hid (X.out.keep fa)
  have TA := Lib.hid ta
  clear ta fa X F1 F0
  generalize hb1 : w1.heap.size = b1 at TA ⊢
  generalize w1.alloc (.cells #[.bool true, .slice xa xn xc, .int .i64 0] 31) = wa at FA XA TA ⊢
  clear hb1
  refine (of_half wa (HT.out.keep FA.out)).mono ?_
  rintro en w2 ⟨y, rfl, hy, fy⟩
  have hy1 := hy.num (B := 3) (j := 51) rfl rfl
  obtain ⟨e1, e2, _, ya, yn, yc, rfl⟩ := hy1.form (by omega)
  rw [show (-52 : Int) + ((51 : Nat) : Int) = -1 from rfl] at hy1 ⊢
  have Y2 := Lib.hid hy1
  have X2 := Lib.hid (XA.out.keep fy)
  have T2 := Lib.hid (TA.out.keep fy (fun x => x))
  have F2 := Lib.hid (FA.out.trans fy (fun _ h => h) (fun _ _ h => h))
  have tb := At.alloc w2 #[.bool false, .slice ya yn yc, .int .i64 (-1)] 31
  have fb := (Fr.refl w2 None).alloc (.cells #[.bool false, .slice ya yn yc, .int .i64 (-1)] 31)
  have tc := T2.out.keep fb (fun x => x)
  have c0 := tc.cell 0
  have c1 := tc.cell 1
  have c2 := tc.cell 2
  obtain ⟨R, hR⟩ : ∃ R, R = 3 := ⟨3, rfl⟩
  have hadd : ∀ W z p1 zl vx vl, IntV W z (.slice none 0 0) false 0 → IntV W p1 vx false 3 → IntV W zl vl true (3 * 2 ^ 1) → Calls Tryd.prog 64 #[.pointer (some ⟨z, 0, none⟩), .pointer (some ⟨p1, 0, none⟩), .pointer (some ⟨zl, 0, none⟩)] W (IntPost z (Blk (.slice none 0 0)) true R W) :=
    fun W z p1 zl vx vl k1 k2 k3 => by rw [hR]; exact intAdd_diff z p1 zl vx vl false true 6 3 W (by omega) (by omega) (by decide) (by decide) k1 k2 k3
  have hsm := nat_small R (64 * 30) (by omega) (by omega)
  have ha := add_ok _ _ true false true 3 3 1 R 0 (-1) _ (X2.out.keep fb) (Y2.out.keep fb) (by omega) (by omega) (by omega) (by omega) (by decide) rfl (by omega) hsm (by omega) (HT.out.keep (F2.out.trans fb (fun _ h => h) (fun _ _ h => h))) hadd
  clear hsm
  subst hR
  have HA := Lib.hid ha
  have X3 := Lib.hid (X2.out.keep fb)
  have Y3 := Lib.hid (Y2.out.keep fb)
  have T3 := Lib.hid tc
  have U3 := Lib.hid tb
  have F3 := Lib.hid (F2.out.trans fb (fun _ h => h) (fun _ _ h => h))
  clear hy hy1 fy e1 e2 XA TA FA ha hadd tb fb tc X2 Y2 T2 F2
  go_wp2_with fail
  generalize hb2 : w2.heap.size = b2 at U3 ⊢
  generalize w2.alloc (.cells #[.bool false, .slice ya yn yc, .int .i64 (-1)] 31) = wb at HA X3 Y3 T3 U3 F3 c0 c1 c2 ⊢
  clear hb2 c0 c1 c2
  refine (HA.out).mono ?_
  rintro en w4 ⟨s, rfl, hs, fs⟩
  have hs1 := hs.num (B := 3) (j := 0) rfl rfl
  obtain ⟨e1, e2, _, sa, sn, sc, rfl⟩ := hs1.form (by omega)
  rw [show (-1 : Int) + ((0 : Nat) : Int) = -1 from rfl] at hs1 ⊢
  have S4 := Lib.hid hs1
  have X4 := Lib.hid (X3.out.keep fs)
  have Y4 := Lib.hid (Y3.out.keep fs)
  have T4 := Lib.hid (T3.out.keep fs (fun x => x))
  have U4 := Lib.hid (U3.out.keep fs (fun x => x))
  have F4 := Lib.hid (F3.out.trans fs (fun _ h => h) (fun _ _ h => h))
  clear hs hs1 fs e1 e2 X3 Y3 T3 U3 F3
  -- the third variable
  have tv := At.alloc w4 #[.bool true, .slice sa sn sc, .int .i64 (-1)] 31
  have fv := (Fr.refl w4 None).alloc (.cells #[.bool true, .slice sa sn sc, .int .i64 (-1)] 31)
  have T5 := Lib.hid (T4.out.keep fv (fun x => x))
  have U5 := Lib.hid (U4.out.keep fv (fun x => x))
  have V5 := Lib.hid tv
  have X5 := Lib.hid (X4.out.keep fv)
  have Y5 := Lib.hid (Y4.out.keep fv)
  have S5 := Lib.hid (S4.out.keep fv)
  have F5 := Lib.hid (F4.out.trans fv (fun _ h => h) (fun _ _ h => h))
  have c0 := T5.out.cell 0
  have c1 := T5.out.cell 1
  have c2 := T5.out.cell 2
  clear tv fv X4 Y4 S4 F4 T4 U4
  go_wp2_with fail
  generalize hb3 : w4.heap.size = b3 at V5 ⊢
  generalize hw5 : w4.alloc (.cells #[.bool true, .slice sa sn sc, .int .i64 (-1)] 31) = w5 at T5 U5 V5 X5 Y5 S5 F5 c0 c1 c2 ⊢
  have hz5 : w5.heap.size = b3 + 1 := by rw [← hw5, ← hb3]; simp
  clear hw5 hb3 c0 c1 c2
  -- is x as it is to be?
  have t6 := At.alloc w5 #[.int .i64 3] 3
  rw [hz5] at t6
  have f6 := (Fr.refl w5 None).alloc (.cells #[.int .i64 3] 3)
  have q6 := same_num _ _ true 3 0 _ (X5.out.keep f6) (lit_num _ (b3 + 1) 1 3 true 0 t6.lt (t6.cell 0) (by omega) (by omega) (by omega) (by omega) (by omega))
  refine q6.mono ?_
  clear q6 t6
  rintro en w7 ⟨rfl, g7⟩
  have f7 := f6.trans g7 (fun _ h => h) (fun _ _ h => h)
  have Y7 := Lib.hid (Y5.out.keep f7)
  have S7 := Lib.hid (S5.out.keep f7)
  have U7 := Lib.hid (U5.out.keep f7 (fun x => x))
  have V7 := Lib.hid (V5.out.keep f7 (fun x => x))
  have F7 := Lib.hid (F5.out.trans f7 (fun _ h => h) (fun _ _ h => h))
  have c0 := U7.out.cell 0
  have c1 := U7.out.cell 1
  have c2 := U7.out.cell 2
  clear f6 g7 f7 X5 Y5 S5 T5 U5 V5 F5 hz5
  go_wp2_with fail
  clear c0 c1 c2
  -- is y?
  have t8 := At.alloc w7 #[.int .i64 3] 3
  have f8 := (Fr.refl w7 None).alloc (.cells #[.int .i64 3] 3)
  have q8 := same_num _ _ false 3 (-1) _ (Y7.out.keep f8) (lit_num _ w7.heap.size 1 3 false (-1) t8.lt (t8.cell 0) (by omega) (by omega) (by omega) (by omega) (by omega))
  refine q8.mono ?_
  clear q8 t8
  rintro en w9 ⟨rfl, g9⟩
  have f9 := f8.trans g9 (fun _ h => h) (fun _ _ h => h)
  have S9 := Lib.hid (S7.out.keep f9)
  have V9 := Lib.hid (V7.out.keep f9 (fun x => x))
  have F9 := Lib.hid (F7.out.trans f9 (fun _ h => h) (fun _ _ h => h))
  have c0 := V9.out.cell 0
  have c1 := V9.out.cell 1
  have c2 := V9.out.cell 2
  clear f8 g9 f9 Y7 S7 U7 V7 F7
  go_wp2_with fail
  clear c0 c1 c2
  -- is their sum?
  have ta := At.alloc w9 #[.int .i64 3] 3
  have fa := (Fr.refl w9 None).alloc (.cells #[.int .i64 3] 3)
  have qa := same_num _ _ true 3 (-1) _ (S9.out.keep fa) (lit_num _ w9.heap.size 1 3 true (-1) ta.lt (ta.cell 0) (by omega) (by omega) (by omega) (by omega) (by omega))
  refine qa.mono ?_
  clear qa ta
  rintro en wa2 ⟨rfl, ga⟩
  have fb := fa.trans ga (fun _ h => h) (fun _ _ h => h)
  have SA := Lib.hid (S9.out.keep fb)
  have VA := Lib.hid (V9.out.keep fb (fun x => x))
  have FA2 := Lib.hid (F9.out.trans fb (fun _ h => h) (fun _ _ h => h))
  have c0 := VA.out.cell 0
  have c1 := VA.out.cell 1
  have c2 := VA.out.cell 2
  clear fa ga fb S9 V9 F9
  go_wp2_with fail
  clear c0 c1 c2
  -- is it valid?
  refine (valid_num _ true 3 (-1) _ SA.out).mono ?_
  rintro en wb2 ⟨rfl, gb⟩
  have FB := Lib.hid (FA2.out.trans gb (fun _ h => h) (fun _ _ h => h))
  clear gb
  go_wp2_with fail
  go_ret
  exact ⟨rfl, FB.out⟩
end Go.Proofs.YtehfnpbplkbdhaaDoor

namespace Go.Proofs.YtehfnpbplkbdhaaDoor
open Go.RowKit Go.Pt Go.Mem

theorem pexp_tight (b : Int) : -1075 ≤ pexp b ∧ pexp b ≤ 973 := by
  have h2 : 0 ≤ fld b ∧ fld b < 2048 := by unfold fld; omega
  unfold pexp
  split <;> (try split) <;> omega

theorem float_own {b : Int} (h : I64 b) (hp : pok b = true) {A k : Nat} {E : Int} {ng : Bool} {x : Value} {w : World} (hA : A * 2 ^ k = (pmag b).natAbs) (hE : E = pexp b + k) (hng : ng = pneg b) (hlt : A < 9007199254740992) (hx : NumV w x ng A E) :
    Calls Tryd.prog 10 #[x] w fun e w' => e = .returned (.tuple #[.int .i64 b, .bool true]) ∧ Fr w w' None := by
  have hj := own_join h hp hA
  subst hE hng
  refine (float_num x _ A _ w hx).mono ?_
  rintro e w' ⟨rfl, hf⟩
  refine ⟨?_, hf⟩
  have hc : A < 9223372036854775808 := Nat.lt_trans hlt (by decide)
  rw [if_pos hc, decide_eq_true hc, hj.1, hj.2]
  rfl

theorem float_zero {x : Value} {w : World} (hx : NumV w x false 0 0) :
    Calls Tryd.prog 10 #[x] w fun e w' => e = .returned (.tuple #[.int .i64 0, .bool true]) ∧ Fr w w' None := by
  refine (float_num x false 0 0 w hx).mono ?_
  rintro e w' ⟨rfl, hf⟩
  refine ⟨?_, hf⟩
  have hc : (0 : Nat) < 9223372036854775808 := by decide
  have hj := zero_join
  rw [if_pos hc, decide_eq_true hc, hj.1, hj.2]
  rfl

theorem float_miss {A : Nat} {E : Int} {ng : Bool} {x : Value} {w : World} (ho : A % 2 = 1) (h : E < -1074 ∨ 9007199254740992 ≤ A) (hx : NumV w x ng A E) :
    Calls Tryd.prog 10 #[x] w fun e w' => ∃ c, e = .returned (.tuple #[.int .i64 c, .bool false]) ∧ Fr w w' None := by
  refine (float_num x ng A E w hx).mono ?_
  rintro e w' ⟨rfl, hf⟩
  refine ⟨if A < 9223372036854775808 then jv64 ng (A : Int) E else 0, ?_, hf⟩
  rw [no_join ho h, Bool.and_false]

/-- The sum with a bit more, and its contract. -/
def moreN (ng : Bool) (M : Nat) : Nat := if ng then M - 1 else M + 1
theorem moreN_true (M : Nat) : moreN true M = M - 1 := by unfold moreN; simp
theorem moreN_false (M : Nat) : moreN false M = M + 1 := by unfold moreN; simp

theorem more_facts {M : Nat} (ng : Bool) (h1 : M % 18446744073709551616 % 1152921504606846976 = 0) (h2 : 1152921504606846976 ≤ M) (h3 : M + 1 < 2 ^ (64 * 2)) :
    moreN ng M % 2 = 1 ∧ 9007199254740992 ≤ moreN ng M ∧ moreN ng M < 2 ^ (64 * 2) ∧ moreN ng M % 18446744073709551616 ≠ 0 := by
  have hb : moreN ng M = M - 1 ∨ moreN ng M = M + 1 := by
    cases ng
    · exact Or.inr (moreN_false M)
    · exact Or.inl (moreN_true M)
  generalize (2 : Nat) ^ (64 * 2) = T at h3 ⊢
  generalize moreN ng M = R at hb ⊢
  omega
theorem more_add {M : Nat} (ng : Bool) (h1 : M % 18446744073709551616 % 1152921504606846976 = 0) (h0 : M % 18446744073709551616 ≠ 0) (h2 : 1152921504606846976 ≤ M) (h3 : M + 1 < 2 ^ (64 * 2)) (W : World) (z p1 zl : Nat) (vx vl : Value) (k1 : IntV W z (.slice none 0 0) false 0) (k2 : IntV W p1 vx false 1) (k3 : IntV W zl vl ng M) :
    Calls Tryd.prog 64 #[.pointer (some ⟨z, 0, none⟩), .pointer (some ⟨p1, 0, none⟩), .pointer (some ⟨zl, 0, none⟩)] W (IntPost z (Blk (.slice none 0 0)) ng (moreN ng M) W) := by
  have g1 : 1 < M := by omega
  have g2 : M < 2 ^ (64 * 2) := Nat.lt_of_succ_lt h3
  have g3 : M % 18446744073709551616 + 1 < 18446744073709551616 := by omega
  have g4 : 1 ≤ M % 18446744073709551616 := by omega
  cases ng
  · rw [moreN_false]
    exact intAdd_same z p1 zl vx vl false false M 1 W (by omega) g1 g2 g3 k1 k2 k3
  · rw [moreN_true]
    exact intAdd_diff z p1 zl vx vl false true M 1 W (by omega) g1 g2 g4 k1 k2 k3
theorem more_of {A : Nat} (ho : A % 2 = 1) (h : A < 9007199254740992) : A * 2 ^ 60 % 18446744073709551616 % 1152921504606846976 = 0 ∧ A * 2 ^ 60 % 18446744073709551616 ≠ 0 ∧ 1152921504606846976 ≤ A * 2 ^ 60 ∧ A * 2 ^ 60 + 1 < 2 ^ (64 * 2) := by
  have e : A * 2 ^ 60 + 2 ^ 60 ≤ 2 ^ 53 * 2 ^ 60 := by
    rw [← Nat.succ_mul]
    exact Nat.mul_le_mul_right _ (show A + 1 ≤ 2 ^ 53 from h)
  rw [← Nat.pow_add] at e
  have e2 : (2 : Nat) ^ (53 + 60) ≤ 2 ^ (64 * 2) := two_mono _ _ (by omega)
  refine ⟨by omega, by omega, by omega, ?_⟩
  generalize (2 : Nat) ^ (64 * 2) = T at e2 ⊢
  generalize (2 : Nat) ^ (53 + 60) = U at e e2
  omega

set_option maxRecDepth 100000 in
set_option maxHeartbeats 4000000 in
theorem law_none (b : Int) (w : World) (hok : pok b = false) (hT : Tab w) :
    Calls Tryd.prog 4 #[.int .i64 b] w fun e w' => e = .returned (.bool true) ∧ Fr w w' None := by
  have HO := Lib.hid (dOf_none b w hok)
  have HT := Lib.hid hT
  clear hT hok
  go_enter Tryd.func4, Tryd.ntmps4
  go_wp2_with fail
  refine (HO.out).mono ?_
  rintro en w1 ⟨rfl, f1⟩
  have fa := f1.alloc (.cells #[.bool false, .slice none 0 0, .int .i64 0] 31)
  have ta := At.alloc w1 #[.bool false, .slice none 0 0, .int .i64 0] 31
  have HAL := Lib.hid (alive_ok _ (HT.out.keep fa))
  have TA := Lib.hid ta
  have FA := Lib.hid fa
  clear fa ta f1
  go_wp2_with fail
  generalize hb1 : w1.heap.size = b1 at TA ⊢
  generalize w1.alloc (.cells #[.bool false, .slice none 0 0, .int .i64 0] 31) = wa at HAL TA FA ⊢
  clear hb1
  refine (HAL.out).mono ?_
  rintro en w2 ⟨rfl, f2⟩
  have t2 := TA.out.keep f2 (fun x => x)
  have c0 := t2.cell 0
  have c1 := t2.cell 1
  have c2 := t2.cell 2
  have F2 := Lib.hid (FA.out.trans f2 (fun _ h => h) (fun _ _ h => h))
  clear t2 f2
  go_wp2_with fail
  refine (same_num _ _ false 0 0 w2 (zero_num w2) (zero_num w2)).mono ?_
  rintro en w3 ⟨rfl, f3⟩
  have F3 := Lib.hid (F2.out.trans f3 (fun _ h => h) (fun _ _ h => h))
  clear f3
  go_wp2_with fail
  go_ret
  exact ⟨rfl, F3.out⟩

set_option maxRecDepth 100000 in
set_option maxHeartbeats 4000000 in
theorem law_zero (b : Int) (hb : I64 b) (w : World) (hok : pok b = true) (h0 : (pmag b).natAbs = 0) (hT : Tab w) :
    Calls Tryd.prog 4 #[.int .i64 b] w fun e w' => e = .returned (.bool true) ∧ Fr w w' None := by
  have ho := dOf_ok b w hok hT
  rw [h0] at ho
  have HO := Lib.hid ho
  have HT := Lib.hid hT
  have hz := pmag_zero hb hok h0
  clear hT hok h0 ho
  go_enter Tryd.func4, Tryd.ntmps4
  go_wp2_with fail
  refine (HO.out).mono ?_
  rintro en w1 ⟨x, rfl, hx, f1⟩
  have hx1 := hx.zero
  obtain rfl : x = .agg #[.bool false, .slice none 0 0, .int .i64 0] := by
    rcases hx1.cases with ⟨_, _, _, h⟩ | ⟨h, _⟩
    · exact h
    · exact absurd rfl h
  have fa := f1.alloc (.cells #[.bool false, .slice none 0 0, .int .i64 0] 31)
  have ta := At.alloc w1 #[.bool false, .slice none 0 0, .int .i64 0] 31
  have HAL := Lib.hid (alive_ok _ (HT.out.keep fa))
  have TA := Lib.hid ta
  have FA := Lib.hid fa
  clear fa ta f1 hx hx1
  go_wp2_with fail
  generalize hb1 : w1.heap.size = b1 at TA ⊢
  generalize w1.alloc (.cells #[.bool false, .slice none 0 0, .int .i64 0] 31) = wa at HAL TA FA ⊢
  clear hb1
  refine (HAL.out).mono ?_
  rintro en w2 ⟨rfl, f2⟩
  have t2 := TA.out.keep f2 (fun x => x)
  have c0 := t2.cell 0
  have c1 := t2.cell 1
  have c2 := t2.cell 2
  have T2 := Lib.hid t2
  have F2 := Lib.hid (FA.out.trans f2 (fun _ h => h) (fun _ _ h => h))
  clear t2 f2
  go_wp2_with fail
  refine (float_zero (zero_num w2)).mono ?_
  rintro en w3 ⟨rfl, f3⟩
  have t3 := T2.out.keep f3 (fun x => x)
  have d0 := t3.cell 0
  have d1 := t3.cell 1
  have d2 := t3.cell 2
  have F3 := Lib.hid (F2.out.trans f3 (fun _ h => h) (fun _ _ h => h))
  clear f3 t3 c0 c1 c2
  rcases hz with rfl | rfl
  · go_wp2_with fail
    go_ret
    exact ⟨rfl, F3.out⟩
  · go_wp2_with fail
    go_ret
    exact ⟨rfl, F3.out⟩
end Go.Proofs.YtehfnpbplkbdhaaDoor

namespace Go.Proofs.YtehfnpbplkbdhaaDoor
open Go.RowKit Go.Pt Go.Mem

set_option maxRecDepth 100000 in
set_option maxHeartbeats 8000000 in
theorem law_some (b : Int) (hb : I64 b) (w : World) (hok : pok b = true) (h0 : (pmag b).natAbs ≠ 0) (hT : Tab w) :
    Calls Tryd.prog 4 #[.int .i64 b] w fun e w' => e = .returned (.bool true) ∧ Fr w w' None := by
  have HO := Lib.hid (dOf_ok b w hok hT)
  have HT := Lib.hid hT
  have HB := Lib.hid (And.intro hb (And.intro hok h0))
  clear hT hok h0 hb
  go_enter Tryd.func4, Tryd.ntmps4
  go_wp2_with fail
  refine (HO.out).mono ?_
  rintro en w1 ⟨x, rfl, ⟨A, E, ng, hx, _, h2⟩, f1⟩
  obtain ⟨hng, k, hk, hA, hE⟩ := h2 HB.out.2.2
  have hm := pmag_bounds b
  have hpe := pexp_tight b
  have hA0 : A ≠ 0 := fun c => by rw [c, Nat.zero_mul] at hA; exact HB.out.2.2 hA.symm
  have hA53 : A < 9007199254740992 := by
    have h3 : A ≤ A * 2 ^ k := Nat.le_mul_of_pos_right _ (Nat.two_pow_pos k)
    omega
  have hodd : A % 2 = 1 := (hx.form hA0).2.2.1
  have ex0 : -1075 ≤ E := by omega
  have ex1 : E ≤ 1036 := by omega
  have HF1 := Lib.hid (fun (W : World) (hW : NumV W x ng A E) => float_own HB.out.1 HB.out.2.1 hA hE hng hA53 hW)
  have M := Lib.hid (more_of hodd hA53)
  have HA := Lib.hid (And.intro hA0 (And.intro hA53 hodd))
  clear hng hk hA hE hm hpe hA0 hA53 hodd
  rcases hx.cases with ⟨h, _⟩ | ⟨_, _, _, _, db, dn, dcap, hxe, hdn, _⟩
  · exact absurd h HA.out.1
  subst hxe
  have fa := f1.alloc (.cells #[.bool ng, .slice (some ⟨db, 0, none⟩) dn dcap, .int .i64 E] 31)
  have ta := At.alloc w1 #[.bool ng, .slice (some ⟨db, 0, none⟩) dn dcap, .int .i64 E] 31
  have HAL := Lib.hid (alive_ok _ (HT.out.keep fa))
  have XA := Lib.hid (hx.keep ((Fr.refl w1 None).alloc (.cells #[.bool ng, .slice (some ⟨db, 0, none⟩) dn dcap, .int .i64 E] 31)))
  have TA := Lib.hid ta
  have FA := Lib.hid fa
  have idn : ((dn : Int) == 0) = false := beq_eq_false_iff_ne.2 (by omega)
  clear fa ta f1 hx hdn
  go_wp2_with fail
  generalize hb1 : w1.heap.size = b1 at TA ⊢
  generalize w1.alloc (.cells #[.bool ng, .slice (some ⟨db, 0, none⟩) dn dcap, .int .i64 E] 31) = wa at HAL TA FA XA ⊢
  clear hb1
  refine (HAL.out).mono ?_
  rintro en w2 ⟨rfl, f2⟩
  have t2 := TA.out.keep f2 (fun x => x)
  have c0 := t2.cell 0
  have c1 := t2.cell 1
  have c2 := t2.cell 2
  have T2 := Lib.hid t2
  have X2 := Lib.hid (XA.out.keep f2)
  have F2 := Lib.hid (FA.out.trans f2 (fun _ h => h) (fun _ _ h => h))
  clear t2 f2 XA TA FA HAL
  go_wp2_with fail
  clear c0 c1 c2
  refine (HF1.out w2 X2.out).mono ?_
  rintro en w3 ⟨rfl, f3⟩
  have t3 := T2.out.keep f3 (fun x => x)
  have d0 := t3.cell 0
  have d1 := t3.cell 1
  have d2 := t3.cell 2
  have T3 := Lib.hid t3
  have X3 := Lib.hid (X2.out.keep f3)
  have F3 := Lib.hid (F2.out.trans f3 (fun _ h => h) (fun _ _ h => h))
  clear f3 t3 X2 T2 F2
  have hbb : (b != b) = false := by simp
  -- tiny
  have t4 := At.alloc w3 #[.int .i64 1] 3
  have f4 := (Fr.refl w3 None).alloc (.cells #[.int .i64 1] 3)
  have HM := Lib.hid (make_one false w3.heap.size 1 (E - 60) _ (by omega) (by omega) t4.lt (t4.cell 0) (by omega) (by omega) (HT.out.keep (F3.out.trans f4 (fun _ h => h) (fun _ _ h => h))))
  have T4 := Lib.hid (T3.out.keep f4 (fun x => x))
  have X4 := Lib.hid (X3.out.keep f4)
  have F4 := Lib.hid (F3.out.trans f4 (fun _ h => h) (fun _ _ h => h))
  have g2 := T4.out.cell 2
  clear t4 f4 X3 T3 F3
  go_wp2_with fail
  generalize w3.alloc (.cells #[.int .i64 1] 3) = w4 at HM T4 X4 F4 g2 ⊢
  clear g2 d0 d1 d2
  refine (HM.out).mono ?_
  rintro en w5 ⟨y, rfl, hy, fy⟩
  have hy1 := hy.num (B := 1) (j := 0) rfl rfl
  obtain ⟨_, _, _, ya, yn, yc, rfl⟩ := hy1.form (by omega)
  have ey : E - 60 + ((0 : Nat) : Int) = E - 60 := by omega
  rw [ey] at hy1 ⊢
  have tb := At.alloc w5 #[.bool false, .slice ya yn yc, .int .i64 (E - 60)] 31
  have fb := (Fr.refl w5 None).alloc (.cells #[.bool false, .slice ya yn yc, .int .i64 (E - 60)] 31)
  have fyb := fy.trans fb (fun _ h => h) (fun _ _ h => h)
  have T6 := Lib.hid (T4.out.keep fyb (fun x => x))
  have X6 := Lib.hid (X4.out.keep fyb)
  have Y6 := Lib.hid (hy1.keep fb)
  have F6 := Lib.hid (F4.out.trans fyb (fun _ h => h) (fun _ _ h => h))
  have c0 := T6.out.cell 0
  have c1 := T6.out.cell 1
  have c2 := T6.out.cell 2
  clear hy hy1 fy tb fb fyb ey T4 X4 F4 HM
  go_wp2_with fail
  generalize w5.alloc (.cells #[.bool false, .slice ya yn yc, .int .i64 (E - 60)] 31) = w6 at T6 X6 Y6 F6 c0 c1 c2 ⊢
  clear c0 c1 c2
  -- their sum
  obtain ⟨m1, m2, m3, m4⟩ := M.out
  obtain ⟨r1, r2, r3, r4⟩ := more_facts ng m1 m3 m4
  have r5 := pow_room (moreN ng (A * 2 ^ 60)) (64 * 2) (64 * 30) r3 (by omega)
  have a53 := pow_room A 53 (64 * 2) HA.out.2.1 (by omega)
  have hadd := add_ok _ _ ng false ng A 1 60 (moreN ng (A * 2 ^ 60)) E (E - 60) w6 X6.out Y6.out HA.out.1 (by omega) (by omega) (by omega) a53 (by omega) (by omega) r5 r4 (HT.out.keep F6.out) (fun W z p1 zl vx vl k1 k2 k3 => more_add ng m1 m2 m3 m4 W z p1 zl vx vl k1 k2 k3)
  have HADD := Lib.hid hadd
  have RR := Lib.hid (And.intro r1 r2)
  clear m1 m2 m3 m4 r1 r2 r3 r4 r5 a53 hadd
  refine (HADD.out).mono ?_
  rintro en w7 ⟨s, rfl, hs, fs⟩
  have hs1 := hs.num (B := moreN ng (A * 2 ^ 60)) (j := 0) (by rw [Nat.pow_zero, Nat.mul_one]) RR.out.1
  obtain ⟨_, _, _, sa, sn, sc, rfl⟩ := hs1.form (by have := RR.out.1; omega)
  have es : E - 60 + ((0 : Nat) : Int) = E - 60 := by omega
  rw [es] at hs1 ⊢
  have fc := (Fr.refl w7 None).alloc (.cells #[.bool ng, .slice sa sn sc, .int .i64 (E - 60)] 31)
  have fsc := fs.trans fc (fun _ h => h) (fun _ _ h => h)
  have T8 := Lib.hid (T6.out.keep fsc (fun x => x))
  have X8 := Lib.hid (X6.out.keep fsc)
  have S8 := Lib.hid (hs1.keep fc)
  have F8 := Lib.hid (F6.out.trans fsc (fun _ h => h) (fun _ _ h => h))
  clear hs hs1 fs fc fsc es T6 X6 Y6 F6 HADD
  go_wp2_with fail
  generalize w7.alloc (.cells #[.bool ng, .slice sa sn sc, .int .i64 (E - 60)] 31) = w8 at T8 X8 S8 F8 ⊢
  refine (float_miss RR.out.1 (Or.inr RR.out.2) S8.out).mono ?_
  rintro en w9 ⟨cv, rfl, f9⟩
  have T9 := Lib.hid (T8.out.keep f9 (fun x => x))
  have X9 := Lib.hid (X8.out.keep f9)
  have F9 := Lib.hid (F8.out.trans f9 (fun _ h => h) (fun _ _ h => h))
  have c0 := T9.out.cell 0
  have c1 := T9.out.cell 1
  have c2 := T9.out.cell 2
  clear f9 T8 X8 S8 F8
  go_wp2_with fail
  clear c0 c1 c2
  -- half of the least
  have a30 := pow_room A 53 (64 * 30) HA.out.2.1 (by omega)
  have hsc := scale_ok _ ng A E (-1080 - E) w9 X9.out HA.out.1 a30 (by omega) (by omega) (by omega) (by omega) (by have := HA.out; omega) (HT.out.keep F9.out)
  rw [show E + (-1080 - E) = -1080 by omega] at hsc
  refine hsc.mono ?_
  clear hsc a30
  rintro en wc ⟨u, rfl, hu, fu⟩
  have hu1 := hu.num (B := A) (j := 0) (by rw [Nat.pow_zero, Nat.mul_one]) HA.out.2.2
  obtain ⟨_, _, _, ua, un, uc, rfl⟩ := hu1.form HA.out.1
  rw [show (-1080 : Int) + ((0 : Nat) : Int) = -1080 from rfl] at hu1 ⊢
  have fd := (Fr.refl wc None).alloc (.cells #[.bool ng, .slice ua un uc, .int .i64 (-1080)] 31)
  have UD := Lib.hid (hu1.keep fd)
  have FD := Lib.hid ((F9.out.trans fu (fun _ h => h) (fun _ _ h => h)).trans fd (fun _ h => h) (fun _ _ h => h))
  clear hu hu1 fu fd T9 X9 F9
  go_wp2_with fail
  generalize wc.alloc (.cells #[.bool ng, .slice ua un uc, .int .i64 (-1080)] 31) = wd at UD FD ⊢
  refine (float_miss HA.out.2.2 (Or.inl (by omega)) UD.out).mono ?_
  rintro en we ⟨cw, rfl, fe⟩
  have FE := Lib.hid (FD.out.trans fe (fun _ h => h) (fun _ _ h => h))
  clear fe
  go_wp2_with fail
  go_ret
  exact ⟨rfl, FE.out⟩

/-- DyadicFloats answers true, and leaves what was there as it was. -/
theorem law_ok (b : Int) (hb : I64 b) (w : World) (hT : Tab w) :
    Calls Tryd.prog 4 #[.int .i64 b] w fun e w' => e = .returned (.bool true) ∧ Fr w w' None := by
  cases hok : pok b
  · exact law_none b w hok hT
  · by_cases c : (pmag b).natAbs = 0
    · exact law_zero b hb w hok c hT
    · exact law_some b hb w hok c hT
end Go.Proofs.YtehfnpbplkbdhaaDoor
