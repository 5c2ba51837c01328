/- The walks of BitsBack and BitsWide. Condition: an int is an int (I64). -/
import Derived.Test.YtdbeeclkknhjaaaX3
import Derived.Test.YtdbeeclkknhjaaaW4
namespace Go.Pt

theorem back64 {b : Int} (h : I64 b) (c : cl b < 3) : jo64 (pmag b) (pexp b) = true ∧ jv64 (pneg b) (pmag b) (pexp b) = b := by
  obtain ⟨k1, k2, k3⟩ := own_at c
  have hb := rg_bd b
  have a := Ieee.double.at_own (rg b).toNat
  rw [least_eq, ← k3] at a
  have e : (pmag b).toNat = Ieee.double.mg (rg b).toNat := by rw [k2]; omega
  rw [← e] at a
  have j := j64_hit (pneg b) (m := pmag b) (pmag_bd b).1 (by rw [infRung_eq]; exact k1) a
  refine ⟨j.2, ?_⟩
  rw [j.1]
  unfold pneg
  rw [decide_eq_true c]
  unfold rg at *
  unfold I64 at h
  by_cases n : b < 0 <;> simp [n] <;> omega

theorem neg_neg {b : Int} (h : I64 b) (c : cl b ≠ 4) : neg (neg b) = b := by
  have c1 := Go.Proofs.Ytdbeeclkknhjaaa.cl_neg c
  have e : neg b = if b < 0 then b + 9223372036854775808 else b - 9223372036854775808 := by unfold neg; rw [if_neg c]
  have e2 : neg (neg b) = if neg b < 0 then neg b + 9223372036854775808 else neg b - 9223372036854775808 := by rw [neg, if_neg c1]
  rw [e2, e]
  unfold I64 at h
  repeat' split
  all_goals omega

theorem own_at3 {b : Int} (h : cl3 b < 3) : (rg3 b).toNat < 2139095040 ∧ pmag3 b = Ieee.single.mg (rg3 b).toNat ∧ pexp3 b = -149 + Ieee.single.up (rg3 b).toNat := by
  have hp := pt3_of (b := b) (by omega)
  have h0 := rg3_bd b
  have c0 := cl3_bd b
  have e := cl3_eq hp.2.1 hp.2.2
  unfold inf3 at e
  have f1 : fld3 b = rg3 b / 8388608 := by unfold fld3 rg3; omega
  have f2 : frc3 b = rg3 b % 8388608 := by unfold frc3 rg3; omega
  have k : rg3 b < 2139095040 := by
    by_cases k : rg3 b < 2139095040
    · exact k
    · rw [if_neg (by omega), if_neg (by omega), if_neg k] at e
      split at e <;> omega
  refine ⟨by omega, ?_⟩
  unfold pmag3 pexp3 Ieee.Format.mg Ieee.Format.up
  rw [binade3_eq]
  by_cases q : rg3 b < 8388608
  · have : cl3 b < 2 := by rw [e]; repeat' split
                           all_goals omega
    rw [if_pos this, if_pos this, if_pos (by omega), f2]
    omega
  · have : cl3 b = 2 := by rw [e, if_neg (by omega), if_neg (by omega), if_pos k]
    rw [this]
    simp only [show ¬ (2 : Int) < 2 by omega, if_false, if_true]
    rw [if_neg (by omega), f1, f2]
    omega

theorem pmag3_bd (b : Int) : 0 ≤ pmag3 b ∧ pmag3 b < 16777216 := by
  have := frc3_bd b
  unfold pmag3
  repeat' split
  all_goals omega

theorem own_at3' {b : Int} (h : cl3 b < 3) : Ieee.single.At (pmag3 b).toNat (pexp3 b) (rg3 b).toNat := by
  obtain ⟨k1, k2, k3⟩ := own_at3 h
  have a := Ieee.single.at_own (rg3 b).toNat
  rw [least3_eq, ← k3] at a
  rw [show (pmag3 b).toNat = Ieee.single.mg (rg3 b).toNat by rw [k2]; omega]
  exact a

theorem back32 {b : Int} (c : cl3 b < 3) : jo32 (pmag3 b) (pexp3 b) = true ∧ jv32 (pneg3 b) (pmag3 b) (pexp3 b) = b := by
  have hp := pt3_of (b := b) (by omega)
  obtain ⟨k1, _, _⟩ := own_at3 c
  have hb := rg3_bd b
  have j := j32_hit (pneg3 b) (m := pmag3 b) (pmag3_bd b).1 (by rw [infRung3_eq]; exact k1) (own_at3' c)
  refine ⟨j.2, ?_⟩
  rw [j.1]
  unfold pneg3
  rw [decide_eq_true c]
  unfold rg3 at *
  by_cases n : 2147483648 ≤ b <;> simp [n] <;> omega

def wideK : Nat := 925

theorem wide_val {r u : Nat} (h : Ieee.double.At (Ieee.single.mg r) (Ieee.single.leastPlace + Ieee.single.up r) u) : Ieee.double.val u = Ieee.single.val r * 2 ^ wideK := by
  have d : Ieee.Deq (Ieee.single.val r) Ieee.single.leastPlace (Ieee.double.val u) Ieee.double.leastPlace := ((Ieee.single.at_val r).trans h).trans (Ieee.double.at_val u).symm
  have e := Ieee.Deq.shift (Ieee.single.val r) wideK Ieee.double.leastPlace
  rw [least_eq] at e d
  rw [least3_eq] at d
  rw [show (-1074 : Int) + (wideK : Int) = -149 from rfl] at e
  exact (e.trans d).same.symm

theorem wide_lt {r u r' u' : Nat} (h : Ieee.double.val u = Ieee.single.val r * 2 ^ wideK) (h' : Ieee.double.val u' = Ieee.single.val r' * 2 ^ wideK) : u < u' ↔ r < r' := by
  have hp := Nat.two_pow_pos wideK
  generalize 2 ^ wideK = K at *
  have a := Ieee.double.val_lt_iff u u'
  have b := Ieee.single.val_lt_iff r r'
  rw [h, h'] at a
  rw [← a, ← b]
  constructor
  · intro k; exact Nat.lt_of_mul_lt_mul_right k
  · intro k; exact Nat.mul_lt_mul_of_pos_right k hp

theorem wide_skey (s s' : Bool) {r u r' u' : Nat} (h : Ieee.double.val u = Ieee.single.val r * 2 ^ wideK) (h' : Ieee.double.val u' = Ieee.single.val r' * 2 ^ wideK)
    (k : Ieee.Format.skey s r < Ieee.Format.skey s' r') : Ieee.Format.skey s u < Ieee.Format.skey s' u' := by
  have z : Ieee.double.val 0 = Ieee.single.val 0 * 2 ^ wideK := by rw [Ieee.double.val_zero, Ieee.single.val_zero, Nat.zero_mul]
  have a1 := wide_lt h h'
  have a2 := wide_lt h' h
  have a3 := wide_lt z h
  have a4 := wide_lt z h'
  unfold Ieee.Format.skey at *
  cases s <;> cases s' <;> simp at * <;> omega

theorem key3_next {b : Int} (c : cl3 b < 3) : key3 (next3 b) = key3 b + 1 ∧ cl3 (next3 b) ≠ 4 := by
  have n : cl3 b ≠ 4 := by omega
  have h := pt3_of n
  obtain ⟨k, _, _⟩ := own_at3 c
  have rb := rg3_bd b
  have e : next3 b = if rg3 b = 0 then 1 else if 2147483648 < b then b - 1 else b + 1 := by
    unfold next3 inf3
    rw [if_neg n, if_neg (by unfold rg3 at *; omega)]
  rw [e]
  by_cases z : rg3 b = 0
  · rw [if_pos z]
    constructor
    · unfold key3; rw [z]; simp; decide
    · decide
  · rw [if_neg z]
    have bd : ∀ x : Int, 0 ≤ x → x < 4294967296 → rg3 x ≤ 2139095040 → cl3 x ≠ 4 := by
      intro x x0 x1 x2 y
      have := (cl3_nan' x0 x1).1 y
      unfold inf3 at this
      omega
    unfold key3 rg3 at *
    split <;> split <;> (first | (constructor; (split <;> omega); (apply bd <;> omega)) | omega)

end Go.Pt
namespace Go.Pt
theorem parts_none {b : Int} (h : ¬ cl b < 3) : pneg b = false ∧ pmag b = 0 ∧ pexp b = 0 ∧ pok b = false := parts_c34 (by omega)

end Go.Pt
namespace Go.Proofs.Ytdbeeclkknhjaaa
open Go.RowKit Go.Pt
attribute [local go_sem] and_2047 and_frac and_255 and_frac3 and_one or_frac or_frac3

set_option maxHeartbeats 2000000 in
theorem back_law (b : Int) (hb : I64 b) (w : World) :
    Calls Try.prog 14 #[.int .i64 b] w fun e w' => e = .returned (.bool true) ∧ Grown w w' := by
  have y := pmag_bd b
  have y1 := y.1
  have y2 := y.2
  have z := pmag3_bd b
  have z1 := z.1
  have z2 := z.2
  clear y z
  have hn := neg64 hb
  by_cases d : cl3 b < 3
  · cases c4 : (cl b == 4)
    · have n4 := neg_neg hb (beq_eq_false_iff_ne.1 c4)
      have c4' := beqn c4
      by_cases c : cl b < 3
      · have hp : pok b = true := by unfold pok; rw [decide_eq_true c]
        have hd : decide (cl b < 3) = true := decide_eq_true c
        obtain ⟨j1, j2⟩ := back64 hb c
        have hp3 : pok3 b = true := by unfold pok3; rw [decide_eq_true d]
        obtain ⟨k1, k2⟩ := back32 d
        go_enter Try.func14, Try.ntmps14
        go_wp2_with (first | (go_at_call 17; refine (alive_any _).mono ?_; rintro e w' ⟨rfl, rfl⟩) | (go_at_call 37; refine (parts_any _ _).mono ?_; rintro e w' ⟨rfl, rfl⟩) | (go_at_call 38; refine (join_any _ _ _ (by omega) _).mono ?_; rintro e w' ⟨rfl, rfl⟩) | (go_at_call 32; refine (class_any _ _).mono ?_; rintro e w' ⟨rfl, rfl⟩) | (go_at_call 45; refine (neg_any _ (by assumption) _).mono ?_; rintro e w' ⟨rfl, rfl⟩) | (go_at_call 46; refine (parts32_any _ hb _).mono ?_; rintro e w' ⟨rfl, rfl⟩) | (go_at_call 47; refine (join32_any _ _ _ (by omega) _).mono ?_; rintro e w1 ⟨rfl, hg⟩) | (go_at_call 48; refine (class32_any _ hb _).mono ?_; rintro e w2 ⟨rfl, rfl⟩))
        go_ret
        refine ⟨rb ?_, by assumption⟩
        first | rfl | (simp; done) | (simp; omega)
      · have hd : decide (cl b < 3) = false := decide_eq_false c
        obtain ⟨p1, p2, p3, hp⟩ := parts_none c
        have hp3 : pok3 b = true := by unfold pok3; rw [decide_eq_true d]
        obtain ⟨k1, k2⟩ := back32 d
        go_enter Try.func14, Try.ntmps14
        go_wp2_with (first | (go_at_call 17; refine (alive_any _).mono ?_; rintro e w' ⟨rfl, rfl⟩) | (go_at_call 37; refine (parts_any _ _).mono ?_; rintro e w' ⟨rfl, rfl⟩) | (go_at_call 38; refine (join_any _ _ _ (by omega) _).mono ?_; rintro e w' ⟨rfl, rfl⟩) | (go_at_call 32; refine (class_any _ _).mono ?_; rintro e w' ⟨rfl, rfl⟩) | (go_at_call 45; refine (neg_any _ (by assumption) _).mono ?_; rintro e w' ⟨rfl, rfl⟩) | (go_at_call 46; refine (parts32_any _ hb _).mono ?_; rintro e w' ⟨rfl, rfl⟩) | (go_at_call 47; refine (join32_any _ _ _ (by omega) _).mono ?_; rintro e w1 ⟨rfl, hg⟩) | (go_at_call 48; refine (class32_any _ hb _).mono ?_; rintro e w2 ⟨rfl, rfl⟩))
        go_ret
        refine ⟨rb ?_, by assumption⟩
        first | rfl | (simp; done) | (simp; omega)
    · have c4' := beqn c4
      have c : ¬ cl b < 3 := by have := beq_iff_eq.1 c4; omega
      have hd : decide (cl b < 3) = false := decide_eq_false c
      obtain ⟨p1, p2, p3, hp⟩ := parts_none c
      have hp3 : pok3 b = true := by unfold pok3; rw [decide_eq_true d]
      obtain ⟨k1, k2⟩ := back32 d
      go_enter Try.func14, Try.ntmps14
      go_wp2_with (first | (go_at_call 17; refine (alive_any _).mono ?_; rintro e w' ⟨rfl, rfl⟩) | (go_at_call 37; refine (parts_any _ _).mono ?_; rintro e w' ⟨rfl, rfl⟩) | (go_at_call 38; refine (join_any _ _ _ (by omega) _).mono ?_; rintro e w' ⟨rfl, rfl⟩) | (go_at_call 32; refine (class_any _ _).mono ?_; rintro e w' ⟨rfl, rfl⟩) | (go_at_call 45; refine (neg_any _ (by assumption) _).mono ?_; rintro e w' ⟨rfl, rfl⟩) | (go_at_call 46; refine (parts32_any _ hb _).mono ?_; rintro e w' ⟨rfl, rfl⟩) | (go_at_call 47; refine (join32_any _ _ _ (by omega) _).mono ?_; rintro e w1 ⟨rfl, hg⟩) | (go_at_call 48; refine (class32_any _ hb _).mono ?_; rintro e w2 ⟨rfl, rfl⟩))
      go_ret
      refine ⟨rb ?_, by assumption⟩
      first | rfl | (simp; done) | (simp; omega)
  · cases c4 : (cl b == 4)
    · have n4 := neg_neg hb (beq_eq_false_iff_ne.1 c4)
      have c4' := beqn c4
      by_cases c : cl b < 3
      · have hp : pok b = true := by unfold pok; rw [decide_eq_true c]
        have hd : decide (cl b < 3) = true := decide_eq_true c
        obtain ⟨j1, j2⟩ := back64 hb c
        have hp3 : pok3 b = false := by unfold pok3; rw [decide_eq_false d]
        go_enter Try.func14, Try.ntmps14
        go_wp2_with (first | (go_at_call 17; refine (alive_any _).mono ?_; rintro e w' ⟨rfl, rfl⟩) | (go_at_call 37; refine (parts_any _ _).mono ?_; rintro e w' ⟨rfl, rfl⟩) | (go_at_call 38; refine (join_any _ _ _ (by omega) _).mono ?_; rintro e w' ⟨rfl, rfl⟩) | (go_at_call 32; refine (class_any _ _).mono ?_; rintro e w' ⟨rfl, rfl⟩) | (go_at_call 45; refine (neg_any _ (by assumption) _).mono ?_; rintro e w' ⟨rfl, rfl⟩) | (go_at_call 46; refine (parts32_any _ hb _).mono ?_; rintro e w' ⟨rfl, rfl⟩) | (go_at_call 47; refine (join32_any _ _ _ (by omega) _).mono ?_; rintro e w1 ⟨rfl, hg⟩) | (go_at_call 48; refine (class32_any _ hb _).mono ?_; rintro e w2 ⟨rfl, rfl⟩))
        go_ret
        refine ⟨rb ?_, by assumption⟩
        first | rfl | (simp; done) | (simp; omega)
      · have hd : decide (cl b < 3) = false := decide_eq_false c
        obtain ⟨p1, p2, p3, hp⟩ := parts_none c
        have hp3 : pok3 b = false := by unfold pok3; rw [decide_eq_false d]
        go_enter Try.func14, Try.ntmps14
        go_wp2_with (first | (go_at_call 17; refine (alive_any _).mono ?_; rintro e w' ⟨rfl, rfl⟩) | (go_at_call 37; refine (parts_any _ _).mono ?_; rintro e w' ⟨rfl, rfl⟩) | (go_at_call 38; refine (join_any _ _ _ (by omega) _).mono ?_; rintro e w' ⟨rfl, rfl⟩) | (go_at_call 32; refine (class_any _ _).mono ?_; rintro e w' ⟨rfl, rfl⟩) | (go_at_call 45; refine (neg_any _ (by assumption) _).mono ?_; rintro e w' ⟨rfl, rfl⟩) | (go_at_call 46; refine (parts32_any _ hb _).mono ?_; rintro e w' ⟨rfl, rfl⟩) | (go_at_call 47; refine (join32_any _ _ _ (by omega) _).mono ?_; rintro e w1 ⟨rfl, hg⟩) | (go_at_call 48; refine (class32_any _ hb _).mono ?_; rintro e w2 ⟨rfl, rfl⟩))
        go_ret
        refine ⟨rb ?_, by assumption⟩
        first | rfl | (simp; done) | (simp; omega)
    · have c4' := beqn c4
      have c : ¬ cl b < 3 := by have := beq_iff_eq.1 c4; omega
      have hd : decide (cl b < 3) = false := decide_eq_false c
      obtain ⟨p1, p2, p3, hp⟩ := parts_none c
      have hp3 : pok3 b = false := by unfold pok3; rw [decide_eq_false d]
      go_enter Try.func14, Try.ntmps14
      go_wp2_with (first | (go_at_call 17; refine (alive_any _).mono ?_; rintro e w' ⟨rfl, rfl⟩) | (go_at_call 37; refine (parts_any _ _).mono ?_; rintro e w' ⟨rfl, rfl⟩) | (go_at_call 38; refine (join_any _ _ _ (by omega) _).mono ?_; rintro e w' ⟨rfl, rfl⟩) | (go_at_call 32; refine (class_any _ _).mono ?_; rintro e w' ⟨rfl, rfl⟩) | (go_at_call 45; refine (neg_any _ (by assumption) _).mono ?_; rintro e w' ⟨rfl, rfl⟩) | (go_at_call 46; refine (parts32_any _ hb _).mono ?_; rintro e w' ⟨rfl, rfl⟩) | (go_at_call 47; refine (join32_any _ _ _ (by omega) _).mono ?_; rintro e w1 ⟨rfl, hg⟩) | (go_at_call 48; refine (class32_any _ hb _).mono ?_; rintro e w2 ⟨rfl, rfl⟩))
      go_ret
      refine ⟨rb ?_, by assumption⟩
      first | rfl | (simp; done) | (simp; omega)

/-- The pattern of 64 bits with a binary32's value. -/
theorem wide_facts {b : Int} (c : cl3 b < 3) : jo64 (pmag3 b) (pexp3 b) = true ∧ ∃ u, u < 9218868437227405312 ∧ Ieee.double.val u = Ieee.single.val (rg3 b).toNat * 2 ^ wideK ∧
    jv64 (pneg3 b) (pmag3 b) (pexp3 b) = (if pneg3 b then -9223372036854775808 else 0) + (u : Int) ∧ floatToFloatBits .f32 (wd3 b) .f64 = some (wd (jv64 (pneg3 b) (pmag3 b) (pexp3 b))) := by
  obtain ⟨k1, k2, k3⟩ := own_at3 c
  have hp := pt3_of (b := b) (by omega)
  have hit : Hit (pmag3 b) (pexp3 b) := ⟨_, k1, own_at3' c⟩
  have j := hit_double hit (pmag3_bd b).1
  obtain ⟨u, u0, u1, u2, u3⟩ := jo64_hit (n := pneg3 b) j
  obtain ⟨u', g1, g2, g3⟩ := single_up (decide (2147483648 ≤ b)) (r := (rg3 b).toNat) (by rw [infRung3_eq]; exact k1)
  have eu : u' = u := by
    have a := own_at3' c
    exact Ieee.Format.At.inj (f := Ieee.double) ((show Ieee.Deq _ _ _ _ from a).trans g2) u2
  subst eu
  have en : pneg3 b = decide (2147483648 ≤ b) := by unfold pneg3; rw [decide_eq_true c]; rfl
  refine ⟨j, u', u1, wide_val g2, u3, ?_⟩
  rw [u3, wd_signed _ (by omega), wd3_word, hp.1, en]
  exact g3

theorem wide_key {n : Bool} {u : Nat} (h : u < 9218868437227405312) : key ((if n then -9223372036854775808 else 0) + (u : Int)) = Ieee.Format.skey n u ∧ cl ((if n then -9223372036854775808 else 0) + (u : Int)) < 3 := by
  constructor
  · unfold key rg Ieee.Format.skey
    cases n <;> simp <;> (try split) <;> omega
  · rw [cl_fin]; unfold rg inf; cases n <;> simp <;> omega

theorem wide_less {b : Int} (c : cl3 b < 3) (d : cl3 (next3 b) < 3) :
    less (jv64 (pneg3 (next3 b)) (pmag3 (next3 b)) (pexp3 (next3 b))) (next (jv64 (pneg3 b) (pmag3 b) (pexp3 b))) = false := by
  obtain ⟨_, u, u1, u2, u3, _⟩ := wide_facts c
  obtain ⟨_, v, v1, v2, v3, _⟩ := wide_facts d
  have ku := wide_key (n := pneg3 b) u1
  have kv := wide_key (n := pneg3 (next3 b)) v1
  have k3 := key3_next c
  have en : pneg3 b = decide (2147483648 ≤ b) := by unfold pneg3; rw [decide_eq_true c]; rfl
  have en' : pneg3 (next3 b) = decide (2147483648 ≤ next3 b) := by unfold pneg3; rw [decide_eq_true d]; rfl
  have lt : Ieee.Format.skey (pneg3 b) u < Ieee.Format.skey (pneg3 (next3 b)) v := by
    apply wide_skey _ _ u2 v2
    rw [en, en', skey_key3, skey_key3]
    omega
  have hi := jv64_i64 (pneg3 b) (pmag3 b) (pexp3 b)
  rw [u3] at hi ⊢
  rw [v3]
  apply less_not
  rw [key_next hi (by omega) (by
    intro e
    have := ku.1
    rw [e, key_inf] at this
    unfold Ieee.Format.skey at this
    split at this <;> omega), ku.1, kv.1]
  omega

set_option maxHeartbeats 2000000 in
theorem wide_law (b : Int) (hb : I64 b) (w : World) :
    Calls Try.prog 15 #[.int .i64 b] w fun e w' => e = .returned (.bool true) ∧ Grown w w' := by
  by_cases d : cl3 b < 3
  · have hp3 : pok3 b = true := by unfold pok3; rw [decide_eq_true d]
    have z := pmag3_bd b
    have z1 := z.1
    have z2 := z.2
    have y := pmag3_bd (next3 b)
    have y1 := y.1
    have y2 := y.2
    clear y z
    obtain ⟨k1, k2⟩ := back32 d
    obtain ⟨j, u, u1, u2, u3, u4⟩ := wide_facts d
    have hc := fun wx : World => run_convert_float_float (P := Try.prog) wx 26 24 .f32 .f64 _ _ (by kernel_rfl) Try.underlying24 u4
    have hi := jv64_i64 (pneg3 b) (pmag3 b) (pexp3 b)
    have hs := isN_wd hi (by rw [u3]; have := (wide_key (n := pneg3 b) u1).2; omega)
    have hn := next364 b
    by_cases e : cl3 (next3 b) < 3
    · have hq3 : pok3 (next3 b) = true := by unfold pok3; rw [decide_eq_true e]
      have jn := (wide_facts e).1
      have hi2 := jv64_i64 (pneg3 (next3 b)) (pmag3 (next3 b)) (pexp3 (next3 b))
      have hi3 := next64 hi
      have L := wide_less d e
      clear u1 u2 u3 u4 d e
      go_enter Try.func15, Try.ntmps15
      go_wp2_with (first | (go_at_call 17; refine (alive_any _).mono ?_; rintro e w' ⟨rfl, rfl⟩) | (go_at_call 38; refine (join_any _ _ _ (by omega) _).mono ?_; rintro e w' ⟨rfl, rfl⟩) | (go_at_call 46; refine (parts32_any _ (by assumption) _).mono ?_; rintro e w' ⟨rfl, rfl⟩) | (go_at_call 47; refine (join32_any _ _ _ (by omega) _).mono ?_; rintro e w1 ⟨rfl, hg1⟩) | (go_at_call 20; refine (float32_any _ hb _).mono ?_; rintro e w2 ⟨rfl, rfl⟩) | (go_at_call 19; refine (float_any _ _).mono ?_; rintro e w2 ⟨rfl, rfl⟩) | (go_at_call 49; refine (next32_any _ hb _).mono ?_; rintro e w2 ⟨rfl, hg2⟩) | (go_at_call 34; refine (next_any _ (by assumption) _).mono ?_; rintro e w3 ⟨rfl, rfl⟩) | (go_at_call 30; refine (less_any _ _ (by assumption) (by assumption) _).mono ?_; rintro e w3 ⟨rfl, rfl⟩))
      go_ret
      exact ⟨rfl, Go.Pt.Grown.trans (by assumption) (by assumption)⟩
    · have hq3 : pok3 (next3 b) = false := by unfold pok3; rw [decide_eq_false e]
      have hcl : cl3 (next3 b) = 3 := by have := cl3_bd (next3 b); have := (key3_next d).2; omega
      clear u1 u2 u3 u4 d e
      go_enter Try.func15, Try.ntmps15
      go_wp2_with (first | (go_at_call 17; refine (alive_any _).mono ?_; rintro e w' ⟨rfl, rfl⟩) | (go_at_call 38; refine (join_any _ _ _ (by omega) _).mono ?_; rintro e w' ⟨rfl, rfl⟩) | (go_at_call 46; refine (parts32_any _ (by assumption) _).mono ?_; rintro e w' ⟨rfl, rfl⟩) | (go_at_call 47; refine (join32_any _ _ _ (by omega) _).mono ?_; rintro e w1 ⟨rfl, hg1⟩) | (go_at_call 20; refine (float32_any _ hb _).mono ?_; rintro e w2 ⟨rfl, rfl⟩) | (go_at_call 19; refine (float_any _ _).mono ?_; rintro e w2 ⟨rfl, rfl⟩) | (go_at_call 49; refine (next32_any _ hb _).mono ?_; rintro e w2 ⟨rfl, hg2⟩) | (go_at_call 48; refine (class32_any _ (by assumption) _).mono ?_; rintro e w3 ⟨rfl, rfl⟩))
      go_ret
      exact ⟨rfl, Go.Pt.Grown.trans (by assumption) (by assumption)⟩
  · have hp3 : pok3 b = false := by unfold pok3; rw [decide_eq_false d]
    go_enter Try.func15, Try.ntmps15
    go_wp2_with (first | (go_at_call 17; refine (alive_any _).mono ?_; rintro e w' ⟨rfl, rfl⟩) | (go_at_call 46; refine (parts32_any _ hb _).mono ?_; rintro e w' ⟨rfl, rfl⟩))
    go_ret
    exact ⟨rfl, Grown.refl _⟩

end Go.Proofs.Ytdbeeclkknhjaaa
