/- Floats and their words. Condition: it stands in each fact. -/
import Derived.Test.YtgmebioogkmfgaaGreatDoorQA
import Derived.Test.YtgmebioogkmfgaaGreatDoorGr
namespace Go.Pt

/-! ### What Go chooses where it leaves the bits of no number open -/
theorem nanBits_cut (x y t : Nat) : (FloatKind.f64.format.order ((Question.nanBits .f64 x y).cut t) ((Question.nanBits .f64 x y).cut t) != some .eq) = true := by
  have e : (Question.nanBits .f64 x y).cut t = Ieee.double.word (decide (t % 2 = 1)) (9218868437227405312 + 1 + t / 2 % 4503599627370495) := by
    show t % 2 * 2 ^ 63 + 0x7ff0000000000000 + 1 + t / 2 % (2 ^ 52 - 1) = _
    unfold Ieee.Format.word
    rw [signWeight_eq]
    by_cases h : t % 2 = 1 <;> simp [h] <;> omega
  rw [e]
  rw [show FloatKind.f64.format = Ieee.double from rfl, Ieee.double.order_nan_left (by decide) _ _ (by rw [infRung_eq]; omega) (by rw [signWeight_eq]; omega)]
  rfl
theorem nanConv_cut (x t : Nat) : (FloatKind.f64.format.order ((Question.nanConv .f64 x).cut t) ((Question.nanConv .f64 x).cut t) != some .eq) = true := nanBits_cut x x t
theorem nanConv3_cut (x t : Nat) : (FloatKind.f32.format.order ((Question.nanConv .f32 x).cut t) ((Question.nanConv .f32 x).cut t) != some .eq) = true := by
  have e : (Question.nanConv .f32 x).cut t = Ieee.single.word (decide (t % 2 = 1)) (2139095040 + 1 + t / 2 % 8388607) := by
    show t % 2 * 2 ^ 31 + 0x7f800000 + 1 + t / 2 % (2 ^ 23 - 1) = _
    unfold Ieee.Format.word
    rw [signWeight3_eq]
    by_cases h : t % 2 = 1 <;> simp [h] <;> omega
  rw [e]
  rw [show FloatKind.f32.format = Ieee.single from rfl, Ieee.single.order_nan_left (by decide) _ _ (by rw [infRung3_eq]; omega) (by rw [signWeight3_eq]; omega)]
  rfl

/-! ### 32 bits: sign, neighbour -/
def neg3 (b : Int) : Int := if cl3 b = 4 then nan3 else if 2147483648 ≤ b then b - 2147483648 else b + 2147483648
def next3 (b : Int) : Int := if cl3 b = 4 then nan3 else if b = inf3 then b else if rg3 b = 0 then 1 else if 2147483648 < b then b - 1 else b + 1
def prev3 (b : Int) : Int := neg3 (next3 (neg3 b))

theorem pt3_of {b : Int} (h : cl3 b ≠ 4) : pt3 b = b ∧ 0 ≤ b ∧ b < 4294967296 := by
  unfold pt3
  cases k : ok32 b
  · exact absurd (by unfold cl3; rw [k]; rfl) h
  · have : 0 ≤ b ∧ b < 4294967296 := by unfold ok32 at k; simpa using k
    exact ⟨rfl, this⟩

theorem wd3_of {b : Int} (h : cl3 b ≠ 4) : wd3 b = b.toNat := by rw [wd3_pt, (pt3_of h).1]

theorem cl3_nan' {b : Int} (h0 : 0 ≤ b) (h1 : b < 4294967296) : cl3 b = 4 ↔ inf3 < rg3 b := by
  rw [cl3_eq h0 h1]; unfold inf3; repeat' split
  all_goals omega

theorem xor_pow (k x : Nat) (h : x < 2 ^ (k + 1)) : x ^^^ 2 ^ k = if x < 2 ^ k then x + 2 ^ k else x - 2 ^ k := by
  rw [Nat.pow_succ] at h
  by_cases c : x < 2 ^ k
  · rw [if_pos c]
    have := Nat.two_pow_add_eq_or_of_lt c 1
    have e : x ^^^ 2 ^ k = x ||| 2 ^ k := by
      apply Nat.eq_of_testBit_eq
      intro i
      simp only [Nat.testBit_xor, Nat.testBit_or, Nat.testBit_two_pow]
      by_cases hi : k = i
      · subst hi; simp [Nat.testBit_lt_two_pow c]
      · simp [hi]
    rw [e, Nat.or_comm]
    simpa [Nat.add_comm] using this.symm
  · rw [if_neg c]
    obtain ⟨y, rfl⟩ : ∃ y, x = 2 ^ k + y := ⟨x - 2 ^ k, by omega⟩
    have hy : y < 2 ^ k := by omega
    have e1 : 2 ^ k + y = 2 ^ k ||| y := by
      have := Nat.two_pow_add_eq_or_of_lt hy 1
      simpa using this
    rw [Nat.add_sub_cancel_left]
    apply Nat.eq_of_testBit_eq
    intro i
    rw [e1]
    simp only [Nat.testBit_xor, Nat.testBit_or, Nat.testBit_two_pow]
    by_cases hi : k = i
    · subst hi; simp [Nat.testBit_lt_two_pow hy]
    · simp [hi]

def flip3 (c : Int) : Int := if 2147483648 ≤ c then c - 2147483648 else c + 2147483648

theorem flip3_bd {c : Int} (h0 : 0 ≤ c) (h1 : c < 4294967296) : 0 ≤ flip3 c ∧ flip3 c < 4294967296 ∧ rg3 (flip3 c) = rg3 c := by
  unfold flip3 rg3; split <;> omega

theorem negw3 (b : Int) : Op.negFloat .f32 (wd3 b) = wd3 (flip3 (pt3 b)) := by
  have h := pt3_ok b
  have f := flip3_bd h.1 h.2
  rw [wd3_pt b]
  generalize pt3 b = c at *
  unfold wd3
  rw [ok32_of f.1 f.2.1]
  show c.toNat ^^^ 2 ^ 31 = (flip3 c).toNat
  rw [xor_pow 31 _ (by omega)]
  unfold flip3
  split <;> split <;> omega

theorem cl3_flip (b : Int) : cl3 (flip3 (pt3 b)) = cl3 b := by
  have h := pt3_ok b
  have f := flip3_bd h.1 h.2
  rw [← cl3_pt b, cl3_eq f.1 f.2.1, cl3_eq h.1 h.2, f.2.2]

theorem ofS_neg (b : Int) : Go.Proofs.YtgmebioogkmfgaaGreatDoor.ofS (Op.negFloat .f32 (wd3 b)) = neg3 b := by
  rw [negw3, Go.Proofs.YtgmebioogkmfgaaGreatDoor.ofS_wd]
  unfold told3 neg3
  rw [cl3_flip]
  by_cases c : cl3 b = 4
  · rw [if_pos c, if_pos c]
  · rw [if_neg c, if_neg c, (pt3_of c).1]; rfl

theorem neg364 (b : Int) : I64 (neg3 b) ∧ (cl3 b ≠ 4 → cl3 (neg3 b) ≠ 4) := by
  unfold neg3
  by_cases c : cl3 b = 4
  · rw [if_pos c]; exact ⟨by unfold I64 nan3; omega, fun h => absurd c h⟩
  · rw [if_neg c]
    have h := pt3_of c
    have e := cl3_flip b
    rw [h.1] at e
    unfold flip3 at e
    refine ⟨by unfold I64; split <;> omega, fun _ => by rw [e]; exact c⟩

theorem next364 (b : Int) : I64 (next3 b) := by
  unfold next3
  by_cases c : cl3 b = 4
  · rw [if_pos c]; unfold I64 nan3; omega
  · rw [if_neg c]
    have h := pt3_of c
    unfold I64 inf3 rg3
    repeat' split
    all_goals omega

/-! ### A binary32 is a binary64 -/
theorem single_up (s : Bool) {r : Nat} (h : r < Ieee.single.infRung) : ∃ u, u < Ieee.double.infRung ∧ Ieee.double.At (Ieee.single.mg r) (Ieee.single.leastPlace + Ieee.single.up r) u ∧
    floatToFloatBits .f32 (Ieee.single.word s r) .f64 = some (Ieee.double.word s u) := by
  have hm := Ieee.single.mg_lt r
  have hu : Ieee.single.up r ≤ 253 := by
    unfold Ieee.Format.up
    rw [infRung3_eq] at h
    rw [binade3_eq]
    omega
  rw [binade3_eq] at hm
  obtain ⟨u, h1, h2⟩ := Ieee.double.at_make (m := Ieee.single.mg r) (p := Ieee.single.leastPlace + Ieee.single.up r) (by rw [binade_eq]; omega) (by rw [least3_eq, least_eq]; omega)
    (by rw [least3_eq, least_eq, binade_eq, infRung_eq]; omega)
  refine ⟨u, h1, h2, ?_⟩
  have e : FloatKind.f64.encode (.number s (Ieee.single.mg r) (Ieee.single.leastPlace + Ieee.single.up r)) = Ieee.double.word s u := Ieee.double.nearest_at s h1 h2
  unfold floatToFloatBits
  rw [if_neg (by decide), show FloatKind.f32.decode (Ieee.single.word s r) = _ from Ieee.single.read_word s h]
  simp only
  rw [e, show FloatKind.f64.decode (Ieee.double.word s u) = _ from Ieee.double.read_word s h1]
  rfl

theorem inf_up (s : Bool) : floatToFloatBits .f32 (Ieee.single.word s Ieee.single.infRung) .f64 = some (Ieee.double.word s Ieee.double.infRung) := by
  unfold floatToFloatBits
  rw [if_neg (by decide), show FloatKind.f32.decode (Ieee.single.word s Ieee.single.infRung) = _ from Ieee.single.read_inf (by decide) s]
  rfl

theorem word_self (s : Bool) {u : Nat} (h : u ≤ Ieee.double.infRung) : (FloatKind.f64.format.order (Ieee.double.word s u) (Ieee.double.word s u) != some .eq) = false := by
  rw [show FloatKind.f64.format = Ieee.double from rfl, Ieee.double.order_words (by decide) s s h h, Int.compare_eq_eq.2 rfl]; rfl

theorem up_ok {b : Int} (n : cl3 b ≠ 4) : ∃ z, floatToFloatBits .f32 (wd3 b) .f64 = some z ∧ (FloatKind.f64.format.order z z != some .eq) = false := by
  have h1 : ¬ inf3 < rg3 (pt3 b) := fun h => n ((cl3_nan b).2 h)
  have h2 := rg3_bd (pt3 b)
  unfold inf3 at h1
  rw [wd3_word]
  by_cases c : rg3 (pt3 b) < 2139095040
  · obtain ⟨u, g1, _, g3⟩ := single_up (decide (2147483648 ≤ pt3 b)) (r := (rg3 (pt3 b)).toNat) (by rw [infRung3_eq]; omega)
    exact ⟨_, g3, word_self _ (by omega)⟩
  · have e : (rg3 (pt3 b)).toNat = Ieee.single.infRung := by rw [infRung3_eq]; omega
    rw [e]
    exact ⟨_, inf_up _, word_self _ (Nat.le_refl _)⟩

theorem up_nan {b : Int} (n : cl3 b = 4) : ∃ s t, FloatKind.f32.decode (wd3 b) = .nan s t := by
  have c1 := (cl3_nan b).1 n
  have h2 := rg3_bd (pt3 b)
  unfold inf3 at c1
  rw [wd3_word]
  exact ⟨_, _, Ieee.single.read_nan (by decide) _ (by rw [infRung3_eq]; omega) (by rw [signWeight3_eq]; omega)⟩

/-! ### '+ 0' -/
theorem add_zero {b : Int} (h : I64 b) (n : cl b ≠ 4) : floatBits .add .f64 (wd b) 0 = some (wd (canon b)) := by
  have h1 : ¬ inf < rg b := fun e => n ((cl_nan b).2 e)
  have h2 := rg_bd b
  unfold inf at h1
  have r0 : Ieee.double.read 0 = .number false 0 (-1074) := by decide
  show Ieee.double.add (wd b) 0 = _
  unfold Ieee.Format.add
  rw [r0]
  by_cases c : rg b < 9218868437227405312
  · rw [wd_word h, Ieee.double.read_word _ (by rw [infRung_eq]; omega)]
    unfold Ieee.Datum.sum
    simp only [Option.map_some, Option.some.injEq]
    rw [least_eq, show min ((-1074 : Int) + (Ieee.double.up (rg b).toNat : Int)) (-1074) = -1074 by omega]
    have e1 : Ieee.signed (decide (b < 0)) (Ieee.double.mg (rg b).toNat) ((-1074 : Int) + (Ieee.double.up (rg b).toNat : Int) - -1074).toNat + Ieee.signed false 0 ((-1074 : Int) - -1074).toNat = if b < 0 then -(Ieee.double.val (rg b).toNat : Int) else Ieee.double.val (rg b).toNat := by
      rw [show ((-1074 : Int) + (Ieee.double.up (rg b).toNat : Int) - -1074).toNat = Ieee.double.up (rg b).toNat by omega]
      unfold Ieee.signed Ieee.Format.val
      simp only [Nat.shiftLeft_eq]
      by_cases hb : b < 0 <;> simp [hb]
    rw [e1]
    by_cases z : rg b = 0
    · have hz : canon b = 0 := by unfold canon; rw [if_pos ((cl_zero b).2 z)]
      rw [z, hz, wd_zero, show Ieee.double.val (0 : Int).toNat = 0 from Ieee.double.val_zero]
      simp only [Int.natCast_zero, Int.neg_zero, ite_self, if_true, Int.natAbs_zero, Bool.and_false]
      exact Ieee.double.nearest_zero _ _
    · have hz : canon b = b := by unfold canon; rw [if_neg (fun e => z ((cl_zero b).1 e)), if_neg n]
      have hv := Ieee.double.val_pos (r := (rg b).toNat) (by omega)
      rw [hz, wd_word h]
      have e2 : (if b < 0 then -(Ieee.double.val (rg b).toNat : Int) else (Ieee.double.val (rg b).toNat : Int)).natAbs = Ieee.double.val (rg b).toNat := by split <;> omega
      rw [e2, if_neg (by split <;> omega)]
      have e3 : decide ((if b < 0 then -(Ieee.double.val (rg b).toNat : Int) else (Ieee.double.val (rg b).toNat : Int)) < 0) = decide (b < 0) := by
        by_cases hb : b < 0
        · rw [if_pos hb, decide_eq_true hb, decide_eq_true (by omega)]
        · rw [if_neg hb, decide_eq_false hb, decide_eq_false (by omega)]
      rw [e3]
      exact Ieee.double.nearest_at _ (by rw [infRung_eq]; omega) (by have := Ieee.double.at_val (rg b).toNat; rw [least_eq] at this; exact this)
  · have e : (rg b).toNat = Ieee.double.infRung := by rw [infRung_eq]; omega
    have hz : canon b = b := by unfold canon; rw [if_neg (fun e => by have := (cl_zero b).1 e; omega), if_neg n]
    rw [hz, wd_word h, e, Ieee.double.read_inf (by decide)]
    rfl

end Go.Pt
namespace Go.Proofs.YtgmebioogkmfgaaGreatDoor
open Go.RowKit Go.Pt

@[go_sem] theorem unary_negFloat (k : FloatKind) (b : Nat) : Op.unary .neg (.float k b) = pure (.float k (Op.negFloat k b)) := rfl

attribute [local go_sem] and_2047 and_frac and_255 and_frac3 and_one or_frac or_frac3

theorem ofD_nan {x : Nat} (h : (FloatKind.f64.format.order x x != some .eq) = true) : ofD x = nan := by unfold ofD; rw [if_pos h]
theorem ofS_nan {x : Nat} (h : (FloatKind.f32.format.order x x != some .eq) = true) : ofS x = nan3 := by unfold ofS; rw [if_pos h]

theorem run_add_nan (t : TypeId) (x y : Nat) (h : FloatKind.f64.format.add x y = none) (w : World) :
    (binOp .add t (.float .f64 x) (.float .f64 y)).run Tryz.prog w = .ok (.float .f64 ((Question.nanBits .f64 x y).cut (w.tape w.drawn (Question.nanBits .f64 x y)))) w.drew := by
  simp [binOp, Op.floatArith, h, Question.forced]

def Nx3 (b : Int) (w : World) (e : Ending) (w' : World) : Prop := ∃ x, e = .returned (.float .f32 x) ∧ ofS x = next3 b ∧ Grown w w'

theorem ord3_inf {b : Int} (n : cl3 b ≠ 4) : FloatKind.f32.format.order (wd3 b) 2139095040 = some (compare (key3 b) 2139095040) := by
  have := ord3_fin (a := b) (b := 2139095040) n (by decide)
  rw [(pt3_of n).1] at this
  exact this
theorem ord3_inf' {b : Int} (n : cl3 b ≠ 4) : FloatKind.f32.format.order 2139095040 (wd3 b) = some (compare 2139095040 (key3 b)) := by
  have := ord3_fin (a := 2139095040) (b := b) (by decide) n
  rw [(pt3_of n).1] at this
  exact this
theorem ord3_zero {b : Int} (n : cl3 b ≠ 4) : FloatKind.f32.format.order (wd3 b) 0 = some (compare (key3 b) 0) := by
  have := ord3_fin (a := b) (b := 0) n (by decide)
  rw [(pt3_of n).1] at this
  exact this

theorem key3_bd {b : Int} (n : cl3 b ≠ 4) : key3 b ≤ 2139095040 := by
  have h := pt3_of n
  have h1 : ¬ inf3 < rg3 b := fun e => n ((cl3_nan' h.2.1 h.2.2).2 e)
  unfold inf3 at h1
  unfold key3
  have := rg3_bd b
  split <;> omega

theorem copysign_small (w : World) :
    Calls Tryz.prog 65 #[.float .f64 3936146074321813504, .float .f64 9218868437227405312] w fun e w' => e = .returned (.float .f64 3936146074321813504) ∧ w = w' := by
  go_enter Tryz.func65, Tryz.ntmps65
  go_wp2
  go_ret
  exact ⟨rf (by decide), rfl⟩

theorem up3_one {b : Int} (n : cl3 b ≠ 4) (h0 : 0 < key3 b) (h1 : key3 b < 2139095040) : (IntKind.u32.wrap ((wd3 b : Nat) + 1)).toNat = wd3 (next3 b) ∧ cl3 (next3 b) ≠ 4 := by
  have h := pt3_of n
  have e : next3 b = b + 1 := by
    unfold next3 inf3
    unfold key3 rg3 at h0 h1
    unfold rg3
    rw [if_neg n]
    split at h0 <;> rw [if_neg (by omega), if_neg (by omega), if_neg (by omega)]
  unfold key3 rg3 at h0 h1
  rw [e, wd3_of n]
  have c : cl3 (b + 1) ≠ 4 := by
    intro k
    have := (cl3_nan' (b := b + 1) (by omega) (by split at h0 <;> omega)).1 k
    unfold inf3 rg3 at this
    split at h0 <;> omega
  rw [wd3_of c]
  refine ⟨?_, c⟩
  simp only [IntKind.wrap, IntKind.bits, IntKind.signed]
  split at h0 <;> simp <;> omega

theorem down3_one {b : Int} (n : cl3 b ≠ 4) (h0 : key3 b < 0) : (IntKind.u32.wrap ((wd3 b : Nat) - 1)).toNat = wd3 (next3 b) ∧ cl3 (next3 b) ≠ 4 := by
  have h := pt3_of n
  have h1 : ¬ inf3 < rg3 b := fun e => n ((cl3_nan' h.2.1 h.2.2).2 e)
  have e : next3 b = b - 1 := by
    unfold next3 inf3
    unfold key3 rg3 at h0
    unfold rg3
    rw [if_neg n]
    split at h0 <;> rw [if_neg (by omega), if_neg (by omega), if_pos (by omega)]
  unfold inf3 at h1
  unfold key3 rg3 at h0
  rw [e, wd3_of n]
  have c : cl3 (b - 1) ≠ 4 := by
    intro k
    have := (cl3_nan' (b := b - 1) (by split at h0 <;> omega) (by omega)).1 k
    unfold inf3 rg3 at this
    unfold rg3 at h1
    split at h0 <;> omega
  rw [wd3_of c]
  refine ⟨?_, c⟩
  simp only [IntKind.wrap, IntKind.bits, IntKind.signed]
  split at h0 <;> simp <;> omega

theorem ofS_next {b : Int} (n : cl3 (next3 b) ≠ 4) : ofS (wd3 (next3 b)) = next3 b := by
  rw [ofS_wd]; unfold told3; rw [if_neg n]

end Go.Proofs.YtgmebioogkmfgaaGreatDoor

namespace Go.Pt

theorem ord_pos {r u : Nat} (hr : r ≤ 9218868437227405312) (hu : u ≤ 9218868437227405312) : FloatKind.f64.format.order r u = some (compare (r : Int) u) :=
  Ieee.double.order_words (by decide) false false (by rw [infRung_eq]; exact hr) (by rw [infRung_eq]; exact hu)

theorem toNat_ofNat64 {x : Nat} (h : x < 18446744073709551616) : (BitVec.ofInt 64 (x : Int)).toNat = x := by
  rw [BitVec.ofInt_natCast, BitVec.toNat_ofNat]; exact Nat.mod_eq_of_lt (by omega)

theorem wrap_u64_of {x : Int} (h0 : 0 ≤ x) (h : x < 18446744073709551616) : IntKind.u64.wrap x = x := by
  rw [IntKind.wrap_u64]; omega

theorem andNot_abs {r : Nat} (h : r < 9223372036854775808) : bits .andNot .u64 (r : Int) 9223372036854775808 = r := by
  have e : (~~~ (BitVec.ofInt 64 9223372036854775808)).toNat = 2 ^ 63 - 1 := by decide
  show IntKind.u64.wrap ((BitVec.ofInt 64 (r : Int) &&& ~~~ (BitVec.ofInt 64 9223372036854775808)).toNat : Int) = _
  rw [BitVec.toNat_and, e, Nat.and_two_pow_sub_one_eq_mod, toNat_ofNat64 (by omega), Nat.mod_eq_of_lt (by omega)]
  exact wrap_u64_of (by omega) (by omega)

theorem andNot_field {r : Nat} (h : r < 9223372036854775808) : bits .andNot .u64 (r : Int) 9218868437227405312 = ((r % 4503599627370496 : Nat) : Int) := by
  have e : (~~~ (BitVec.ofInt 64 9218868437227405312)).toNat = 2 ^ 63 ||| (2 ^ 52 - 1) := by decide
  show IntKind.u64.wrap ((BitVec.ofInt 64 (r : Int) &&& ~~~ (BitVec.ofInt 64 9218868437227405312)).toNat : Int) = _
  have k : r &&& (2 ^ 63 ||| (2 ^ 52 - 1)) = r % 2 ^ 52 := by
    apply Nat.eq_of_testBit_eq
    intro i
    rw [Nat.testBit_and, Nat.testBit_or, Nat.testBit_two_pow, Nat.testBit_two_pow_sub_one, Nat.testBit_mod_two_pow]
    by_cases hi : 63 = i
    · subst hi; rw [Nat.testBit_lt_two_pow (show r < 2 ^ 63 by omega)]; simp
    · simp [hi, Bool.and_comm]
  rw [BitVec.toNat_and, e, toNat_ofNat64 (by omega), k]
  exact wrap_u64_of (by omega) (by omega)

theorem or_field {t q : Nat} (ht : t < 4503599627370496) (hq : q < 2048) : bits .or .u64 (t : Int) ((q * 4503599627370496 : Nat) : Int) = ((q * 4503599627370496 + t : Nat) : Int) := by
  show IntKind.u64.wrap ((BitVec.ofInt 64 (t : Int) ||| BitVec.ofInt 64 ((q * 4503599627370496 : Nat) : Int)).toNat : Int) = _
  have k := Nat.two_pow_add_eq_or_of_lt (show t < 2 ^ 52 by omega) q
  rw [BitVec.toNat_or, toNat_ofNat64 (by omega), toNat_ofNat64 (by omega), Nat.or_comm, show q * 4503599627370496 = 2 ^ 52 * q by omega, ← k]
  exact wrap_u64_of (by omega) (by omega)

theorem and_abs {r : Nat} (h : r < 9223372036854775808) : bits .and .u64 (r : Int) 9223372036854775808 = 0 := by
  show IntKind.u64.wrap ((BitVec.ofInt 64 (r : Int) &&& BitVec.ofInt 64 9223372036854775808).toNat : Int) = _
  have k : r &&& 2 ^ 63 = 0 := by
    apply Nat.eq_of_testBit_eq
    intro i
    rw [Nat.testBit_and, Nat.testBit_two_pow]
    by_cases hi : 63 = i
    · subst hi; rw [Nat.testBit_lt_two_pow (show r < 2 ^ 63 by omega)]; simp
    · simp [hi]
  rw [BitVec.toNat_and, toNat_ofNat64 (by omega), show (BitVec.ofInt 64 9223372036854775808).toNat = 2 ^ 63 by decide, k]
  exact wrap_u64_of (by omega) (by omega)

/-- What Ldexp owes: the number, where there is one. -/
def LdOK (r : Nat) (e : Int) (z : Nat) : Prop := z ≤ 9218868437227405312 ∧ ∀ u, u < 9218868437227405312 → Ieee.double.At (Ieee.double.mg r) (-1074 + Ieee.double.up r + e) u → z = u

theorem up_of {r : Nat} (h : 4503599627370496 ≤ r) : (Ieee.double.up r : Int) = (r : Int) / 4503599627370496 - 1 := by
  unfold Ieee.Format.up; rw [binade_eq]; omega
theorem mg_of {r : Nat} (h : 4503599627370496 ≤ r) : Ieee.double.mg r = 4503599627370496 + r % 4503599627370496 := by
  unfold Ieee.Format.mg; rw [binade_eq, if_neg (by omega)]

theorem mul_pow {o : Nat} {c : Int} (h : Ieee.double.read o = .number false 4503599627370496 c) {x : Nat} (hx : x < 9218868437227405312) :
    floatBits .mul .f64 o x = some (Ieee.double.nearest false (4503599627370496 * Ieee.double.mg x) (c + (-1074 + Ieee.double.up x))) := by
  show Ieee.double.mul o x = _
  unfold Ieee.Format.mul
  rw [h, show x = Ieee.double.word false x from rfl, Ieee.double.read_word false (by rw [infRung_eq]; exact hx)]
  rfl

theorem nearest_le_inf (f : Ieee.Format) (m : Nat) (p : Int) : f.nearest false m p ≤ f.infRung := by
  unfold Ieee.Format.nearest
  split
  · exact Nat.zero_le _
  · exact Nat.min_le_right _ _
theorem nearest_le (m : Nat) (p : Int) : Ieee.double.nearest false m p ≤ 9218868437227405312 := by
  have h := nearest_le_inf Ieee.double m p
  rw [infRung_eq] at h
  exact h

theorem deq_52 (m : Nat) (p : Int) : Ieee.Deq (4503599627370496 * m) p m (p + 52) := by
  have e : (4503599627370496 : Nat) = 2 ^ 52 := by decide
  rw [e, Nat.mul_comm]
  exact Ieee.Deq.shift m 52 p

/-- The product by a power of 2, where it is a number of the format. -/
theorem mul_ld {o : Nat} {c : Int} (h : Ieee.double.read o = .number false 4503599627370496 c) {x r : Nat} {e : Int} (hx : x < 9218868437227405312)
    (hm : Ieee.double.mg x = Ieee.double.mg r) (hp : c + 52 + Ieee.double.up x = Ieee.double.up r + e) :
    ∃ z, floatBits .mul .f64 o x = some z ∧ LdOK r e z := by
  refine ⟨_, mul_pow h hx, nearest_le _ _, fun u hu ha => ?_⟩
  have g : Ieee.double.At (4503599627370496 * Ieee.double.mg x) (c + (-1074 + Ieee.double.up x)) u := by
    unfold Ieee.Format.At at *
    refine (deq_52 _ _).trans ?_
    rw [hm, show c + (-1074 + (Ieee.double.up x : Int)) + 52 = -1074 + Ieee.double.up r + e by omega]
    exact ha
  exact Ieee.double.nearest_at false (by rw [infRung_eq]; exact hu) g

theorem read_one : Ieee.double.read 4607182418800017408 = .number false 4503599627370496 (-52) := by decide
theorem read_tiny : Ieee.double.read 4368491638549381120 = .number false 4503599627370496 (-105) := by decide

theorem ld_under {r : Nat} {e : Int} (hr : 4503599627370496 ≤ r) (h : (r : Int) / 4503599627370496 - 1023 + e < -1075) : LdOK r e 0 := by
  refine ⟨by omega, fun u _ ha => ?_⟩
  exfalso
  obtain ⟨a, c, h1, h2⟩ := ha
  have hu := up_of hr
  have hm := mg_of hr
  rw [least_eq] at h2
  have hc : a + 54 ≤ c := by omega
  obtain ⟨d, rfl⟩ : ∃ d, c = 54 + d + a := ⟨c - a - 54, by omega⟩
  rw [Nat.pow_add, ← Nat.mul_assoc] at h1
  have h3 := Nat.eq_of_mul_eq_mul_right (Nat.two_pow_pos a) h1
  rw [Nat.pow_add] at h3
  have hd := Nat.two_pow_pos d
  by_cases z : Ieee.double.mg u = 0
  · rw [z, Nat.zero_mul] at h3; omega
  · have k1 : 2 ^ 54 * 1 ≤ 2 ^ 54 * 2 ^ d := Nat.mul_le_mul_left _ hd
    have k2 : 1 * (2 ^ 54 * 2 ^ d) ≤ Ieee.double.mg u * (2 ^ 54 * 2 ^ d) := Nat.mul_le_mul_right _ (by omega)
    omega

theorem ld_over {r : Nat} {e : Int} (hr : 4503599627370496 ≤ r) (h : 1023 < (r : Int) / 4503599627370496 - 1023 + e) : LdOK r e 9218868437227405312 := by
  refine ⟨Nat.le_refl _, fun u hu0 ha => ?_⟩
  exfalso
  obtain ⟨a, c, h1, h2⟩ := ha
  have hu := up_of hr
  have hm := mg_of hr
  have hl := Ieee.double.mg_lt u
  rw [least_eq] at h2
  rw [binade_eq] at hl
  have k : Ieee.double.up u ≤ 2045 := by unfold Ieee.Format.up; rw [binade_eq]; omega
  have hc : c + 1 ≤ a := by omega
  obtain ⟨d, rfl⟩ : ∃ d, a = 1 + d + c := ⟨a - c - 1, by omega⟩
  rw [Nat.pow_add, ← Nat.mul_assoc] at h1
  have h3 := Nat.eq_of_mul_eq_mul_right (Nat.two_pow_pos c) h1
  rw [Nat.pow_add] at h3
  have hd := Nat.two_pow_pos d
  have k1 : 2 ^ 1 * 1 ≤ 2 ^ 1 * 2 ^ d := Nat.mul_le_mul_left _ hd
  have k2 : Ieee.double.mg r * 2 ≤ Ieee.double.mg r * (2 ^ 1 * 2 ^ d) := Nat.mul_le_mul_left _ (by omega)
  omega

theorem ld_mid {r : Nat} {e : Int} (hr : 4503599627370496 ≤ r) (h1 : -1022 ≤ (r : Int) / 4503599627370496 - 1023 + e) (h2 : (r : Int) / 4503599627370496 - 1023 + e ≤ 1023) :
    ∃ z, floatBits .mul .f64 4607182418800017408 (bits .or .u64 ((r : Int) % 4503599627370496) ((e + ((r : Int) / 4503599627370496 - 1023) + 1023) * 4503599627370496)).toNat = some z ∧ LdOK r e z := by
  obtain ⟨q, hq⟩ := Int.eq_ofNat_of_zero_le (show 0 ≤ e + ((r : Int) / 4503599627370496 - 1023) + 1023 by omega)
  have hq1 : 1 ≤ q := by omega
  have hq2 : q ≤ 2046 := by omega
  have hb : bits .or .u64 ((r : Int) % 4503599627370496) ((q : Int) * 4503599627370496) = ((q * 4503599627370496 + r % 4503599627370496 : Nat) : Int) := by
    have := or_field (t := r % 4503599627370496) (q := q) (by omega) (by omega)
    rw [show (r : Int) % 4503599627370496 = ((r % 4503599627370496 : Nat) : Int) by omega, show (q : Int) * 4503599627370496 = ((q * 4503599627370496 : Nat) : Int) by omega]
    exact this
  rw [hq, hb, Int.toNat_natCast]
  have n := Ieee.double.norm_rung (m := 4503599627370496 + r % 4503599627370496) (q := q - 1) (by rw [binade_eq]; omega) (Or.inl (by rw [binade_eq]; omega))
  rw [binade_eq, show (q - 1) * 4503599627370496 + (4503599627370496 + r % 4503599627370496) = q * 4503599627370496 + r % 4503599627370496 by omega] at n
  have hu := up_of hr
  exact mul_ld read_one (by omega) (by rw [n.1, mg_of hr]) (by rw [n.2]; omega)

theorem ld_low {r : Nat} {e : Int} (hr : 4503599627370496 ≤ r) (h1 : -1075 ≤ (r : Int) / 4503599627370496 - 1023 + e) (h2 : (r : Int) / 4503599627370496 - 1023 + e < -1022) :
    ∃ z, floatBits .mul .f64 4368491638549381120 (bits .or .u64 ((r : Int) % 4503599627370496) ((e + ((r : Int) / 4503599627370496 - 1023) + 53 + 1023) * 4503599627370496)).toNat = some z ∧ LdOK r e z := by
  obtain ⟨q, hq⟩ := Int.eq_ofNat_of_zero_le (show 0 ≤ e + ((r : Int) / 4503599627370496 - 1023) + 53 + 1023 by omega)
  have hq1 : 1 ≤ q := by omega
  have hq2 : q ≤ 2046 := by omega
  have hb : bits .or .u64 ((r : Int) % 4503599627370496) ((q : Int) * 4503599627370496) = ((q * 4503599627370496 + r % 4503599627370496 : Nat) : Int) := by
    have := or_field (t := r % 4503599627370496) (q := q) (by omega) (by omega)
    rw [show (r : Int) % 4503599627370496 = ((r % 4503599627370496 : Nat) : Int) by omega, show (q : Int) * 4503599627370496 = ((q * 4503599627370496 : Nat) : Int) by omega]
    exact this
  rw [hq, hb, Int.toNat_natCast]
  have n := Ieee.double.norm_rung (m := 4503599627370496 + r % 4503599627370496) (q := q - 1) (by rw [binade_eq]; omega) (Or.inl (by rw [binade_eq]; omega))
  rw [binade_eq, show (q - 1) * 4503599627370496 + (4503599627370496 + r % 4503599627370496) = q * 4503599627370496 + r % 4503599627370496 by omega] at n
  have hu := up_of hr
  exact mul_ld read_tiny (by omega) (by rw [n.1, mg_of hr]) (by rw [n.2]; omega)

end Go.Pt
namespace Go.Proofs.YtgmebioogkmfgaaGreatDoor
open Go.RowKit Go.Pt
attribute [local go_sem] and_2047 and_frac and_255 and_frac3 and_one or_frac or_frac3

set_option maxHeartbeats 400000 in
theorem absF_any (r : Nat) (h : r < 9223372036854775808) (w : World) :
    Calls Tryz.prog 105 #[.float .f64 r] w fun e w' => e = .returned (.float .f64 r) ∧ w = w' := by
  go_enter Tryz.func105, Tryz.ntmps105
  go_wp2
  go_ret
  exact ⟨rf (by rw [andNot_abs h]; rfl), rfl⟩

set_option maxHeartbeats 400000 in
theorem isInf_fin (r : Nat) (hr : r < 9218868437227405312) (w : World) :
    Calls Tryz.prog 83 #[.float .f64 r, .int .i64 0] w fun e w' => e = .returned (.bool false) ∧ w = w' := by
  have h := absF_any r (by omega)
  have o : (FloatKind.f64.format.order r 9218868437227405311 == some .gt) = false := by
    rw [ord_pos (by omega) (by omega), cmp_gt]; exact decide_eq_false (by omega)
  have HO := Lib.hid o; clear o
  go_enter Tryz.func83, Tryz.ntmps83
  go_wp2_with (go_at_call 105; refine (h _).mono ?_; rintro e w' ⟨rfl, rfl⟩)
  go_ret
  exact ⟨rb HO.out, rfl⟩

set_option maxHeartbeats 400000 in
theorem isInf_inf (w : World) :
    Calls Tryz.prog 83 #[.float .f64 9218868437227405312, .int .i64 0] w fun e w' => e = .returned (.bool true) ∧ w = w' := by
  have h := absF_any 9218868437227405312 (by omega)
  have o : (FloatKind.f64.format.order 9218868437227405312 9218868437227405311 == some .gt) = true := by
    rw [ord_pos (by omega) (by omega), cmp_gt]; exact decide_eq_true (by omega)
  have HO := Lib.hid o; clear o
  go_enter Tryz.func83, Tryz.ntmps83
  go_wp2_with (go_at_call 105; refine (h _).mono ?_; rintro e w' ⟨rfl, rfl⟩)
  go_ret
  exact ⟨rb HO.out, rfl⟩

theorem rtfi {a a' : Nat} {b b' : Int} (h1 : a = a') (h2 : b = b') : Ending.returned (.tuple #[.float .f64 a, .int .i64 b]) = .returned (.tuple #[.float .f64 a', .int .i64 b']) := by rw [h1, h2]

set_option maxHeartbeats 400000 in
theorem normalize_any (r : Nat) (hr : 4503599627370496 ≤ r) (hr2 : r < 9218868437227405312) (w : World) :
    Calls Tryz.prog 103 #[.float .f64 r] w fun e w' => e = .returned (.tuple #[.float .f64 r, .int .i64 0]) ∧ w = w' := by
  have h := absF_any r (by omega)
  have o : (FloatKind.f64.format.order r 4503599627370496 == some .lt) = false := by
    rw [ord_pos (by omega) (by omega), cmp_lt]; exact decide_eq_false (by omega)
  go_enter Tryz.func103, Tryz.ntmps103
  go_wp2_with (go_at_call 105; refine (h _).mono ?_; rintro e w' ⟨rfl, rfl⟩)
  go_ret2
  exact ⟨rfl, rfl⟩

theorem isN_pos {r : Nat} (h : r ≤ 9218868437227405312) : isN r = false := by
  unfold isN; rw [ord_pos h h, Int.compare_eq_eq.2 rfl]; rfl

theorem copysign_zero (r : Nat) (h : r < 9223372036854775808) (w : World) :
    Calls Tryz.prog 65 #[.float .f64 0, .float .f64 r] w fun e w' => e = .returned (.float .f64 0) ∧ w = w' := by
  go_enter Tryz.func65, Tryz.ntmps65
  go_wp2
  go_ret
  exact ⟨rf (by rw [and_abs h]; decide), rfl⟩

def Ld (r : Nat) (e : Int) (w : World) (en : Ending) (w' : World) : Prop := ∃ z, en = .returned (.float .f64 z) ∧ LdOK r e z ∧ w = w'

set_option maxHeartbeats 1000000 in
theorem ldexp_any (r : Nat) (e : Int) (hr : 4503599627370496 ≤ r) (hr2 : r < 9218868437227405312) (he : -3000 ≤ e) (he2 : e ≤ 3000) (w : World) :
    Calls Tryz.prog 82 #[.float .f64 r, .int .i64 e] w (Ld r e w) := by
  have o : FloatKind.f64.format.order r 0 = some .gt := by rw [ord_pos (by omega) (by omega), Int.compare_eq_gt.2 (by omega)]
  have i := isN_pos (r := r) (by omega)
  have A := andNot_field (r := r) (by omega)
  have m1 : (r : Int) / 4503599627370496 % 2048 = (r : Int) / 4503599627370496 := by omega
  by_cases c1 : e + ((r : Int) / 4503599627370496 - 1023) < -1075
  · have F := ld_under (r := r) (e := e) hr (by omega)
    have HF := Lib.hid F; clear F
    go_enter Tryz.func82, Tryz.ntmps82
    go_wp2_with (first | (go_at_call 83; refine (isInf_fin _ (by omega) _).mono ?_; rintro e w' ⟨rfl, rfl⟩) | (go_at_call 102; refine (isNaN_any _ _).mono ?_; rintro e w' ⟨rfl, rfl⟩) | (go_at_call 103; refine (normalize_any _ (by omega) (by omega) _).mono ?_; rintro e w' ⟨rfl, rfl⟩) | (go_at_call 65; refine (copysign_zero _ (by omega) _).mono ?_; rintro e w' ⟨rfl, rfl⟩) | (go_at_call 104; refine (inf_one _).mono ?_; rintro e w' ⟨rfl, rfl⟩))
    go_ret
    exact ⟨_, rfl, HF.out, rfl⟩
  · by_cases c2 : 1023 < e + ((r : Int) / 4503599627370496 - 1023)
    · have F := ld_over (r := r) (e := e) hr (by omega)
      have HF := Lib.hid F; clear F
      go_enter Tryz.func82, Tryz.ntmps82
      go_wp2_with (first | (go_at_call 83; refine (isInf_fin _ (by omega) _).mono ?_; rintro e w' ⟨rfl, rfl⟩) | (go_at_call 102; refine (isNaN_any _ _).mono ?_; rintro e w' ⟨rfl, rfl⟩) | (go_at_call 103; refine (normalize_any _ (by omega) (by omega) _).mono ?_; rintro e w' ⟨rfl, rfl⟩) | (go_at_call 65; refine (copysign_zero _ (by omega) _).mono ?_; rintro e w' ⟨rfl, rfl⟩) | (go_at_call 104; refine (inf_one _).mono ?_; rintro e w' ⟨rfl, rfl⟩))
      go_ret
      exact ⟨_, rfl, HF.out, rfl⟩
    · by_cases c3 : -1022 ≤ e + ((r : Int) / 4503599627370496 - 1023)
      · obtain ⟨z, F1, F2⟩ := ld_mid (r := r) (e := e) hr (by omega) (by omega)
        have hm := fun wx : World => run_float_arith (P := Tryz.prog) wx .mul 88 .f64 _ _ _ F1
        have HF := Lib.hid F2; clear F1 F2
        go_enter Tryz.func82, Tryz.ntmps82
        go_wp2_with (first | (go_at_call 83; refine (isInf_fin _ (by omega) _).mono ?_; rintro e w' ⟨rfl, rfl⟩) | (go_at_call 102; refine (isNaN_any _ _).mono ?_; rintro e w' ⟨rfl, rfl⟩) | (go_at_call 103; refine (normalize_any _ (by omega) (by omega) _).mono ?_; rintro e w' ⟨rfl, rfl⟩) | (go_at_call 65; refine (copysign_zero _ (by omega) _).mono ?_; rintro e w' ⟨rfl, rfl⟩) | (go_at_call 104; refine (inf_one _).mono ?_; rintro e w' ⟨rfl, rfl⟩))
        go_ret
        exact ⟨_, rfl, HF.out, rfl⟩
      · obtain ⟨z, F1, F2⟩ := ld_low (r := r) (e := e) hr (by omega) (by omega)
        have hm := fun wx : World => run_float_arith (P := Tryz.prog) wx .mul 88 .f64 _ _ _ F1
        have HF := Lib.hid F2; clear F1 F2
        go_enter Tryz.func82, Tryz.ntmps82
        go_wp2_with (first | (go_at_call 83; refine (isInf_fin _ (by omega) _).mono ?_; rintro e w' ⟨rfl, rfl⟩) | (go_at_call 102; refine (isNaN_any _ _).mono ?_; rintro e w' ⟨rfl, rfl⟩) | (go_at_call 103; refine (normalize_any _ (by omega) (by omega) _).mono ?_; rintro e w' ⟨rfl, rfl⟩) | (go_at_call 65; refine (copysign_zero _ (by omega) _).mono ?_; rintro e w' ⟨rfl, rfl⟩) | (go_at_call 104; refine (inf_one _).mono ?_; rintro e w' ⟨rfl, rfl⟩))
        go_ret
        exact ⟨_, rfl, HF.out, rfl⟩

end Go.Proofs.YtgmebioogkmfgaaGreatDoor
