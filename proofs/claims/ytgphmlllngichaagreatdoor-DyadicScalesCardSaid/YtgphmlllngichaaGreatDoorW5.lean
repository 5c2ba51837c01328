/- What the calls of Next32, Prev32 and Canon come to, and the walk of turned32. Condition: an int is an int (I64), where it stands. -/
import Derived.Test.YtgphmlllngichaaGreatDoorW3
import Derived.Test.YtgphmlllngichaaGreatDoorGr
namespace Go.Pt

/-! ### What Go chooses where it leaves the bits of no number open -/
theorem nanBits_cut (x y t : Nat) : (FloatKind.f64.format.order ((Question.nanBits .f64 x y).cut t) ((Question.nanBits .f64 x y).cut t) != some .eq) = true := by
  have e : (Question.nanBits .f64 x y).cut t = Ieee.double.word (decide (t % 2 = 1)) (9218868437227405312 + 1 + t / 2 % 4503599627370495) := by
    show t % 2 * 2 ^ 63 + 0x7ff0000000000000 + 1 + t / 2 % (2 ^ 52 - 1) = _
    unfold Ieee.Format.word
    rw [signWeight_eq]
    by_cases h : t % 2 = 1 <;> simp [h] <;> omega
  rw [e]
  rw [show FloatKind.f64.format = Ieee.double from rfl, Ieee.double.order_nan_left (by decide) _ _ (by rw [infRung_eq]; omega) (by rw [signWeight_eq]; omega)]
  rfl
theorem nanConv_cut (x t : Nat) : (FloatKind.f64.format.order ((Question.nanConv .f64 x).cut t) ((Question.nanConv .f64 x).cut t) != some .eq) = true := nanBits_cut x x t
theorem nanConv3_cut (x t : Nat) : (FloatKind.f32.format.order ((Question.nanConv .f32 x).cut t) ((Question.nanConv .f32 x).cut t) != some .eq) = true := by
  have e : (Question.nanConv .f32 x).cut t = Ieee.single.word (decide (t % 2 = 1)) (2139095040 + 1 + t / 2 % 8388607) := by
    show t % 2 * 2 ^ 31 + 0x7f800000 + 1 + t / 2 % (2 ^ 23 - 1) = _
    unfold Ieee.Format.word
    rw [signWeight3_eq]
    by_cases h : t % 2 = 1 <;> simp [h] <;> omega
  rw [e]
  rw [show FloatKind.f32.format = Ieee.single from rfl, Ieee.single.order_nan_left (by decide) _ _ (by rw [infRung3_eq]; omega) (by rw [signWeight3_eq]; omega)]
  rfl

/-! ### 32 bits: sign, neighbour -/
def neg3 (b : Int) : Int := if cl3 b = 4 then nan3 else if 2147483648 ≤ b then b - 2147483648 else b + 2147483648
def next3 (b : Int) : Int := if cl3 b = 4 then nan3 else if b = inf3 then b else if rg3 b = 0 then 1 else if 2147483648 < b then b - 1 else b + 1
def prev3 (b : Int) : Int := neg3 (next3 (neg3 b))

theorem pt3_of {b : Int} (h : cl3 b ≠ 4) : pt3 b = b ∧ 0 ≤ b ∧ b < 4294967296 := by
  unfold pt3
  cases k : ok32 b
  · exact absurd (by unfold cl3; rw [k]; rfl) h
  · have : 0 ≤ b ∧ b < 4294967296 := by unfold ok32 at k; simpa using k
    exact ⟨rfl, this⟩

theorem wd3_of {b : Int} (h : cl3 b ≠ 4) : wd3 b = b.toNat := by rw [wd3_pt, (pt3_of h).1]

theorem cl3_nan' {b : Int} (h0 : 0 ≤ b) (h1 : b < 4294967296) : cl3 b = 4 ↔ inf3 < rg3 b := by
  rw [cl3_eq h0 h1]; unfold inf3; repeat' split
  all_goals omega

theorem xor_pow (k x : Nat) (h : x < 2 ^ (k + 1)) : x ^^^ 2 ^ k = if x < 2 ^ k then x + 2 ^ k else x - 2 ^ k := by
  rw [Nat.pow_succ] at h
  by_cases c : x < 2 ^ k
  · rw [if_pos c]
    have := Nat.two_pow_add_eq_or_of_lt c 1
    have e : x ^^^ 2 ^ k = x ||| 2 ^ k := by
      apply Nat.eq_of_testBit_eq
      intro i
      simp only [Nat.testBit_xor, Nat.testBit_or, Nat.testBit_two_pow]
      by_cases hi : k = i
      · subst hi; simp [Nat.testBit_lt_two_pow c]
      · simp [hi]
    rw [e, Nat.or_comm]
    simpa [Nat.add_comm] using this.symm
  · rw [if_neg c]
    obtain ⟨y, rfl⟩ : ∃ y, x = 2 ^ k + y := ⟨x - 2 ^ k, by omega⟩
    have hy : y < 2 ^ k := by omega
    have e1 : 2 ^ k + y = 2 ^ k ||| y := by
      have := Nat.two_pow_add_eq_or_of_lt hy 1
      simpa using this
    rw [Nat.add_sub_cancel_left]
    apply Nat.eq_of_testBit_eq
    intro i
    rw [e1]
    simp only [Nat.testBit_xor, Nat.testBit_or, Nat.testBit_two_pow]
    by_cases hi : k = i
    · subst hi; simp [Nat.testBit_lt_two_pow hy]
    · simp [hi]

def flip3 (c : Int) : Int := if 2147483648 ≤ c then c - 2147483648 else c + 2147483648

theorem flip3_bd {c : Int} (h0 : 0 ≤ c) (h1 : c < 4294967296) : 0 ≤ flip3 c ∧ flip3 c < 4294967296 ∧ rg3 (flip3 c) = rg3 c := by
  unfold flip3 rg3; split <;> omega

theorem negw3 (b : Int) : Op.negFloat .f32 (wd3 b) = wd3 (flip3 (pt3 b)) := by
  have h := pt3_ok b
  have f := flip3_bd h.1 h.2
  rw [wd3_pt b]
  generalize pt3 b = c at *
  unfold wd3
  rw [ok32_of f.1 f.2.1]
  show c.toNat ^^^ 2 ^ 31 = (flip3 c).toNat
  rw [xor_pow 31 _ (by omega)]
  unfold flip3
  split <;> split <;> omega

theorem cl3_flip (b : Int) : cl3 (flip3 (pt3 b)) = cl3 b := by
  have h := pt3_ok b
  have f := flip3_bd h.1 h.2
  rw [← cl3_pt b, cl3_eq f.1 f.2.1, cl3_eq h.1 h.2, f.2.2]

theorem ofS_neg (b : Int) : Go.Proofs.YtgphmlllngichaaGreatDoor.ofS (Op.negFloat .f32 (wd3 b)) = neg3 b := by
  rw [negw3, Go.Proofs.YtgphmlllngichaaGreatDoor.ofS_wd]
  unfold told3 neg3
  rw [cl3_flip]
  by_cases c : cl3 b = 4
  · rw [if_pos c, if_pos c]
  · rw [if_neg c, if_neg c, (pt3_of c).1]; rfl

theorem neg364 (b : Int) : I64 (neg3 b) ∧ (cl3 b ≠ 4 → cl3 (neg3 b) ≠ 4) := by
  unfold neg3
  by_cases c : cl3 b = 4
  · rw [if_pos c]; exact ⟨by unfold I64 nan3; omega, fun h => absurd c h⟩
  · rw [if_neg c]
    have h := pt3_of c
    have e := cl3_flip b
    rw [h.1] at e
    unfold flip3 at e
    refine ⟨by unfold I64; split <;> omega, fun _ => by rw [e]; exact c⟩

theorem next364 (b : Int) : I64 (next3 b) := by
  unfold next3
  by_cases c : cl3 b = 4
  · rw [if_pos c]; unfold I64 nan3; omega
  · rw [if_neg c]
    have h := pt3_of c
    unfold I64 inf3 rg3
    repeat' split
    all_goals omega

/-! ### A binary32 is a binary64 -/
theorem single_up (s : Bool) {r : Nat} (h : r < Ieee.single.infRung) : ∃ u, u < Ieee.double.infRung ∧ Ieee.double.At (Ieee.single.mg r) (Ieee.single.leastPlace + Ieee.single.up r) u ∧
    floatToFloatBits .f32 (Ieee.single.word s r) .f64 = some (Ieee.double.word s u) := by
  have hm := Ieee.single.mg_lt r
  have hu : Ieee.single.up r ≤ 253 := by
    unfold Ieee.Format.up
    rw [infRung3_eq] at h
    rw [binade3_eq]
    omega
  rw [binade3_eq] at hm
  obtain ⟨u, h1, h2⟩ := Ieee.double.at_make (m := Ieee.single.mg r) (p := Ieee.single.leastPlace + Ieee.single.up r) (by rw [binade_eq]; omega) (by rw [least3_eq, least_eq]; omega)
    (by rw [least3_eq, least_eq, binade_eq, infRung_eq]; omega)
  refine ⟨u, h1, h2, ?_⟩
  have e : FloatKind.f64.encode (.number s (Ieee.single.mg r) (Ieee.single.leastPlace + Ieee.single.up r)) = Ieee.double.word s u := Ieee.double.nearest_at s h1 h2
  unfold floatToFloatBits
  rw [if_neg (by decide), show FloatKind.f32.decode (Ieee.single.word s r) = _ from Ieee.single.read_word s h]
  simp only
  rw [e, show FloatKind.f64.decode (Ieee.double.word s u) = _ from Ieee.double.read_word s h1]
  rfl

theorem inf_up (s : Bool) : floatToFloatBits .f32 (Ieee.single.word s Ieee.single.infRung) .f64 = some (Ieee.double.word s Ieee.double.infRung) := by
  unfold floatToFloatBits
  rw [if_neg (by decide), show FloatKind.f32.decode (Ieee.single.word s Ieee.single.infRung) = _ from Ieee.single.read_inf (by decide) s]
  rfl

theorem word_self (s : Bool) {u : Nat} (h : u ≤ Ieee.double.infRung) : (FloatKind.f64.format.order (Ieee.double.word s u) (Ieee.double.word s u) != some .eq) = false := by
  rw [show FloatKind.f64.format = Ieee.double from rfl, Ieee.double.order_words (by decide) s s h h, Int.compare_eq_eq.2 rfl]; rfl

theorem up_ok {b : Int} (n : cl3 b ≠ 4) : ∃ z, floatToFloatBits .f32 (wd3 b) .f64 = some z ∧ (FloatKind.f64.format.order z z != some .eq) = false := by
  have h1 : ¬ inf3 < rg3 (pt3 b) := fun h => n ((cl3_nan b).2 h)
  have h2 := rg3_bd (pt3 b)
  unfold inf3 at h1
  rw [wd3_word]
  by_cases c : rg3 (pt3 b) < 2139095040
  · obtain ⟨u, g1, _, g3⟩ := single_up (decide (2147483648 ≤ pt3 b)) (r := (rg3 (pt3 b)).toNat) (by rw [infRung3_eq]; omega)
    exact ⟨_, g3, word_self _ (by omega)⟩
  · have e : (rg3 (pt3 b)).toNat = Ieee.single.infRung := by rw [infRung3_eq]; omega
    rw [e]
    exact ⟨_, inf_up _, word_self _ (Nat.le_refl _)⟩

theorem up_nan {b : Int} (n : cl3 b = 4) : ∃ s t, FloatKind.f32.decode (wd3 b) = .nan s t := by
  have c1 := (cl3_nan b).1 n
  have h2 := rg3_bd (pt3 b)
  unfold inf3 at c1
  rw [wd3_word]
  exact ⟨_, _, Ieee.single.read_nan (by decide) _ (by rw [infRung3_eq]; omega) (by rw [signWeight3_eq]; omega)⟩

/-! ### '+ 0' -/
theorem add_zero {b : Int} (h : I64 b) (n : cl b ≠ 4) : floatBits .add .f64 (wd b) 0 = some (wd (canon b)) := by
  have h1 : ¬ inf < rg b := fun e => n ((cl_nan b).2 e)
  have h2 := rg_bd b
  unfold inf at h1
  have r0 : Ieee.double.read 0 = .number false 0 (-1074) := by decide
  show Ieee.double.add (wd b) 0 = _
  unfold Ieee.Format.add
  rw [r0]
  by_cases c : rg b < 9218868437227405312
  · rw [wd_word h, Ieee.double.read_word _ (by rw [infRung_eq]; omega)]
    unfold Ieee.Datum.sum
    simp only [Option.map_some, Option.some.injEq]
    rw [least_eq, show min ((-1074 : Int) + (Ieee.double.up (rg b).toNat : Int)) (-1074) = -1074 by omega]
    have e1 : Ieee.signed (decide (b < 0)) (Ieee.double.mg (rg b).toNat) ((-1074 : Int) + (Ieee.double.up (rg b).toNat : Int) - -1074).toNat + Ieee.signed false 0 ((-1074 : Int) - -1074).toNat = if b < 0 then -(Ieee.double.val (rg b).toNat : Int) else Ieee.double.val (rg b).toNat := by
      rw [show ((-1074 : Int) + (Ieee.double.up (rg b).toNat : Int) - -1074).toNat = Ieee.double.up (rg b).toNat by omega]
      unfold Ieee.signed Ieee.Format.val
      simp only [Nat.shiftLeft_eq]
      by_cases hb : b < 0 <;> simp [hb]
    rw [e1]
    by_cases z : rg b = 0
    · have hz : canon b = 0 := by unfold canon; rw [if_pos ((cl_zero b).2 z)]
      rw [z, hz, wd_zero, show Ieee.double.val (0 : Int).toNat = 0 from Ieee.double.val_zero]
      simp only [Int.natCast_zero, Int.neg_zero, ite_self, if_true, Int.natAbs_zero, Bool.and_false]
      exact Ieee.double.nearest_zero _ _
    · have hz : canon b = b := by unfold canon; rw [if_neg (fun e => z ((cl_zero b).1 e)), if_neg n]
      have hv := Ieee.double.val_pos (r := (rg b).toNat) (by omega)
      rw [hz, wd_word h]
      have e2 : (if b < 0 then -(Ieee.double.val (rg b).toNat : Int) else (Ieee.double.val (rg b).toNat : Int)).natAbs = Ieee.double.val (rg b).toNat := by split <;> omega
      rw [e2, if_neg (by split <;> omega)]
      have e3 : decide ((if b < 0 then -(Ieee.double.val (rg b).toNat : Int) else (Ieee.double.val (rg b).toNat : Int)) < 0) = decide (b < 0) := by
        by_cases hb : b < 0
        · rw [if_pos hb, decide_eq_true hb, decide_eq_true (by omega)]
        · rw [if_neg hb, decide_eq_false hb, decide_eq_false (by omega)]
      rw [e3]
      exact Ieee.double.nearest_at _ (by rw [infRung_eq]; omega) (by have := Ieee.double.at_val (rg b).toNat; rw [least_eq] at this; exact this)
  · have e : (rg b).toNat = Ieee.double.infRung := by rw [infRung_eq]; omega
    have hz : canon b = b := by unfold canon; rw [if_neg (fun e => by have := (cl_zero b).1 e; omega), if_neg n]
    rw [hz, wd_word h, e, Ieee.double.read_inf (by decide)]
    rfl

end Go.Pt
namespace Go.Proofs.YtgphmlllngichaaGreatDoor
open Go.RowKit Go.Pt

@[go_sem] theorem unary_negFloat (k : FloatKind) (b : Nat) : Op.unary .neg (.float k b) = pure (.float k (Op.negFloat k b)) := rfl

attribute [local go_sem] and_2047 and_frac and_255 and_frac3 and_one or_frac or_frac3

theorem ofD_nan {x : Nat} (h : (FloatKind.f64.format.order x x != some .eq) = true) : ofD x = nan := by unfold ofD; rw [if_pos h]
theorem ofS_nan {x : Nat} (h : (FloatKind.f32.format.order x x != some .eq) = true) : ofS x = nan3 := by unfold ofS; rw [if_pos h]

theorem run_add_nan (t : TypeId) (x y : Nat) (h : FloatKind.f64.format.add x y = none) (w : World) :
    (binOp .add t (.float .f64 x) (.float .f64 y)).run Tryz.prog w = .ok (.float .f64 ((Question.nanBits .f64 x y).cut (w.tape w.drawn (Question.nanBits .f64 x y)))) w.drew := by
  simp [binOp, Op.floatArith, h, Question.forced]

def Nx3 (b : Int) (w : World) (e : Ending) (w' : World) : Prop := ∃ x, e = .returned (.float .f32 x) ∧ ofS x = next3 b ∧ Grown w w'

theorem ord3_inf {b : Int} (n : cl3 b ≠ 4) : FloatKind.f32.format.order (wd3 b) 2139095040 = some (compare (key3 b) 2139095040) := by
  have := ord3_fin (a := b) (b := 2139095040) n (by decide)
  rw [(pt3_of n).1] at this
  exact this
theorem ord3_inf' {b : Int} (n : cl3 b ≠ 4) : FloatKind.f32.format.order 2139095040 (wd3 b) = some (compare 2139095040 (key3 b)) := by
  have := ord3_fin (a := 2139095040) (b := b) (by decide) n
  rw [(pt3_of n).1] at this
  exact this
theorem ord3_zero {b : Int} (n : cl3 b ≠ 4) : FloatKind.f32.format.order (wd3 b) 0 = some (compare (key3 b) 0) := by
  have := ord3_fin (a := b) (b := 0) n (by decide)
  rw [(pt3_of n).1] at this
  exact this

theorem key3_bd {b : Int} (n : cl3 b ≠ 4) : key3 b ≤ 2139095040 := by
  have h := pt3_of n
  have h1 : ¬ inf3 < rg3 b := fun e => n ((cl3_nan' h.2.1 h.2.2).2 e)
  unfold inf3 at h1
  unfold key3
  have := rg3_bd b
  split <;> omega

theorem up3_one {b : Int} (n : cl3 b ≠ 4) (h0 : 0 < key3 b) (h1 : key3 b < 2139095040) : (IntKind.u32.wrap ((wd3 b : Nat) + 1)).toNat = wd3 (next3 b) ∧ cl3 (next3 b) ≠ 4 := by
  have h := pt3_of n
  have e : next3 b = b + 1 := by
    unfold next3 inf3
    unfold key3 rg3 at h0 h1
    unfold rg3
    rw [if_neg n]
    split at h0 <;> rw [if_neg (by omega), if_neg (by omega), if_neg (by omega)]
  unfold key3 rg3 at h0 h1
  rw [e, wd3_of n]
  have c : cl3 (b + 1) ≠ 4 := by
    intro k
    have := (cl3_nan' (b := b + 1) (by omega) (by split at h0 <;> omega)).1 k
    unfold inf3 rg3 at this
    split at h0 <;> omega
  rw [wd3_of c]
  refine ⟨?_, c⟩
  simp only [IntKind.wrap, IntKind.bits, IntKind.signed]
  split at h0 <;> simp <;> omega

theorem down3_one {b : Int} (n : cl3 b ≠ 4) (h0 : key3 b < 0) : (IntKind.u32.wrap ((wd3 b : Nat) - 1)).toNat = wd3 (next3 b) ∧ cl3 (next3 b) ≠ 4 := by
  have h := pt3_of n
  have h1 : ¬ inf3 < rg3 b := fun e => n ((cl3_nan' h.2.1 h.2.2).2 e)
  have e : next3 b = b - 1 := by
    unfold next3 inf3
    unfold key3 rg3 at h0
    unfold rg3
    rw [if_neg n]
    split at h0 <;> rw [if_neg (by omega), if_neg (by omega), if_pos (by omega)]
  unfold inf3 at h1
  unfold key3 rg3 at h0
  rw [e, wd3_of n]
  have c : cl3 (b - 1) ≠ 4 := by
    intro k
    have := (cl3_nan' (b := b - 1) (by split at h0 <;> omega) (by omega)).1 k
    unfold inf3 rg3 at this
    unfold rg3 at h1
    split at h0 <;> omega
  rw [wd3_of c]
  refine ⟨?_, c⟩
  simp only [IntKind.wrap, IntKind.bits, IntKind.signed]
  split at h0 <;> simp <;> omega

theorem ofS_next {b : Int} (n : cl3 (next3 b) ≠ 4) : ofS (wd3 (next3 b)) = next3 b := by
  rw [ofS_wd]; unfold told3; rw [if_neg n]

end Go.Proofs.YtgphmlllngichaaGreatDoor
