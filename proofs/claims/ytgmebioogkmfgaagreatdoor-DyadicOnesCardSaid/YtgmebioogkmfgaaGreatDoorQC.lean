/- Join of the package bits and of its reference. Condition: it stands in each fact. -/
import Derived.Test.YtgmebioogkmfgaaGreatDoorQB
namespace Go.Pt

/-- A number halved k times. -/
def Hv (m e M E : Int) : Prop := 0 < M ∧ ∃ k : Nat, k ≤ 62 ∧ m = M * 2 ^ k ∧ E = e + k

theorem Hv.start {m e : Int} (h : 0 < m) : Hv m e m e := ⟨h, 0, by omega, by simp, by simp⟩

theorem Hv.bound {m e M E : Int} (h : Hv m e M E) : 0 < M ∧ M ≤ m ∧ e ≤ E ∧ E ≤ e + 62 := by
  obtain ⟨h0, k, hk, rfl, rfl⟩ := h
  have : (1 : Int) ≤ 2 ^ k := by have := Nat.two_pow_pos k; exact_mod_cast this
  refine ⟨h0, ?_, by omega, by omega⟩
  calc M = M * 1 := by omega
    _ ≤ M * 2 ^ k := Int.mul_le_mul_of_nonneg_left this (by omega)

theorem Hv.step {m e M E : Int} (h : Hv m e M E) (hm : m < 9223372036854775808) (h2 : M % 2 = 0) : Hv m e (M / 2) (E + 1) := by
  obtain ⟨h0, k, hk, rfl, rfl⟩ := h
  obtain ⟨H, rfl⟩ : ∃ H, M = H * 2 := ⟨M / 2, by omega⟩
  have e1 : H * 2 * 2 ^ k = H * 2 ^ (k + 1) := by rw [Int.pow_succ, Int.mul_assoc, Int.mul_comm 2]
  rw [Int.mul_ediv_cancel _ (by decide)]
  refine ⟨by omega, k + 1, ?_, e1, by omega⟩
  by_cases c : k + 1 ≤ 62
  · exact c
  · exfalso
    have k62 : k = 62 := by omega
    subst k62
    have : (1 : Int) * 2 ^ (62 + 1) ≤ H * 2 ^ (62 + 1) := Int.mul_le_mul_of_nonneg_right (by omega) (by decide)
    rw [e1] at hm
    have e3 : (2 : Int) ^ (62 + 1) = 9223372036854775808 := by decide
    omega

theorem Hv.deq {m e M E : Int} (h : Hv m e M E) : Ieee.Deq m.toNat e M.toNat E := by
  obtain ⟨h0, k, hk, rfl, rfl⟩ := h
  obtain ⟨H, rfl⟩ := Int.eq_ofNat_of_zero_le (show 0 ≤ M by omega)
  have : ((H : Int) * 2 ^ k).toNat = H * 2 ^ k := by
    have : ((H : Int) * 2 ^ k) = ((H * 2 ^ k : Nat) : Int) := by push_cast; rfl
    rw [this, Int.toNat_natCast]
  rw [this, Int.toNat_natCast]
  exact Ieee.Deq.shift _ _ _

/-- A number doubled at the cost of its place. -/
def Db (low bin m e M E : Int) : Prop := 0 < M ∧ M < 2 * bin ∧ low ≤ E ∧ E ≤ e ∧ Ieee.Deq m.toNat e M.toNat E

theorem Db.step {low bin m e M E : Int} (h : Db low bin m e M E) (c1 : low < E) (c2 : M < bin) : Db low bin m e (M + M) (E - 1) := by
  obtain ⟨h1, h2, h3, h4, h5⟩ := h
  refine ⟨by omega, by omega, by omega, by omega, h5.trans ?_⟩
  have := Ieee.Deq.shift M.toNat 1 (E - 1)
  rw [show M.toNat * 2 ^ 1 = (M + M).toNat by omega, show E - 1 + ((1 : Nat) : Int) = E by omega] at this
  exact this.symm

end Go.Pt
namespace Go.Proofs.YtgmebioogkmfgaaGreatDoor
open Go.RowKit Go.Pt
attribute [local go_sem] and_2047 and_frac and_255 and_frac3 and_one or_frac or_frac3

def Red (m e : Int) (w : World) (en : Ending) (w' : World) : Prop := ∃ M E : Int, en = .returned (.tuple #[.int .i64 M, .int .i64 E]) ∧ Hv m e M E ∧ M % 2 = 1 ∧ w = w'

set_option maxHeartbeats 1000000 in
theorem reduced_any (m e : Int) (h0 : 0 < m) (h1 : m < 9223372036854775808) (h2 : -10000 ≤ e) (h3 : e ≤ 10000) (w : World) :
    Calls Tryz.prog 84 #[.int .i64 m, .int .i64 e] w (Red m e w) := by
  go_enter Tryz.func84, Tryz.ntmps84
  go_wp2
  go_loop [0, 1] (fun a b => ∃ M E : Int, a = .int .i64 M ∧ b = .int .i64 E ∧ Hv m e M E) (fun a _ => (intOf a).toNat)
  case atStart => exact ⟨m, e, rfl, rfl, Hv.start h0⟩
  case round =>
    obtain ⟨M, E, rfl, rfl, hv⟩ := hrel
    have b := hv.bound
    have b1 := b.1
    have b2 := b.2.1
    have b3 := b.2.2.1
    have b4 := b.2.2.2
    clear b
    by_cases c : M % 2 = 0
    · have s := hv.step h1 c
      have c' : (M % 2 == 0) = true := beq_iff_eq.2 c
      clear c hv
      go_wp2
      go_round
      case rel => exact ⟨M / 2, E + 1, rfl, rfl, s⟩
      case measure => simp [intOf]; omega
    · have c' : (M % 2 == 0) = false := beq_eq_false_iff_ne.2 c
      go_wp2
      go_ret2
      exact ⟨M, E, rfl, hv, by omega, rfl⟩
def Sh64 (m e : Int) (w : World) (en : Ending) (w' : World) : Prop :=
  (∃ M E : Int, en = .returned (.tuple #[.int .i64 M, .int .i64 E, .bool true]) ∧ 0 < M ∧ M < 2 * 4503599627370496 ∧ -1074 ≤ E ∧ E ≤ e + 62 ∧ (4503599627370496 ≤ M ∨ E = -1074) ∧ Ieee.Deq m.toNat e M.toNat E ∧ w = w') ∨
  (en = .returned (.tuple #[.int .i64 0, .int .i64 0, .bool false]) ∧ (∀ r, ¬ Ieee.double.At m.toNat e r) ∧ w = w')

set_option maxHeartbeats 1000000 in
theorem shifted64_any (m e : Int) (h0 : 0 < m) (h1 : m < 9223372036854775808) (h2 : -10000 ≤ e) (h3 : e ≤ 10000) (w : World) :
    Calls Tryz.prog 67 #[.int .i64 m, .int .i64 e, .int .i64 (-1074), .int .i64 53] w (Sh64 m e w) := by
  go_enter Tryz.func67, Tryz.ntmps67
  go_wp2
  go_loop [0, 1] (fun a b => ∃ M E : Int, a = .int .i64 M ∧ b = .int .i64 E ∧ Hv m e M E) (fun a _ => (intOf a).toNat)
  case atStart => exact ⟨m, e, rfl, rfl, Hv.start h0⟩
  case round =>
    obtain ⟨M, E, rfl, rfl, hv⟩ := hrel
    have b := hv.bound
    have b1 := b.1
    have b2 := b.2.1
    have b3 := b.2.2.1
    have b4 := b.2.2.2
    clear b
    by_cases c : M % 2 = 0
    · have s := hv.step h1 c
      have c' : (M % 2 == 0) = true := beq_iff_eq.2 c
      clear c hv
      go_wp2
      go_round
      case rel => exact ⟨M / 2, E + 1, rfl, rfl, s⟩
      case measure => simp [intOf]; omega
    · have c' : (M % 2 == 0) = false := beq_eq_false_iff_ne.2 c
      have dq := hv.deq
      have DQ := Lib.hid dq
      clear dq hv
      have odd : M.toNat % 2 = 1 := by omega
      have OD := Lib.hid odd
      clear odd c
      by_cases d : 2 * 4503599627370496 ≤ M ∨ E < -1074
      · have N : ∀ r, ¬ Ieee.double.At m.toNat e r := by
          intro r ha
          have := Ieee.Format.At.odd OD.out (DQ.out.symm.trans ha)
          rw [least_eq, binade_eq] at this
          omega
        have HN := Lib.hid N
        clear N
        rcases d with d | d
        · go_wp2
          go_ret3
          exact Or.inr ⟨rfl, HN.out, rfl⟩
        · by_cases d2 : 2 * 4503599627370496 ≤ M
          · go_wp2
            go_ret3
            exact Or.inr ⟨rfl, HN.out, rfl⟩
          · go_wp2
            go_ret3
            exact Or.inr ⟨rfl, HN.out, rfl⟩
      · have d1 : M < 2 * 4503599627370496 := by omega
        have d2 : -1074 ≤ E := by omega
        clear d
        go_wp2
        go_loop [0, 1] (fun a b => ∃ X Y : Int, a = .int .i64 X ∧ b = .int .i64 Y ∧ Db (-1074) 4503599627370496 M E X Y) (fun _ b => (intOf b + 2000).toNat)
        case atStart => exact ⟨M, E, rfl, rfl, by omega, by omega, by omega, by omega, Ieee.Deq.refl _ _⟩
        case round =>
          obtain ⟨X, Y, rfl, rfl, db⟩ := hrel
          have g1 := db.1
          have g2 := db.2.1
          have g3 := db.2.2.1
          have g4 := db.2.2.2.1
          have g5 := DQ.out.trans db.2.2.2.2
          have G5 := Lib.hid g5
          clear g5
          by_cases c1 : -1074 < Y
          · by_cases c2 : X < 4503599627370496
            · have s := db.step c1 c2
              clear db
              go_wp2
              go_round
              case rel => exact ⟨X + X, Y - 1, rfl, rfl, s⟩
              case measure => simp [intOf]; omega
            · clear db
              go_wp2
              go_ret3
              exact Or.inl ⟨X, Y, rfl, g1, g2, g3, by omega, by omega, G5.out, rfl⟩
          · clear db
            go_wp2
            go_ret3
            exact Or.inl ⟨X, Y, rfl, g1, g2, g3, by omega, by omega, G5.out, rfl⟩

def Sh32 (m e : Int) (w : World) (en : Ending) (w' : World) : Prop :=
  (∃ M E : Int, en = .returned (.tuple #[.int .i64 M, .int .i64 E, .bool true]) ∧ 0 < M ∧ M < 2 * 8388608 ∧ -149 ≤ E ∧ E ≤ e + 62 ∧ (8388608 ≤ M ∨ E = -149) ∧ Ieee.Deq m.toNat e M.toNat E ∧ w = w') ∨
  (en = .returned (.tuple #[.int .i64 0, .int .i64 0, .bool false]) ∧ (∀ r, ¬ Ieee.single.At m.toNat e r) ∧ w = w')

set_option maxHeartbeats 1000000 in
theorem shifted32_any (m e : Int) (h0 : 0 < m) (h1 : m < 9223372036854775808) (h2 : -10000 ≤ e) (h3 : e ≤ 10000) (w : World) :
    Calls Tryz.prog 67 #[.int .i64 m, .int .i64 e, .int .i64 (-149), .int .i64 24] w (Sh32 m e w) := by
  go_enter Tryz.func67, Tryz.ntmps67
  go_wp2
  go_loop [0, 1] (fun a b => ∃ M E : Int, a = .int .i64 M ∧ b = .int .i64 E ∧ Hv m e M E) (fun a _ => (intOf a).toNat)
  case atStart => exact ⟨m, e, rfl, rfl, Hv.start h0⟩
  case round =>
    obtain ⟨M, E, rfl, rfl, hv⟩ := hrel
    have b := hv.bound
    have b1 := b.1
    have b2 := b.2.1
    have b3 := b.2.2.1
    have b4 := b.2.2.2
    clear b
    by_cases c : M % 2 = 0
    · have s := hv.step h1 c
      have c' : (M % 2 == 0) = true := beq_iff_eq.2 c
      clear c hv
      go_wp2
      go_round
      case rel => exact ⟨M / 2, E + 1, rfl, rfl, s⟩
      case measure => simp [intOf]; omega
    · have c' : (M % 2 == 0) = false := beq_eq_false_iff_ne.2 c
      have dq := hv.deq
      have DQ := Lib.hid dq
      clear dq hv
      have odd : M.toNat % 2 = 1 := by omega
      have OD := Lib.hid odd
      clear odd c
      by_cases d : 2 * 8388608 ≤ M ∨ E < -149
      · have N : ∀ r, ¬ Ieee.single.At m.toNat e r := by
          intro r ha
          have := Ieee.Format.At.odd OD.out (DQ.out.symm.trans ha)
          rw [least3_eq, binade3_eq] at this
          omega
        have HN := Lib.hid N
        clear N
        rcases d with d | d
        · go_wp2
          go_ret3
          exact Or.inr ⟨rfl, HN.out, rfl⟩
        · by_cases d2 : 2 * 8388608 ≤ M
          · go_wp2
            go_ret3
            exact Or.inr ⟨rfl, HN.out, rfl⟩
          · go_wp2
            go_ret3
            exact Or.inr ⟨rfl, HN.out, rfl⟩
      · have d1 : M < 2 * 8388608 := by omega
        have d2 : -149 ≤ E := by omega
        clear d
        go_wp2
        go_loop [0, 1] (fun a b => ∃ X Y : Int, a = .int .i64 X ∧ b = .int .i64 Y ∧ Db (-149) 8388608 M E X Y) (fun _ b => (intOf b + 2000).toNat)
        case atStart => exact ⟨M, E, rfl, rfl, by omega, by omega, by omega, by omega, Ieee.Deq.refl _ _⟩
        case round =>
          obtain ⟨X, Y, rfl, rfl, db⟩ := hrel
          have g1 := db.1
          have g2 := db.2.1
          have g3 := db.2.2.1
          have g4 := db.2.2.2.1
          have g5 := DQ.out.trans db.2.2.2.2
          have G5 := Lib.hid g5
          clear g5
          by_cases c1 : -149 < Y
          · by_cases c2 : X < 8388608
            · have s := db.step c1 c2
              clear db
              go_wp2
              go_round
              case rel => exact ⟨X + X, Y - 1, rfl, rfl, s⟩
              case measure => simp [intOf]; omega
            · clear db
              go_wp2
              go_ret3
              exact Or.inl ⟨X, Y, rfl, g1, g2, g3, by omega, by omega, G5.out, rfl⟩
          · clear db
            go_wp2
            go_ret3
            exact Or.inl ⟨X, Y, rfl, g1, g2, g3, by omega, by omega, G5.out, rfl⟩

end Go.Proofs.YtgmebioogkmfgaaGreatDoor

namespace Go.Pt
open Classical in
/-- The rung of a number, where the format has it. -/
noncomputable def jn (f : Ieee.Format) (m : Nat) (e : Int) : Option Nat := if h : ∃ r, r < f.infRung ∧ f.At m e r then some (Classical.choose h) else none

theorem jn_some {f : Ieee.Format} {m r : Nat} {e : Int} (hr : r < f.infRung) (h : f.At m e r) : jn f m e = some r := by
  have hx : ∃ r, r < f.infRung ∧ f.At m e r := ⟨r, hr, h⟩
  unfold jn
  rw [dif_pos hx]
  exact congrArg some ((Classical.choose_spec hx).2.inj h)

theorem jn_none {f : Ieee.Format} {m : Nat} {e : Int} (h : ∀ r, r < f.infRung → ¬ f.At m e r) : jn f m e = none := by
  unfold jn
  rw [dif_neg]
  rintro ⟨r, hr, ha⟩
  exact h r hr ha

/-- The pattern that Join gives. -/
noncomputable def jv64 (n : Bool) (m e : Int) : Int := if m < 0 then 0 else match jn Ieee.double m.toNat e with | some r => (if n then -9223372036854775808 else 0) + (r : Int) | none => 0
/-- Whether there is one. -/
noncomputable def jo64 (m e : Int) : Bool := if m < 0 then false else (jn Ieee.double m.toNat e).isSome

theorem j64_neg (n : Bool) {m : Int} (e : Int) (h : m < 0) : jv64 n m e = 0 ∧ jo64 m e = false := by
  unfold jv64 jo64; rw [if_pos h, if_pos h]; exact ⟨rfl, rfl⟩
theorem j64_none (n : Bool) {m e : Int} (h : 0 < m) (k : ∀ r, ¬ Ieee.double.At m.toNat e r) : jv64 n m e = 0 ∧ jo64 m e = false := by
  unfold jv64 jo64
  have hm : ¬ m < 0 := by omega
  rw [if_neg hm, if_neg hm, jn_none (fun r _ => k r)]; exact ⟨rfl, rfl⟩
theorem j64_hit (n : Bool) {m e : Int} {r : Nat} (h : 0 ≤ m) (hr : r < Ieee.double.infRung) (k : Ieee.double.At m.toNat e r) : jv64 n m e = (if n then -9223372036854775808 else 0) + (r : Int) ∧ jo64 m e = true := by
  unfold jv64 jo64
  have hm : ¬ m < 0 := by omega
  rw [if_neg hm, if_neg hm, jn_some hr k]; exact ⟨rfl, rfl⟩
theorem at_zero64 (e : Int) : Ieee.double.At 0 e 0 := by
  unfold Ieee.Format.At
  rw [show Ieee.double.mg 0 = 0 from rfl]
  exact Ieee.Deq.zero _ _
theorem j64_zero (n : Bool) (e : Int) : jv64 n 0 e = (if n then -9223372036854775808 else 0) ∧ jo64 0 e = true := by
  have := j64_hit n (m := 0) (e := e) (r := 0) (by omega) (by rw [infRung_eq]; omega) (at_zero64 e)
  rw [this.1]
  exact ⟨by simp, this.2⟩
theorem far64 {m e : Int} (h0 : 0 < m) (h1 : m < 9223372036854775808) (h : e < -2000 ∨ 2000 < e) {r : Nat} (hr : r < Ieee.double.infRung) : ¬ Ieee.double.At m.toNat e r := by
  rintro ⟨a, c, k1, k2⟩
  have hl := Ieee.double.mg_lt r
  have hu : Ieee.double.up r ≤ 2045 := by unfold Ieee.Format.up; rw [infRung_eq] at hr; rw [binade_eq]; omega
  rw [least_eq] at k2
  rw [binade_eq] at hl
  rcases h with h | h
  · obtain ⟨d, rfl⟩ : ∃ d, c = 64 + d + a := ⟨c - a - 64, by omega⟩
    rw [Nat.pow_add, ← Nat.mul_assoc] at k1
    have k3 := Nat.eq_of_mul_eq_mul_right (Nat.two_pow_pos a) k1
    rw [Nat.pow_add] at k3
    have hd := Nat.two_pow_pos d
    by_cases z : Ieee.double.mg r = 0
    · rw [z, Nat.zero_mul] at k3; omega
    · have g1 : 2 ^ 64 * 1 ≤ 2 ^ 64 * 2 ^ d := Nat.mul_le_mul_left _ hd
      have g2 : 1 * (2 ^ 64 * 2 ^ d) ≤ Ieee.double.mg r * (2 ^ 64 * 2 ^ d) := Nat.mul_le_mul_right _ (by omega)
      omega
  · obtain ⟨d, rfl⟩ : ∃ d, a = 64 + d + c := ⟨a - c - 64, by omega⟩
    rw [Nat.pow_add, ← Nat.mul_assoc] at k1
    have k3 := Nat.eq_of_mul_eq_mul_right (Nat.two_pow_pos c) k1
    rw [Nat.pow_add] at k3
    have hd := Nat.two_pow_pos d
    have g1 : 2 ^ 64 * 1 ≤ 2 ^ 64 * 2 ^ d := Nat.mul_le_mul_left _ hd
    have g2 : 1 * (2 ^ 64 * 2 ^ d) ≤ m.toNat * (2 ^ 64 * 2 ^ d) := Nat.mul_le_mul_right _ (by omega)
    omega
theorem j64_far (n : Bool) {m e : Int} (h0 : 0 < m) (h1 : m < 9223372036854775808) (h : e < -2000 ∨ 2000 < e) : jv64 n m e = 0 ∧ jo64 m e = false := by
  unfold jv64 jo64
  have hm : ¬ m < 0 := by omega
  rw [if_neg hm, if_neg hm, jn_none (fun r hr => far64 h0 h1 h hr)]; exact ⟨rfl, rfl⟩
theorem at_rung64 {M E m e : Int} (h1 : 0 < M) (h2 : M < 2 * 4503599627370496) (h3 : -1074 ≤ E) (h5 : 4503599627370496 ≤ M ∨ E = -1074) (h6 : Ieee.Deq m.toNat e M.toNat E) :
    Ieee.double.At m.toNat e ((E + 1074) * 4503599627370496 + M).toNat := by
  have := Ieee.double.at_norm (m := M.toNat) (p := E) (by rw [binade_eq]; omega) (by rw [least_eq]; exact h3) (by rw [binade_eq, least_eq]; omega)
  rw [least_eq, binade_eq, show (E - (-1074)).toNat * 4503599627370496 + M.toNat = ((E + 1074) * 4503599627370496 + M).toNat by omega] at this
  exact h6.trans this
theorem j64_some (n : Bool) {M E m e : Int} (h0 : 0 ≤ m) (h1 : 0 < M) (h2 : M < 2 * 4503599627370496) (h3 : -1074 ≤ E) (h4 : E ≤ 971) (h5 : 4503599627370496 ≤ M ∨ E = -1074) (h6 : Ieee.Deq m.toNat e M.toNat E) :
    jv64 n m e = (if n then -9223372036854775808 else 0) + ((E + 1074) * 4503599627370496 + M) ∧ jo64 m e = true := by
  have := j64_hit n h0 (by rw [infRung_eq]; omega) (at_rung64 h1 h2 h3 h5 h6)
  rw [Int.toNat_of_nonneg (by omega)] at this
  exact this
theorem j64_high (n : Bool) {M E m e : Int} (h0 : 0 ≤ m) (h1 : 0 < M) (h2 : M < 2 * 4503599627370496) (h3 : -1074 ≤ E) (h4 : 971 < E) (h5 : 4503599627370496 ≤ M ∨ E = -1074) (h6 : Ieee.Deq m.toNat e M.toNat E) :
    jv64 n m e = 0 ∧ jo64 m e = false := by
  have k : ∀ r, r < Ieee.double.infRung → ¬ Ieee.double.At m.toNat e r := by
    intro r hr ha
    have := ha.inj (at_rung64 h1 h2 h3 h5 h6)
    rw [infRung_eq] at hr
    omega
  unfold jv64 jo64
  have hm : ¬ m < 0 := by omega
  rw [if_neg hm, if_neg hm, jn_none k]; exact ⟨rfl, rfl⟩

/-- The pattern that Join gives. -/
noncomputable def jv32 (n : Bool) (m e : Int) : Int := if m < 0 then 0 else match jn Ieee.single m.toNat e with | some r => (if n then 2147483648 else 0) + (r : Int) | none => 0
/-- Whether there is one. -/
noncomputable def jo32 (m e : Int) : Bool := if m < 0 then false else (jn Ieee.single m.toNat e).isSome

theorem j32_neg (n : Bool) {m : Int} (e : Int) (h : m < 0) : jv32 n m e = 0 ∧ jo32 m e = false := by
  unfold jv32 jo32; rw [if_pos h, if_pos h]; exact ⟨rfl, rfl⟩
theorem j32_none (n : Bool) {m e : Int} (h : 0 < m) (k : ∀ r, ¬ Ieee.single.At m.toNat e r) : jv32 n m e = 0 ∧ jo32 m e = false := by
  unfold jv32 jo32
  have hm : ¬ m < 0 := by omega
  rw [if_neg hm, if_neg hm, jn_none (fun r _ => k r)]; exact ⟨rfl, rfl⟩
theorem j32_hit (n : Bool) {m e : Int} {r : Nat} (h : 0 ≤ m) (hr : r < Ieee.single.infRung) (k : Ieee.single.At m.toNat e r) : jv32 n m e = (if n then 2147483648 else 0) + (r : Int) ∧ jo32 m e = true := by
  unfold jv32 jo32
  have hm : ¬ m < 0 := by omega
  rw [if_neg hm, if_neg hm, jn_some hr k]; exact ⟨rfl, rfl⟩
theorem at_zero32 (e : Int) : Ieee.single.At 0 e 0 := by
  unfold Ieee.Format.At
  rw [show Ieee.single.mg 0 = 0 from rfl]
  exact Ieee.Deq.zero _ _
theorem j32_zero (n : Bool) (e : Int) : jv32 n 0 e = (if n then 2147483648 else 0) ∧ jo32 0 e = true := by
  have := j32_hit n (m := 0) (e := e) (r := 0) (by omega) (by rw [infRung3_eq]; omega) (at_zero32 e)
  rw [this.1]
  exact ⟨by simp, this.2⟩
theorem far32 {m e : Int} (h0 : 0 < m) (h1 : m < 9223372036854775808) (h : e < -2000 ∨ 2000 < e) {r : Nat} (hr : r < Ieee.single.infRung) : ¬ Ieee.single.At m.toNat e r := by
  rintro ⟨a, c, k1, k2⟩
  have hl := Ieee.single.mg_lt r
  have hu : Ieee.single.up r ≤ 253 := by unfold Ieee.Format.up; rw [infRung3_eq] at hr; rw [binade3_eq]; omega
  rw [least3_eq] at k2
  rw [binade3_eq] at hl
  rcases h with h | h
  · obtain ⟨d, rfl⟩ : ∃ d, c = 64 + d + a := ⟨c - a - 64, by omega⟩
    rw [Nat.pow_add, ← Nat.mul_assoc] at k1
    have k3 := Nat.eq_of_mul_eq_mul_right (Nat.two_pow_pos a) k1
    rw [Nat.pow_add] at k3
    have hd := Nat.two_pow_pos d
    by_cases z : Ieee.single.mg r = 0
    · rw [z, Nat.zero_mul] at k3; omega
    · have g1 : 2 ^ 64 * 1 ≤ 2 ^ 64 * 2 ^ d := Nat.mul_le_mul_left _ hd
      have g2 : 1 * (2 ^ 64 * 2 ^ d) ≤ Ieee.single.mg r * (2 ^ 64 * 2 ^ d) := Nat.mul_le_mul_right _ (by omega)
      omega
  · obtain ⟨d, rfl⟩ : ∃ d, a = 64 + d + c := ⟨a - c - 64, by omega⟩
    rw [Nat.pow_add, ← Nat.mul_assoc] at k1
    have k3 := Nat.eq_of_mul_eq_mul_right (Nat.two_pow_pos c) k1
    rw [Nat.pow_add] at k3
    have hd := Nat.two_pow_pos d
    have g1 : 2 ^ 64 * 1 ≤ 2 ^ 64 * 2 ^ d := Nat.mul_le_mul_left _ hd
    have g2 : 1 * (2 ^ 64 * 2 ^ d) ≤ m.toNat * (2 ^ 64 * 2 ^ d) := Nat.mul_le_mul_right _ (by omega)
    omega
theorem j32_far (n : Bool) {m e : Int} (h0 : 0 < m) (h1 : m < 9223372036854775808) (h : e < -2000 ∨ 2000 < e) : jv32 n m e = 0 ∧ jo32 m e = false := by
  unfold jv32 jo32
  have hm : ¬ m < 0 := by omega
  rw [if_neg hm, if_neg hm, jn_none (fun r hr => far32 h0 h1 h hr)]; exact ⟨rfl, rfl⟩
theorem at_rung32 {M E m e : Int} (h1 : 0 < M) (h2 : M < 2 * 8388608) (h3 : -149 ≤ E) (h5 : 8388608 ≤ M ∨ E = -149) (h6 : Ieee.Deq m.toNat e M.toNat E) :
    Ieee.single.At m.toNat e ((E + 149) * 8388608 + M).toNat := by
  have := Ieee.single.at_norm (m := M.toNat) (p := E) (by rw [binade3_eq]; omega) (by rw [least3_eq]; exact h3) (by rw [binade3_eq, least3_eq]; omega)
  rw [least3_eq, binade3_eq, show (E - (-149)).toNat * 8388608 + M.toNat = ((E + 149) * 8388608 + M).toNat by omega] at this
  exact h6.trans this
theorem j32_some (n : Bool) {M E m e : Int} (h0 : 0 ≤ m) (h1 : 0 < M) (h2 : M < 2 * 8388608) (h3 : -149 ≤ E) (h4 : E ≤ 104) (h5 : 8388608 ≤ M ∨ E = -149) (h6 : Ieee.Deq m.toNat e M.toNat E) :
    jv32 n m e = (if n then 2147483648 else 0) + ((E + 149) * 8388608 + M) ∧ jo32 m e = true := by
  have := j32_hit n h0 (by rw [infRung3_eq]; omega) (at_rung32 h1 h2 h3 h5 h6)
  rw [Int.toNat_of_nonneg (by omega)] at this
  exact this
theorem j32_high (n : Bool) {M E m e : Int} (h0 : 0 ≤ m) (h1 : 0 < M) (h2 : M < 2 * 8388608) (h3 : -149 ≤ E) (h4 : 104 < E) (h5 : 8388608 ≤ M ∨ E = -149) (h6 : Ieee.Deq m.toNat e M.toNat E) :
    jv32 n m e = 0 ∧ jo32 m e = false := by
  have k : ∀ r, r < Ieee.single.infRung → ¬ Ieee.single.At m.toNat e r := by
    intro r hr ha
    have := ha.inj (at_rung32 h1 h2 h3 h5 h6)
    rw [infRung3_eq] at hr
    omega
  unfold jv32 jo32
  have hm : ¬ m < 0 := by omega
  rw [if_neg hm, if_neg hm, jn_none k]; exact ⟨rfl, rfl⟩

end Go.Pt
namespace Go.Proofs.YtgmebioogkmfgaaGreatDoor
open Go.RowKit Go.Pt
attribute [local go_sem] and_2047 and_frac and_255 and_frac3 and_one or_frac or_frac3

theorem rib {a a' : Int} {b b' : Bool} (h1 : a = a') (h2 : b = b') : Ending.returned (.tuple #[.int .i64 a, .bool b]) = .returned (.tuple #[.int .i64 a', .bool b']) := by rw [h1, h2]

set_option maxHeartbeats 1000000 in
theorem rJoin64_any (n : Bool) (m e : Int) (h1 : m < 9223372036854775808) (w : World) :
    Calls Tryz.prog 43 #[.bool n, .int .i64 m, .int .i64 e] w fun en w' => en = .returned (.tuple #[.int .i64 (jv64 n m e), .bool (jo64 m e)]) ∧ w = w' := by
  by_cases c0 : m < 0
  · have F := j64_neg n e c0
    have HF := Lib.hid F; clear F
    cases n <;>
    · go_enter Tryz.func43, Tryz.ntmps43
      go_wp2
      go_ret2
      exact ⟨rib HF.out.1.symm HF.out.2.symm, rfl⟩
  · by_cases cz : m = 0
    · subst cz
      have F := j64_zero n e
      have HF := Lib.hid F; clear F
      cases n <;>
      · go_enter Tryz.func43, Tryz.ntmps43
        go_wp2
        all_goals go_ret2
        all_goals exact ⟨rib HF.out.1.symm HF.out.2.symm, rfl⟩
    · by_cases cr : e < -2000 ∨ 2000 < e
      · have F := j64_far n (m := m) (e := e) (by omega) h1 cr
        have HF := Lib.hid F; clear F
        have cm : 0 < m := by omega
        rcases cr with cr | cr <;> cases n <;>
        · go_enter Tryz.func43, Tryz.ntmps43
          go_wp2
          go_ret2
          exact ⟨rib HF.out.1.symm HF.out.2.symm, rfl⟩
      · have cm : 0 < m := by omega
        have e1 : -2000 ≤ e := by omega
        have e2 : e ≤ 2000 := by omega
        have cz' : (m == 0) = false := beq_eq_false_iff_ne.2 cz
        clear cr cz c0
        cases n
        · go_enter Tryz.func43, Tryz.ntmps43
          go_wp2_with fail
          refine (shifted64_any _ _ cm h1 (by omega) (by omega) _).mono ?_
          rintro en w1 (⟨M, E, rfl, k1, k2, k3, k4, k5, k6, rfl⟩ | ⟨rfl, k1, rfl⟩)
          · by_cases k7 : E ≤ 971
            · have F := j64_some false (m := m) (e := e) (by omega) k1 k2 k3 k7 k5 k6
              have HF := Lib.hid F; clear F k6
              by_cases k8 : M < 4503599627370496
              · have k9 : E = -1074 := by omega
                clear k5
                go_wp2
                go_ret2
                exact ⟨rib (by rw [HF.out.1]; simp; omega) HF.out.2.symm, rfl⟩
              · clear k5
                go_wp2
                go_ret2
                exact ⟨rib (by rw [HF.out.1]; simp; omega) HF.out.2.symm, rfl⟩
            · have F := j64_high false (m := m) (e := e) (by omega) k1 k2 k3 (by omega) k5 k6
              have HF := Lib.hid F; clear F k6 k5
              go_wp2
              go_ret2
              exact ⟨rib HF.out.1.symm HF.out.2.symm, rfl⟩
          · have F := j64_none false (m := m) (e := e) cm k1
            have HF := Lib.hid F; clear F k1
            go_wp2
            go_ret2
            exact ⟨rib HF.out.1.symm HF.out.2.symm, rfl⟩
        · go_enter Tryz.func43, Tryz.ntmps43
          go_wp2_with fail
          refine (shifted64_any _ _ cm h1 (by omega) (by omega) _).mono ?_
          rintro en w1 (⟨M, E, rfl, k1, k2, k3, k4, k5, k6, rfl⟩ | ⟨rfl, k1, rfl⟩)
          · by_cases k7 : E ≤ 971
            · have F := j64_some true (m := m) (e := e) (by omega) k1 k2 k3 k7 k5 k6
              have HF := Lib.hid F; clear F k6
              by_cases k8 : M < 4503599627370496
              · have k9 : E = -1074 := by omega
                clear k5
                go_wp2
                go_ret2
                exact ⟨rib (by rw [HF.out.1]; simp; omega) HF.out.2.symm, rfl⟩
              · clear k5
                go_wp2
                go_ret2
                exact ⟨rib (by rw [HF.out.1]; simp; omega) HF.out.2.symm, rfl⟩
            · have F := j64_high true (m := m) (e := e) (by omega) k1 k2 k3 (by omega) k5 k6
              have HF := Lib.hid F; clear F k6 k5
              go_wp2
              go_ret2
              exact ⟨rib HF.out.1.symm HF.out.2.symm, rfl⟩
          · have F := j64_none true (m := m) (e := e) cm k1
            have HF := Lib.hid F; clear F k1
            go_wp2
            go_ret2
            exact ⟨rib HF.out.1.symm HF.out.2.symm, rfl⟩

end Go.Proofs.YtgmebioogkmfgaaGreatDoor

namespace Go.Pt

def clampI (e : Int) : Int := if e < -3000 then -3000 else if 3000 < e then 3000 else e

theorem rg_nat {x : Nat} (h : x < 9223372036854775808) : rg (x : Int) = x := by unfold rg; omega

theorem fin_nat {x : Nat} (h : x < 9218868437227405312) : cl (x : Int) < 3 := by
  rw [cl_fin, rg_nat (by omega)]; unfold inf; omega

theorem mag_nat {x : Nat} (h : x < 9218868437227405312) : pmag (x : Int) = Ieee.double.mg x ∧ pexp (x : Int) = -1074 + Ieee.double.up x := by
  have c := fin_nat h
  have c0 := cl_bd (x : Int)
  unfold pmag pexp Ieee.Format.mg Ieee.Format.up
  rw [binade_eq]
  have e := cl_eq (x : Int)
  rw [rg_nat (by omega)] at e
  unfold inf at e
  have f1 := fld_rg (x : Int)
  have f2 := frc_rg (x : Int)
  rw [rg_nat (by omega)] at f1 f2
  by_cases k : x < 4503599627370496
  · have : cl (x : Int) < 2 := by rw [e]; repeat' split
                                  all_goals omega
    rw [if_pos this, if_pos this, if_pos k, f2]
    omega
  · have : cl (x : Int) = 2 := by
      rw [e]
      rw [if_neg (by omega), if_neg (by omega), if_pos (by omega)]
    rw [this]
    simp only [show ¬ (2 : Int) < 2 by omega, if_false, if_true]
    rw [if_neg k, f1, f2]
    omega

theorem mg_zero {x : Nat} (h : Ieee.double.mg x = 0) : x = 0 := by
  apply Ieee.double.val_inj
  rw [Ieee.double.val_zero]; unfold Ieee.Format.val; rw [h, Nat.zero_mul]

open Classical in
/-- Is the float with the word x just the number? -/
noncomputable def sm (x : Nat) (m e : Int) : Bool := decide (x < 9218868437227405312 ∧ Ieee.double.At m.toNat (clampI e) x)

theorem sm_inf (m e : Int) : sm 9218868437227405312 m e = false := by
  unfold sm; simp
theorem sm_true {x : Nat} {m e : Int} (h : x < 9218868437227405312) (k : Ieee.double.At m.toNat (clampI e) x) : sm x m e = true := by
  unfold sm; simp [h, k]
theorem sm_false {x : Nat} {m e : Int} (k : ¬ Ieee.double.At m.toNat (clampI e) x) : sm x m e = false := by
  unfold sm; simp [k]
theorem at_zero_left {e : Int} {x : Nat} (h : Ieee.double.At 0 e x) : x = 0 := mg_zero h.zero_left
theorem at_zero_right {m : Nat} {e : Int} (h : Ieee.double.At m e 0) : m = 0 := by
  have := h.symm
  rw [show Ieee.double.mg 0 = 0 from rfl] at this
  exact this.zero_left

theorem sm_odd {x : Nat} {m e M E M2 E2 : Int} (h : x < 9218868437227405312) (h1 : Hv m (clampI e) M E) (o1 : M % 2 = 1) (h2 : Hv (pmag (x : Int)) (pexp (x : Int)) M2 E2) (o2 : M2 % 2 = 1) :
    sm x m e = ((M == M2) && (E == E2)) := by
  have d1 := h1.deq
  have d2 := h2.deq
  rw [(mag_nat h).1, (mag_nat h).2, Int.toNat_natCast] at d2
  have p1 := h1.1
  have p2 := h2.1
  by_cases k : M = M2 ∧ E = E2
  · obtain ⟨rfl, rfl⟩ := k
    rw [sm_true h (d1.trans d2.symm)]; simp
  · have : sm x m e = false := by
      apply sm_false
      intro ha
      have g := Ieee.Format.deq_odd (o := M.toNat) (u := M2.toNat) (by omega) (by omega) ((d1.symm.trans ha).trans d2)
      exact k ⟨by omega, g.2⟩
    rw [this]
    by_cases k1 : M = M2
    · rw [beq_iff_eq.2 k1, beq_eq_false_iff_ne.2 (fun c => k ⟨k1, c⟩)]; rfl
    · rw [beq_eq_false_iff_ne.2 k1]; rfl

/-! ### The float of a whole number -/
theorem cut_bd (n d : Nat) : Ieee.Toward.even.cut false n d ≤ n / 1 <<< min d (n.log2 + 2) + 1 := by
  unfold Ieee.Toward.cut
  simp only
  have : ∀ b : Bool, b.toNat ≤ 1 := by intro b; cases b <;> decide
  exact Nat.add_le_add_left (this _) _

theorem floatOf_bd {m : Nat} (h0 : 0 < m) (h1 : m < 9223372036854775808) : 4503599627370496 ≤ Ieee.double.nearest false m 0 ∧ Ieee.double.nearest false m 0 < 9218868437227405312 := by
  have hl : m.log2 ≤ 62 := by
    have : m.log2 < 63 := (Nat.log2_lt (by omega)).2 (by omega)
    omega
  have h2 : m < 2 ^ (m.log2 + 1) := Nat.lt_log2_self
  unfold Ieee.Format.nearest
  rw [if_neg (by omega)]
  dsimp only
  rw [least_eq, infRung_eq, binade_eq, show ((Ieee.double.fractionBits : Nat) : Int) = 52 from rfl]
  generalize hk : m.log2 = k at *
  rw [show max ((0 : Int) + (k : Int) - 52) (-1074) = (k : Int) - 52 by omega]
  have hc : Ieee.Toward.even.cut false (m <<< (0 - ((k : Int) - 52)).toNat) ((k : Int) - 52 - 0).toNat ≤ 9007199254740993 := by
    refine Nat.le_trans (cut_bd _ _) ?_
    apply Nat.add_le_add_right
    by_cases c : k ≤ 52
    · rw [show ((k : Int) - 52 - 0).toNat = 0 by omega, Nat.zero_min, Nat.shiftLeft_zero, Nat.div_one, Nat.shiftLeft_eq, show (0 - ((k : Int) - 52)).toNat = 52 - k by omega]
      have : m * 2 ^ (52 - k) < 2 ^ (k + 1) * 2 ^ (52 - k) := Nat.mul_lt_mul_of_pos_right h2 (Nat.two_pow_pos _)
      rw [← Nat.pow_add, show k + 1 + (52 - k) = 53 by omega] at this
      omega
    · rw [show (0 - ((k : Int) - 52)).toNat = 0 by omega, Nat.shiftLeft_zero, show ((k : Int) - 52 - 0).toNat = k - 52 by omega, hk, Nat.min_eq_left (by omega), Nat.one_shiftLeft]
      have : m / 2 ^ (k - 52) < 2 ^ 53 := by
        rw [Nat.div_lt_iff_lt_mul (Nat.two_pow_pos _), ← Nat.pow_add, show 53 + (k - 52) = k + 1 by omega]
        exact h2
      omega
  generalize Ieee.Toward.even.cut false (m <<< (0 - ((k : Int) - 52)).toNat) ((k : Int) - 52 - 0).toNat = z at hc ⊢
  unfold Ieee.Format.word
  simp only [Bool.false_eq_true, if_false]
  have e : ((k : Int) - 52 - -1074).toNat = k + 1022 := by omega
  rw [e, Nat.min_eq_left (by omega)]
  omega

theorem deq_add {m n : Nat} {p q : Int} (h : Ieee.Deq m p n q) (d : Int) : Ieee.Deq m (p + d) n (q + d) := by
  obtain ⟨a, c, h1, h2⟩ := h; exact ⟨a, c, h1, by omega⟩

theorem odd_part {m : Nat} (h : 0 < m) : ∃ o k : Nat, o % 2 = 1 ∧ m = o * 2 ^ k := by
  induction m using Nat.strongRecOn with
  | _ m ih =>
    by_cases c : m % 2 = 1
    · exact ⟨m, 0, c, by simp⟩
    · obtain ⟨o, k, h1, h2⟩ := ih (m / 2) (by omega) (by omega)
      exact ⟨o, k + 1, h1, by rw [Nat.pow_succ, ← Nat.mul_assoc, ← h2]; omega⟩

/-- Where a number is one of the format, the float of its whole part is exact. -/
theorem floatOf_exact {m u : Nat} {e : Int} (h0 : 0 < m) (h1 : m < 9223372036854775808) (h : Ieee.double.At m e u) : Ieee.double.At m 0 (Ieee.double.nearest false m 0) := by
  obtain ⟨o, k, ho, rfl⟩ := odd_part h0
  have d : Ieee.Deq (o * 2 ^ k) e o (e + k) := Ieee.Deq.shift _ _ _
  have g := Ieee.Format.At.odd ho (d.symm.trans h)
  have hk : k ≤ 62 := by
    by_cases c : k ≤ 62
    · exact c
    · exfalso
      have : 2 ^ 63 ≤ 2 ^ k := Nat.pow_le_pow_right (by omega) (by omega)
      have : 1 * 2 ^ k ≤ o * 2 ^ k := Nat.mul_le_mul_right _ (by omega)
      omega
  obtain ⟨r, r1, r2⟩ := Ieee.double.at_make (m := o) (p := (0 : Int) + k) g.2 (by rw [least_eq]; omega) (by rw [least_eq, binade_eq, infRung_eq]; omega)
  have r3 : Ieee.double.At (o * 2 ^ k) 0 r := (Ieee.Deq.shift _ _ _).trans r2
  rw [Ieee.double.nearest_at false r1 r3]
  exact r3

/-- What same tells of what Ldexp gives. -/
theorem ld_same {m : Nat} {e : Int} {z : Nat} (h0 : 0 < m) (h1 : m < 9223372036854775808) (hz : LdOK (Ieee.double.nearest false m 0) (clampI e) z) :
    (sm z m e = true → z < 9218868437227405312 ∧ jn Ieee.double m e = some z) ∧ (sm z m e = false → jn Ieee.double m e = none) := by
  constructor
  · intro hs
    have k : z < 9218868437227405312 ∧ Ieee.double.At m (clampI e) z := by
      unfold sm at hs; simpa using hs
    by_cases c : clampI e = e
    · rw [c] at k
      exact ⟨k.1, jn_some (by rw [infRung_eq]; exact k.1) k.2⟩
    · exfalso
      have c2 : clampI e < -2000 ∨ 2000 < clampI e := by unfold clampI at *; split at c <;> (try split at c) <;> (repeat' split) <;> omega
      exact far64 (m := (m : Int)) (by omega) (by omega) c2 (by rw [infRung_eq]; exact k.1) (by rw [Int.toNat_natCast]; exact k.2)
  · intro hs
    apply jn_none
    intro u hu ha
    rw [infRung_eq] at hu
    by_cases c : e < -2000 ∨ 2000 < e
    · exact far64 (m := (m : Int)) (by omega) (by omega) c (by rw [infRung_eq]; exact hu) (by rw [Int.toNat_natCast]; exact ha)
    · have ce : clampI e = e := by unfold clampI; rw [if_neg (by omega), if_neg (by omega)]
      have x := floatOf_exact h0 h1 ha
      have y : Ieee.double.At (Ieee.double.mg (Ieee.double.nearest false m 0)) (-1074 + Ieee.double.up (Ieee.double.nearest false m 0) + e) u := by
        have := deq_add (show Ieee.Deq m 0 _ _ from x) e
        rw [least_eq, Int.zero_add] at this
        exact this.symm.trans ha
      rw [ce] at hz
      have := hz.2 u hu y
      subst this
      rw [sm_true hu (by rw [ce]; exact ha)] at hs
      exact absurd hs (by decide)

end Go.Pt
namespace Go.Proofs.YtgmebioogkmfgaaGreatDoor
open Go.RowKit Go.Pt
attribute [local go_sem] and_2047 and_frac and_255 and_frac3 and_one or_frac or_frac3

set_option maxHeartbeats 400000 in
theorem clamp_any (e : Int) (w : World) :
    Calls Tryz.prog 63 #[.int .i64 e] w fun en w' => en = .returned (.int .i64 (clampI e)) ∧ w = w' := by
  by_cases c1 : e < -3000
  · have F : clampI e = -3000 := by unfold clampI; rw [if_pos c1]
    have HF := Lib.hid F; clear F
    go_enter Tryz.func63, Tryz.ntmps63
    go_wp2
    go_ret
    exact ⟨ri HF.out.symm, rfl⟩
  · by_cases c2 : 3000 < e
    · have F : clampI e = 3000 := by unfold clampI; rw [if_neg c1, if_pos c2]
      have HF := Lib.hid F; clear F
      go_enter Tryz.func63, Tryz.ntmps63
      go_wp2
      go_ret
      exact ⟨ri HF.out.symm, rfl⟩
    · have F : clampI e = e := by unfold clampI; rw [if_neg c1, if_neg c2]
      have HF := Lib.hid F; clear F
      go_enter Tryz.func63, Tryz.ntmps63
      go_wp2
      go_ret
      exact ⟨ri HF.out.symm, rfl⟩

theorem ofD_nat {x : Nat} (h : x ≤ 9218868437227405312) : ofD x = x := by
  have e : wd (x : Int) = x := by unfold wd; rw [IntKind.wrap_u64]; omega
  have k := ofD_wd (b := (x : Int)) (by unfold I64; omega)
  rw [e] at k
  rw [k]
  unfold told
  rw [if_neg]
  intro c
  have := (cl_nan _).1 c
  rw [rg_nat (by omega)] at this
  unfold inf at this
  omega

set_option maxHeartbeats 1000000 in
theorem same_any' (x : Nat) (m e : Int) (hx : x ≤ 9218868437227405312) (h0 : 0 ≤ m) (h1 : m < 9223372036854775808) (w : World) :
    Calls Tryz.prog 64 #[.float .f64 x, .int .i64 m, .int .i64 e] w fun en w' => en = .returned (.bool (sm x m e)) ∧ w = w' := by
  by_cases ci : x = 9218868437227405312
  · subst ci
    have F := sm_inf m e
    have HF := Lib.hid F; clear F
    go_enter Tryz.func64, Tryz.ntmps64
    go_wp2_with (go_at_call 83; refine (isInf_inf _).mono ?_; rintro e w' ⟨rfl, rfl⟩)
    go_ret
    exact ⟨rb HF.out.symm, rfl⟩
  · have hx2 : x < 9218868437227405312 := by omega
    have o := ord_pos (r := x) (u := 0) hx (by omega)
    clear ci
    by_cases cx : x = 0
    · subst cx
      rw [Int.compare_eq_eq.2 (by rfl)] at o
      by_cases cm : m = 0
      · subst cm
        have F : sm 0 0 e = true := sm_true (by omega) (at_zero64 _)
        have HF := Lib.hid F; clear F
        go_enter Tryz.func64, Tryz.ntmps64
        go_wp2_with (go_at_call 83; refine (isInf_fin _ (by omega) _).mono ?_; rintro e w' ⟨rfl, rfl⟩)
        go_ret
        exact ⟨rb HF.out.symm, rfl⟩
      · have F : sm 0 m e = false := sm_false (fun k => cm (by have := at_zero_right k; omega))
        have HF := Lib.hid F; clear F
        have cm' : (m == 0) = false := beq_eq_false_iff_ne.2 cm
        go_enter Tryz.func64, Tryz.ntmps64
        go_wp2_with (go_at_call 83; refine (isInf_fin _ (by omega) _).mono ?_; rintro e w' ⟨rfl, rfl⟩)
        go_ret
        exact ⟨rb HF.out.symm, rfl⟩
    · rw [Int.compare_eq_gt.2 (by omega)] at o
      by_cases cm : m = 0
      · subst cm
        have F : sm x 0 e = false := sm_false (fun k => cx (at_zero_left k))
        have HF := Lib.hid F; clear F
        go_enter Tryz.func64, Tryz.ntmps64
        go_wp2_with (go_at_call 83; refine (isInf_fin _ (by omega) _).mono ?_; rintro e w' ⟨rfl, rfl⟩)
        go_ret
        exact ⟨rb HF.out.symm, rfl⟩
      · have cm' : (m == 0) = false := beq_eq_false_iff_ne.2 cm
        have od := ofD_nat hx
        have hp : 0 < m := by omega
        have q0 : 0 < pmag (x : Int) := by
          rw [(mag_nat hx2).1]
          have : Ieee.double.mg x ≠ 0 := fun k => cx (mg_zero k)
          omega
        have q1 : pmag (x : Int) < 9223372036854775808 := by
          rw [(mag_nat hx2).1]
          have := Ieee.double.mg_lt x
          rw [binade_eq] at this
          omega
        have q2 : -10000 ≤ pexp (x : Int) ∧ pexp (x : Int) ≤ 10000 := by
          rw [(mag_nat hx2).2]
          unfold Ieee.Format.up
          rw [binade_eq]
          omega
        have q3 : -10000 ≤ clampI e ∧ clampI e ≤ 10000 := by unfold clampI; split <;> (try split) <;> omega
        have q4 := q2.1
        have q5 := q2.2
        have q6 := q3.1
        have q7 := q3.2
        clear q2 q3 cm cx
        go_enter Tryz.func64, Tryz.ntmps64
        go_wp2_with (first | (go_at_call 83; refine (isInf_fin _ (by omega) _).mono ?_; rintro e w' ⟨rfl, rfl⟩) | (go_at_call 63; refine (clamp_any _ _).mono ?_; rintro e w' ⟨rfl, rfl⟩) | (go_at_call 66; refine (of_any _ _).mono ?_; rintro e w' ⟨rfl, rfl⟩) | (go_at_call 31; refine (parts_any _ _).mono ?_; rintro e w' ⟨rfl, rfl⟩))
        refine (reduced_any _ _ hp h1 q6 q7 _).mono ?_
        rintro en w1 ⟨M, E, rfl, hv, ho, rfl⟩
        have HV := Lib.hid hv
        have HO := Lib.hid ho
        clear hv ho
        go_wp2_with (first | (go_at_call 66; refine (of_any _ _).mono ?_; rintro e w' ⟨rfl, rfl⟩) | (go_at_call 31; refine (parts_any _ _).mono ?_; rintro e w' ⟨rfl, rfl⟩))
        refine (reduced_any _ _ q0 q1 q4 q5 _).mono ?_
        rintro en w1 ⟨M2, E2, rfl, hv, ho, rfl⟩
        have HV2 := Lib.hid hv
        have HO2 := Lib.hid ho
        clear hv ho
        have S := sm_odd hx2 HV.out HO.out HV2.out HO2.out
        have HS := Lib.hid S; clear S
        go_wp2_with fail
        · have c : M = M2 := by assumption
          go_ret
          exact ⟨rb (by rw [HS.out, beq_iff_eq.2 c]; rfl), rfl⟩
        · have c : ¬ M = M2 := by assumption
          go_ret
          exact ⟨rb (by rw [HS.out, beq_eq_false_iff_ne.2 c]; rfl), rfl⟩

set_option maxHeartbeats 1000000 in
theorem ldexpTop_any (r : Nat) (e : Int) (hr : 4503599627370496 ≤ r) (hr2 : r < 9218868437227405312) (he : -3000 ≤ e) (he2 : e ≤ 3000) (w : World) :
    Calls Tryz.prog 62 #[.float .f64 r, .int .i64 e] w (Ld r e w) := by
  go_enter Tryz.func62, Tryz.ntmps62
  go_wp2_with (go_at_call 82; refine (ldexp_any _ _ hr hr2 he he2 _).mono ?_; rintro en w1 ⟨z, rfl, hz, rfl⟩)
  go_ret
  exact ⟨z, rfl, hz, rfl⟩

set_option maxHeartbeats 1000000 in
theorem ldexpTop_zero (e : Int) (w : World) :
    Calls Tryz.prog 62 #[.float .f64 0, .int .i64 e] w fun en w' => en = .returned (.float .f64 0) ∧ w = w' := by
  have o : FloatKind.f64.format.order 0 0 = some .eq := by decide
  go_enter Tryz.func62, Tryz.ntmps62
  go_wp2_with fail
  go_in
  go_wp2
  go_ret
  exact ⟨rfl, rfl⟩

end Go.Proofs.YtgmebioogkmfgaaGreatDoor

namespace Go.Pt

theorem floatOf_nat {m : Int} (h : 0 ≤ m) : floatOfInt .f64 m = Ieee.double.nearest false m.toNat 0 := by
  show FloatKind.f64.encode (.number (decide (m < 0)) m.natAbs 0) = _
  rw [decide_eq_false (by omega), show m.natAbs = m.toNat by omega]
  rfl

theorem or_sign {x : Nat} (h : x < 9223372036854775808) : bits .or .u64 (x : Int) 9223372036854775808 = ((x + 9223372036854775808 : Nat) : Int) := by
  show IntKind.u64.wrap ((BitVec.ofInt 64 (x : Int) ||| BitVec.ofInt 64 9223372036854775808).toNat : Int) = _
  have k := Nat.two_pow_add_eq_or_of_lt (show x < 2 ^ 63 by omega) 1
  rw [Nat.mul_one] at k
  rw [BitVec.toNat_or, toNat_ofNat64 (by omega), show (BitVec.ofInt 64 9223372036854775808).toNat = 2 ^ 63 by decide, Nat.or_comm, ← k, wrap_u64_of (by omega) (by omega)]
  omega

theorem j64_from {m e : Int} (n : Bool) {z : Nat} (h0 : 0 < m) (h1 : m < 9223372036854775808) (hz : LdOK (Ieee.double.nearest false m.toNat 0) (clampI e) z) :
    (sm z m e = true → z < 9218868437227405312 ∧ jv64 n m e = (if n then -9223372036854775808 else 0) + (z : Int) ∧ jo64 m e = true) ∧ (sm z m e = false → jv64 n m e = 0 ∧ jo64 m e = false) := by
  have k := ld_same (m := m.toNat) (e := e) (z := z) (by omega) (by omega) hz
  rw [Int.toNat_of_nonneg (by omega)] at k
  have hm : ¬ m < 0 := by omega
  unfold jv64 jo64
  rw [if_neg hm, if_neg hm]
  constructor
  · intro hs
    obtain ⟨k1, k2⟩ := k.1 hs
    rw [k2]
    exact ⟨k1, rfl, rfl⟩
  · intro hs
    rw [k.2 hs]
    exact ⟨rfl, rfl⟩

end Go.Pt
namespace Go.Proofs.YtgmebioogkmfgaaGreatDoor
open Go.RowKit Go.Pt
attribute [local go_sem] and_2047 and_frac and_255 and_frac3 and_one or_frac or_frac3

set_option maxHeartbeats 400000 in
theorem copysign_neg (x : Nat) (h : x < 9223372036854775808) (w : World) :
    Calls Tryz.prog 65 #[.float .f64 x, .float .f64 13830554455654793216] w fun e w' => e = .returned (.float .f64 (x + 9223372036854775808)) ∧ w = w' := by
  go_enter Tryz.func65, Tryz.ntmps65
  go_wp2
  go_ret
  refine ⟨rf ?_, rfl⟩
  rw [andNot_abs h, show bits .and .u64 13830554455654793216 9223372036854775808 = 9223372036854775808 by decide, or_sign h, Int.toNat_natCast]

theorem ofD_neg {x : Nat} (h : x < 9218868437227405312) : ofD (x + 9223372036854775808) = (x : Int) - 9223372036854775808 := by
  have e : wd ((x : Int) - 9223372036854775808) = x + 9223372036854775808 := by unfold wd; rw [IntKind.wrap_u64]; omega
  have k := ofD_wd (b := (x : Int) - 9223372036854775808) (by unfold I64; omega)
  rw [e] at k
  rw [k]
  unfold told
  rw [if_neg]
  intro c
  have := (cl_nan _).1 c
  unfold inf rg at this
  omega

set_option maxHeartbeats 1000000 in
theorem join_any (n : Bool) (m e : Int) (h1 : m < 9223372036854775808) (w : World) :
    Calls Tryz.prog 41 #[.bool n, .int .i64 m, .int .i64 e] w fun en w' => en = .returned (.tuple #[.int .i64 (jv64 n m e), .bool (jo64 m e)]) ∧ w = w' := by
  by_cases c0 : m < 0
  · have F := j64_neg n e c0
    have HF := Lib.hid F; clear F
    go_enter Tryz.func41, Tryz.ntmps41
    go_wp2
    go_ret2
    exact ⟨rib HF.out.1.symm HF.out.2.symm, rfl⟩
  · have q3 : -3000 ≤ clampI e ∧ clampI e ≤ 3000 := by unfold clampI; split <;> (try split) <;> omega
    by_cases cz : m = 0
    · subst cz
      have F := j64_zero n e
      have HF := Lib.hid F; clear F
      have hf : floatOfInt .f64 0 = 0 := by decide
      have hs : sm 0 0 e = true := sm_true (by omega) (at_zero64 _)
      have o1 : ofD 0 = 0 := ofD_nat (x := 0) (by omega)
      have o2 : ofD 9223372036854775808 = -9223372036854775808 := by
        have := ofD_neg (x := 0) (by omega)
        simpa using this
      cases n
      · go_enter Tryz.func41, Tryz.ntmps41
        go_wp2_with (first | (go_at_call 63; refine (clamp_any _ _).mono ?_; rintro e w' ⟨rfl, rfl⟩) | (go_at_call 62; refine (ldexpTop_zero _ _).mono ?_; rintro e w' ⟨rfl, rfl⟩) | (go_at_call 64; refine (same_any' _ _ _ (by omega) (by omega) (by omega) _).mono ?_; rintro e w' ⟨rfl, rfl⟩) | (go_at_call 66; refine (of_any _ _).mono ?_; rintro e w' ⟨rfl, rfl⟩))
        go_ret2
        exact ⟨rib HF.out.1.symm HF.out.2.symm, rfl⟩
      · go_enter Tryz.func41, Tryz.ntmps41
        go_wp2_with (first | (go_at_call 63; refine (clamp_any _ _).mono ?_; rintro e w' ⟨rfl, rfl⟩) | (go_at_call 62; refine (ldexpTop_zero _ _).mono ?_; rintro e w' ⟨rfl, rfl⟩) | (go_at_call 64; refine (same_any' _ _ _ (by omega) (by omega) (by omega) _).mono ?_; rintro e w' ⟨rfl, rfl⟩) | (go_at_call 66; refine (of_any _ _).mono ?_; rintro e w' ⟨rfl, rfl⟩) | (go_at_call 65; refine (copysign_neg _ (by omega) _).mono ?_; rintro e w' ⟨rfl, rfl⟩))
        go_ret2
        exact ⟨rib HF.out.1.symm HF.out.2.symm, rfl⟩
    · have hp : 0 < m := by omega
      have hf := floatOf_nat (m := m) (by omega)
      obtain ⟨r1, r2⟩ := floatOf_bd (m := m.toNat) (by omega) (by omega)
      have J := fun z => j64_from (e := e) (z := z) n hp h1
      have HJ := Lib.hid J; clear J
      generalize hR : Ieee.double.nearest false m.toNat 0 = R at *
      have q4 := q3.1
      have q5 := q3.2
      clear q3 cz c0 hR
      go_enter Tryz.func41, Tryz.ntmps41
      go_wp2_with (first | (go_at_call 63; refine (clamp_any _ _).mono ?_; rintro e w' ⟨rfl, rfl⟩))
      refine (ldexpTop_any _ _ r1 r2 q4 q5 _).mono ?_
      rintro en w1 ⟨z, rfl, hz, rfl⟩
      have F := HJ.out z hz
      have hz1 := hz.1
      clear hz HJ
      have HF := Lib.hid F; clear F
      go_wp2_with fail
      refine (same_any' _ _ _ hz1 (by omega) h1 _).mono ?_
      rintro en w1 ⟨rfl, rfl⟩
      cases hs : sm z m e
      · have G := HF.out.2 hs
        have HG := Lib.hid G; clear G
        go_wp2
        go_ret2
        exact ⟨rib HG.out.1.symm HG.out.2.symm, rfl⟩
      · have G := HF.out.1 hs
        have hz2 := G.1
        have HG := Lib.hid G.2; clear G
        have o1 := ofD_nat hz1
        have o2 := ofD_neg hz2
        cases n
        · go_wp2_with (first | (go_at_call 66; refine (of_any _ _).mono ?_; rintro e w' ⟨rfl, rfl⟩))
          go_ret2
          exact ⟨rib (by rw [HG.out.1]; simp) HG.out.2.symm, rfl⟩
        · go_wp2_with (first | (go_at_call 66; refine (of_any _ _).mono ?_; rintro e w' ⟨rfl, rfl⟩) | (go_at_call 65; refine (copysign_neg _ (by omega) _).mono ?_; rintro e w' ⟨rfl, rfl⟩))
          go_ret2
          exact ⟨rib (by rw [HG.out.1]; simp; omega) HG.out.2.symm, rfl⟩

end Go.Proofs.YtgmebioogkmfgaaGreatDoor
