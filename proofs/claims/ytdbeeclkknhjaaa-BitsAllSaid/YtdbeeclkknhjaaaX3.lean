/- What the calls of Join32 come to; the walk of joined. Condition: it stands in each fact. -/
import Derived.Test.YtdbeeclkknhjaaaX2
namespace Go.Pt

theorem jo64_hit {n : Bool} {m e : Int} (h : jo64 m e = true) : ∃ u, 0 ≤ m ∧ u < 9218868437227405312 ∧ Ieee.double.At m.toNat e u ∧ jv64 n m e = (if n then -9223372036854775808 else 0) + (u : Int) := by
  have hm : ¬ m < 0 := by intro c; unfold jo64 at h; rw [if_pos c] at h; exact absurd h (by decide)
  by_cases k : ∃ u, u < Ieee.double.infRung ∧ Ieee.double.At m.toNat e u
  · obtain ⟨u, k1, k2⟩ := k
    exact ⟨u, by omega, Nat.lt_of_lt_of_eq k1 infRung_eq, k2, (j64_hit n (by omega) k1 k2).1⟩
  · exfalso
    unfold jo64 at h
    rw [if_neg hm, jn_none (fun r hr ha => k ⟨r, hr, ha⟩)] at h
    exact absurd h (by decide)

theorem wd_signed (n : Bool) {u : Nat} (h : u ≤ 9218868437227405312) : wd ((if n then -9223372036854775808 else 0) + (u : Int)) = Ieee.double.word n u := by
  unfold wd Ieee.Format.word
  rw [IntKind.wrap_u64, signWeight_eq]
  cases n <;> simp <;> omega

/-- Is the number one of binary32? -/
def Hit (m e : Int) : Prop := ∃ v, v < 2139095040 ∧ Ieee.single.At m.toNat e v

theorem hit_double {m e : Int} (h : Hit m e) (h0 : 0 ≤ m) : jo64 m e = true := by
  obtain ⟨v, k1, k2⟩ := h
  obtain ⟨u, g1, g2, _⟩ := single_up false (r := v) (by rw [infRung3_eq]; exact k1)
  exact (j64_hit false h0 g1 ((show Ieee.Deq _ _ _ _ from k2).trans g2)).2

theorem jo32_miss (n : Bool) {m e : Int} (h : ¬ Hit m e) : jv32 n m e = 0 ∧ jo32 m e = false := by
  unfold jv32 jo32
  by_cases c : m < 0
  · rw [if_pos c, if_pos c]; exact ⟨rfl, rfl⟩
  · rw [if_neg c, if_neg c, jn_none (fun r hr ha => h ⟨r, Nat.lt_of_lt_of_eq hr infRung3_eq, ha⟩)]; exact ⟨rfl, rfl⟩

theorem jo64_none {n : Bool} {m e : Int} (h : jo64 m e = false) : jv32 n m e = 0 ∧ jo32 m e = false := by
  by_cases c : m < 0
  · exact j32_neg n e c
  · exact jo32_miss n (fun k => by rw [hit_double k (by omega)] at h; exact absurd h (by decide))

theorem nearest3_lt (n : Bool) (m : Nat) (p : Int) : Ieee.single.nearest n m p < 4294967296 := Nat.lt_of_lt_of_eq (Ieee.single.nearest_lt n m p) (by decide)

theorem down_any {P : Program} {s d : TypeId} (hs : P.underlying s = some (.float .f64)) (hd : P.underlying d = some (.float .f32)) (n : Bool) {u : Nat} (hu : u < 9218868437227405312) (w : World) :
    ∃ (x : Nat) (w1 : World), (convert s d (.float .f64 (Ieee.double.word n u))).run P w = .ok (.float .f32 x) w1 ∧ x < 4294967296 ∧ Go.RowKit.Grown w w1 ∧
      ∀ v, v < 2139095040 → Ieee.single.At (Ieee.double.mg u) (-1074 + Ieee.double.up u) v → x = Ieee.single.word n v := by
  have hr : FloatKind.f64.decode (Ieee.double.word n u) = .number n (Ieee.double.mg u) (-1074 + Ieee.double.up u) := by
    have := Ieee.double.read_word n (r := u) (by rw [infRung_eq]; exact hu)
    rw [least_eq] at this
    exact this
  have he : FloatKind.f32.encode (.number n (Ieee.double.mg u) (-1074 + Ieee.double.up u)) = Ieee.single.nearest n (Ieee.double.mg u) (-1074 + Ieee.double.up u) := rfl
  by_cases c : (FloatKind.f32.decode (Ieee.single.nearest n (Ieee.double.mg u) (-1074 + Ieee.double.up u))).isInfinity = true
  · refine ⟨(Question.floatToFloat (Ieee.double.word n u)).cut (w.tape w.drawn (Question.floatToFloat (Ieee.double.word n u))), w.drew, ?_, ?_, (Go.RowKit.Grown.refl w).drew, ?_⟩
    · simp [convert, run_underlying hs, run_underlying hd, Conv.floatToFloat, hr, he, c, Question.forced]
    · exact Nat.mod_lt _ (by decide)
    · intro v hv ha
      exfalso
      rw [Ieee.single.nearest_at n (by rw [infRung3_eq]; exact hv) ha, show FloatKind.f32.decode (Ieee.single.word n v) = _ from Ieee.single.read_word n (by rw [infRung3_eq]; exact hv)] at c
      exact Bool.false_ne_true c
  · refine ⟨Ieee.single.nearest n (Ieee.double.mg u) (-1074 + Ieee.double.up u), w, ?_, ?_, Go.RowKit.Grown.refl w, ?_⟩
    · simp [convert, run_underlying hs, run_underlying hd, Conv.floatToFloat, hr, he, c]
    · exact nearest3_lt _ _ _
    · intro v hv ha
      exact Ieee.single.nearest_at n (by rw [infRung3_eq]; exact hv) ha

theorem word3_parts (x : Nat) (h : x < 4294967296) : ∃ (s : Bool) (v : Nat), v < 2147483648 ∧ x = Ieee.single.word s v := by
  refine ⟨decide (2147483648 ≤ x), x % 2147483648, by omega, ?_⟩
  unfold Ieee.Format.word
  rw [signWeight3_eq]
  by_cases c : 2147483648 ≤ x <;> simp [c] <;> omega

/-- The other way: what it is as a binary64, held against the number. -/
theorem back_any {P : Program} {s d : TypeId} (hs : P.underlying s = some (.float .f32)) (hd : P.underlying d = some (.float .f64)) (n : Bool) {u x : Nat} {m e : Int} (hu : u < 9218868437227405312) (hx : x < 4294967296)
    (ha : Ieee.double.At m.toNat e u) (hh : ∀ v, v < 2139095040 → Ieee.single.At (Ieee.double.mg u) (-1074 + Ieee.double.up u) v → x = Ieee.single.word n v) (w : World) :
    ∃ (z : Nat) (w1 : World), (convert s d (.float .f32 x)).run P w = .ok (.float .f64 z) w1 ∧ Go.RowKit.Grown w w1 ∧
      (Hit m e → (FloatKind.f64.format.order z (Ieee.double.word n u) != some .eq) = false ∧ ∃ v, v < 2139095040 ∧ Ieee.single.At m.toNat e v ∧ x = Ieee.single.word n v) ∧
      (¬ Hit m e → (FloatKind.f64.format.order z (Ieee.double.word n u) != some .eq) = true) := by
  have hfmt : FloatKind.f64.format = Ieee.double := rfl
  have ha' : Ieee.Deq m.toNat e (Ieee.double.mg u) (-1074 + Ieee.double.up u) := by
    have := (show Ieee.Deq _ _ _ _ from ha)
    rw [least_eq] at this
    exact this
  obtain ⟨t, v, hv, rfl⟩ := word3_parts x hx
  by_cases c1 : v < 2139095040
  · obtain ⟨u', k1, k2, k3⟩ := single_up t (r := v) (by rw [infRung3_eq]; exact c1)
    refine ⟨Ieee.double.word t u', w, run_convert_float_float w s d .f32 .f64 _ _ (by rw [hs]; rfl) hd k3, Go.RowKit.Grown.refl w, ?_, ?_⟩
    · rintro ⟨y, y1, y2⟩
      have e1 := hh y y1 (ha'.symm.trans y2)
      have q := Ieee.single.word_parts t (r := v) (by rw [signWeight3_eq]; exact hv)
      have q' := Ieee.single.word_parts n (r := y) (by rw [signWeight3_eq]; omega)
      rw [e1] at q
      have et : t = n := by rw [← q.1, q'.1]
      have ev : v = y := by rw [← q.2, q'.2]
      subst et ev
      have eu : u' = u := Ieee.Format.At.inj (f := Ieee.double) k2 ((show Ieee.Deq _ _ _ _ from y2).symm.trans ha)
      subst eu
      rw [hfmt, Ieee.double.order_words (by decide) t t (by omega) (by omega), Int.compare_eq_eq.2 rfl]
      exact ⟨rfl, v, c1, y2, rfl⟩
    · intro nh
      rw [hfmt, Ieee.double.order_finite t n k1 (by rw [infRung_eq]; exact hu), bne, cmp_eq]
      have : ¬ Ieee.Format.skey t u' = Ieee.Format.skey n u := by
        intro k
        have eu : u' = u := by
          unfold Ieee.Format.skey at k
          cases t <;> cases n <;> simp at k <;> omega
        subst eu
        exact nh ⟨v, c1, (show Ieee.Deq _ _ _ _ from ha).trans k2.symm⟩
      rw [beq_eq_false_iff_ne.2 this]; rfl
  · have nh' : ∀ y, y < 2139095040 → Ieee.single.word t v = Ieee.single.word n y → False := by
      intro y hy k
      have q := Ieee.single.word_parts t (r := v) (by rw [signWeight3_eq]; exact hv)
      have q' := Ieee.single.word_parts n (r := y) (by rw [signWeight3_eq]; omega)
      rw [k] at q
      have ev : v = y := by rw [← q.2, q'.2]
      omega
    have nh : ¬ Hit m e := by
      rintro ⟨y, y1, y2⟩
      exact nh' y y1 (hh y y1 (ha'.symm.trans y2))
    by_cases c2 : v = 2139095040
    · subst c2
      refine ⟨Ieee.double.word t Ieee.double.infRung, w, run_convert_float_float w s d .f32 .f64 _ _ (by rw [hs]; rfl) hd (inf_up t), Go.RowKit.Grown.refl w, fun h => absurd h nh, fun _ => ?_⟩
      rw [hfmt, Ieee.double.order_words (by decide) t n (Nat.le_refl _) (by rw [infRung_eq]; omega), bne, cmp_eq]
      have : ¬ Ieee.Format.skey t Ieee.double.infRung = Ieee.Format.skey n u := by
        rw [infRung_eq]
        unfold Ieee.Format.skey
        cases t <;> cases n <;> simp <;> omega
      rw [beq_eq_false_iff_ne.2 this]; rfl
    · have hn : FloatKind.f32.decode (Ieee.single.word t v) = .nan t (v - Ieee.single.infRung) := Ieee.single.read_nan (by decide) t (by rw [infRung3_eq]; omega) (by rw [signWeight3_eq]; exact hv)
      refine ⟨(Question.nanConv .f64 (Ieee.single.word t v)).cut (w.tape w.drawn (Question.nanConv .f64 (Ieee.single.word t v))), w.drew, ?_, (Go.RowKit.Grown.refl w).drew, fun h => absurd h nh, fun _ => ?_⟩
      · simp [convert, run_underlying hs, run_underlying hd, Conv.floatToFloat, hn, Question.forced]
      · have e : ∀ k, (Question.nanConv .f64 (Ieee.single.word t v)).cut k = Ieee.double.word (decide (k % 2 = 1)) (9218868437227405312 + 1 + k / 2 % 4503599627370495) := by
          intro k
          show k % 2 * 2 ^ 63 + 0x7ff0000000000000 + 1 + k / 2 % (2 ^ 52 - 1) = _
          unfold Ieee.Format.word
          rw [signWeight_eq]
          by_cases h : k % 2 = 1 <;> simp [h] <;> omega
        rw [e, hfmt, Ieee.double.order_nan_left (by decide) _ _ (by rw [infRung_eq]; omega) (by rw [signWeight_eq]; omega)]
        rfl

theorem ofS_word (n : Bool) {v : Nat} (h : v < 2139095040) : Go.Proofs.Ytdbeeclkknhjaaa.ofS (Ieee.single.word n v) = (if n then 2147483648 else 0) + (v : Int) := by
  have k0 : 0 ≤ (if n then 2147483648 else 0) + (v : Int) ∧ (if n then 2147483648 else 0) + (v : Int) < 4294967296 := by cases n <;> simp <;> omega
  have e : wd3 ((if n then 2147483648 else 0) + (v : Int)) = Ieee.single.word n v := by
    unfold wd3
    rw [ok32_of k0.1 k0.2]
    unfold Ieee.Format.word
    rw [signWeight3_eq]
    cases n <;> simp <;> omega
  rw [← e, Go.Proofs.Ytdbeeclkknhjaaa.ofS_wd]
  unfold told3
  rw [if_neg]
  intro c
  have := (cl3_nan' k0.1 k0.2).1 c
  unfold inf3 rg3 at this
  cases n <;> simp at this <;> omega

end Go.Pt
namespace Go.Proofs.Ytdbeeclkknhjaaa
open Go.RowKit Go.Pt
attribute [local go_sem] and_2047 and_frac and_255 and_frac3 and_one or_frac or_frac3

set_option maxHeartbeats 1000000 in
theorem join32_any (n : Bool) (m e : Int) (h1 : m < 9223372036854775808) (w : World) :
    Calls Try.prog 47 #[.bool n, .int .i64 m, .int .i64 e] w fun en w' => en = .returned (.tuple #[.int .i64 (jv32 n m e), .bool (jo32 m e)]) ∧ Grown w w' := by
  cases k : jo64 m e
  · have F := jo64_none (n := n) k
    have HF := Lib.hid F; clear F
    go_enter Try.func47, Try.ntmps47
    go_wp2_with (first | (go_at_call 38; refine (join_any _ _ _ h1 _).mono ?_; rintro e w' ⟨rfl, rfl⟩))
    go_ret2
    exact ⟨rib HF.out.1.symm HF.out.2.symm, Grown.refl _⟩
  · obtain ⟨u, u0, u1, u2, u3⟩ := jo64_hit (n := n) k
    obtain ⟨x, w1, d1, d2, d3, d4⟩ := down_any Try.underlying24 Try.underlying26 n u1 w
    obtain ⟨z, w2, b1, b2, b3, b4⟩ := back_any Try.underlying26 Try.underlying24 n u1 d2 u2 d4 w1
    have hw := wd_signed n (u := u) (by omega)
    rw [← u3] at hw
    rw [← hw] at d1 b3 b4
    have g := Go.Pt.Grown.trans d3 b2
    by_cases c : Hit m e
    · obtain ⟨q1, v, q2, q3, rfl⟩ := b3 c
      have F := j32_hit n (m := m) (e := e) (r := v) u0 (by rw [infRung3_eq]; exact q2) q3
      have O := ofS_word n q2
      have HF := Lib.hid F; clear F
      have HO := Lib.hid O; clear O
      have HG := Lib.hid g
      clear b3 b4 d2 d3 d4 b2 g q3 c hw u2 u3
      go_enter Try.func47, Try.ntmps47
      go_wp2_with (first | (go_at_call 38; refine (join_any _ _ _ h1 _).mono ?_; rintro e w' ⟨rfl, rfl⟩) | (go_at_call 19; refine (float_any _ _).mono ?_; rintro e w' ⟨rfl, rfl⟩) | (go_at_call 23; refine (of32_any _ _).mono ?_; rintro e w' ⟨rfl, rfl⟩))
      go_ret2
      exact ⟨rib (by rw [HF.out.1, HO.out]) HF.out.2.symm, HG.out⟩
    · have q1 := b4 c
      have F := jo32_miss n c
      have HF := Lib.hid F; clear F
      have HG := Lib.hid g
      clear b3 b4 d2 d3 d4 b2 g c hw u2 u3
      go_enter Try.func47, Try.ntmps47
      go_wp2_with (first | (go_at_call 38; refine (join_any _ _ _ h1 _).mono ?_; rintro e w' ⟨rfl, rfl⟩) | (go_at_call 19; refine (float_any _ _).mono ?_; rintro e w' ⟨rfl, rfl⟩))
      go_ret2
      exact ⟨rib HF.out.1.symm HF.out.2.symm, HG.out⟩

set_option maxHeartbeats 1000000 in
theorem joined_any (n : Bool) (m e : Int) (h1 : m < 9223372036854775808) (w : World) :
    Calls Try.prog 41 #[.bool n, .int .i64 m, .int .i64 e] w fun en w' => en = .returned (.bool true) ∧ Grown w w' := by
  go_enter Try.func41, Try.ntmps41
  go_wp2_with (first | (go_at_call 38; refine (join_any _ _ _ h1 _).mono ?_; rintro e w' ⟨rfl, rfl⟩) | (go_at_call 81; refine (rJoin64_any _ _ _ h1 _).mono ?_; rintro e w' ⟨rfl, rfl⟩) | (go_at_call 47; refine (join32_any _ _ _ h1 _).mono ?_; rintro e w1 ⟨rfl, hg⟩) | (go_at_call 82; refine (rJoin32_any _ _ _ h1 _).mono ?_; rintro e w2 ⟨rfl, rfl⟩))
  go_ret
  exact ⟨rb (by simp), by assumption⟩

end Go.Proofs.Ytdbeeclkknhjaaa
