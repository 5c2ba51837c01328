/- What the calls of Ulp come to; the walks of turned, BitsUlp. Condition: it stands in each fact. -/
import Derived.Test.YtdbeeclkknhjaaaX1
namespace Ieee.Format
theorem at_succ (f : Format) (r : Nat) : f.At (f.mg r + 1) (f.leastPlace + f.up r) (r + 1) := by
  have h1 := f.binade_pos
  have hr := f.rung_of r
  have hl := f.mg_lt r
  have hs : f.binade ≤ f.mg r ∨ f.up r = 0 := by
    by_cases h : r < f.binade
    · exact Or.inr (f.up_small h)
    · exact Or.inl (f.mg_ge (by omega))
  generalize hm : f.mg r = m at *
  generalize hq : f.up r = q at *
  unfold At
  by_cases hn : m + 1 < 2 * f.binade
  · have := f.norm_rung (m := m + 1) (q := q) hn (by omega)
    rw [show r + 1 = q * f.binade + (m + 1) by omega, this.1, this.2]
    exact Deq.refl _ _
  · have e : r + 1 = (q + 1) * f.binade + f.binade := by rw [Nat.add_mul, Nat.one_mul]; omega
    have := f.norm_rung (m := f.binade) (q := q + 1) (by omega) (Or.inl (Nat.le_refl _))
    rw [e, this.1, this.2, show m + 1 = f.binade * 2 ^ 1 by omega]
    have := Deq.shift f.binade 1 (f.leastPlace + q)
    rw [show f.leastPlace + (q : Int) + ((1 : Nat) : Int) = f.leastPlace + ((q + 1 : Nat) : Int) by omega] at this
    exact this
end Ieee.Format
namespace Go.Pt

/-- The worth of the last bit. -/
noncomputable def ulp (b : Int) : Int := if cl b = 4 then nan else if cl b = 3 then inf else jv64 false 1 (pexp b)

theorem pexp_bd (b : Int) : -1074 ≤ pexp b ∧ pexp b ≤ 971 := by
  unfold pexp
  have h1 := fld_bd b
  have h2 := cl_fld b
  by_cases c : cl b < 2
  · rw [if_pos c]; omega
  · rw [if_neg c]
    by_cases d : cl b = 2
    · rw [if_pos d]
      have : fld b ≠ 2047 := fun k => by have := h2.1 k; omega
      have : fld b ≠ 0 := fun k => by have := h2.2.1 k; omega
      omega
    · rw [if_neg d]; omega

theorem one_at {e : Int} (h1 : -1074 ≤ e) (h2 : e ≤ 971) : ∃ u, u < 9218868437227405312 ∧ Ieee.double.At 1 e u := by
  obtain ⟨u, k1, k2⟩ := Ieee.double.at_make (m := 1) (p := e) (by rw [binade_eq]; omega) (by rw [least_eq]; omega) (by rw [least_eq, binade_eq, infRung_eq]; omega)
  rw [infRung_eq] at k1
  exact ⟨u, k1, k2⟩

theorem ld_one {e : Int} {z : Nat} (h1 : -1074 ≤ e) (h2 : e ≤ 971) (h : LdOK 4607182418800017408 e z) : jv64 false 1 e = z ∧ jo64 1 e = true := by
  obtain ⟨u, k1, k2⟩ := one_at h1 h2
  have k3 : Ieee.double.At (Ieee.double.mg 4607182418800017408) (-1074 + Ieee.double.up 4607182418800017408 + e) u := by
    rw [show Ieee.double.mg 4607182418800017408 = 4503599627370496 * 1 by decide, show ((Ieee.double.up 4607182418800017408 : Nat) : Int) = 1022 by decide]
    refine (deq_52 _ _).trans ?_
    rw [show -1074 + 1022 + e + 52 = e by omega]
    exact k2
  have := h.2 u k1 k3
  subst this
  have j := j64_hit false (m := 1) (e := e) (r := z) (by omega) (by rw [infRung_eq]; exact k1) k2
  exact ⟨by rw [j.1]; simp, j.2⟩

theorem jo_one {e : Int} (h1 : -1074 ≤ e) (h2 : e ≤ 971) : jo64 1 e = true := by
  obtain ⟨u, k1, k2⟩ := one_at h1 h2
  exact (j64_hit false (m := 1) (e := e) (r := u) (by omega) (by rw [infRung_eq]; exact k1) k2).2

theorem abs_inf {b : Int} (h : I64 b) (c : cl b = 3) : abs b = inf := by
  have := (cl_inf b).1 c
  unfold abs
  rw [if_neg (by omega)]
  unfold rg inf at *
  unfold I64 at h
  split <;> omega

theorem jv64_i64 (n : Bool) (m e : Int) : I64 (jv64 n m e) := by
  unfold jv64
  have hk : ∀ r, jn Ieee.double m.toNat e = some r → r < 9218868437227405312 := by
    intro r h
    unfold jn at h
    split at h
    · rename_i hx
      have := (Classical.choose_spec hx).1
      cases h
      exact Nat.lt_of_lt_of_eq this infRung_eq
    · cases h
  split
  · unfold I64; omega
  · cases h : jn Ieee.double m.toNat e with
    | none => unfold I64; simp
    | some r =>
      have := hk r h
      unfold I64
      simp only
      split <;> omega

/-- A finite pattern's own parts. -/
theorem own_at {b : Int} (h : cl b < 3) : (rg b).toNat < 9218868437227405312 ∧ pmag b = Ieee.double.mg (rg b).toNat ∧ pexp b = -1074 + Ieee.double.up (rg b).toNat := by
  have h0 := rg_bd b
  have h1 := (cl_fin b).1 h
  unfold inf at h1
  have e : ((rg b).toNat : Int) = rg b := Int.toNat_of_nonneg h0.1
  have k := mag_nat (x := (rg b).toNat) (by omega)
  rw [e] at k
  have r : rg (rg b) = rg b := by unfold rg; omega
  have c : cl (rg b) = cl b := by rw [cl_eq, cl_eq, r]
  have f1 : frc (rg b) = frc b := by rw [frc_rg, r, ← frc_rg]
  have f2 : fld (rg b) = fld b := by rw [fld_rg, r, ← fld_rg]
  refine ⟨by omega, ?_, ?_⟩
  · rw [← k.1]; unfold pmag; rw [c, f1]
  · rw [← k.2]; unfold pexp; rw [c, f2]

theorem abs_rg {b : Int} (h : I64 b) (c : cl b ≠ 4) : abs b = rg b := by
  unfold abs; rw [if_neg c]; unfold rg; unfold I64 at h; split <;> omega

/-- The neighbour away from 0 is one last bit further, where it is finite. -/
theorem ulp_next {b : Int} (h : I64 b) (c : cl b < 3) (k : jo64 (pmag b + 1) (pexp b) = true) : next (abs b) = jv64 false (pmag b + 1) (pexp b) := by
  obtain ⟨k1, k2, k3⟩ := own_at c
  have hb := rg_bd b
  have a := Ieee.double.at_succ (rg b).toNat
  rw [least_eq] at a
  have e : (pmag b + 1).toNat = Ieee.double.mg (rg b).toNat + 1 := by rw [k2]; omega
  rw [← e, ← k3] at a
  have hp : 0 ≤ pmag b + 1 := by rw [k2]; omega
  by_cases f : (rg b).toNat + 1 < 9218868437227405312
  · have j := j64_hit false hp (by rw [infRung_eq]; exact f) a
    rw [j.1, abs_rg h (by omega)]
    have c2 : cl (rg b) ≠ 4 := by
      intro x
      have := (cl_nan _).1 x
      unfold inf rg at this
      unfold rg at f
      omega
    unfold next
    rw [if_neg c2]
    unfold inf
    rw [if_neg (by omega)]
    have r : rg (rg b) = rg b := by unfold rg; omega
    rw [r]
    simp only [Bool.false_eq_true, if_false]
    split <;> (try split) <;> omega
  · have : jo64 (pmag b + 1) (pexp b) = false := by
      unfold jo64
      rw [if_neg (by omega), jn_none]
      · rfl
      · intro r hr ha
        rw [infRung_eq] at hr
        have := ha.inj a
        omega
    rw [this] at k
    exact absurd k (by decide)

theorem pmag_bd (b : Int) : 0 ≤ pmag b ∧ pmag b < 9007199254740992 := by
  have := frc_bd b
  unfold pmag
  repeat' split
  all_goals omega
end Go.Pt
namespace Go.Proofs.Ytdbeeclkknhjaaa
open Go.RowKit Go.Pt
attribute [local go_sem] and_2047 and_frac and_255 and_frac3 and_one or_frac or_frac3

set_option maxHeartbeats 1000000 in
theorem ulp_any (b : Int) (hb : I64 b) (w : World) :
    Calls Try.prog 40 #[.int .i64 b] w fun e w' => e = .returned (.int .i64 (ulp b)) ∧ w = w' := by
  have x := pexp_bd b
  have x1 := x.1
  have x2 := x.2
  clear x
  by_cases c : cl b < 3
  · have hp : pok b = true := by unfold pok; rw [decide_eq_true c]
    have F := fun z => ld_one (z := z) x1 x2
    have HF := Lib.hid F; clear F
    have hu : ulp b = jv64 false 1 (pexp b) := by unfold ulp; rw [if_neg (by omega), if_neg (by omega)]
    have HU := Lib.hid hu; clear hu
    go_enter Try.func40, Try.ntmps40
    go_wp2_with (first | (go_at_call 37; refine (parts_any _ _).mono ?_; rintro e w' ⟨rfl, rfl⟩))
    refine (ldexpTop_any _ _ (by omega) (by omega) (by omega) (by omega) _).mono ?_
    rintro en w1 ⟨z, rfl, hz, rfl⟩
    have G := (HF.out z hz).1
    have hz1 := ofD_nat hz.1
    have HG := Lib.hid G
    clear G hz HF
    go_wp2_with (first | (go_at_call 21; refine (of_any _ _).mono ?_; rintro e w' ⟨rfl, rfl⟩))
    go_ret
    exact ⟨ri (by rw [HU.out, HG.out]), rfl⟩
  · have hp : pok b = false := by unfold pok; rw [decide_eq_false c]
    have F : abs b = ulp b := by
      have := cl_bd b
      unfold ulp
      by_cases d : cl b = 4
      · rw [if_pos d]; unfold abs; rw [if_pos d]
      · rw [if_neg d, if_pos (by omega), abs_inf hb (by omega)]
    have HF := Lib.hid F; clear F
    go_enter Try.func40, Try.ntmps40
    go_wp2_with (first | (go_at_call 37; refine (parts_any _ _).mono ?_; rintro e w' ⟨rfl, rfl⟩) | (go_at_call 39; refine (abs_any _ hb _).mono ?_; rintro e w' ⟨rfl, rfl⟩))
    go_ret
    exact ⟨ri HF.out, rfl⟩

set_option maxHeartbeats 1000000 in
theorem rUlp_any (b : Int) (hb : I64 b) (w : World) :
    Calls Try.prog 72 #[.int .i64 b] w fun e w' => e = .returned (.int .i64 (ulp b)) ∧ w = w' := by
  by_cases c : cl b < 3
  · have hp : pok b = true := by unfold pok; rw [decide_eq_true c]
    have hu : ulp b = jv64 false 1 (pexp b) := by unfold ulp; rw [if_neg (by omega), if_neg (by omega)]
    have HU := Lib.hid hu; clear hu
    go_enter Try.func72, Try.ntmps72
    go_wp2_with (first | (go_at_call 50; refine (rParts_any _ hb _).mono ?_; rintro e w' ⟨rfl, rfl⟩) | (go_at_call 81; refine (rJoin64_any _ _ _ (by omega) _).mono ?_; rintro e w' ⟨rfl, rfl⟩))
    go_ret
    exact ⟨ri HU.out.symm, rfl⟩
  · have hp : pok b = false := by unfold pok; rw [decide_eq_false c]
    have hc := cl_bd b
    cases d : (cl b == 4)
    · have d' := beq_eq_false_iff_ne.1 d
      have F : ulp b = 9218868437227405312 := by unfold ulp; rw [if_neg d', if_pos (by omega)]; rfl
      have HF := Lib.hid F; clear F
      go_enter Try.func72, Try.ntmps72
      go_wp2_with (first | (go_at_call 50; refine (rParts_any _ hb _).mono ?_; rintro e w' ⟨rfl, rfl⟩) | (go_at_call 25; refine (rClass_any _ hb _).mono ?_; rintro e w' ⟨rfl, rfl⟩))
      go_ret
      exact ⟨ri HF.out.symm, rfl⟩
    · have d' := beq_iff_eq.1 d
      have F : ulp b = 9221120237041090561 := by unfold ulp; rw [if_pos d']; rfl
      have HF := Lib.hid F; clear F
      go_enter Try.func72, Try.ntmps72
      go_wp2_with (first | (go_at_call 50; refine (rParts_any _ hb _).mono ?_; rintro e w' ⟨rfl, rfl⟩) | (go_at_call 25; refine (rClass_any _ hb _).mono ?_; rintro e w' ⟨rfl, rfl⟩))
      go_ret
      exact ⟨ri HF.out.symm, rfl⟩

set_option maxHeartbeats 1000000 in
theorem turned_any (b : Int) (hb : I64 b) (w : World) :
    Calls Try.prog 36 #[.int .i64 b] w fun e w' => e = .returned (.bool true) ∧ Grown w w' := by
  go_enter Try.func36, Try.ntmps36
  go_wp2_with (first | (go_at_call 34; refine (next_any _ hb _).mono ?_; rintro e w' ⟨rfl, rfl⟩) | (go_at_call 70; refine (rNext_any _ hb _).mono ?_; rintro e w' ⟨rfl, rfl⟩) | (go_at_call 35; refine (prev_any _ hb _).mono ?_; rintro e w' ⟨rfl, rfl⟩) | (go_at_call 71; refine (rPrev_any _ hb _).mono ?_; rintro e w' ⟨rfl, rfl⟩) | (go_at_call 40; refine (ulp_any _ hb _).mono ?_; rintro e w' ⟨rfl, rfl⟩) | (go_at_call 72; refine (rUlp_any _ hb _).mono ?_; rintro e w' ⟨rfl, rfl⟩) | (go_at_call 45; refine (neg_any _ hb _).mono ?_; rintro e w' ⟨rfl, rfl⟩) | (go_at_call 73; refine (rNeg_any _ hb _).mono ?_; rintro e w' ⟨rfl, rfl⟩) | (go_at_call 39; refine (abs_any _ hb _).mono ?_; rintro e w' ⟨rfl, rfl⟩) | (go_at_call 74; refine (rAbs_any _ hb _).mono ?_; rintro e w' ⟨rfl, rfl⟩) | (go_at_call 75; refine (canon_any _ hb _).mono ?_; rintro e w1 ⟨rfl, hg⟩) | (go_at_call 76; refine (rCanon_any _ hb _).mono ?_; rintro e w2 ⟨rfl, rfl⟩))
  go_ret
  exact ⟨rb (by simp), by assumption⟩

set_option maxHeartbeats 1000000 in
theorem ulpLaw_any (b : Int) (hb : I64 b) (w : World) :
    Calls Try.prog 11 #[.int .i64 b] w fun e w' => e = .returned (.bool true) ∧ w = w' := by
  have x := pexp_bd b
  have y := pmag_bd b
  have y1 := y.1
  have y2 := y.2
  by_cases c : cl b < 3
  · have hp : pok b = true := by unfold pok; rw [decide_eq_true c]
    have hu : ulp b = jv64 false 1 (pexp b) := by unfold ulp; rw [if_neg (by omega), if_neg (by omega)]
    have j1 := jo_one x.1 x.2
    have ha := abs64 hb
    clear x y
    cases k : jo64 (pmag b + 1) (pexp b)
    · go_enter Try.func11, Try.ntmps11
      go_wp2_with (first | (go_at_call 17; refine (alive_any _).mono ?_; rintro e w' ⟨rfl, rfl⟩) | (go_at_call 37; refine (parts_any _ _).mono ?_; rintro e w' ⟨rfl, rfl⟩) | (go_at_call 38; refine (join_any _ _ _ (by omega) _).mono ?_; rintro e w' ⟨rfl, rfl⟩) | (go_at_call 39; refine (abs_any _ hb _).mono ?_; rintro e w' ⟨rfl, rfl⟩) | (go_at_call 40; refine (ulp_any _ hb _).mono ?_; rintro e w' ⟨rfl, rfl⟩))
      go_ret
      exact ⟨rb (by simp), rfl⟩
    · have F := ulp_next hb c k
      go_enter Try.func11, Try.ntmps11
      go_wp2_with (first | (go_at_call 17; refine (alive_any _).mono ?_; rintro e w' ⟨rfl, rfl⟩) | (go_at_call 37; refine (parts_any _ _).mono ?_; rintro e w' ⟨rfl, rfl⟩) | (go_at_call 38; refine (join_any _ _ _ (by omega) _).mono ?_; rintro e w' ⟨rfl, rfl⟩) | (go_at_call 39; refine (abs_any _ hb _).mono ?_; rintro e w' ⟨rfl, rfl⟩) | (go_at_call 40; refine (ulp_any _ hb _).mono ?_; rintro e w' ⟨rfl, rfl⟩) | (go_at_call 34; refine (next_any _ ha _).mono ?_; rintro e w' ⟨rfl, rfl⟩))
      go_ret
      exact ⟨rb (by simp), rfl⟩
  · have hp : pok b = false := by unfold pok; rw [decide_eq_false c]
    clear x y
    go_enter Try.func11, Try.ntmps11
    go_wp2_with (first | (go_at_call 17; refine (alive_any _).mono ?_; rintro e w' ⟨rfl, rfl⟩) | (go_at_call 37; refine (parts_any _ _).mono ?_; rintro e w' ⟨rfl, rfl⟩))
    go_ret
    exact ⟨rfl, rfl⟩

end Go.Proofs.Ytdbeeclkknhjaaa
