/- The document's answer for numbers. Condition: it stands in each fact. -/
import Derived.Test.YtgmebioogkmfgaaDoorQT4
import Derived.Test.YtgmebioogkmfgaaDoorQ8
namespace Go.Proofs.YtgmebioogkmfgaaDoor
open Go.RowKit Go.Pt Go.Mem

/-- A slice of digits, at any place. -/
def InN (w : World) (v : Value) (n : Nat) (x : Nat → Nat) : Prop := InV w v n (fun j => ((x j : Nat) : Int))

set_option maxRecDepth 100000 in
set_option maxHeartbeats 4000000 in
theorem low_at (v : Value) (n : Nat) (x : Nat → Nat) (w : World) (hn : n ≤ 100000) (hx : ∀ j, x j < 1073741824) (h : InN w v n x) :
    Calls Tryd.prog 54 #[v] w (LowPost n x w) := by
  obtain ⟨a, c, rfl, hin⟩ := h
  have hcell : ∀ j, j < n → ∃ b off, a = some ⟨b, off, none⟩ ∧ w.cell? ⟨b, off + j, none⟩ = some (.int .i64 ((x j : Nat) : Int)) := fun j hj => by
    obtain ⟨b, off, h1, _, h2⟩ := hin j hj
    exact ⟨b, off, h1, h2⟩
  have HC := Lib.hid hcell
  have HX := Lib.hid hx
  clear hin hcell hx
  go_enter Tryd.func54, Tryd.ntmps54
  go_wp2
  go_loop [3] (fun i => ∃ k : Nat, k ≤ n ∧ i = .int .i64 (k : Int) ∧ ∀ j, j < k → x j = 0) (fun i => n - (intOf i).toNat)
  case atStart => exact ⟨0, Nat.zero_le _, rfl, fun j hj => by omega⟩
  case round =>
    obtain ⟨k, hk, rfl, hz⟩ := hrel
    have HZ := Lib.hid hz
    clear hz
    by_cases ck : k < n
    · obtain ⟨b, off, rfl, hc⟩ := HC.out k ck
      have p2 : (k : Int) < (n : Int) := by omega
      have hxl := HX.out k
      generalize hd : x k = d at hc hxl
      have HD := Lib.hid hd
      clear hd
      by_cases z : d = 0
      · subst z
        go_wp2
        go_round
        case rel =>
          refine ⟨k + 1, by omega, by push_cast; rfl, fun j g => ?_⟩
          by_cases e : j = k
          · subst e; exact HD.out
          · exact HZ.out j (by omega)
        case measure => simp [intOf]; omega
      · have z' : ((d : Int) == 0) = false := beq_eq_false_iff_ne.2 (by omega)
        have z2 : ((d : Int) != 0) = true := by rw [bne, z']; rfl
        have hk9 : (k : Int) ≤ 100000 := by omega
        go_wp2
        go_loop [4, 5] (fun s u => ∃ c o : Nat, c < 64 ∧ s = .int .i64 (30 * (k : Int) + (c : Int)) ∧ u = .int .i64 (o : Int) ∧ o * 2 ^ c = d) (fun _ u => (intOf u).toNat)
        case atStart => exact ⟨0, d, by omega, by simp, rfl, by simp⟩
        case round =>
          obtain ⟨c, o, hc64, rfl, rfl, hod⟩ := hrel
          have ho0 : o ≠ 0 := fun e => by rw [e, Nat.zero_mul] at hod; exact z hod.symm
          have hcb : c < 30 := by
            rcases Nat.lt_or_ge c 30 with g | g
            · exact g
            · have h2 : 2 ^ 30 ≤ 2 ^ c := two_mono _ _ g
              have h3 : 1 * 2 ^ c ≤ o * 2 ^ c := Nat.mul_le_mul_right _ (by omega)
              rw [show (2 : Nat) ^ 30 = 1073741824 from rfl] at h2
              omega
          have hol : o < 1073741824 := by
            have h3 : o * 1 ≤ o * 2 ^ c := Nat.mul_le_mul_left _ (Nat.two_pow_pos c)
            omega
          have hcb2 : (c : Int) < 30 := by omega
          by_cases par : o % 2 = 1
          · have P : LowPost n x w (.returned (.int .i64 (30 * (k : Int) + (c : Int)))) w := by
              obtain ⟨g1, g2, g3⟩ := low_odd ck HZ.out par (by rw [HD.out]; exact hod.symm) (HX.out k)
              exact ⟨rfl, Or.inr ⟨30 * k + c, by push_cast; rfl, by omega, g2, g3⟩⟩
            have HP := Lib.hid P
            clear P hod
            have par2 : ((o : Int) % 2 == 0) = false := beq_eq_false_iff_ne.2 (by omega)
            have par3 : (Int.tmod (o : Int) 2 == 0) = false := by rw [Int.tmod_eq_emod_of_nonneg (by omega)]; exact par2
            go_wp2
            go_ret
            exact HP.out
          · obtain ⟨o', rfl⟩ : ∃ o', o = 2 * o' := ⟨o / 2, by omega⟩
            have HO := Lib.hid hod
            clear hod
            have par2 : (((2 * o' : Nat) : Int) % 2 == 0) = true := beq_iff_eq.2 (by omega)
            have par3 : (Int.tmod ((2 * o' : Nat) : Int) 2 == 0) = true := by rw [Int.tmod_eq_emod_of_nonneg (by omega)]; exact par2
            have d2 : ((2 * o' : Nat) : Int) / 2 = (o' : Int) := by omega
            have d3 : Int.tdiv ((2 * o' : Nat) : Int) 2 = (o' : Int) := by rw [Int.tdiv_eq_ediv_of_nonneg (by omega)]; exact d2
            go_wp2
            refine ⟨⟨c + 1, o', by omega, ?_, rfl, ?_⟩, ?_⟩
            · rw [show ((c + 1 : Nat) : Int) = (c : Int) + 1 by omega, Int.add_assoc]
            · rw [Nat.pow_succ, Nat.mul_comm (2 ^ c) 2, ← Nat.mul_assoc, Nat.mul_comm o' 2]
              exact HO.out
            · simp [intOf]; omega
    · obtain rfl : k = n := by omega
      go_wp2
      go_ret
      exact ⟨rfl, Or.inl ⟨rfl, HZ.out⟩⟩

set_option maxRecDepth 100000 in
set_option maxHeartbeats 4000000 in
theorem shr_at (v : Value) (n k : Nat) (x : Nat → Nat) (w : World) (hn : n ≤ 50000) (hx : ∀ j, x j < 1073741824) (h : InN w v n x) (hk : k < 30 * n) :
    Calls Tryd.prog 55 #[v, .int .i64 (k : Int)] w (ShrPost (dv x n / 2 ^ k) n w.heap.size w) := by
  obtain ⟨a0, cap, rfl, hin⟩ := h
  obtain ⟨b, off, rfl, hb, _⟩ := hin 0 (by omega)
  have hcell : ∀ j, j < n → w.cell? ⟨b, off + j, none⟩ = some (.int .i64 ((x j : Nat) : Int)) := fun j hj => by
    obtain ⟨b', off', e, _, h2⟩ := hin j hj
    cases e
    exact h2
  obtain ⟨q, hq⟩ : ∃ q, k / 30 = q := ⟨_, rfl⟩
  obtain ⟨r, hr⟩ : ∃ r, k % 30 = r := ⟨_, rfl⟩
  have q1 : (k : Int) / 30 = (q : Int) := by omega
  have r1 : (k : Int) % 30 = (r : Int) := by omega
  have q2 : Int.tdiv (k : Int) 30 = (q : Int) := by rw [Int.tdiv_eq_ediv_of_nonneg (by omega)]; exact q1
  have r2 : Int.tmod (k : Int) 30 = (r : Int) := by rw [Int.tmod_eq_emod_of_nonneg (by omega)]; exact r1
  have q3 : (q : Int) < (n : Int) := by omega
  have r3 : (r : Int) < 64 := by omega
  have HC := Lib.hid (And.intro hb hcell)
  have HX := Lib.hid hx
  clear hin hcell hx hb
  go_enter Tryd.func55, Tryd.ntmps55
  go_wp2
  have hU2 : wrap64 ((2 : Int) ^ r) = ((2 ^ r : Nat) : Int) := by
    rw [pow_cast]
    have : 2 ^ r ≤ 2 ^ 29 := two_mono _ _ (by omega)
    generalize (2 : Nat) ^ r = U at *
    exact IntWalk.wrap64_in _ (by omega)
  rw [hU2]
  try rw [decide_eq_false (show ¬ n ≤ q by omega)]
  have hUV : 2 ^ r * 2 ^ (30 - r) = 1073741824 := by rw [← Nat.pow_add, show r + (30 - r) = 30 by omega]
  have hU0 := Nat.two_pow_pos r
  have hdig : ∀ i, q ≤ i → i < n → dgt (dv x n / 2 ^ k) (i - q) = x i / 2 ^ r + (if i + 1 < n then x (i + 1) else 0) % 2 ^ r * 2 ^ (30 - r) := fun i h1 h2 => by
    rw [shr_digit hq.symm hr.symm h1, dgt_dv HX.out, dgt_dv HX.out, if_pos h2]
  have hVle : 2 ^ (30 - r) ≤ 2 ^ 30 := two_mono _ _ (by omega)
  have hUle : 2 ^ r ≤ 2 ^ 29 := two_mono _ _ (by omega)
  generalize (2 : Nat) ^ (30 - r) = V at hUV hdig hVle
  generalize hUe : (2 : Nat) ^ r = U at hUV hU0 hdig hUle ⊢
  have hVc : (1073741824 : Nat) / U = V := by rw [← hUV, Nat.mul_div_cancel_left _ hU0]
  generalize hA : dv x n / 2 ^ k = A at hdig ⊢
  have HD := Lib.hid (And.intro hdig (And.intro hUV (And.intro hU0 (And.intro hVc (And.intro hA hUe)))))
  have u0 : ¬ ((U : Int) = 0) := by omega
  have u9 : (1 : Int) ≤ (U : Int) := by omega
  have u1 : ((U : Int) == 0) = false := beq_eq_false_iff_ne.2 u0
  have uV : Int.tdiv 1073741824 (U : Int) = (V : Int) := by
    rw [Int.tdiv_eq_ediv_of_nonneg (by omega), ← hVc]; rfl
  have uV2 : (1073741824 : Int) / (U : Int) = (V : Int) := by rw [← hVc]; rfl
  have uVb : (V : Int) ≤ 1073741824 := by rw [show (2 : Nat) ^ 30 = 1073741824 from rfl] at hVle; omega
  clear hdig hUV hVc hA hU2 hUe hVle hUle q1 r1 q2 r2
  go_loopw [5, 7] (fun l ix wr => ShInv n q A w l ix wr) (fun _ ix _ => n - (intOf ix).toNat)
  case atStart => exact ⟨q, Nat.le_refl _, by omega, rfl, by rw [Nat.sub_self]; exact IRow.nil _ _ _, Fr.refl _ _⟩
  case round =>
    obtain ⟨i, h1, h2, rfl, hrow, hf⟩ := hrel
    obtain ⟨la, lc, rfl⟩ := hrow.shape
    have HR := Lib.hid (And.intro hrow hf)
    clear hrow hf
    by_cases c : i < n
    · have i1 : (i : Int) < (n : Int) := by omega
      have c0 : wr.cell? ⟨b, off + i, none⟩ = some (.int .i64 ((x i : Nat) : Int)) := by rw [HR.out.2.cell (p := ⟨b, off + i, none⟩) HC.out.1 (fun x => x)]; exact HC.out.2 i c
      have hd := HD.out.1 i h1 c
      have hlt := HX.out i
      have hdl := dgt_lt A (i - q)
      generalize hDD : dgt A (i - q) = D at hd hdl
      have HDD := Lib.hid hDD
      clear hDD
      generalize x i = d at c0 hd hlt
      by_cases c2 : i + 1 < n
      · rw [if_pos c2] at hd
        have i2 : (i : Int) + 1 < (n : Int) := by omega
        have c1 : wr.cell? ⟨b, off + (i + 1), none⟩ = some (.int .i64 ((x (i + 1) : Nat) : Int)) := by rw [HR.out.2.cell (p := ⟨b, off + (i + 1), none⟩) HC.out.1 (fun x => x)]; exact HC.out.2 (i + 1) c2
        have hel0 := HX.out (i + 1)
        generalize x (i + 1) = e at c1 hd hel0
        have hDz : (D : Int) = (d : Int) / (U : Int) + (e : Int) % (U : Int) * (V : Int) := by rw [hd]; push_cast; rfl
        have p1 : 0 ≤ (d : Int) / (U : Int) := Int.ediv_nonneg (by omega) (by omega)
        have p2 : 0 ≤ (e : Int) % (U : Int) * (V : Int) := Int.mul_nonneg (Int.emod_nonneg _ u0) (by omega)
        have p3 : (d : Int) / (U : Int) + (e : Int) % (U : Int) * (V : Int) < 1073741824 := by omega
        have hel : (e : Int) < 1073741824 := by omega
        go_wp2_with fail
        go_quiet (fail)
        have RW0 := Lib.hid (And.intro (HR.out.1.keep ((Fr.refl wr None).drewN nq)) (HR.out.2.drewN nq))
        generalize wr.drewN nq = W at RW0 ⊢
        have RW := RW0
        clear RW0
        obtain ⟨v', wn, happ, g1, g2⟩ := app_next (w := W) (w0 := w) RW.out.1 RW.out.2 (by omega) D _ hDz.symm 22
        have R : Hid (ShInv n q A w v' (.int .i64 ((i : Int) + 1)) wn) := by
          refine Lib.hid ⟨i + 1, by omega, c, by push_cast; rfl, ?_, g2⟩
          rw [show i + 1 - q = i - q + 1 by omega]
          refine g1.congr (fun j hj => ?_)
          unfold snoc
          split
          · rename_i e
            rw [e]
            exact HDD.out.symm
          · rfl
        clear g1 g2
        go_wp2_with (refine wpList_appI _ _ rfl _ _ rfl _ _ _ rfl rfl happ ?_)
        clear happ hDz p1 p2 p3 hel c0 c1 uV uV2 hd hdl hlt
        go_roundw
        case rel => exact R.out
        case measure => simp [intOf]; omega
      · rw [if_neg c2] at hd
        have i2 : ¬ ((i : Int) + 1 < (n : Int)) := by omega
        have hDz : (D : Int) = (d : Int) / (U : Int) := by rw [hd, Nat.zero_mod, Nat.zero_mul, Nat.add_zero]; push_cast; rfl
        have RW := HR
        generalize wr = W at *
        obtain ⟨v', wn, happ, g1, g2⟩ := app_next (w := W) (w0 := w) RW.out.1 RW.out.2 (by omega) D _ hDz.symm 22
        have R : Hid (ShInv n q A w v' (.int .i64 ((i : Int) + 1)) wn) := by
          refine Lib.hid ⟨i + 1, by omega, c, by push_cast; rfl, ?_, g2⟩
          rw [show i + 1 - q = i - q + 1 by omega]
          refine g1.congr (fun j hj => ?_)
          unfold snoc
          split
          · rename_i e
            rw [e]
            exact HDD.out.symm
          · rfl
        clear g1 g2
        go_wp2_with (refine wpList_appI _ _ rfl _ _ rfl _ _ _ rfl rfl happ ?_)
        go_roundw
        case rel => exact R.out
        case measure => simp [intOf]; omega
    · obtain rfl : i = n := by omega
      have ht := trim_ok _ _ _ _ wr (by omega) HR.out.1
      have HTR := Lib.hid ht
      clear ht
      go_wp2_with fail
      refine (HTR.out).mono ?_
      rintro en w9 ⟨m, u, rfl, rfl, g1, g2, g3, g4⟩
      have P : Hid (ShrPost (dv x i / 2 ^ k) i w.heap.size w (.returned u) wr) := by
        rw [HD.out.2.2.2.2.1]
        have hAn : A < 2 ^ (30 * (i - q)) := by
          have h5 := dv_lt HX.out i
          rw [← HD.out.2.2.2.2.1]
          refine Nat.div_lt_of_lt_mul ?_
          rw [← Nat.pow_add]
          exact Nat.lt_of_lt_of_le h5 (two_mono _ _ (by omega))
        refine ⟨m, u, rfl, g1, by omega, g4, ?_, HR.out.2⟩
        rw [dv_dgt, Nat.mod_eq_of_lt]
        rcases Nat.lt_or_ge A (2 ^ (30 * m)) with h6 | h6
        · exact h6
        · exfalso
          have h7 : A / 2 ^ (30 * m) = 0 := by
            have hz : ∀ t, m + t ≤ i - q → A / 2 ^ (30 * (i - q - t)) = 0 ∨ A / 2 ^ (30 * (i - q - t)) = 0 := by
              intro t
              induction t with
              | zero => intro _; exact Or.inl (Nat.div_eq_of_lt hAn)
              | succ t ih =>
                intro ht
                have h8 := (ih (by omega)).elim id id
                have h9 := g3 (i - q - (t + 1)) (by omega) (by omega)
                unfold dgt at h9
                have h10 : A / 2 ^ (30 * (i - q - t)) = A / 2 ^ (30 * (i - q - (t + 1))) / 1073741824 := by
                  rw [Nat.div_div_eq_div_mul, show (1073741824 : Nat) = 2 ^ 30 from rfl, ← Nat.pow_add, show 30 * (i - q - (t + 1)) + 30 = 30 * (i - q - t) by omega]
                rw [h10] at h8
                exact Or.inl (by omega)
            have := (hz (i - q - m) (by omega)).elim id id
            rw [show i - q - (i - q - m) = m by omega] at this
            exact this
          have := Nat.div_pos h6 (Nat.two_pow_pos _)
          omega
      clear g1 g3 g4
      go_wp2_with fail
      go_ret
      exact P.out

/-- What Norm gives: neg, N times 2^e with its twos taken out. -/
def NormO (neg : Bool) (N : Nat) (e : Int) (w : World) (en : Ending) (w' : World) : Prop :=
  Fr w w' None ∧ ((N = 0 ∧ en = .returned zeroN) ∨ ∃ k : Nat, k < 60000 ∧ TzIs N k ∧ ∃ y, en = .returned y ∧ NumO w' y neg (N / 2 ^ k) (e + (k : Int)) w.heap.size)

set_option maxRecDepth 100000 in
set_option maxHeartbeats 4000000 in
theorem norm_in (neg : Bool) (v : Value) (n : Nat) (x : Nat → Nat) (e : Int) (w : World) (hn : n ≤ 2000) (hx : ∀ j, x j < 1073741824) (h : InN w v n x) (e1 : -6000000 ≤ e) (e2 : e ≤ 6000000) :
    Calls Tryd.prog 33 #[.bool neg, v, .int .i64 e] w (NormO neg (dv x n) e w) := by
  have f0 := (Fr.refl w None).alloc (.cells #[.bool false, .slice none 0 0, .int .i64 0] 31)
  have r0 := At.alloc w #[.bool false, .slice none 0 0, .int .i64 0] 31
  have hl := low_at v n x _ (by omega) hx (InV.keep h f0)
  have hs := fun k hk => shr_at v n k x _ (by omega) hx (InV.keep h f0) hk
  have c0 := r0.cell 0
  have c1 := r0.cell 1
  have c2 := r0.cell 2
  have d0 := r0.free 0
  have d1 := r0.free 1
  have d2 := r0.free 2
  have HL := Lib.hid hl
  have HS := Lib.hid hs
  have F0 := Lib.hid f0
  have R0 := Lib.hid r0
  obtain ⟨va, vc, rfl, _⟩ := h
  clear hl hs f0 r0 hx
  go_enter Tryd.func33, Tryd.ntmps33
  go_wp2_with fail
  generalize w.alloc (.cells #[.bool false, .slice none 0 0, .int .i64 0] 31) = w0 at HL HS F0 R0 c0 c1 c2 d0 d1 d2 ⊢
  refine (HL.out).mono ?_
  rintro en w1 ⟨rfl, ⟨rfl, hz⟩ | ⟨k, rfl, hk, ho, hd⟩⟩
  · have HZ := Lib.hid hz
    clear hz
    go_wp2_with fail
    obtain ⟨az, fz⟩ := put3 R0.out (.bool false) (.slice none 0 0) (.int .i64 0)
    generalize ((w0.setCell ⟨w.heap.size, 0, none⟩ (.bool false)).setCell ⟨w.heap.size, 1, none⟩ (.slice none 0 0)).setCell ⟨w.heap.size, 2, none⟩ (.int .i64 0) = wz at az fz ⊢
    refine bodyPost_ret (results_cell_row rfl _ _ _ _ _ _ _ rfl az Tryd.underlying31 rfl (by kernel_rfl)) rfl ?_
    exact ⟨F0.out.trans fz (fun _ h => h) (fun x hx h => by unfold Mem.One at h; omega), Or.inl ⟨dv_zero n HZ.out, rfl⟩⟩
  · have hk0 : ((k : Int) < 0) = False := eq_false (by omega)
    have hsk := HS.out k hk
    have HSK := Lib.hid hsk
    have HD := Lib.hid (And.intro ho hd)
    have hk9 : (k : Int) < 60000 := by omega
    clear hsk HS HL ho hd
    go_wp2_with fail
    refine (HSK.out).mono ?_
    rintro en w2 ⟨m, u, rfl, g1, g2, g3, g4, g5⟩
    have r2 := R0.out.keep g5 (fun x => x)
    have c0 := r2.cell 0
    have c1 := r2.cell 1
    have c2 := r2.cell 2
    have d0 := r2.free 0
    have d1 := r2.free 1
    have d2 := r2.free 2
    have R2 := Lib.hid r2
    obtain ⟨ua, uc, rfl⟩ := g1.shape
    have hnum : NumO w2 (.agg #[.bool neg, .slice ua m uc, .int .i64 (e + (k : Int))]) neg (dv x n / 2 ^ k) (e + (k : Int)) w.heap.size :=
      NumO.low (base := w0.heap.size) ⟨_, m, rfl, g1, ⟨dgt_lt _, g3, by omega⟩, g4⟩ F0.out.size
    have HN := Lib.hid hnum
    have FX := Lib.hid (F0.out.trans g5 (fun _ h => h) (fun _ _ h => h))
    clear g1 g2 g3 g4 g5 r2 hnum
    go_wp2_with fail
    obtain ⟨az, fz⟩ := put3 R2.out (.bool neg) (.slice ua m uc) (.int .i64 (e + (k : Int)))
    generalize ((w2.setCell ⟨w.heap.size, 0, none⟩ (.bool neg)).setCell ⟨w.heap.size, 1, none⟩ (.slice ua m uc)).setCell ⟨w.heap.size, 2, none⟩ (.int .i64 (e + (k : Int))) = wz at az fz ⊢
    refine bodyPost_ret (results_cell_row rfl _ _ _ _ _ _ _ rfl az Tryd.underlying31 rfl (by kernel_rfl)) rfl ?_
    exact ⟨FX.out.trans fz (fun _ h => h) (fun x hx h => by unfold Mem.One at h; omega), Or.inr ⟨k, by omega, HD.out, _, rfl, HN.out.over R2.out (by decide) fz⟩⟩

/-- What From gives. -/
def FromPost (m : Nat) (w : World) (en : Ending) (w' : World) : Prop := ∃ u n, en = .returned u ∧ IRow w' u n (dgt m) w.heap.size ∧ n ≤ 3 ∧ m < 2 ^ (30 * n) ∧ Fr w w' None

set_option maxRecDepth 100000 in
set_option maxHeartbeats 4000000 in
theorem from_in (m : Nat) (w : World) (hm : m < 9223372036854775808) : Calls Tryd.prog 39 #[.int .i64 (m : Int)] w (FromPost m w) := by
  have HM := Lib.hid hm
  clear hm
  go_enter Tryd.func39, Tryd.ntmps39
  go_wp2_with fail
  go_loopw [0, 3] (fun q l wr => ∃ k N : Nat, k ≤ 3 ∧ q = .int .i64 (N : Int) ∧ N = m / 2 ^ (30 * k) ∧ IRow wr l k (dgt m) w.heap.size ∧ Fr w wr None) (fun q _ _ => (intOf q).toNat)
  case atStart => exact ⟨0, m, by omega, rfl, by simp, IRow.nil _ _ _, Fr.refl _ _⟩
  case round =>
    obtain ⟨k, N, hk, rfl, hN, hrow, hf⟩ := hrel
    obtain ⟨la, lc, rfl⟩ := hrow.shape
    by_cases c : N = 0
    · subst c
      have P : Hid (FromPost m w (.returned (.slice la k lc)) wr) := by
        refine Lib.hid ⟨_, k, rfl, hrow, hk, ?_, hf⟩
        rcases Nat.div_eq_zero_iff.1 hN.symm with h | h
        · exact absurd h (Nat.ne_of_gt (Nat.two_pow_pos _))
        · exact h
      clear hrow hf hN
      go_wp2_with fail
      go_ret
      exact P.out
    · have hk3 : k < 3 := by
        rcases Nat.lt_or_ge k 3 with h | h
        · exact h
        · exfalso
          have h2 : 9223372036854775808 ≤ 2 ^ (30 * k) := Nat.le_trans (by decide) (two_mono 63 (30 * k) (by omega))
          have := HM.out
          exact c (by rw [hN]; exact Nat.div_eq_of_lt (by omega))
      have hd : dgt m k = N % 1073741824 := by unfold dgt; rw [← hN]
      have hnext : N / 1073741824 = m / 2 ^ (30 * (k + 1)) := by rw [hN, show 30 * (k + 1) = 30 * k + 30 by omega, Nat.pow_add, Nat.div_div_eq_div_mul]
      have hlt : N < 9223372036854775808 := Nat.lt_of_le_of_lt (by rw [hN]; exact Nat.div_le_self _ _) HM.out
      have m1 : (N : Int) % 1073741824 = ((N % 1073741824 : Nat) : Int) := by omega
      have m2 : Int.tmod (N : Int) 1073741824 = ((N % 1073741824 : Nat) : Int) := by rw [Int.tmod_eq_emod_of_nonneg (by omega)]; exact m1
      have m3 : (N : Int) / 1073741824 = ((N / 1073741824 : Nat) : Int) := by omega
      have m4 : Int.tdiv (N : Int) 1073741824 = ((N / 1073741824 : Nat) : Int) := by rw [Int.tdiv_eq_ediv_of_nonneg (by omega)]; exact m3
      have m5 : (0 : Int) < (N : Int) := by omega
      have m6 : N / 1073741824 < N := Nat.div_lt_self (by omega) (by omega)
      obtain ⟨d, hde⟩ : ∃ d, N % 1073741824 = d := ⟨_, rfl⟩
      obtain ⟨N2, hN2⟩ : ∃ N2, N / 1073741824 = N2 := ⟨_, rfl⟩
      rw [hde] at m1 m2 hd
      rw [hN2] at m3 m4 m6 hnext
      obtain ⟨v', wn, happ, g1, g2⟩ := app_next (w := wr) (w0 := w) hrow hf (by omega) d _ rfl 22
      have R : Hid (∃ k N : Nat, k ≤ 3 ∧ Value.int .i64 (N2 : Int) = .int .i64 (N : Int) ∧ N = m / 2 ^ (30 * k) ∧ IRow wn v' k (dgt m) w.heap.size ∧ Fr w wn None) := by
        refine Lib.hid ⟨k + 1, N2, by omega, rfl, hnext, g1.congr (fun j hj => ?_), g2⟩
        unfold snoc
        split
        · rename_i e; rw [e]; exact hd.symm
        · rfl
      clear g1 g2 hrow hf hN hd hnext hde hN2 hk hk3 c
      have H6 := Lib.hid m6
      have H10 : Hid (wrap64 (N2 : Int) = (N2 : Int)) := Lib.hid (IntWalk.wrap64_in _ (by omega))
      clear m6 hlt
      go_wp2_with (refine wpList_appI _ _ rfl _ _ rfl _ _ _ rfl rfl happ ?_)
      rw [H10.out]
      go_roundw
      case rel => exact R.out
      case measure => have := H6.out; simp [intOf]; omega

/-- A number in its one form, by its parts. -/
def ValidP (neg : Bool) (n : Nat) (x : Nat → Int) (E : Int) : Prop := (n = 0 ∧ neg = false ∧ E = 0) ∨ (0 < n ∧ ValidI n x ∧ x 0 % 2 = 1 ∧ -1048576 ≤ E ∧ E ≤ 1048576)
instance (neg : Bool) (n : Nat) (x : Nat → Int) (E : Int) : Decidable (ValidP neg n x E) := by unfold ValidP; exact inferInstance

set_option maxRecDepth 100000 in
set_option maxHeartbeats 4000000 in
theorem validP_ref (neg : Bool) (v : Value) (n : Nat) (x : Nat → Int) (E : Int) (w : World) (hn : n ≤ 100000) (h : IntsV w v n x) :
    Calls Tryd.prog 53 #[.agg #[.bool neg, v, .int .i64 E]] w fun en w' => en = .returned (.bool (decide (ValidP neg n x E))) ∧ Fr w w' None := by
  obtain ⟨t0, f0⟩ := box_at w (.bool neg) v (.int .i64 E) 31
  have hval := valid_ref v n x _ hn (h.keep f0)
  have c0 := t0.cell 0
  have c1 := t0.cell 1
  have c2 := t0.cell 2
  have F0 := Lib.hid f0
  have T0 := Lib.hid t0
  have h0 := h.keep f0
  have H := Lib.hid h0
  obtain ⟨a, cap, rfl, hcap, hin⟩ := h0
  have HV := Lib.hid hval
  clear t0 f0 hval h
  rcases Nat.eq_zero_or_pos n with rfl | hp
  · have F : Hid (decide (ValidP neg 0 x E) = (!neg && (E == 0))) := by
      cases neg
      · by_cases e : E = 0
        · subst e; exact Lib.hid (decide_eq_true (Or.inl ⟨rfl, rfl, rfl⟩))
        · rw [beq_eq_false_iff_ne.2 e]; exact Lib.hid (decide_eq_false (fun h => by rcases h with ⟨_, _, h⟩ | ⟨h, _⟩; exact e h; omega))
      · exact Lib.hid (decide_eq_false (fun h => by rcases h with ⟨_, h, _⟩ | ⟨h, _⟩; cases h; omega))
    cases neg
    · by_cases e : E = 0
      · subst e
        go_enter Tryd.func53, Tryd.ntmps53
        go_wp2_with fail
        go_ret
        exact ⟨by rw [F.out]; rfl, F0.out⟩
      · have e' : (E == 0) = false := beq_eq_false_iff_ne.2 e
        rw [e'] at F
        clear e
        go_enter Tryd.func53, Tryd.ntmps53
        go_wp2_with fail
        go_ret
        exact ⟨by rw [F.out]; rfl, F0.out⟩
    · go_enter Tryd.func53, Tryd.ntmps53
      go_wp2_with fail
      go_ret
      exact ⟨by rw [F.out]; rfl, F0.out⟩
  · have i1 : ((n : Int) == 0) = false := beq_eq_false_iff_ne.2 (by omega)
    have i2 : (0 : Int) < (n : Int) := by omega
    by_cases cv : ValidI n x
    · rw [decide_eq_true cv] at HV
      have hx0 := (cv.2.1 0 hp).1
      have F : Hid (decide (ValidP neg n x E) = (((x 0 % 2 : Int) == 1) && (decide (-1048576 ≤ E) && decide (E ≤ 1048576)))) := by
        by_cases h1 : x 0 % 2 = 1
        · by_cases h2 : -1048576 ≤ E
          · by_cases h3 : E ≤ 1048576
            · rw [decide_eq_true h2, decide_eq_true h3, h1]; exact Lib.hid (decide_eq_true (Or.inr ⟨hp, cv, h1, h2, h3⟩))
            · rw [decide_eq_true h2, decide_eq_false h3, h1]; exact Lib.hid (decide_eq_false (fun h => by rcases h with ⟨h, _⟩ | ⟨_, _, _, _, h⟩; omega; exact h3 h))
          · rw [decide_eq_false h2, h1]; exact Lib.hid (decide_eq_false (fun h => by rcases h with ⟨h, _⟩ | ⟨_, _, _, h, _⟩; omega; exact h2 h))
        · rw [beq_eq_false_iff_ne.2 h1]; exact Lib.hid (decide_eq_false (fun h => by rcases h with ⟨h, _⟩ | ⟨_, _, h, _⟩; omega; exact h1 h))
      have t9 : Int.tmod (x 0) 2 = x 0 % 2 := Int.tmod_eq_emod_of_nonneg hx0
      have hin2 : ∀ W, Fr (w.alloc (.cells #[.bool neg, .slice a n cap, .int .i64 E] 31)) W None → ∃ b off, a = some ⟨b, off, none⟩ ∧ W.cell? ⟨b, off, none⟩ = some (.int .i64 (x 0)) := fun W fW => by
        obtain ⟨b, off, rfl, h1, h2⟩ := hin 0 hp
        rw [Nat.add_zero] at h2
        exact ⟨b, off, rfl, by rw [fW.cell (p := ⟨b, off, none⟩) h1 (fun x => x)]; exact h2⟩
      generalize x 0 = d at F hin2 t9
      have HI := Lib.hid hin2
      clear hin hin2 cv hx0
      by_cases h1 : d % 2 = 1
      · have p1 : (Int.tmod d 2 == 1) = true := by rw [t9]; exact beq_iff_eq.2 h1
        have p2 : (d % 2 == 1) = true := beq_iff_eq.2 h1
        rw [p2] at F
        by_cases h2 : -1048576 ≤ E
        · by_cases h3 : E ≤ 1048576
          · rw [decide_eq_true h2, decide_eq_true h3] at F
            clear h1
            go_enter Tryd.func53, Tryd.ntmps53
            go_wp2_with fail
            generalize w.alloc (.cells #[.bool neg, .slice a n cap, .int .i64 E] 31) = w0 at HV F0 T0 HI H c0 c1 c2 ⊢
            refine (HV.out).mono ?_
            rintro en w1 ⟨rfl, f1⟩
            obtain ⟨b, off, rfl, g0⟩ := HI.out w1 f1
            have t1 := T0.out.keep f1 (fun x => x)
            have c0 := t1.cell 0
            have c1 := t1.cell 1
            have c2 := t1.cell 2
            have FX := Lib.hid (F0.out.trans f1 (fun _ h => h) (fun _ _ h => h))
            clear f1 t1 HI H
            go_wp2_with fail
            go_ret
            exact ⟨by rw [F.out]; rfl, FX.out⟩
          · rw [decide_eq_true h2, decide_eq_false h3] at F
            have H3 := Lib.hid (decide_eq_false h3)
            have h3' : 1048576 < E := by omega
            clear h1
            go_enter Tryd.func53, Tryd.ntmps53
            go_wp2_with fail
            generalize w.alloc (.cells #[.bool neg, .slice a n cap, .int .i64 E] 31) = w0 at HV F0 T0 HI H c0 c1 c2 ⊢
            refine (HV.out).mono ?_
            rintro en w1 ⟨rfl, f1⟩
            obtain ⟨b, off, rfl, g0⟩ := HI.out w1 f1
            have t1 := T0.out.keep f1 (fun x => x)
            have c0 := t1.cell 0
            have c1 := t1.cell 1
            have c2 := t1.cell 2
            have FX := Lib.hid (F0.out.trans f1 (fun _ h => h) (fun _ _ h => h))
            clear f1 t1 HI H
            go_wp2_with fail
            go_ret
            exact ⟨by rw [F.out]; exact congrArg (fun q => Ending.returned (.bool q)) H3.out, FX.out⟩
        · rw [decide_eq_false h2] at F
          have h2' : E < -1048576 := by omega
          clear h1
          go_enter Tryd.func53, Tryd.ntmps53
          go_wp2_with fail
          generalize w.alloc (.cells #[.bool neg, .slice a n cap, .int .i64 E] 31) = w0 at HV F0 T0 HI H c0 c1 c2 ⊢
          refine (HV.out).mono ?_
          rintro en w1 ⟨rfl, f1⟩
          obtain ⟨b, off, rfl, g0⟩ := HI.out w1 f1
          have t1 := T0.out.keep f1 (fun x => x)
          have c0 := t1.cell 0
          have c1 := t1.cell 1
          have c2 := t1.cell 2
          have FX := Lib.hid (F0.out.trans f1 (fun _ h => h) (fun _ _ h => h))
          clear f1 t1 HI H
          go_wp2_with fail
          go_ret
          exact ⟨by rw [F.out]; rfl, FX.out⟩
      · have p1 : (Int.tmod d 2 == 1) = false := by rw [t9]; exact beq_eq_false_iff_ne.2 h1
        have p2 : (d % 2 == 1) = false := beq_eq_false_iff_ne.2 h1
        rw [p2] at F
        clear h1
        go_enter Tryd.func53, Tryd.ntmps53
        go_wp2_with fail
        generalize w.alloc (.cells #[.bool neg, .slice a n cap, .int .i64 E] 31) = w0 at HV F0 T0 HI H c0 c1 c2 ⊢
        refine (HV.out).mono ?_
        rintro en w1 ⟨rfl, f1⟩
        obtain ⟨b, off, rfl, g0⟩ := HI.out w1 f1
        have t1 := T0.out.keep f1 (fun x => x)
        have c0 := t1.cell 0
        have c1 := t1.cell 1
        have c2 := t1.cell 2
        have FX := Lib.hid (F0.out.trans f1 (fun _ h => h) (fun _ _ h => h))
        clear f1 t1 HI H
        go_wp2_with fail
        go_ret
        exact ⟨by rw [F.out]; rfl, FX.out⟩
    · rw [decide_eq_false cv] at HV
      have F : Hid (decide (ValidP neg n x E) = false) := Lib.hid (decide_eq_false (fun h => by rcases h with ⟨h, _⟩ | ⟨_, h, _⟩; omega; exact cv h))
      clear hin cv H
      go_enter Tryd.func53, Tryd.ntmps53
      go_wp2_with fail
      generalize w.alloc (.cells #[.bool neg, .slice a n cap, .int .i64 E] 31) = w0 at HV F0 T0 c0 c1 c2 ⊢
      refine (HV.out).mono ?_
      rintro en w1 ⟨rfl, f1⟩
      have FX := Lib.hid (F0.out.trans f1 (fun _ h => h) (fun _ _ h => h))
      clear f1
      go_wp2_with fail
      go_ret
      exact ⟨by rw [F.out]; rfl, FX.out⟩
end Go.Proofs.YtgmebioogkmfgaaDoor

namespace Go.Proofs.YtgmebioogkmfgaaDoor
open Go.RowKit Go.Pt Go.Mem

/-- Two results: a number in a variable, an int. -/
theorem results_ct {fn : Func} {p q : Tmp} (h : fn.results = #[.cell p 31, .tmp q]) {tmps : Array Value} {w : World} {R : Nat} {x y z : Value} (hp : tmps.getD p undef = .pointer (some ⟨R, 0, none⟩)) (h1 : At w R #[x, y, z] 31) :
    (results fn tmps).run Tryd.prog w = .ok (.tuple #[.agg #[x, y, z], tmps.getD q undef]) w := by
  have hp' : tmps[p]?.getD undef = .pointer (some ⟨R, 0, none⟩) := by simpa using hp
  have e1 := run_loadVar_row (P := Tryd.prog) w R 31 31 #[x, y, z] (0, 0) _ h1 Tryd.underlying31 rfl (by kernel_rfl)
  simp [results, h, hp', asAddr, e1]

theorem InV.ints {w : World} {a : Option Addr} {n c : Nat} {x : Nat → Int} (h : InV w (.slice a n c) n x) (hc : n ≤ c) : IntsV w (.slice a n c) n x := by
  obtain ⟨a', c', e, hin⟩ := h
  cases e
  exact ⟨_, _, rfl, hc, hin⟩
theorem _root_.Go.Mem.VRow.ints {w : World} {v : Value} {n base : Nat} {x : Nat → Int} (h : VRow w v n (fun j => .int .i64 (x j)) 3 base) : IntsV w v n x := by
  rcases h with ⟨rfl, rfl⟩ | ⟨b, cap, cs, rfl, h1, h2, h3, h4, h5⟩
  · exact ⟨_, _, rfl, Nat.le_refl _, fun j hj => by omega⟩
  · exact ⟨_, _, rfl, h1, fun j hj => ⟨b, 0, rfl, h3.lt, by rw [Nat.zero_add, h3.cell]; exact h5 j hj⟩⟩
theorem IntsV.inV {w : World} {v : Value} {n : Nat} {x : Nat → Int} (h : IntsV w v n x) : InV w v n x := by
  obtain ⟨a, c, rfl, _, hin⟩ := h
  exact ⟨_, _, rfl, hin⟩
theorem IntsV.inN {w : World} {v : Value} {n : Nat} {x : Nat → Int} (h : IntsV w v n x) (hv : ValidI n x) : InN w v n (digN n x) := InV.congr h.inV (fun _ hj => digN_eq hv hj)

/-- Digits are a list that is a number's. -/
theorem digs_valid {n : Nat} {x : Nat → Nat} (h : Digs n x) : ValidI n (fun j => ((x j : Nat) : Int)) :=
  ⟨h.2.2, fun j _ => by have := h.1 j; simp only; omega, fun h0 => by have := h.2.1 h0; simp only; omega⟩
theorem odd_validP {n A : Nat} {E : Int} {neg : Bool} (h : Digs n (dgt A)) (hd : dv (dgt A) n = A) (ho : A % 2 = 1) (e1 : -1048576 ≤ E) (e2 : E ≤ 1048576) : ValidP neg n (fun j => ((dgt A j : Nat) : Int)) E := by
  have hn : 0 < n := by
    rcases Nat.eq_zero_or_pos n with rfl | h
    · simp [dv] at hd; omega
    · exact h
  exact Or.inr ⟨hn, digs_valid h, by have := dgt_odd ho; simp only; omega, e1, e2⟩
theorem odd_notP {n A : Nat} {E : Int} {neg : Bool} (hd : dv (dgt A) n = A) (ho : A % 2 = 1) (e : ¬ (-1048576 ≤ E ∧ E ≤ 1048576)) : ¬ ValidP neg n (fun j => ((dgt A j : Nat) : Int)) E := by
  rintro (⟨rfl, _⟩ | ⟨_, _, _, h⟩)
  · simp [dv] at hd; omega
  · exact e h

set_option maxRecDepth 100000 in
set_option maxHeartbeats 4000000 in
theorem answer_ok (neg : Bool) (v : Value) (n : Nat) (x : Nat → Int) (E : Int) (w : World) (hn : n ≤ 100000) (h : IntsV w v n x) (hP : ValidP neg n x E) :
    Calls Tryd.prog 32 #[.agg #[.bool neg, v, .int .i64 E]] w fun en w' => en = .returned (.tuple #[.agg #[.bool neg, v, .int .i64 E], .int .i64 0]) ∧ Fr w w' None := by
  obtain ⟨t0, f0⟩ := box_at w (.bool neg) v (.int .i64 E) 31
  have f1 := f0.alloc (.cells #[.bool false, .slice none 0 0, .int .i64 0] 31)
  have r1 := At.alloc (w.alloc (.cells #[.bool neg, v, .int .i64 E] 31)) #[.bool false, .slice none 0 0, .int .i64 0] 31
  rw [show (w.alloc (.cells #[.bool neg, v, .int .i64 E] 31)).heap.size = w.heap.size + 1 by simp] at r1
  have t1 := t0.keep ((Fr.refl _ None).alloc (.cells #[.bool false, .slice none 0 0, .int .i64 0] 31)) (fun x => x)
  have hv := validP_ref neg v n x E _ hn (h.keep f1)
  rw [decide_eq_true hP] at hv
  have HV := Lib.hid hv
  have F1 := Lib.hid f1
  have T1 := Lib.hid t1
  have R1 := Lib.hid r1
  have c0 := t1.cell 0
  have c1 := t1.cell 1
  have c2 := t1.cell 2
  obtain ⟨va, vc, rfl, _⟩ := h
  clear t0 f0 f1 r1 t1 hv hP
  go_enter Tryd.func32, Tryd.ntmps32
  go_wp2_with fail
  generalize (w.alloc (.cells #[.bool neg, .slice va n vc, .int .i64 E] 31)).alloc (.cells #[.bool false, .slice none 0 0, .int .i64 0] 31) = w0 at HV F1 T1 R1 c0 c1 c2 ⊢
  refine (HV.out).mono ?_
  rintro en w1 ⟨rfl, f2⟩
  have t2 := T1.out.keep f2 (fun x => x)
  have c0 := t2.cell 0
  have c1 := t2.cell 1
  have c2 := t2.cell 2
  have r2 := R1.out.keep f2 (fun x => x)
  have d0 := r2.cell 0
  have d1 := r2.cell 1
  have d2 := r2.cell 2
  have g0 := r2.free 0
  have g1 := r2.free 1
  have g2 := r2.free 2
  have R2 := Lib.hid r2
  have FX := Lib.hid (F1.out.trans f2 (fun _ h => h) (fun _ _ h => h))
  clear t2 r2 f2
  go_wp2_with fail
  obtain ⟨az, fz⟩ := put3 R2.out (.bool neg) (.slice va n vc) (.int .i64 E)
  generalize ((w1.setCell ⟨w.heap.size + 1, 0, none⟩ (.bool neg)).setCell ⟨w.heap.size + 1, 1, none⟩ (.slice va n vc)).setCell ⟨w.heap.size + 1, 2, none⟩ (.int .i64 E) = wz at az fz ⊢
  refine bodyPost_ret (results_ct rfl rfl az) rfl ?_
  exact ⟨rfl, FX.out.trans fz (fun _ h => h) (fun x hx h => by unfold Mem.One at h; omega)⟩

set_option maxRecDepth 100000 in
set_option maxHeartbeats 4000000 in
theorem answer_no (neg : Bool) (v : Value) (n : Nat) (x : Nat → Int) (E : Int) (w : World) (hn : n ≤ 100000) (h : IntsV w v n x) (hP : ¬ ValidP neg n x E) :
    Calls Tryd.prog 32 #[.agg #[.bool neg, v, .int .i64 E]] w fun en w' => en = .returned (.tuple #[zeroN, .int .i64 2]) ∧ Fr w w' None := by
  obtain ⟨t0, f0⟩ := box_at w (.bool neg) v (.int .i64 E) 31
  have f1 := f0.alloc (.cells #[.bool false, .slice none 0 0, .int .i64 0] 31)
  have r1 := At.alloc (w.alloc (.cells #[.bool neg, v, .int .i64 E] 31)) #[.bool false, .slice none 0 0, .int .i64 0] 31
  rw [show (w.alloc (.cells #[.bool neg, v, .int .i64 E] 31)).heap.size = w.heap.size + 1 by simp] at r1
  have t1 := t0.keep ((Fr.refl _ None).alloc (.cells #[.bool false, .slice none 0 0, .int .i64 0] 31)) (fun x => x)
  have hv := validP_ref neg v n x E _ hn (h.keep f1)
  rw [decide_eq_false hP] at hv
  have HV := Lib.hid hv
  have F1 := Lib.hid f1
  have R1 := Lib.hid r1
  have c0 := t1.cell 0
  have c1 := t1.cell 1
  have c2 := t1.cell 2
  obtain ⟨va, vc, rfl, _⟩ := h
  clear t0 f0 f1 r1 t1 hv hP
  go_enter Tryd.func32, Tryd.ntmps32
  go_wp2_with fail
  generalize (w.alloc (.cells #[.bool neg, .slice va n vc, .int .i64 E] 31)).alloc (.cells #[.bool false, .slice none 0 0, .int .i64 0] 31) = w0 at HV F1 R1 c0 c1 c2 ⊢
  refine (HV.out).mono ?_
  rintro en w1 ⟨rfl, f2⟩
  have r2 := R1.out.keep f2 (fun x => x)
  have d0 := r2.cell 0
  have d1 := r2.cell 1
  have d2 := r2.cell 2
  have g0 := r2.free 0
  have g1 := r2.free 1
  have g2 := r2.free 2
  have R2 := Lib.hid r2
  have FX := Lib.hid (F1.out.trans f2 (fun _ h => h) (fun _ _ h => h))
  clear r2 f2 c0 c1 c2
  go_wp2_with fail
  obtain ⟨az, fz⟩ := put3 R2.out (.bool false) (.slice none 0 0) (.int .i64 0)
  generalize ((w1.setCell ⟨w.heap.size + 1, 0, none⟩ (.bool false)).setCell ⟨w.heap.size + 1, 1, none⟩ (.slice none 0 0)).setCell ⟨w.heap.size + 1, 2, none⟩ (.int .i64 0) = wz at az fz ⊢
  refine bodyPost_ret (results_ct rfl rfl az) rfl ?_
  exact ⟨rfl, FX.out.trans fz (fun _ h => h) (fun x hx h => by unfold Mem.One at h; omega)⟩

/-- Answer of a number whose twos are taken out. -/
theorem answer_num {w : World} {y : Value} {neg : Bool} {A base : Nat} {E : Int} (h : NumO w y neg A E base) (ho : A % 2 = 1) :
    Calls Tryd.prog 32 #[y] w fun en w' => Fr w w' None ∧ ((-1048576 ≤ E ∧ E ≤ 1048576 ∧ en = .returned (.tuple #[y, .int .i64 0])) ∨ (¬ (-1048576 ≤ E ∧ E ≤ 1048576) ∧ en = .returned (.tuple #[zeroN, .int .i64 2]))) := by
  obtain ⟨v, n, rfl, h2, h3, h4⟩ := h
  have hv := VRow.ints (IRow.vrow h2)
  by_cases c : -1048576 ≤ E ∧ E ≤ 1048576
  · exact (answer_ok neg v n _ E w (by have := h3.2.2; omega) hv (odd_validP h3 h4 ho c.1 c.2)).mono fun en w' ⟨h1, h2⟩ => ⟨h2, Or.inl ⟨c.1, c.2, h1⟩⟩
  · exact (answer_no neg v n _ E w (by have := h3.2.2; omega) hv (odd_notP h4 ho c)).mono fun en w' ⟨h1, h2⟩ => ⟨h2, Or.inr ⟨c, h1⟩⟩

set_option maxRecDepth 100000 in
set_option maxHeartbeats 4000000 in
theorem rMake_bad (neg : Bool) (v : Value) (n : Nat) (x : Nat → Int) (e : Int) (w : World) (hn : n ≤ 100000) (h : IntsV w v n x) (hbad : ¬ ValidI n x) :
    Calls Tryd.prog 13 #[.bool neg, v, .int .i64 e] w fun en w' => en = .returned (.tuple #[zeroN, .int .i64 11]) ∧ Fr w w' None := by
  have f1 := (Fr.refl w None).alloc (.cells #[.bool false, .slice none 0 0, .int .i64 0] 31)
  have r1 := At.alloc w #[.bool false, .slice none 0 0, .int .i64 0] 31
  have hv := valid_ref v n x _ hn (h.keep f1)
  rw [decide_eq_false hbad] at hv
  have HV := Lib.hid hv
  have F1 := Lib.hid f1
  have R1 := Lib.hid r1
  obtain ⟨va, vc, rfl, _⟩ := h
  clear f1 r1 hv hbad
  go_enter Tryd.func13, Tryd.ntmps13
  go_wp2_with fail
  generalize w.alloc (.cells #[.bool false, .slice none 0 0, .int .i64 0] 31) = w0 at HV F1 R1 ⊢
  refine (HV.out).mono ?_
  rintro en w1 ⟨rfl, f2⟩
  have r2 := R1.out.keep f2 (fun x => x)
  have d0 := r2.cell 0
  have d1 := r2.cell 1
  have d2 := r2.cell 2
  have g0 := r2.free 0
  have g1 := r2.free 1
  have g2 := r2.free 2
  have R2 := Lib.hid r2
  have FX := Lib.hid (F1.out.trans f2 (fun _ h => h) (fun _ _ h => h))
  clear r2 f2
  go_wp2_with fail
  obtain ⟨az, fz⟩ := put3 R2.out (.bool false) (.slice none 0 0) (.int .i64 0)
  generalize ((w1.setCell ⟨w.heap.size, 0, none⟩ (.bool false)).setCell ⟨w.heap.size, 1, none⟩ (.slice none 0 0)).setCell ⟨w.heap.size, 2, none⟩ (.int .i64 0) = wz at az fz ⊢
  refine bodyPost_ret (results_ct rfl rfl az) rfl ?_
  exact ⟨rfl, FX.out.trans fz (fun _ h => h) (fun x hx h => by unfold Mem.One at h; omega)⟩

/-- The end of a Make that lays a number. -/
theorem lay_out {w w1 : World} {R A base : Nat} {neg : Bool} {E : Int} {y a b c u0 u1 u2 : Value} (hw : w.heap.size ≤ R) (f : Fr w w1 None) (r : At w1 R #[u0, u1, u2] 31) (hy : NumO w1 y neg A E base) :
    At (((w1.setCell ⟨R, 0, none⟩ a).setCell ⟨R, 1, none⟩ b).setCell ⟨R, 2, none⟩ c) R #[a, b, c] 31 ∧ NumO (((w1.setCell ⟨R, 0, none⟩ a).setCell ⟨R, 1, none⟩ b).setCell ⟨R, 2, none⟩ c) y neg A E base ∧
    Fr w (((w1.setCell ⟨R, 0, none⟩ a).setCell ⟨R, 1, none⟩ b).setCell ⟨R, 2, none⟩ c) None := by
  obtain ⟨az, fz⟩ := put3 r a b c
  exact ⟨az, hy.over r (by decide) fz, f.trans fz (fun _ h => h) (fun x hx h => by unfold Mem.One at h; omega)⟩

theorem tz_bound {N k T : Nat} (h : TzIs N k) (hN : N < 2 ^ T) : k < T := by
  rcases Nat.lt_or_ge k T with c | c
  · exact c
  · have := h.le
    have := two_mono T k c
    omega

set_option maxRecDepth 100000 in
set_option maxHeartbeats 8000000 in
theorem rMake_good (neg : Bool) (v : Value) (n : Nat) (x : Nat → Int) (e : Int) (w : World) (h : IntsV w v n x) (hv : ValidI n x) :
    Calls Tryd.prog 13 #[.bool neg, v, .int .i64 e] w (OutPost neg (dv (digN n x) n) (min (max e (-4194304)) 4194304) w) := by
  have hn := hv.1
  have f1 := (Fr.refl w None).alloc (.cells #[.bool false, .slice none 0 0, .int .i64 0] 31)
  have r1 := At.alloc w #[.bool false, .slice none 0 0, .int .i64 0] 31
  have hval := valid_ref v n x _ (by omega) (h.keep f1)
  rw [decide_eq_true hv] at hval
  have hnm := fun W f e1 e2 => norm_in neg v n (digN n x) e W hn (digN_digs hv).1 (((h.keep f1).keep f).inN hv) e1 e2
  have hpos := fun h0 => digN_pos hv h0
  have hlt := Nat.lt_of_lt_of_le (digN_lt hv) (two_mono (30 * n) 60000 (by omega))
  have hz : n = 0 → dv (digN n x) n = 0 := fun h => by subst h; rfl
  obtain ⟨va, vc, rfl, _⟩ := h
  generalize dv (digN n x) n = N at *
  obtain ⟨T, hT0, hT1⟩ : ∃ T, T = 60000 ∧ N < 2 ^ T := ⟨60000, rfl, hlt⟩
  have HV := Lib.hid hval
  have HN := Lib.hid hnm
  have F1 := Lib.hid f1
  have R1 := Lib.hid r1
  have HZ := Lib.hid (And.intro hpos (And.intro hT1 (And.intro hz hT0)))
  have c0 := r1.cell 0
  have c1 := r1.cell 1
  have c2 := r1.cell 2
  have d0 := r1.free 0
  have d1 := r1.free 1
  have d2 := r1.free 2
  clear hval hnm f1 r1 hpos hlt hz hT1 hT0 hv
  have FAR : Hid ((3145728 < e ∨ e < -3145728) → 0 < n → ∀ w' , Fr w w' None → OutPost neg N (min (max e (-4194304)) 4194304) w (.returned (.tuple #[zeroN, .int .i64 2])) w') := Lib.hid fun he h0 w' f => by
    obtain ⟨k, hk⟩ : ∃ k, TzIs N k := by
      have h1 := HZ.out.1 h0
      have : ∀ M : Nat, 0 < M → ∃ k, TzIs M k := by
        intro M
        induction M using Nat.strongRecOn with
        | ind M ih =>
          intro hM
          by_cases c : M % 2 = 1
          · exact ⟨0, by unfold TzIs; simpa using c⟩
          · obtain ⟨k, hk⟩ := ih (M / 2) (by omega) (by omega)
            refine ⟨k + 1, TzIs.of (o := M / 2 / 2 ^ k) ?_ hk.1⟩
            have := hk.2
            rw [Nat.pow_succ, Nat.mul_comm (2 ^ k) 2, Nat.mul_assoc, Nat.mul_comm (2 ^ k), this]
            omega
      exact this N h1
    have hk2 := tz_bound hk HZ.out.2.1
    have hT := HZ.out.2.2.2
    exact ⟨f, Or.inr ⟨k, hk, Or.inr ⟨by omega, rfl⟩⟩⟩
  by_cases ce : 3145728 < e
  · have c9 : Hid (3145728 < e) := Lib.hid ce
    rcases Nat.eq_zero_or_pos n with rfl | h0
    · go_enter Tryd.func13, Tryd.ntmps13
      go_wp2_with fail
      generalize w.alloc (.cells #[.bool false, .slice none 0 0, .int .i64 0] 31) = w0 at HV HN F1 R1 c0 c1 c2 d0 d1 d2 ⊢
      refine (HV.out).mono ?_
      rintro en w1 ⟨rfl, f2⟩
      have r2 := R1.out.keep f2 (fun x => x)
      have d0 := r2.cell 0
      have d1 := r2.cell 1
      have d2 := r2.cell 2
      have g0 := r2.free 0
      have g1 := r2.free 1
      have g2 := r2.free 2
      have R2 := Lib.hid r2
      have FX := Lib.hid (F1.out.trans f2 (fun _ h => h) (fun _ _ h => h))
      clear r2 f2
      go_wp2_with fail
      obtain ⟨az, fz⟩ := put3 R2.out (.bool false) (.slice none 0 0) (.int .i64 0)
      generalize ((w1.setCell ⟨w.heap.size, 0, none⟩ (.bool false)).setCell ⟨w.heap.size, 1, none⟩ (.slice none 0 0)).setCell ⟨w.heap.size, 2, none⟩ (.int .i64 0) = wz at az fz ⊢
      refine bodyPost_ret (results_ct rfl rfl az) rfl ?_
      exact ⟨FX.out.trans fz (fun _ h => h) (fun x hx h => by unfold Mem.One at h; omega), Or.inl ⟨HZ.out.2.2.1 trivial, rfl⟩⟩
    · have i1 : ((n : Int) == 0) = false := beq_eq_false_iff_ne.2 (by omega)
      go_enter Tryd.func13, Tryd.ntmps13
      go_wp2_with fail
      generalize w.alloc (.cells #[.bool false, .slice none 0 0, .int .i64 0] 31) = w0 at HV HN F1 R1 c0 c1 c2 d0 d1 d2 ⊢
      refine (HV.out).mono ?_
      rintro en w1 ⟨rfl, f2⟩
      have r2 := R1.out.keep f2 (fun x => x)
      have d0 := r2.cell 0
      have d1 := r2.cell 1
      have d2 := r2.cell 2
      have g0 := r2.free 0
      have g1 := r2.free 1
      have g2 := r2.free 2
      have R2 := Lib.hid r2
      have FX := Lib.hid (F1.out.trans f2 (fun _ h => h) (fun _ _ h => h))
      clear r2 f2
      go_wp2_with fail
      obtain ⟨az, fz⟩ := put3 R2.out (.bool false) (.slice none 0 0) (.int .i64 0)
      generalize ((w1.setCell ⟨w.heap.size, 0, none⟩ (.bool false)).setCell ⟨w.heap.size, 1, none⟩ (.slice none 0 0)).setCell ⟨w.heap.size, 2, none⟩ (.int .i64 0) = wz at az fz ⊢
      refine bodyPost_ret (results_ct rfl rfl az) rfl ?_
      exact FAR.out (Or.inl c9.out) h0 _ (FX.out.trans fz (fun _ h => h) (fun x hx h => by unfold Mem.One at h; omega))
  · by_cases cf : e < -3145728
    · have c9 : Hid (e < -3145728) := Lib.hid cf
      rcases Nat.eq_zero_or_pos n with rfl | h0
      · go_enter Tryd.func13, Tryd.ntmps13
        go_wp2_with fail
        generalize w.alloc (.cells #[.bool false, .slice none 0 0, .int .i64 0] 31) = w0 at HV HN F1 R1 c0 c1 c2 d0 d1 d2 ⊢
        refine (HV.out).mono ?_
        rintro en w1 ⟨rfl, f2⟩
        have r2 := R1.out.keep f2 (fun x => x)
        have d0 := r2.cell 0
        have d1 := r2.cell 1
        have d2 := r2.cell 2
        have g0 := r2.free 0
        have g1 := r2.free 1
        have g2 := r2.free 2
        have R2 := Lib.hid r2
        have FX := Lib.hid (F1.out.trans f2 (fun _ h => h) (fun _ _ h => h))
        clear r2 f2
        go_wp2_with fail
        obtain ⟨az, fz⟩ := put3 R2.out (.bool false) (.slice none 0 0) (.int .i64 0)
        generalize ((w1.setCell ⟨w.heap.size, 0, none⟩ (.bool false)).setCell ⟨w.heap.size, 1, none⟩ (.slice none 0 0)).setCell ⟨w.heap.size, 2, none⟩ (.int .i64 0) = wz at az fz ⊢
        refine bodyPost_ret (results_ct rfl rfl az) rfl ?_
        exact ⟨FX.out.trans fz (fun _ h => h) (fun x hx h => by unfold Mem.One at h; omega), Or.inl ⟨HZ.out.2.2.1 trivial, rfl⟩⟩
      · have i1 : ((n : Int) == 0) = false := beq_eq_false_iff_ne.2 (by omega)
        go_enter Tryd.func13, Tryd.ntmps13
        go_wp2_with fail
        generalize w.alloc (.cells #[.bool false, .slice none 0 0, .int .i64 0] 31) = w0 at HV HN F1 R1 c0 c1 c2 d0 d1 d2 ⊢
        refine (HV.out).mono ?_
        rintro en w1 ⟨rfl, f2⟩
        have r2 := R1.out.keep f2 (fun x => x)
        have d0 := r2.cell 0
        have d1 := r2.cell 1
        have d2 := r2.cell 2
        have g0 := r2.free 0
        have g1 := r2.free 1
        have g2 := r2.free 2
        have R2 := Lib.hid r2
        have FX := Lib.hid (F1.out.trans f2 (fun _ h => h) (fun _ _ h => h))
        clear r2 f2
        go_wp2_with fail
        obtain ⟨az, fz⟩ := put3 R2.out (.bool false) (.slice none 0 0) (.int .i64 0)
        generalize ((w1.setCell ⟨w.heap.size, 0, none⟩ (.bool false)).setCell ⟨w.heap.size, 1, none⟩ (.slice none 0 0)).setCell ⟨w.heap.size, 2, none⟩ (.int .i64 0) = wz at az fz ⊢
        refine bodyPost_ret (results_ct rfl rfl az) rfl ?_
        exact FAR.out (Or.inr c9.out) h0 _ (FX.out.trans fz (fun _ h => h) (fun x hx h => by unfold Mem.One at h; omega))
    · rw [show min (max e (-4194304)) 4194304 = e by omega]
      have C9 := Lib.hid (And.intro ce cf)
      clear FAR c0 c1 c2 d0 d1 d2
      go_enter Tryd.func13, Tryd.ntmps13
      go_wp2_with fail
      generalize w.alloc (.cells #[.bool false, .slice none 0 0, .int .i64 0] 31) = w0 at HV HN F1 R1 ⊢
      refine (HV.out).mono ?_
      rintro en w1 ⟨rfl, f2⟩
      have R2 := Lib.hid (R1.out.keep f2 (fun x => x))
      have FX := Lib.hid (F1.out.trans f2 (fun _ h => h) (fun _ _ h => h))
      have HNM := Lib.hid (HN.out w1 f2 (by have := C9.out; omega) (by have := C9.out; omega))
      clear f2
      go_wp2_with fail
      refine (HNM.out).mono ?_
      rintro en w2 ⟨f3, ⟨hz0, rfl⟩ | ⟨k, hk, tz, y, rfl, hy⟩⟩
      · have fx := FX.out.trans f3 (fun _ h => h) (fun _ _ h => h)
        have R3 := Lib.hid (R2.out.keep f3 (fun x => x))
        have ha := answer_ok false (.slice none 0 0) 0 (fun _ => 0) 0 w2 (by omega) ⟨_, _, rfl, Nat.le_refl _, fun j hj => by omega⟩ (Or.inl ⟨rfl, rfl, rfl⟩)
        have HA := Lib.hid ha
        have FX2 := Lib.hid fx
        have HZ0 := Lib.hid hz0
        clear fx f3 ha hz0
        unfold zeroN
        go_wp2_with fail
        refine (HA.out).mono ?_
        rintro en w3 ⟨rfl, f4⟩
        have r4 := R3.out.keep f4 (fun x => x)
        have d0 := r4.cell 0
        have d1 := r4.cell 1
        have d2 := r4.cell 2
        have g0 := r4.free 0
        have g1 := r4.free 1
        have g2 := r4.free 2
        have R4 := Lib.hid r4
        have FX3 := Lib.hid (FX2.out.trans f4 (fun _ h => h) (fun _ _ h => h))
        clear r4 f4
        go_wp2_with fail
        obtain ⟨az, fz⟩ := put3 R4.out (.bool false) (.slice none 0 0) (.int .i64 0)
        generalize ((w3.setCell ⟨w.heap.size, 0, none⟩ (.bool false)).setCell ⟨w.heap.size, 1, none⟩ (.slice none 0 0)).setCell ⟨w.heap.size, 2, none⟩ (.int .i64 0) = wz at az fz ⊢
        refine bodyPost_ret (results_ct rfl rfl az) rfl ?_
        exact ⟨FX3.out.trans fz (fun _ h => h) (fun x hx h => by unfold Mem.One at h; omega), Or.inl ⟨HZ0.out, rfl⟩⟩
      · obtain ⟨ya, yn, yc, rfl⟩ := hy.shape
        have fx := FX.out.trans f3 (fun _ h => h) (fun _ _ h => h)
        have R3 := Lib.hid (R2.out.keep f3 (fun x => x))
        have HA := Lib.hid (answer_num hy tz.1)
        have Y := Lib.hid (And.intro (hy.low FX.out.size) tz)
        have FX2 := Lib.hid fx
        clear fx f3 hy tz hk
        go_wp2_with fail
        refine (HA.out).mono ?_
        rintro en w3 ⟨f4, ⟨k1, k2, rfl⟩ | ⟨k1, rfl⟩⟩
        · have r4 := R3.out.keep f4 (fun x => x)
          have d0 := r4.cell 0
          have d1 := r4.cell 1
          have d2 := r4.cell 2
          have g0 := r4.free 0
          have g1 := r4.free 1
          have g2 := r4.free 2
          have R4 := Lib.hid r4
          have Y4 := Lib.hid (Y.out.1.keep f4)
          have K := Lib.hid (And.intro k1 k2)
          have FX3 := Lib.hid (FX2.out.trans f4 (fun _ h => h) (fun _ _ h => h))
          clear r4 f4 k1 k2
          go_wp2_with fail
          obtain ⟨az, yz, fz⟩ := lay_out (a := .bool neg) (b := .slice ya yn yc) (c := .int .i64 (e + (k : Int))) (Nat.le_refl _) FX3.out R4.out Y4.out
          generalize ((w3.setCell ⟨w.heap.size, 0, none⟩ (.bool neg)).setCell ⟨w.heap.size, 1, none⟩ (.slice ya yn yc)).setCell ⟨w.heap.size, 2, none⟩ (.int .i64 (e + (k : Int))) = wz at az yz fz ⊢
          refine bodyPost_ret (results_ct rfl rfl az) rfl ?_
          exact ⟨fz, Or.inr ⟨k, Y.out.2, Or.inl ⟨K.out.1, K.out.2, _, rfl, yz⟩⟩⟩
        · have r4 := R3.out.keep f4 (fun x => x)
          have d0 := r4.cell 0
          have d1 := r4.cell 1
          have d2 := r4.cell 2
          have g0 := r4.free 0
          have g1 := r4.free 1
          have g2 := r4.free 2
          have R4 := Lib.hid r4
          have K := Lib.hid k1
          have FX3 := Lib.hid (FX2.out.trans f4 (fun _ h => h) (fun _ _ h => h))
          clear r4 f4 k1
          unfold zeroN
          go_wp2_with fail
          obtain ⟨az, fz⟩ := put3 R4.out (.bool false) (.slice none 0 0) (.int .i64 0)
          generalize ((w3.setCell ⟨w.heap.size, 0, none⟩ (.bool false)).setCell ⟨w.heap.size, 1, none⟩ (.slice none 0 0)).setCell ⟨w.heap.size, 2, none⟩ (.int .i64 0) = wz at az fz ⊢
          refine bodyPost_ret (results_ct rfl rfl az) rfl ?_
          exact ⟨FX3.out.trans fz (fun _ h => h) (fun x hx h => by unfold Mem.One at h; omega), Or.inr ⟨k, Y.out.2, Or.inr ⟨K.out, rfl⟩⟩⟩
end Go.Proofs.YtgmebioogkmfgaaDoor
