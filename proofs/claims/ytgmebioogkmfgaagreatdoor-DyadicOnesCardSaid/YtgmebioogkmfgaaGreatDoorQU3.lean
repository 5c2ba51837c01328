/- Neg, Sign, Scale, Float of the document; lent of the statements. Condition: it stands in each fact. -/
import Derived.Test.YtgmebioogkmfgaaGreatDoorQU1
import Derived.Test.YtgmebioogkmfgaaGreatDoorQU2
namespace Go.Proofs.YtgmebioogkmfgaaGreatDoor
open Go.RowKit Go.Pt Go.Mem

set_option maxRecDepth 100000 in
set_option maxHeartbeats 4000000 in
theorem rNeg_zero (ng : Bool) (a : Option Addr) (c : Nat) (E : Int) (w : World) :
    Calls Tryz.prog 23 #[.agg #[.bool ng, .slice a 0 c, .int .i64 E]] w fun en w' => en = .returned (.agg #[.bool ng, .slice a 0 c, .int .i64 E]) ∧ Fr w w' None := by
  go_enter Tryz.func23, Tryz.ntmps23
  go_wp2_with fail
  have az : At ((w.alloc (.cells #[.bool ng, .slice a 0 c, .int .i64 E] 24)).alloc (.cells #[.bool ng, .slice a 0 c, .int .i64 E] 24)) (w.heap.size + 1) #[.bool ng, .slice a 0 c, .int .i64 E] 24 := by have := At.alloc (w.alloc (.cells #[.bool ng, .slice a 0 c, .int .i64 E] 24)) #[.bool ng, .slice a 0 c, .int .i64 E] 24; simpa using this
  have fz : Fr w ((w.alloc (.cells #[.bool ng, .slice a 0 c, .int .i64 E] 24)).alloc (.cells #[.bool ng, .slice a 0 c, .int .i64 E] 24)) None := ((Fr.refl w None).alloc _).alloc _
  refine bodyPost_ret (results_cell_row rfl _ _ _ _ _ _ _ rfl az Tryz.underlying24 rfl (by kernel_rfl)) rfl ?_
  exact ⟨rfl, fz⟩

set_option maxRecDepth 100000 in
set_option maxHeartbeats 4000000 in
theorem rNeg_pos (ng : Bool) (a : Option Addr) (n c : Nat) (E : Int) (w : World) (hn : 0 < n) :
    Calls Tryz.prog 23 #[.agg #[.bool ng, .slice a n c, .int .i64 E]] w fun en w' => en = .returned (.agg #[.bool (!ng), .slice a n c, .int .i64 E]) ∧ Fr w w' None := by
  go_enter Tryz.func23, Tryz.ntmps23
  go_wp2_with fail
  have az : At ((w.alloc (.cells #[.bool (!ng), .slice a n c, .int .i64 E] 24)).alloc (.cells #[.bool (!ng), .slice a n c, .int .i64 E] 24)) (w.heap.size + 1) #[.bool (!ng), .slice a n c, .int .i64 E] 24 := by have := At.alloc (w.alloc (.cells #[.bool (!ng), .slice a n c, .int .i64 E] 24)) #[.bool (!ng), .slice a n c, .int .i64 E] 24; simpa using this
  have fz : Fr w ((w.alloc (.cells #[.bool (!ng), .slice a n c, .int .i64 E] 24)).alloc (.cells #[.bool (!ng), .slice a n c, .int .i64 E] 24)) None := ((Fr.refl w None).alloc _).alloc _
  refine bodyPost_ret (results_cell_row rfl _ _ _ _ _ _ _ rfl az Tryz.underlying24 rfl (by kernel_rfl)) rfl ?_
  exact ⟨rfl, fz⟩

set_option maxRecDepth 100000 in
set_option maxHeartbeats 4000000 in
theorem rSign_any (ng : Bool) (a : Option Addr) (n c : Nat) (E : Int) (w : World) :
    Calls Tryz.prog 24 #[.agg #[.bool ng, .slice a n c, .int .i64 E]] w fun en w' => en = .returned (.int .i64 (if n = 0 then 0 else if ng then -1 else 1)) ∧ Fr w w' None := by
  obtain ⟨t0, f0⟩ := box_at w (.bool ng) (.slice a n c) (.int .i64 E) 24
  have F0 := Lib.hid f0
  have c0 := t0.cell 0
  have c1 := t0.cell 1
  have c2 := t0.cell 2
  clear t0 f0
  rcases Nat.eq_zero_or_pos n with rfl | h0
  · go_enter Tryz.func24, Tryz.ntmps24
    go_wp2_with fail
    go_ret
    exact ⟨rfl, F0.out⟩
  · have i1 : ((n : Int) == 0) = false := beq_eq_false_iff_ne.2 (by omega)
    rw [if_neg (by omega)]
    clear h0
    cases ng
    · go_enter Tryz.func24, Tryz.ntmps24
      go_wp2_with fail
      go_ret
      exact ⟨rfl, F0.out⟩
    · go_enter Tryz.func24, Tryz.ntmps24
      go_wp2_with fail
      go_ret
      exact ⟨rfl, F0.out⟩

set_option maxRecDepth 100000 in
set_option maxHeartbeats 4000000 in
theorem rScale_zero (ng : Bool) (a : Option Addr) (c : Nat) (E k : Int) (w : World) :
    Calls Tryz.prog 21 #[.agg #[.bool ng, .slice a 0 c, .int .i64 E], .int .i64 k] w fun en w' => en = .returned (.tuple #[.agg #[.bool ng, .slice a 0 c, .int .i64 E], .int .i64 0]) ∧ Fr w w' None := by
  go_enter Tryz.func21, Tryz.ntmps21
  go_wp2_with fail
  have az : At ((w.alloc (.cells #[.bool ng, .slice a 0 c, .int .i64 E] 24)).alloc (.cells #[.bool ng, .slice a 0 c, .int .i64 E] 24)) (w.heap.size + 1) #[.bool ng, .slice a 0 c, .int .i64 E] 24 := by have := At.alloc (w.alloc (.cells #[.bool ng, .slice a 0 c, .int .i64 E] 24)) #[.bool ng, .slice a 0 c, .int .i64 E] 24; simpa using this
  have fz : Fr w ((w.alloc (.cells #[.bool ng, .slice a 0 c, .int .i64 E] 24)).alloc (.cells #[.bool ng, .slice a 0 c, .int .i64 E] 24)) None := ((Fr.refl w None).alloc _).alloc _
  refine bodyPost_ret (results_ct rfl rfl az) rfl ?_
  exact ⟨rfl, fz⟩

set_option maxRecDepth 100000 in
set_option maxHeartbeats 4000000 in
theorem rScale_far (ng : Bool) (a : Option Addr) (n c : Nat) (E : Int) (k : Int) (w : World) (hn : 0 < n) (hk : 3145728 < k ∨ k < -3145728) :
    Calls Tryz.prog 21 #[.agg #[.bool ng, .slice a n c, .int .i64 E], .int .i64 k] w fun en w' => en = .returned (.tuple #[zeroN, .int .i64 2]) ∧ Fr w w' None := by
  have i1 : ((n : Int) == 0) = false := beq_eq_false_iff_ne.2 (by omega)
  clear hn
  by_cases hk0 : 3145728 < k
  · clear hk
    go_enter Tryz.func21, Tryz.ntmps21
    go_wp2_with fail
    have az : At ((w.alloc (.cells #[.bool ng, .slice a n c, .int .i64 E] 24)).alloc (.cells #[.bool false, .slice none 0 0, .int .i64 0] 24)) (w.heap.size + 1) #[.bool false, .slice none 0 0, .int .i64 0] 24 := by have := At.alloc (w.alloc (.cells #[.bool ng, .slice a n c, .int .i64 E] 24)) #[.bool false, .slice none 0 0, .int .i64 0] 24; simpa using this
    have fz : Fr w ((w.alloc (.cells #[.bool ng, .slice a n c, .int .i64 E] 24)).alloc (.cells #[.bool false, .slice none 0 0, .int .i64 0] 24)) None := ((Fr.refl w None).alloc _).alloc _
    refine bodyPost_ret (results_ct rfl rfl az) rfl ?_
    exact ⟨rfl, fz⟩
  · have hk1 : k < -3145728 := by omega
    clear hk
    go_enter Tryz.func21, Tryz.ntmps21
    go_wp2_with fail
    have az : At ((w.alloc (.cells #[.bool ng, .slice a n c, .int .i64 E] 24)).alloc (.cells #[.bool false, .slice none 0 0, .int .i64 0] 24)) (w.heap.size + 1) #[.bool false, .slice none 0 0, .int .i64 0] 24 := by have := At.alloc (w.alloc (.cells #[.bool ng, .slice a n c, .int .i64 E] 24)) #[.bool false, .slice none 0 0, .int .i64 0] 24; simpa using this
    have fz : Fr w ((w.alloc (.cells #[.bool ng, .slice a n c, .int .i64 E] 24)).alloc (.cells #[.bool false, .slice none 0 0, .int .i64 0] 24)) None := ((Fr.refl w None).alloc _).alloc _
    refine bodyPost_ret (results_ct rfl rfl az) rfl ?_
    exact ⟨rfl, fz⟩

set_option maxRecDepth 100000 in
set_option maxHeartbeats 4000000 in
theorem rScale_ok (ng : Bool) (a : Option Addr) (n c : Nat) (E : Int) (k : Int) (x : Nat → Int) (w : World) (hn : 0 < n) (hn2 : n ≤ 100000) (hE0 : -1048576 ≤ E) (hE1 : E ≤ 1048576) (hk0 : k ≤ 3145728) (hk1 : -3145728 ≤ k) (h : IntsV w (.slice a n c) n x) (hP : ValidP ng n x (E + k)) :
    Calls Tryz.prog 21 #[.agg #[.bool ng, .slice a n c, .int .i64 E], .int .i64 k] w fun en w' => en = .returned (.tuple #[.agg #[.bool ng, .slice a n c, .int .i64 (E + k)], .int .i64 0]) ∧ Fr w w' None := by
  have i1 : ((n : Int) == 0) = false := beq_eq_false_iff_ne.2 (by omega)
  have HN := Lib.hid hn2
  have HI := Lib.hid h
  have HP := Lib.hid hP
  clear hn hn2 h hP
  have f1 : Fr w ((w.alloc (.cells #[.bool ng, .slice a n c, .int .i64 (E + k)] 24)).alloc (.cells #[.bool false, .slice none 0 0, .int .i64 0] 24)) None := ((Fr.refl w None).alloc _).alloc _
  have r1 : At ((w.alloc (.cells #[.bool ng, .slice a n c, .int .i64 (E + k)] 24)).alloc (.cells #[.bool false, .slice none 0 0, .int .i64 0] 24)) (w.heap.size + 1) #[.bool false, .slice none 0 0, .int .i64 0] 24 := by have := At.alloc (w.alloc (.cells #[.bool ng, .slice a n c, .int .i64 (E + k)] 24)) #[.bool false, .slice none 0 0, .int .i64 0] 24; simpa using this
  have ha := answer_ok ng (.slice a n c) n x (E + k) _ HN.out (HI.out.keep f1) HP.out
  have FB := Lib.hid f1
  have RB := Lib.hid r1
  have HA := Lib.hid ha
  clear ha f1 r1
  go_enter Tryz.func21, Tryz.ntmps21
  go_wp2_with fail
  generalize (w.alloc (.cells #[.bool ng, .slice a n c, .int .i64 (E + k)] 24)).alloc (.cells #[.bool false, .slice none 0 0, .int .i64 0] 24) = w1 at FB RB HA ⊢
  refine (HA.out).mono ?_
  rintro en w2 ⟨rfl, f2⟩
  have r2 := RB.out.keep f2 (fun x => x)
  have d0 := r2.cell 0
  have d1 := r2.cell 1
  have d2 := r2.cell 2
  have g0 := r2.free 0
  have g1 := r2.free 1
  have g2 := r2.free 2
  have R2 := Lib.hid r2
  have FX := Lib.hid (FB.out.trans f2 (fun _ h => h) (fun _ _ h => h))
  clear r2 f2
  go_wp2_with fail
  obtain ⟨az, fz⟩ := put3 R2.out (.bool ng) (.slice a n c) (.int .i64 (E + k))
  generalize ((w2.setCell ⟨w.heap.size + 1, 0, none⟩ (.bool ng)).setCell ⟨w.heap.size + 1, 1, none⟩ (.slice a n c)).setCell ⟨w.heap.size + 1, 2, none⟩ (.int .i64 (E + k)) = wz at az fz ⊢
  refine bodyPost_ret (results_ct rfl rfl az) rfl ?_
  exact ⟨rfl, (FX.out).trans fz (fun _ h => h) (fun x hx h => by unfold Mem.One at h; omega)⟩

set_option maxRecDepth 100000 in
set_option maxHeartbeats 4000000 in
theorem rScale_no (ng : Bool) (a : Option Addr) (n c : Nat) (E : Int) (k : Int) (x : Nat → Int) (w : World) (hn : 0 < n) (hn2 : n ≤ 100000) (hE0 : -1048576 ≤ E) (hE1 : E ≤ 1048576) (hk0 : k ≤ 3145728) (hk1 : -3145728 ≤ k) (h : IntsV w (.slice a n c) n x) (hP : ¬ ValidP ng n x (E + k)) :
    Calls Tryz.prog 21 #[.agg #[.bool ng, .slice a n c, .int .i64 E], .int .i64 k] w fun en w' => en = .returned (.tuple #[zeroN, .int .i64 2]) ∧ Fr w w' None := by
  have i1 : ((n : Int) == 0) = false := beq_eq_false_iff_ne.2 (by omega)
  have HN := Lib.hid hn2
  have HI := Lib.hid h
  have HP := Lib.hid hP
  clear hn hn2 h hP
  have f1 : Fr w ((w.alloc (.cells #[.bool ng, .slice a n c, .int .i64 (E + k)] 24)).alloc (.cells #[.bool false, .slice none 0 0, .int .i64 0] 24)) None := ((Fr.refl w None).alloc _).alloc _
  have r1 : At ((w.alloc (.cells #[.bool ng, .slice a n c, .int .i64 (E + k)] 24)).alloc (.cells #[.bool false, .slice none 0 0, .int .i64 0] 24)) (w.heap.size + 1) #[.bool false, .slice none 0 0, .int .i64 0] 24 := by have := At.alloc (w.alloc (.cells #[.bool ng, .slice a n c, .int .i64 (E + k)] 24)) #[.bool false, .slice none 0 0, .int .i64 0] 24; simpa using this
  have ha := answer_no ng (.slice a n c) n x (E + k) _ HN.out (HI.out.keep f1) HP.out
  have FB := Lib.hid f1
  have RB := Lib.hid r1
  have HA := Lib.hid ha
  clear ha f1 r1
  go_enter Tryz.func21, Tryz.ntmps21
  go_wp2_with fail
  generalize (w.alloc (.cells #[.bool ng, .slice a n c, .int .i64 (E + k)] 24)).alloc (.cells #[.bool false, .slice none 0 0, .int .i64 0] 24) = w1 at FB RB HA ⊢
  refine (HA.out).mono ?_
  rintro en w2 ⟨rfl, f2⟩
  have r2 := RB.out.keep f2 (fun x => x)
  have d0 := r2.cell 0
  have d1 := r2.cell 1
  have d2 := r2.cell 2
  have g0 := r2.free 0
  have g1 := r2.free 1
  have g2 := r2.free 2
  have R2 := Lib.hid r2
  have FX := Lib.hid (FB.out.trans f2 (fun _ h => h) (fun _ _ h => h))
  clear r2 f2
  unfold zeroN
  go_wp2_with fail
  obtain ⟨az, fz⟩ := put3 R2.out (.bool false) (.slice none 0 0) (.int .i64 0)
  generalize ((w2.setCell ⟨w.heap.size + 1, 0, none⟩ (.bool false)).setCell ⟨w.heap.size + 1, 1, none⟩ (.slice none 0 0)).setCell ⟨w.heap.size + 1, 2, none⟩ (.int .i64 0) = wz at az fz ⊢
  refine bodyPost_ret (results_ct rfl rfl az) rfl ?_
  exact ⟨rfl, (FX.out).trans fz (fun _ h => h) (fun x hx h => by unfold Mem.One at h; omega)⟩

set_option maxRecDepth 100000 in
set_option maxHeartbeats 4000000 in
theorem rFloat_long (ng : Bool) (a : Option Addr) (n c : Nat) (E : Int) (w : World) (hn : 2 < n) :
    Calls Tryz.prog 22 #[.agg #[.bool ng, .slice a n c, .int .i64 E]] w fun en w' => en = .returned (.tuple #[.int .i64 0, .bool false]) ∧ Fr w w' None := by
  obtain ⟨t0, f0⟩ := box_at w (.bool ng) (.slice a n c) (.int .i64 E) 24
  have F0 := Lib.hid f0
  have c1 := t0.cell 1
  have i1 : (2 : Int) < (n : Int) := by omega
  clear t0 f0 hn
  go_enter Tryz.func22, Tryz.ntmps22
  go_wp2_with fail
  go_ret2
  exact ⟨rfl, F0.out⟩
end Go.Proofs.YtgmebioogkmfgaaGreatDoor

namespace Go.Proofs.YtgmebioogkmfgaaGreatDoor
open Go.RowKit Go.Pt Go.Mem

theorem dgt_step (N k : Nat) : N / 2 ^ (30 * (k + 1)) * 1073741824 + dgt N k = N / 2 ^ (30 * k) := by
  have h1 : N / 2 ^ (30 * (k + 1)) = N / 2 ^ (30 * k) / 1073741824 := by
    rw [show 30 * (k + 1) = 30 * k + 30 by omega, Nat.pow_add, Nat.div_div_eq_div_mul]
  unfold dgt
  rw [h1]
  omega

set_option maxRecDepth 100000 in
set_option maxHeartbeats 4000000 in
theorem rFloat_short (ng : Bool) (v : Value) (n : Nat) (E : Int) (x : Nat → Int) (w : World) (hn : n ≤ 2) (hv : ValidI n x) (h : IntsV w v n x) :
    Calls Tryz.prog 22 #[.agg #[.bool ng, v, .int .i64 E]] w (FloatPost ng (dv (digN n x) n) E w) := by
  have hlt : dv (digN n x) n < 1152921504606846976 := Nat.lt_of_lt_of_le (digN_lt hv) (two_mono (30 * n) 60 (by omega))
  have hdg : ∀ j, j < n → x j = ((dgt (dv (digN n x) n) j : Nat) : Int) := fun j hj => by rw [dgt_dv (digN_digs hv).1 n j, if_pos hj]; exact digN_eq hv hj
  have hdn : dv (digN n x) n < 2 ^ (30 * n) := digN_lt hv
  generalize dv (digN n x) n = N at hlt hdg hdn ⊢
  obtain ⟨t0, f0⟩ := box_at w (.bool ng) v (.int .i64 E) 24
  obtain ⟨a, c, rfl, hc, hin⟩ := h
  have F0 := Lib.hid f0
  have T0 := Lib.hid t0
  have c0 := t0.cell 0
  have c1 := t0.cell 1
  have c2 := t0.cell 2
  have hcell : ∀ j, j < n → ∃ b off, a = some ⟨b, off, none⟩ ∧ (w.alloc (.cells #[.bool ng, .slice a n c, .int .i64 E] 24)).cell? ⟨b, off + j, none⟩ = some (.int .i64 ((dgt N j : Nat) : Int)) := fun j hj => by
    obtain ⟨b, off, h1, h2, h3⟩ := hin j hj
    exact ⟨b, off, h1, by rw [f0.cell (p := ⟨b, off + j, none⟩) h2 (fun x => x), ← hdg j hj]; exact h3⟩
  have HC := Lib.hid hcell
  have HN := Lib.hid (And.intro hlt hdn)
  have i1 : ¬ (2 : Int) < (n : Int) := by omega
  have i2 : (n : Int) ≤ 2 := by omega
  clear t0 f0 hin hdg hcell hlt hdn hv hc
  go_enter Tryz.func22, Tryz.ntmps22
  go_wp2_with fail
  generalize w.alloc (.cells #[.bool ng, .slice a n c, .int .i64 E] 24) = w0 at F0 T0 c0 c1 c2 HC ⊢
  go_loopw [4, 5] (fun m i wr => ∃ k : Nat, k ≤ n ∧ m = .int .i64 ((N / 2 ^ (30 * k) : Nat) : Int) ∧ i = .int .i64 ((k : Int) - 1) ∧ w0 = wr) (fun _ i _ => ((intOf i) + 1).toNat)
  case atStart => exact ⟨n, Nat.le_refl _, by rw [Nat.div_eq_of_lt HN.out.2]; rfl, rfl, rfl⟩
  case round =>
    obtain ⟨k, hk, rfl, rfl, rfl⟩ := hrel
    rcases Nat.eq_zero_or_pos k with rfl | hp
    · have e0 : N / 2 ^ (30 * 0) = N := by simp
      rw [e0]
      have HJ := Lib.hid (rJoin64_any ng (N : Int) E (by have := HN.out.1; omega) w0)
      have P : Hid (FloatPost ng N E w (.returned (.tuple #[.int .i64 (jv64 ng N E), .bool (jo64 N E)])) w0) := Lib.hid (float_lo (by have := HN.out.1; omega) F0.out)
      go_wp2_with fail
      refine (HJ.out).mono ?_
      rintro e w3 ⟨rfl, rfl⟩
      go_wp2_with fail
      go_ret2
      exact P.out
    · obtain ⟨q, rfl⟩ : ∃ q, k = q + 1 := ⟨k - 1, by omega⟩
      obtain ⟨b, off, rfl, hcq⟩ := HC.out q (by omega)
      have st := dgt_step N q
      have hle : N / 2 ^ (30 * q) ≤ N := Nat.div_le_self _ _
      generalize hM : N / 2 ^ (30 * (q + 1)) = M at st ⊢
      generalize hd : dgt N q = d at st hcq
      generalize hM2 : N / 2 ^ (30 * q) = M2 at st hle
      have e1 : ((q + 1 : Nat) : Int) - 1 = (q : Int) := by omega
      rw [e1]
      have j0 : (0 : Int) ≤ (q : Int) := by omega
      have j1 : (q : Int) < (n : Int) := by omega
      have j2 : M * 1073741824 + d < 1152921504606846976 := by have := HN.out.1; omega
      have S := Lib.hid (And.intro st hM2)
      have HK := Lib.hid hk
      clear hM hd hM2 hle st e1 hk hp
      go_wp2_with fail
      go_roundw
      case rel => refine ⟨q, by have := HK.out; omega, ?_, rfl, trivial⟩; rw [S.out.2, ← S.out.1]; exact congrArg (Value.int .i64) (by omega)
      case measure => simp [intOf]

theorem float_far {ng : Bool} {n : Nat} {x : Nat → Int} {E : Int} (hn : 2 < n) (hP : ValidP ng n x E) {w w' : World} (f : Fr w w' None) : FloatPost ng (dv (digN n x) n) E w (.returned (.tuple #[.int .i64 0, .bool false])) w' := by
  rcases hP with ⟨h, _⟩ | ⟨h0, hv, ho, _, _⟩
  · omega
  · have h1 : dv (digN n x) n % 2 = 1 := by
      have := dgt_dv (digN_digs hv).1 n 0
      rw [if_pos h0] at this
      unfold dgt at this
      rw [Nat.mul_zero, Nat.pow_zero, Nat.div_one] at this
      have h2 := digN_eq hv h0
      omega
    have h2 : 1152921504606846976 ≤ dv (digN n x) n := by
      obtain ⟨q, rfl⟩ : ∃ q, n = q + 1 := ⟨n - 1, by omega⟩
      have h3 := (digN_digs hv).2.1 h0
      rw [Nat.add_sub_cancel] at h3
      have h4 : dv (digN (q + 1) x) (q + 1) = dv (digN (q + 1) x) q + digN (q + 1) x q * 2 ^ (30 * q) := rfl
      have h5 : 2 ^ 60 ≤ 2 ^ (30 * q) := two_mono 60 (30 * q) (by omega)
      have h6 : 2 ^ (30 * q) ≤ digN (q + 1) x q * 2 ^ (30 * q) := Nat.le_mul_of_pos_left _ (Nat.pos_of_ne_zero h3)
      rw [h4]
      have h7 : (2 : Nat) ^ 60 = 1152921504606846976 := by decide
      omega
    generalize dv (digN n x) n = N at h1 h2 ⊢
    have hj : jv64 ng (N : Int) E = 0 ∧ jo64 (N : Int) E = false := by
      refine j64_none ng (m := (N : Int)) (by omega) (fun r ha => ?_)
      rw [Int.toNat_natCast] at ha
      have := ha.odd h1
      rw [least_eq, binade_eq] at this
      omega
    refine ⟨?_, f⟩
    rw [hj.1, hj.2, Bool.and_false]
    split <;> rfl

theorem rFloat_any (ng : Bool) (v : Value) (n : Nat) (E : Int) (x : Nat → Int) (w : World) (hP : ValidP ng n x E) (h : IntsV w v n x) :
    Calls Tryz.prog 22 #[.agg #[.bool ng, v, .int .i64 E]] w (FloatPost ng (dv (digN n x) n) E w) := by
  rcases Nat.lt_or_ge 2 n with c | c
  · obtain ⟨a, cap, rfl, _⟩ := h
    refine (rFloat_long ng a n cap E w c).mono ?_
    rintro en w' ⟨rfl, f⟩
    exact float_far c hP f
  · exact rFloat_short ng v n E x w c hP.valid h
end Go.Proofs.YtgmebioogkmfgaaGreatDoor

namespace Go.Proofs.YtgmebioogkmfgaaGreatDoor
open Go.RowKit Go.Pt Go.Mem

theorem results_tc {fn : Func} {p q : Tmp} (h : fn.results = #[.tmp q, .cell p 24]) {tmps : Array Value} {w : World} {R : Nat} {x y z : Value} (hp : tmps.getD p undef = .pointer (some ⟨R, 0, none⟩)) (h1 : At w R #[x, y, z] 24) :
    (results fn tmps).run Tryz.prog w = .ok (.tuple #[tmps.getD q undef, .agg #[x, y, z]]) w := by
  have hp' : tmps[p]?.getD undef = .pointer (some ⟨R, 0, none⟩) := by simpa using hp
  have e1 := run_loadVar_row (P := Tryz.prog) w R 24 24 #[x, y, z] (0, 0) _ h1 Tryz.underlying24 rfl (by kernel_rfl)
  simp [results, h, hp', asAddr, e1]

/-- What lent gives. -/
def LentNum (ng : Bool) (n : Nat) (x : Nat → Int) (E : Int) (w : World) (e : Ending) (w' : World) : Prop :=
  ∃ b cap, e = .returned (.tuple #[.slice (some ⟨b, 0, none⟩) (n + 3) cap, .agg #[.bool ng, .slice (some ⟨b, 0, none⟩) n cap, .int .i64 E]]) ∧ VRow w' (.slice (some ⟨b, 0, none⟩) (n + 3) cap) (n + 3) (fun j => .int .i64 (marked x n j)) 3 w.heap.size ∧ n + 3 ≤ cap ∧ w.heap.size ≤ b ∧ Fr w w' None

set_option maxRecDepth 100000 in
set_option maxHeartbeats 4000000 in
theorem lentNum_ok (ng : Bool) (v : Value) (n : Nat) (x : Nat → Int) (E : Int) (w : World) (hn : n ≤ 100000) (h : IntsV w v n x) :
    Calls Tryz.prog 12 #[.agg #[.bool ng, v, .int .i64 E]] w (LentNum ng n x E w) := by
  obtain ⟨t0, f0⟩ := box_at w (.bool ng) v (.int .i64 E) 24
  have f1 := f0.alloc (.cells #[.bool false, .slice none 0 0, .int .i64 0] 24)
  have r1 := At.alloc (w.alloc (.cells #[.bool ng, v, .int .i64 E] 24)) #[.bool false, .slice none 0 0, .int .i64 0] 24
  rw [show (w.alloc (.cells #[.bool ng, v, .int .i64 E] 24)).heap.size = w.heap.size + 1 by simp] at r1
  have t1 := t0.keep ((Fr.refl _ None).alloc (.cells #[.bool false, .slice none 0 0, .int .i64 0] 24)) (fun x => x)
  have hl := lent_ok v n x _ hn (h.keep f1).inV
  have F1 := Lib.hid f1
  have T1 := Lib.hid t1
  have R1 := Lib.hid r1
  have HL := Lib.hid hl
  obtain ⟨va, vc, rfl, _⟩ := h
  clear t0 f0 f1 r1 t1 hl
  go_enter Tryz.func12, Tryz.ntmps12
  go_wp2_with fail
  generalize (w.alloc (.cells #[.bool ng, .slice va n vc, .int .i64 E] 24)).alloc (.cells #[.bool false, .slice none 0 0, .int .i64 0] 24) = w0 at HL F1 T1 R1 ⊢
  refine (HL.out).mono ?_
  rintro en w1 ⟨b, cap, rfl, k1, k2, k3, k4⟩
  have t2 := T1.out.keep k4 (fun x => x)
  have c0 := t2.cell 0
  have c1 := t2.cell 1
  have c2 := t2.cell 2
  have r2 := R1.out.keep k4 (fun x => x)
  have g0 := r2.free 0
  have g1 := r2.free 1
  have g2 := r2.free 2
  have d0 := r2.cell 0
  have d1 := r2.cell 1
  have d2 := r2.cell 2
  have i1 : (n : Int) ≤ (cap : Int) := by omega
  have i2 : (0 : Int) ≤ (n : Int) := by omega
  have R2 := Lib.hid r2
  have K := Lib.hid (And.intro k1 (And.intro k2 (And.intro k3 (F1.out.trans k4 (fun _ h => h) (fun _ _ h => h)))))
  have HB := Lib.hid (show w.heap.size + 1 < b by have := R1.out.lt; omega)
  clear k1 k2 k3 k4 r2 t2
  go_wp2_with fail
  go_region_with (fail)
  all_goals
    obtain ⟨az, fz⟩ := put3 R2.out (.bool ng) (.slice (some ⟨b, 0, none⟩) n cap) (.int .i64 E)
    have azd := az.keep (Fr.refl _ None).drew (fun x => x)
    have fzd := fz.drew
    have hk := K.out.1.keepS fzd (fun q hq e => by obtain ⟨l, c, e2⟩ := hq; cases e2; unfold Mem.One at e; have := HB.out; omega)
    have P : Hid (Fr w _ None) := Lib.hid (K.out.2.2.2.trans fzd (fun _ h => h) (fun x hx h => by unfold Mem.One at h; omega))
    have HK := Lib.hid (hk.low F1.out.size)
    clear az fz fzd hk c0 c1 c2 d0 d1 d2 g0 g1 g2
    generalize (((w1.setCell ⟨w.heap.size + 1, 0, none⟩ (.bool ng)).setCell ⟨w.heap.size + 1, 1, none⟩ (.slice (some ⟨b, 0, none⟩) n cap)).setCell ⟨w.heap.size + 1, 2, none⟩ (.int .i64 E)).drew = wz at azd P HK ⊢
    go_wp2_with fail
    refine bodyPost_ret (results_tc rfl rfl azd) rfl ?_
    exact ⟨b, cap, rfl, HK.out, K.out.2.1, Nat.le_trans F1.out.size K.out.2.2.1, P.out⟩
end Go.Proofs.YtgmebioogkmfgaaGreatDoor
