/- The document's answer for numbers. Condition: it stands in each fact. -/
import Derived.Test.YtgmebioogkmfgaaGreatDoorQT4
import Derived.Test.YtgmebioogkmfgaaGreatDoorQ8
import Derived.Test.YtgmebioogkmfgaaGreatDoorQT3
namespace Go.Proofs.YtgmebioogkmfgaaGreatDoor
open Go.RowKit Go.Pt Go.Mem

/-- A slice of digits, at any place. -/
def InN (w : World) (v : Value) (n : Nat) (x : Nat → Nat) : Prop := InV w v n (fun j => ((x j : Nat) : Int))

/-- What Norm gives: neg, N times 2^e with its twos taken out. -/
def NormO (neg : Bool) (N : Nat) (e : Int) (w : World) (en : Ending) (w' : World) : Prop :=
  Fr w w' None ∧ ((N = 0 ∧ en = .returned zeroN) ∨ ∃ k : Nat, k < 60000 ∧ TzIs N k ∧ ∃ y, en = .returned y ∧ NumO w' y neg (N / 2 ^ k) (e + (k : Int)) w.heap.size)

/-- What From gives. -/
def FromPost (m : Nat) (w : World) (en : Ending) (w' : World) : Prop := ∃ u n, en = .returned u ∧ IRow w' u n (dgt m) w.heap.size ∧ n ≤ 3 ∧ m < 2 ^ (30 * n) ∧ Fr w w' None

/-- A number in its one form, by its parts. -/
def ValidP (neg : Bool) (n : Nat) (x : Nat → Int) (E : Int) : Prop := (n = 0 ∧ neg = false ∧ E = 0) ∨ (0 < n ∧ ValidI n x ∧ x 0 % 2 = 1 ∧ -1048576 ≤ E ∧ E ≤ 1048576)
instance (neg : Bool) (n : Nat) (x : Nat → Int) (E : Int) : Decidable (ValidP neg n x E) := by unfold ValidP; exact inferInstance

set_option maxRecDepth 100000 in
set_option maxHeartbeats 4000000 in
theorem validP_ref (neg : Bool) (v : Value) (n : Nat) (x : Nat → Int) (E : Int) (w : World) (hn : n ≤ 100000) (h : IntsV w v n x) :
    Calls Tryz.prog 13 #[.agg #[.bool neg, v, .int .i64 E]] w fun en w' => en = .returned (.bool (decide (ValidP neg n x E))) ∧ Fr w w' None := by
  obtain ⟨t0, f0⟩ := box_at w (.bool neg) v (.int .i64 E) 24
  have hval := valid_ref v n x _ hn (h.keep f0)
  have c0 := t0.cell 0
  have c1 := t0.cell 1
  have c2 := t0.cell 2
  have F0 := Lib.hid f0
  have T0 := Lib.hid t0
  have h0 := h.keep f0
  have H := Lib.hid h0
  obtain ⟨a, cap, rfl, hcap, hin⟩ := h0
  have HV := Lib.hid hval
  clear t0 f0 hval h
  rcases Nat.eq_zero_or_pos n with rfl | hp
  · have F : Hid (decide (ValidP neg 0 x E) = (!neg && (E == 0))) := by
      cases neg
      · by_cases e : E = 0
        · subst e; exact Lib.hid (decide_eq_true (Or.inl ⟨rfl, rfl, rfl⟩))
        · rw [beq_eq_false_iff_ne.2 e]; exact Lib.hid (decide_eq_false (fun h => by rcases h with ⟨_, _, h⟩ | ⟨h, _⟩; exact e h; omega))
      · exact Lib.hid (decide_eq_false (fun h => by rcases h with ⟨_, h, _⟩ | ⟨h, _⟩; cases h; omega))
    cases neg
    · by_cases e : E = 0
      · subst e
        go_enter Tryz.func13, Tryz.ntmps13
        go_wp2_with fail
        go_ret
        exact ⟨by rw [F.out]; rfl, F0.out⟩
      · have e' : (E == 0) = false := beq_eq_false_iff_ne.2 e
        rw [e'] at F
        clear e
        go_enter Tryz.func13, Tryz.ntmps13
        go_wp2_with fail
        go_ret
        exact ⟨by rw [F.out]; rfl, F0.out⟩
    · go_enter Tryz.func13, Tryz.ntmps13
      go_wp2_with fail
      go_ret
      exact ⟨by rw [F.out]; rfl, F0.out⟩
  · have i1 : ((n : Int) == 0) = false := beq_eq_false_iff_ne.2 (by omega)
    have i2 : (0 : Int) < (n : Int) := by omega
    by_cases cv : ValidI n x
    · rw [decide_eq_true cv] at HV
      have hx0 := (cv.2.1 0 hp).1
      have F : Hid (decide (ValidP neg n x E) = (((x 0 % 2 : Int) == 1) && (decide (-1048576 ≤ E) && decide (E ≤ 1048576)))) := by
        by_cases h1 : x 0 % 2 = 1
        · by_cases h2 : -1048576 ≤ E
          · by_cases h3 : E ≤ 1048576
            · rw [decide_eq_true h2, decide_eq_true h3, h1]; exact Lib.hid (decide_eq_true (Or.inr ⟨hp, cv, h1, h2, h3⟩))
            · rw [decide_eq_true h2, decide_eq_false h3, h1]; exact Lib.hid (decide_eq_false (fun h => by rcases h with ⟨h, _⟩ | ⟨_, _, _, _, h⟩; omega; exact h3 h))
          · rw [decide_eq_false h2, h1]; exact Lib.hid (decide_eq_false (fun h => by rcases h with ⟨h, _⟩ | ⟨_, _, _, h, _⟩; omega; exact h2 h))
        · rw [beq_eq_false_iff_ne.2 h1]; exact Lib.hid (decide_eq_false (fun h => by rcases h with ⟨h, _⟩ | ⟨_, _, h, _⟩; omega; exact h1 h))
      have t9 : Int.tmod (x 0) 2 = x 0 % 2 := Int.tmod_eq_emod_of_nonneg hx0
      have hin2 : ∀ W, Fr (w.alloc (.cells #[.bool neg, .slice a n cap, .int .i64 E] 24)) W None → ∃ b off, a = some ⟨b, off, none⟩ ∧ W.cell? ⟨b, off, none⟩ = some (.int .i64 (x 0)) := fun W fW => by
        obtain ⟨b, off, rfl, h1, h2⟩ := hin 0 hp
        rw [Nat.add_zero] at h2
        exact ⟨b, off, rfl, by rw [fW.cell (p := ⟨b, off, none⟩) h1 (fun x => x)]; exact h2⟩
      generalize x 0 = d at F hin2 t9
      have HI := Lib.hid hin2
      clear hin hin2 cv hx0
      by_cases h1 : d % 2 = 1
      · have p1 : (Int.tmod d 2 == 1) = true := by rw [t9]; exact beq_iff_eq.2 h1
        have p2 : (d % 2 == 1) = true := beq_iff_eq.2 h1
        rw [p2] at F
        by_cases h2 : -1048576 ≤ E
        · by_cases h3 : E ≤ 1048576
          · rw [decide_eq_true h2, decide_eq_true h3] at F
            clear h1
            go_enter Tryz.func13, Tryz.ntmps13
            go_wp2_with fail
            generalize w.alloc (.cells #[.bool neg, .slice a n cap, .int .i64 E] 24) = w0 at HV F0 T0 HI H c0 c1 c2 ⊢
            refine (HV.out).mono ?_
            rintro en w1 ⟨rfl, f1⟩
            obtain ⟨b, off, rfl, g0⟩ := HI.out w1 f1
            have t1 := T0.out.keep f1 (fun x => x)
            have c0 := t1.cell 0
            have c1 := t1.cell 1
            have c2 := t1.cell 2
            have FX := Lib.hid (F0.out.trans f1 (fun _ h => h) (fun _ _ h => h))
            clear f1 t1 HI H
            go_wp2_with fail
            go_ret
            exact ⟨by rw [F.out]; rfl, FX.out⟩
          · rw [decide_eq_true h2, decide_eq_false h3] at F
            have H3 := Lib.hid (decide_eq_false h3)
            have h3' : 1048576 < E := by omega
            clear h1
            go_enter Tryz.func13, Tryz.ntmps13
            go_wp2_with fail
            generalize w.alloc (.cells #[.bool neg, .slice a n cap, .int .i64 E] 24) = w0 at HV F0 T0 HI H c0 c1 c2 ⊢
            refine (HV.out).mono ?_
            rintro en w1 ⟨rfl, f1⟩
            obtain ⟨b, off, rfl, g0⟩ := HI.out w1 f1
            have t1 := T0.out.keep f1 (fun x => x)
            have c0 := t1.cell 0
            have c1 := t1.cell 1
            have c2 := t1.cell 2
            have FX := Lib.hid (F0.out.trans f1 (fun _ h => h) (fun _ _ h => h))
            clear f1 t1 HI H
            go_wp2_with fail
            go_ret
            exact ⟨by rw [F.out]; exact congrArg (fun q => Ending.returned (.bool q)) H3.out, FX.out⟩
        · rw [decide_eq_false h2] at F
          have h2' : E < -1048576 := by omega
          clear h1
          go_enter Tryz.func13, Tryz.ntmps13
          go_wp2_with fail
          generalize w.alloc (.cells #[.bool neg, .slice a n cap, .int .i64 E] 24) = w0 at HV F0 T0 HI H c0 c1 c2 ⊢
          refine (HV.out).mono ?_
          rintro en w1 ⟨rfl, f1⟩
          obtain ⟨b, off, rfl, g0⟩ := HI.out w1 f1
          have t1 := T0.out.keep f1 (fun x => x)
          have c0 := t1.cell 0
          have c1 := t1.cell 1
          have c2 := t1.cell 2
          have FX := Lib.hid (F0.out.trans f1 (fun _ h => h) (fun _ _ h => h))
          clear f1 t1 HI H
          go_wp2_with fail
          go_ret
          exact ⟨by rw [F.out]; rfl, FX.out⟩
      · have p1 : (Int.tmod d 2 == 1) = false := by rw [t9]; exact beq_eq_false_iff_ne.2 h1
        have p2 : (d % 2 == 1) = false := beq_eq_false_iff_ne.2 h1
        rw [p2] at F
        clear h1
        go_enter Tryz.func13, Tryz.ntmps13
        go_wp2_with fail
        generalize w.alloc (.cells #[.bool neg, .slice a n cap, .int .i64 E] 24) = w0 at HV F0 T0 HI H c0 c1 c2 ⊢
        refine (HV.out).mono ?_
        rintro en w1 ⟨rfl, f1⟩
        obtain ⟨b, off, rfl, g0⟩ := HI.out w1 f1
        have t1 := T0.out.keep f1 (fun x => x)
        have c0 := t1.cell 0
        have c1 := t1.cell 1
        have c2 := t1.cell 2
        have FX := Lib.hid (F0.out.trans f1 (fun _ h => h) (fun _ _ h => h))
        clear f1 t1 HI H
        go_wp2_with fail
        go_ret
        exact ⟨by rw [F.out]; rfl, FX.out⟩
    · rw [decide_eq_false cv] at HV
      have F : Hid (decide (ValidP neg n x E) = false) := Lib.hid (decide_eq_false (fun h => by rcases h with ⟨h, _⟩ | ⟨_, h, _⟩; omega; exact cv h))
      clear hin cv H
      go_enter Tryz.func13, Tryz.ntmps13
      go_wp2_with fail
      generalize w.alloc (.cells #[.bool neg, .slice a n cap, .int .i64 E] 24) = w0 at HV F0 T0 c0 c1 c2 ⊢
      refine (HV.out).mono ?_
      rintro en w1 ⟨rfl, f1⟩
      have FX := Lib.hid (F0.out.trans f1 (fun _ h => h) (fun _ _ h => h))
      clear f1
      go_wp2_with fail
      go_ret
      exact ⟨by rw [F.out]; rfl, FX.out⟩
end Go.Proofs.YtgmebioogkmfgaaGreatDoor

namespace Go.Proofs.YtgmebioogkmfgaaGreatDoor
open Go.RowKit Go.Pt Go.Mem

/-- Two results: a number in a variable, an int. -/
theorem results_ct {fn : Func} {p q : Tmp} (h : fn.results = #[.cell p 24, .tmp q]) {tmps : Array Value} {w : World} {R : Nat} {x y z : Value} (hp : tmps.getD p undef = .pointer (some ⟨R, 0, none⟩)) (h1 : At w R #[x, y, z] 24) :
    (results fn tmps).run Tryz.prog w = .ok (.tuple #[.agg #[x, y, z], tmps.getD q undef]) w := by
  have hp' : tmps[p]?.getD undef = .pointer (some ⟨R, 0, none⟩) := by simpa using hp
  have e1 := run_loadVar_row (P := Tryz.prog) w R 24 24 #[x, y, z] (0, 0) _ h1 Tryz.underlying24 rfl (by kernel_rfl)
  simp [results, h, hp', asAddr, e1]

theorem InV.ints {w : World} {a : Option Addr} {n c : Nat} {x : Nat → Int} (h : InV w (.slice a n c) n x) (hc : n ≤ c) : IntsV w (.slice a n c) n x := by
  obtain ⟨a', c', e, hin⟩ := h
  cases e
  exact ⟨_, _, rfl, hc, hin⟩
theorem _root_.Go.Mem.VRow.ints {w : World} {v : Value} {n base : Nat} {x : Nat → Int} (h : VRow w v n (fun j => .int .i64 (x j)) 3 base) : IntsV w v n x := by
  rcases h with ⟨rfl, rfl⟩ | ⟨b, cap, cs, rfl, h1, h2, h3, h4, h5⟩
  · exact ⟨_, _, rfl, Nat.le_refl _, fun j hj => by omega⟩
  · exact ⟨_, _, rfl, h1, fun j hj => ⟨b, 0, rfl, h3.lt, by rw [Nat.zero_add, h3.cell]; exact h5 j hj⟩⟩
theorem IntsV.inV {w : World} {v : Value} {n : Nat} {x : Nat → Int} (h : IntsV w v n x) : InV w v n x := by
  obtain ⟨a, c, rfl, _, hin⟩ := h
  exact ⟨_, _, rfl, hin⟩
theorem IntsV.inN {w : World} {v : Value} {n : Nat} {x : Nat → Int} (h : IntsV w v n x) (hv : ValidI n x) : InN w v n (digN n x) := InV.congr h.inV (fun _ hj => digN_eq hv hj)

/-- Digits are a list that is a number's. -/
theorem digs_valid {n : Nat} {x : Nat → Nat} (h : Digs n x) : ValidI n (fun j => ((x j : Nat) : Int)) :=
  ⟨h.2.2, fun j _ => by have := h.1 j; simp only; omega, fun h0 => by have := h.2.1 h0; simp only; omega⟩
theorem odd_validP {n A : Nat} {E : Int} {neg : Bool} (h : Digs n (dgt A)) (hd : dv (dgt A) n = A) (ho : A % 2 = 1) (e1 : -1048576 ≤ E) (e2 : E ≤ 1048576) : ValidP neg n (fun j => ((dgt A j : Nat) : Int)) E := by
  have hn : 0 < n := by
    rcases Nat.eq_zero_or_pos n with rfl | h
    · simp [dv] at hd; omega
    · exact h
  exact Or.inr ⟨hn, digs_valid h, by have := dgt_odd ho; simp only; omega, e1, e2⟩
theorem odd_notP {n A : Nat} {E : Int} {neg : Bool} (hd : dv (dgt A) n = A) (ho : A % 2 = 1) (e : ¬ (-1048576 ≤ E ∧ E ≤ 1048576)) : ¬ ValidP neg n (fun j => ((dgt A j : Nat) : Int)) E := by
  rintro (⟨rfl, _⟩ | ⟨_, _, _, h⟩)
  · simp [dv] at hd; omega
  · exact e h

set_option maxRecDepth 100000 in
set_option maxHeartbeats 4000000 in
theorem answer_ok (neg : Bool) (v : Value) (n : Nat) (x : Nat → Int) (E : Int) (w : World) (hn : n ≤ 100000) (h : IntsV w v n x) (hP : ValidP neg n x E) :
    Calls Tryz.prog 42 #[.agg #[.bool neg, v, .int .i64 E]] w fun en w' => en = .returned (.tuple #[.agg #[.bool neg, v, .int .i64 E], .int .i64 0]) ∧ Fr w w' None := by
  obtain ⟨t0, f0⟩ := box_at w (.bool neg) v (.int .i64 E) 24
  have f1 := f0.alloc (.cells #[.bool false, .slice none 0 0, .int .i64 0] 24)
  have r1 := At.alloc (w.alloc (.cells #[.bool neg, v, .int .i64 E] 24)) #[.bool false, .slice none 0 0, .int .i64 0] 24
  rw [show (w.alloc (.cells #[.bool neg, v, .int .i64 E] 24)).heap.size = w.heap.size + 1 by simp] at r1
  have t1 := t0.keep ((Fr.refl _ None).alloc (.cells #[.bool false, .slice none 0 0, .int .i64 0] 24)) (fun x => x)
  have hv := validP_ref neg v n x E _ hn (h.keep f1)
  rw [decide_eq_true hP] at hv
  have HV := Lib.hid hv
  have F1 := Lib.hid f1
  have T1 := Lib.hid t1
  have R1 := Lib.hid r1
  have c0 := t1.cell 0
  have c1 := t1.cell 1
  have c2 := t1.cell 2
  obtain ⟨va, vc, rfl, _⟩ := h
  clear t0 f0 f1 r1 t1 hv hP
  go_enter Tryz.func42, Tryz.ntmps42
  go_wp2_with fail
  generalize (w.alloc (.cells #[.bool neg, .slice va n vc, .int .i64 E] 24)).alloc (.cells #[.bool false, .slice none 0 0, .int .i64 0] 24) = w0 at HV F1 T1 R1 c0 c1 c2 ⊢
  refine (HV.out).mono ?_
  rintro en w1 ⟨rfl, f2⟩
  have t2 := T1.out.keep f2 (fun x => x)
  have c0 := t2.cell 0
  have c1 := t2.cell 1
  have c2 := t2.cell 2
  have r2 := R1.out.keep f2 (fun x => x)
  have d0 := r2.cell 0
  have d1 := r2.cell 1
  have d2 := r2.cell 2
  have g0 := r2.free 0
  have g1 := r2.free 1
  have g2 := r2.free 2
  have R2 := Lib.hid r2
  have FX := Lib.hid (F1.out.trans f2 (fun _ h => h) (fun _ _ h => h))
  clear t2 r2 f2
  go_wp2_with fail
  obtain ⟨az, fz⟩ := put3 R2.out (.bool neg) (.slice va n vc) (.int .i64 E)
  generalize ((w1.setCell ⟨w.heap.size + 1, 0, none⟩ (.bool neg)).setCell ⟨w.heap.size + 1, 1, none⟩ (.slice va n vc)).setCell ⟨w.heap.size + 1, 2, none⟩ (.int .i64 E) = wz at az fz ⊢
  refine bodyPost_ret (results_ct rfl rfl az) rfl ?_
  exact ⟨rfl, FX.out.trans fz (fun _ h => h) (fun x hx h => by unfold Mem.One at h; omega)⟩

set_option maxRecDepth 100000 in
set_option maxHeartbeats 4000000 in
theorem answer_no (neg : Bool) (v : Value) (n : Nat) (x : Nat → Int) (E : Int) (w : World) (hn : n ≤ 100000) (h : IntsV w v n x) (hP : ¬ ValidP neg n x E) :
    Calls Tryz.prog 42 #[.agg #[.bool neg, v, .int .i64 E]] w fun en w' => en = .returned (.tuple #[zeroN, .int .i64 2]) ∧ Fr w w' None := by
  obtain ⟨t0, f0⟩ := box_at w (.bool neg) v (.int .i64 E) 24
  have f1 := f0.alloc (.cells #[.bool false, .slice none 0 0, .int .i64 0] 24)
  have r1 := At.alloc (w.alloc (.cells #[.bool neg, v, .int .i64 E] 24)) #[.bool false, .slice none 0 0, .int .i64 0] 24
  rw [show (w.alloc (.cells #[.bool neg, v, .int .i64 E] 24)).heap.size = w.heap.size + 1 by simp] at r1
  have t1 := t0.keep ((Fr.refl _ None).alloc (.cells #[.bool false, .slice none 0 0, .int .i64 0] 24)) (fun x => x)
  have hv := validP_ref neg v n x E _ hn (h.keep f1)
  rw [decide_eq_false hP] at hv
  have HV := Lib.hid hv
  have F1 := Lib.hid f1
  have R1 := Lib.hid r1
  have c0 := t1.cell 0
  have c1 := t1.cell 1
  have c2 := t1.cell 2
  obtain ⟨va, vc, rfl, _⟩ := h
  clear t0 f0 f1 r1 t1 hv hP
  go_enter Tryz.func42, Tryz.ntmps42
  go_wp2_with fail
  generalize (w.alloc (.cells #[.bool neg, .slice va n vc, .int .i64 E] 24)).alloc (.cells #[.bool false, .slice none 0 0, .int .i64 0] 24) = w0 at HV F1 R1 c0 c1 c2 ⊢
  refine (HV.out).mono ?_
  rintro en w1 ⟨rfl, f2⟩
  have r2 := R1.out.keep f2 (fun x => x)
  have d0 := r2.cell 0
  have d1 := r2.cell 1
  have d2 := r2.cell 2
  have g0 := r2.free 0
  have g1 := r2.free 1
  have g2 := r2.free 2
  have R2 := Lib.hid r2
  have FX := Lib.hid (F1.out.trans f2 (fun _ h => h) (fun _ _ h => h))
  clear r2 f2 c0 c1 c2
  go_wp2_with fail
  obtain ⟨az, fz⟩ := put3 R2.out (.bool false) (.slice none 0 0) (.int .i64 0)
  generalize ((w1.setCell ⟨w.heap.size + 1, 0, none⟩ (.bool false)).setCell ⟨w.heap.size + 1, 1, none⟩ (.slice none 0 0)).setCell ⟨w.heap.size + 1, 2, none⟩ (.int .i64 0) = wz at az fz ⊢
  refine bodyPost_ret (results_ct rfl rfl az) rfl ?_
  exact ⟨rfl, FX.out.trans fz (fun _ h => h) (fun x hx h => by unfold Mem.One at h; omega)⟩

/-- Answer of a number whose twos are taken out. -/
theorem answer_num {w : World} {y : Value} {neg : Bool} {A base : Nat} {E : Int} (h : NumO w y neg A E base) (ho : A % 2 = 1) :
    Calls Tryz.prog 42 #[y] w fun en w' => Fr w w' None ∧ ((-1048576 ≤ E ∧ E ≤ 1048576 ∧ en = .returned (.tuple #[y, .int .i64 0])) ∨ (¬ (-1048576 ≤ E ∧ E ≤ 1048576) ∧ en = .returned (.tuple #[zeroN, .int .i64 2]))) := by
  obtain ⟨v, n, rfl, h2, h3, h4⟩ := h
  have hv := VRow.ints (IRow.vrow h2)
  by_cases c : -1048576 ≤ E ∧ E ≤ 1048576
  · exact (answer_ok neg v n _ E w (by have := h3.2.2; omega) hv (odd_validP h3 h4 ho c.1 c.2)).mono fun en w' ⟨h1, h2⟩ => ⟨h2, Or.inl ⟨c.1, c.2, h1⟩⟩
  · exact (answer_no neg v n _ E w (by have := h3.2.2; omega) hv (odd_notP h4 ho c)).mono fun en w' ⟨h1, h2⟩ => ⟨h2, Or.inr ⟨c, h1⟩⟩

/-- The end of a Make that lays a number. -/
theorem lay_out {w w1 : World} {R A base : Nat} {neg : Bool} {E : Int} {y a b c u0 u1 u2 : Value} (hw : w.heap.size ≤ R) (f : Fr w w1 None) (r : At w1 R #[u0, u1, u2] 24) (hy : NumO w1 y neg A E base) :
    At (((w1.setCell ⟨R, 0, none⟩ a).setCell ⟨R, 1, none⟩ b).setCell ⟨R, 2, none⟩ c) R #[a, b, c] 24 ∧ NumO (((w1.setCell ⟨R, 0, none⟩ a).setCell ⟨R, 1, none⟩ b).setCell ⟨R, 2, none⟩ c) y neg A E base ∧
    Fr w (((w1.setCell ⟨R, 0, none⟩ a).setCell ⟨R, 1, none⟩ b).setCell ⟨R, 2, none⟩ c) None := by
  obtain ⟨az, fz⟩ := put3 r a b c
  exact ⟨az, hy.over r (by decide) fz, f.trans fz (fun _ h => h) (fun x hx h => by unfold Mem.One at h; omega)⟩

theorem tz_bound {N k T : Nat} (h : TzIs N k) (hN : N < 2 ^ T) : k < T := by
  rcases Nat.lt_or_ge k T with c | c
  · exact c
  · have := h.le
    have := two_mono T k c
    omega

end Go.Proofs.YtgmebioogkmfgaaGreatDoor

namespace Go.Proofs.YtgmebioogkmfgaaGreatDoor
open Go.RowKit Go.Pt Go.Mem

theorem tz_uniq {N k j : Nat} (h : TzIs N k) (g : TzIs N j) : k = j := by
  obtain ⟨_, e⟩ := Ieee.Format.deq_odd h.1 g.1 (p := (k : Int)) (q := (j : Int)) ⟨k, j, by rw [h.2, g.2], rfl⟩
  omega
theorem zeroO (w : World) (base : Nat) : NumO w zeroN false 0 0 base := ⟨_, 0, rfl, IRow.nil _ _ _, ⟨dgt_lt 0, fun h => by omega, by omega⟩, rfl⟩

/-- Two answers to one question are one. -/
theorem out_two {neg : Bool} {N : Nat} {e : Int} {w1 w1' w2 w2' : World} {en1 en2 : Ending} (h : OutPost neg N e w1 en1 w1') (g : OutPost neg N e w2 en2 w2') :
    Fr w1 w1' None ∧ Fr w2 w2' None ∧ ∃ y1 y2 er ng A E, en1 = .returned (.tuple #[y1, .int .i64 er]) ∧ en2 = .returned (.tuple #[y2, .int .i64 er]) ∧ NumO w1' y1 ng A E w1.heap.size ∧ NumO w2' y2 ng A E w2.heap.size := by
  obtain ⟨f1, h⟩ := h
  obtain ⟨f2, g⟩ := g
  refine ⟨f1, f2, ?_⟩
  rcases h with ⟨rfl, rfl⟩ | ⟨k, tz, h⟩
  · rcases g with ⟨_, rfl⟩ | ⟨j, tz, _⟩
    · exact ⟨_, _, _, _, _, _, rfl, rfl, zeroO _ _, zeroO _ _⟩
    · exact absurd tz.pos (by omega)
  · rcases g with ⟨rfl, _⟩ | ⟨j, tz2, g⟩
    · exact absurd tz.pos (by omega)
    · obtain rfl := tz_uniq tz tz2
      rcases h with ⟨k1, k2, y, rfl, hy⟩ | ⟨k1, rfl⟩
      · rcases g with ⟨_, _, y2, rfl, hy2⟩ | ⟨k3, _⟩
        · exact ⟨_, _, _, _, _, _, rfl, rfl, hy, hy2⟩
        · exact absurd ⟨k1, k2⟩ k3
      · rcases g with ⟨k3, k4, _⟩ | ⟨_, rfl⟩
        · exact absurd ⟨k3, k4⟩ k1
        · exact ⟨_, _, _, _, _, _, rfl, rfl, zeroO _ _, zeroO _ _⟩

/-- The parts of two numbers that are one. -/
theorem num_two {w1 w2 : World} {y1 y2 : Value} {ng : Bool} {A b1 b2 : Nat} {E : Int} (h : NumO w1 y1 ng A E b1) (g : NumO w2 y2 ng A E b2) :
    ∃ a1 c1 a2 c2 n, y1 = .agg #[.bool ng, .slice a1 n c1, .int .i64 E] ∧ y2 = .agg #[.bool ng, .slice a2 n c2, .int .i64 E] ∧ IRow w1 (.slice a1 n c1) n (dgt A) b1 ∧ IRow w2 (.slice a2 n c2) n (dgt A) b2 ∧ Digs n (dgt A) ∧ dv (dgt A) n = A := by
  obtain ⟨v1, n, rfl, h2, h3, h4⟩ := h
  obtain ⟨v2, n2, rfl, g2, g3, g4⟩ := g
  obtain rfl := digs_uniq h3 g3 h4 g4
  obtain ⟨a1, c1, rfl⟩ := h2.shape
  obtain ⟨a2, c2, rfl⟩ := g2.shape
  exact ⟨_, _, _, _, _, rfl, rfl, h2, g2, h3, h4⟩

set_option maxRecDepth 100000 in
set_option maxHeartbeats 8000000 in
theorem is_ok (kb m n top top' : Nat) (v u : Value) (ng : Bool) (x : Nat → Int) (E : Int) (w0 w : World) (hm : m ≤ 100) (hn : n ≤ 2000) (hk : KeepV w kb m w0.heap.size top) (hl : VRow w v n (fun j => .int .i64 (x j)) 3 w0.heap.size)
    (hu : IntsV w0 u n x ∨ VRow w u n (fun j => .int .i64 (x j)) 3 w0.heap.size) (hf : Fr w0 w None) (ht : top ≤ top') (h0 : ∀ b, Blk v b → top ≤ b) (h1 : ∀ b, Blk v b → b < top') (hP : ValidP ng n x E) :
    Calls Tryz.prog 20 #[.pointer (some ⟨kb, 0, none⟩), .agg #[.bool ng, v, .int .i64 E], .int .i64 0, .bool false, .agg #[.bool ng, u, .int .i64 E]] w (AddPost kb m w0.heap.size top' w0 w) := by
  have hui : IntsV w u n x := hu.elim (fun h => h.keep hf) VRow.ints
  obtain ⟨ta, fa⟩ := box_at w (.bool ng) v (.int .i64 E) 24
  obtain ⟨tb, fb⟩ := box_at (w.alloc (.cells #[.bool ng, v, .int .i64 E] 24)) (.bool ng) u (.int .i64 E) 24
  rw [show (w.alloc (.cells #[.bool ng, v, .int .i64 E] 24)).heap.size = w.heap.size + 1 by simp] at tb
  have fab := fa.trans fb (fun _ h => h) (fun _ _ h => h)
  have tac := ta.keep fb (fun x => x)
  have ha := answer_ok ng u n x E _ (by omega) (hui.keep fab) hP
  have HA := Lib.hid ha
  have TA := Lib.hid tac
  have TB := Lib.hid tb
  have FAB := Lib.hid fab
  have c0 := tb.cell 0
  have c1 := tb.cell 1
  have c2 := tb.cell 2
  have HH := Lib.hid (And.intro hk (And.intro hl (And.intro hu (And.intro hf (And.intro ht (And.intro h0 h1))))))
  obtain ⟨va, vc, rfl⟩ := hl.shape
  obtain ⟨ua, uc, rfl, _⟩ := hui
  clear hk hu hf ht h0 h1 hP ta tb fa fb fab tac ha
  go_enter Tryz.func20, Tryz.ntmps20
  go_wp2_with fail
  generalize (w.alloc (.cells #[.bool ng, .slice va n vc, .int .i64 E] 24)).alloc (.cells #[.bool ng, .slice ua n uc, .int .i64 E] 24) = wa at HA TA TB FAB c0 c1 c2 ⊢
  refine (HA.out).mono ?_
  rintro en w1 ⟨rfl, f1⟩
  have fx := FAB.out.trans f1 (fun _ h => h) (fun _ _ h => h)
  have fy := (Fr.refl w1 None).alloc (.cells #[.bool ng, .slice ua n uc, .int .i64 E] 24)
  have t0 := (TA.out.keep f1 (fun x => x)).keep fy (fun x => x)
  have tn := At.alloc w1 #[.bool ng, .slice ua n uc, .int .i64 E] 24
  have fz := fx.trans fy (fun _ h => h) (fun _ _ h => h)
  obtain ⟨hk, hl, hu, hf, ht, h0, h1⟩ := HH.out
  have hlz := hl.keep fz
  have hfz := hf.trans fz (fun _ h => h) (fun _ _ h => h)
  have huz : SrcV w0 (w1.alloc (.cells #[.bool ng, .slice ua n uc, .int .i64 E] 24)) (.slice ua n uc) n x := hu.imp (fun h => h.inV) (fun h => VRow.keep h fz)
  have hs := same_agg (.slice va n vc) (.slice ua n uc) ng n x E _ (by omega) hlz.inV (huz.inV hfz)
  have HS := Lib.hid hs
  have SZ := Lib.hid fz
  have HG := Lib.hid (And.intro (hk.keep fz) (And.intro hlz (And.intro huz hfz)))
  have T0 := Lib.hid t0
  have TN := Lib.hid tn
  have a0 := t0.cell 0
  have a1 := t0.cell 1
  have a2 := t0.cell 2
  have e0 := tn.cell 0
  have e1 := tn.cell 1
  have e2 := tn.cell 2
  clear f1 fx fy t0 tn fz hk hl hu hf ht h0 h1 hlz hfz huz hs c0 c1 c2
  go_wp2_with fail
  generalize hb3 : w1.heap.size = b3 at TN e0 e1 e2 ⊢
  generalize w1.alloc (.cells #[.bool ng, .slice ua n uc, .int .i64 E] 24) = wb at HS HG SZ T0 TN a0 a1 a2 e0 e1 e2 ⊢
  refine (HS.out).mono ?_
  rintro en w2 ⟨rfl, f2⟩
  have t1 := T0.out.keep f2 (fun x => x)
  have t2 := TN.out.keep f2 (fun x => x)
  have a1 := t1.cell 1
  have e1 := t2.cell 1
  have hadd := keepAdd_ok kb m n top top' (.slice va n vc) (.slice ua n uc) x w0 w2 hm hn (HG.out.1.keep f2) (HG.out.2.1.keep f2) (HG.out.2.2.1.keep (IntK.of f2 _)) (HG.out.2.2.2.trans f2 (fun _ h => h) (fun _ _ h => h)) HH.out.2.2.2.2.1 HH.out.2.2.2.2.2.1 HH.out.2.2.2.2.2.2
  have HADD := Lib.hid hadd
  have SZ2 := Lib.hid (SZ.out.trans f2 (fun _ h => h) (fun _ _ h => h))
  clear f2 t1 t2 hadd a0 a2 e0 e2
  go_wp2_with fail
  refine (HADD.out).mono ?_
  rintro en w3 ⟨rfl, k3, f3, s3⟩
  have K := Lib.hid (And.intro k3 (And.intro f3 (SZ2.out.trans s3 (U := KeepS w kb) (fun _ h => h.elim) (fun q hq h => h.imp id (fun ⟨cs, hc⟩ => ⟨cs, by unfold At at hc ⊢; rw [← SZ2.out.block q hq (fun x => x)]; exact hc⟩)))))
  clear k3 f3 s3
  go_wp2_with fail
  go_ret
  exact ⟨rfl, K.out.1, K.out.2.1, K.out.2.2⟩

set_option maxRecDepth 100000 in
set_option maxHeartbeats 4000000 in
theorem is_bad (p : Value) (a : Option Addr) (n c : Nat) (ng : Bool) (E : Int) (w : World) :
    Calls Tryz.prog 20 #[p, zeroN, .int .i64 11, .bool true, .agg #[.bool ng, .slice a n c, .int .i64 E]] w fun en w' => en = .returned (.bool true) ∧ Fr w w' None := by
  obtain ⟨ta, fa⟩ := box_at w (.bool false) (.slice none 0 0) (.int .i64 0) 24
  have fb := (Fr.refl (w.alloc (.cells #[.bool false, .slice none 0 0, .int .i64 0] 24)) None).alloc (.cells #[.bool ng, .slice a n c, .int .i64 E] 24)
  have fab := fa.trans fb (fun _ h => h) (fun _ _ h => h)
  have tac := ta.keep fb (fun x => x)
  have hs := same_agg (.slice none 0 0) (.slice none 0 0) false 0 (fun _ => 0) 0 ((w.alloc (.cells #[.bool false, .slice none 0 0, .int .i64 0] 24)).alloc (.cells #[.bool ng, .slice a n c, .int .i64 E] 24)) (by omega) ⟨_, _, rfl, fun j hj => by omega⟩ ⟨_, _, rfl, fun j hj => by omega⟩
  have HS := Lib.hid hs
  have F := Lib.hid fab
  have c0 := tac.cell 0
  have c1 := tac.cell 1
  have c2 := tac.cell 2
  clear hs fab ta fa fb tac
  unfold zeroN
  go_enter Tryz.func20, Tryz.ntmps20
  go_wp2_with fail
  refine (HS.out).mono ?_
  rintro en w2 ⟨rfl, f2⟩
  have FX := Lib.hid (F.out.trans f2 (fun _ h => h) (fun _ _ h => h))
  clear f2
  go_wp2_with fail
  go_ret
  exact ⟨rfl, FX.out⟩
end Go.Proofs.YtgmebioogkmfgaaGreatDoor
