/- Sign, Float, Scale of plumb/dyadic. Condition: it stands in each fact. -/
import Derived.Test.YtgmebioogkmfgaaGreatDoorQU1
namespace Go.Proofs.YtgmebioogkmfgaaGreatDoor
open Go.RowKit Go.Pt Go.Mem

set_option maxRecDepth 100000 in
set_option maxHeartbeats 4000000 in
theorem read_empty (lb cap : Nat) (w : World) : Calls Tryz.prog 60 #[.slice (some ⟨lb, 0, none⟩) 0 cap] w (NewPost false 0 w) := by
  have hmk : (Instr.makeSlice 103 (.int .i64 0) (.int .i64 0)).run Tryz.prog w = .ok (.slice (some ⟨w.heap.size, 0, none⟩) 0 0) (w.alloc (brow 0)) := run_mkB 0 0 (by omega) (by omega) w
  have f0 : Fr w (w.alloc (brow 0)) None := (Fr.refl w None).alloc _
  have F0 := Lib.hid f0
  clear f0
  go_enter Tryz.func60, Tryz.ntmps60
  go_wp2_with fail
  clear hmk
  generalize hdb : w.heap.size = db
  generalize w.alloc (brow 0) = w0 at F0 ⊢
  go_loopw [3, 4, 5, 15] (fun b bits have_ ix wr => b = .slice (some ⟨db, 0, none⟩) 0 0 ∧ bits = .int .i64 0 ∧ have_ = .int .i64 0 ∧ ix = .int .i64 0 ∧ w0 = wr) (fun _ _ _ _ _ => 0)
  case atStart => exact ⟨rfl, rfl, rfl, rfl, rfl⟩
  case round =>
    obtain ⟨rfl, rfl, rfl, rfl, rfl⟩ := hrel
    obtain ⟨C, w1, happ, hC, hc, hlt, hf⟩ := app_nilB (w0.alloc (.cells #[.int .u8 0] 5)) ⟨db, 0, none⟩ w0.heap.size 103 ((At.alloc w0 _ _).cell 0)
    have h0 : w.heap.size ≤ (w0.alloc (.cells #[.int .u8 0] 5)).heap.size := Nat.le_trans F0.out.size (by simp)
    generalize hb : (w0.alloc (.cells #[.int .u8 0] 5)).heap.size = bb at happ hc hlt h0
    have B : Hid (Bytes w1 bb 1 0) := Lib.hid ⟨hlt, fun q hq => by
      have : q = 0 := by omega
      subst this
      rw [hc]
      rfl⟩
    have F1 : Hid (Fr w w1 None) := Lib.hid (((F0.out).alloc _).trans hf (fun _ h => h) (fun _ _ h => h))
    have HC := Lib.hid (And.intro hC h0)
    clear hC hc hlt hf h0 hb
    go_wp2_with (refine wpList_appB _ _ rfl _ _ rfl _ _ _ rfl rfl happ ?_)
    clear happ
    go_loopw [46] (fun ix wz => ix = .int .i64 0 ∧ w1 = wz) (fun _ _ => 0)
    case atStart => exact ⟨rfl, rfl⟩
    case round =>
      obtain ⟨rfl, rfl⟩ := hrel
      have f1 : Fr w1 (w1.alloc (.cells #[.bool false, .slice none 0 0] 81)) None := (Fr.refl w1 None).alloc _
      have z1 : IntV (w1.alloc (.cells #[.bool false, .slice none 0 0] 81)) w1.heap.size (.slice none 0 0) false 0 := ⟨alloc_shell w1 false _, Or.inl ⟨rfl, rfl⟩⟩
      have hs := intSetBytes w1.heap.size bb 1 C 0 (w1.alloc (.cells #[.bool false, .slice none 0 0] 81)) (by omega) (by omega) (by decide) (B.out.keep f1 (fun x => x)) HC.out.1 z1
      have HS := Lib.hid hs
      have FF := Lib.hid f1
      clear hs f1 z1
      go_wp2_with fail
      refine (HS.out).mono ?_
      rintro e w9 ⟨rfl, v, v1, v2, v3⟩
      have P : Hid (NewPost false 0 w (.returned (.pointer (some ⟨w1.heap.size, 0, none⟩))) w9) := by
        refine Lib.hid ⟨_, v, rfl, v1, F1.out.size, fun q hq => ?_, (F1.out.trans FF.out (fun _ h => h) (fun _ _ h => h)).trans v3 (fun _ h => h) (fun x hx h => ?_)⟩
        · rcases v2 q hq with ⟨_, _, h⟩ | h
          · cases h
          · exact Nat.le_trans (Nat.le_trans F1.out.size FF.out.size) h
        · rcases h with h | ⟨_, _, h⟩
          · have := F1.out.size
            omega
          · cases h
      clear v1 v2 v3
      go_wp2_with fail
      go_ret
      exact P.out

set_option maxRecDepth 100000 in
set_option maxHeartbeats 4000000 in
theorem natInt_empty (lb cap : Nat) (w : World) : Calls Tryz.prog 40 #[.slice (some ⟨lb, 0, none⟩) 0 cap] w (IntOfPost 0 w) := by
  have hv := valid_nat (.slice (some ⟨lb, 0, none⟩) 0 cap) 0 (fun _ => 0) w (by omega) ⟨_, _, rfl, by omega, fun j hj => by omega⟩
  rw [show decide (ValidI 0 fun _ => 0) = true from by decide] at hv
  have HV := Lib.hid hv
  clear hv
  go_enter Tryz.func40, Tryz.ntmps40
  go_wp2_with fail
  refine (HV.out).mono ?_
  rintro e wv ⟨rfl, f00⟩
  have F00 := Lib.hid f00
  clear f00
  go_wp2_with fail
  refine (read_empty lb cap wv).mono ?_
  rintro e w1 ⟨p, pv, rfl, a1, a2, a3, a4⟩
  have A1 := Lib.hid a1
  have A4 := Lib.hid a4
  clear a1 a2 a3 a4
  go_wp2_with fail
  refine (isInt64_any p pv 0 w1 A1.out).mono ?_
  rintro e w2 ⟨rfl, rfl⟩
  go_wp2_with fail
  refine (read_empty lb cap w1).mono ?_
  rintro e w3 ⟨p2, pv2, rfl, b1, b2, b3, b4⟩
  have hj := int64_any p2 pv2 0 (by omega) w3 b1
  have HJ := Lib.hid hj
  have F := Lib.hid ((F00.out.trans A4.out (fun _ h => h) (fun _ _ h => h)).trans b4 (fun _ h => h) (fun _ _ h => h))
  clear hj b1 b2 b3 b4
  go_wp2_with fail
  refine (HJ.out).mono ?_
  rintro e w4 ⟨rfl, rfl⟩
  go_wp2_with fail
  go_ret2
  exact ⟨rfl, F.out⟩

/-- A valid number that was lent and is not 0. -/
theorem lent_num {ng : Bool} {b cap n : Nat} {x : Nat → Int} {E : Int} {w : World} (hP : ValidP ng n x E) (h0 : 0 < n) (h : IntsV w (.slice (some ⟨b, 0, none⟩) n cap) n x) :
    NumV w (.agg #[.bool ng, .slice (some ⟨b, 0, none⟩) n cap, .int .i64 E]) ng (dv (digN n x) n) E := by
  rcases hP with ⟨rfl, _⟩ | ⟨_, hv, ho, e1, e2⟩
  · omega
  · have hd := digN_digs hv
    have hj : ∀ j, j < n → dgt (dv (digN n x) n) j = digN n x j := fun j hj => by rw [dgt_dv hd.1 n j, if_pos hj]
    obtain ⟨a, c, e, hc, hin⟩ := h
    cases e
    have hpos := digN_pos hv h0
    refine ⟨_, n, rfl, Or.inr ⟨b, cap, rfl, hc, ?_, fun j hj' => ?_⟩, ⟨dgt_lt _, fun h => ?_, hd.2.2⟩, ?_, fun h => by omega, fun _ => ⟨?_, e1, e2⟩⟩
    · obtain ⟨b', off, e, h1, _⟩ := hin 0 h0
      cases e
      exact h1
    · obtain ⟨b', off, e, _, h2⟩ := hin j hj'
      cases e
      rw [Nat.zero_add] at h2
      rw [h2, hj j hj', digN_eq hv hj']
    · rw [hj (n - 1) (by omega)]
      exact hd.2.1 h0
    · rw [dv_dgt, Nat.mod_eq_of_lt (digN_lt hv)]
    · have h1 := hj 0 h0
      have h2 := digN_eq hv h0
      unfold dgt at h1
      rw [Nat.mul_zero, Nat.pow_zero, Nat.div_one] at h1
      omega

set_option maxRecDepth 100000 in
set_option maxHeartbeats 4000000 in
theorem dFloat_zero (lb cap : Nat) (xs : Nat → Int) (w : World) (h : IntsV w (.slice (some ⟨lb, 0, none⟩) 0 cap) 0 xs) :
    Calls Tryz.prog 17 #[.agg #[.bool false, .slice (some ⟨lb, 0, none⟩) 0 cap, .int .i64 0]] w (FloatPost false 0 0 w) := by
  obtain ⟨t0, f0⟩ := box_at w (.bool false) (.slice (some ⟨lb, 0, none⟩) 0 cap) (.int .i64 0) 24
  have hval := validP_dy false _ 0 xs 0 _ (by omega) (h.keep f0)
  rw [decide_eq_true (show ValidP false 0 xs 0 from Or.inl ⟨rfl, rfl, rfl⟩)] at hval
  have HV := Lib.hid hval
  have T0 := Lib.hid t0
  have F0 := Lib.hid f0
  clear hval t0 f0 h
  go_enter Tryz.func17, Tryz.ntmps17
  go_wp2_with fail
  generalize w.alloc (.cells #[.bool false, .slice (some ⟨lb, 0, none⟩) 0 cap, .int .i64 0] 24) = w0 at HV T0 F0 ⊢
  refine (HV.out).mono ?_
  rintro e w1 ⟨rfl, f1⟩
  have F1 := Lib.hid (F0.out.trans f1 (fun _ h => h) (fun _ _ h => h))
  have t1 := T0.out.keep f1 (fun x => x)
  have c1 := t1.cell 1
  have T1 := Lib.hid t1
  clear f1 t1
  go_wp2_with fail
  refine (natInt_empty lb cap w1).mono ?_
  intro e w2 hpost
  obtain ⟨rfl, f2⟩ := intof_lo (by omega) hpost
  clear hpost
  have F2 := Lib.hid (F1.out.trans f2 (fun _ h => h) (fun _ _ h => h))
  have t2 := T1.out.keep f2 (fun x => x)
  have c0 := t2.cell 0
  have c2 := t2.cell 2
  have HJ := Lib.hid (join_any false ((0 : Nat) : Int) 0 (by omega) w2)
  have P : Hid (FloatPost false 0 0 w (.returned (.tuple #[.int .i64 (jv64 false ((0 : Nat) : Int) 0), .bool (jo64 ((0 : Nat) : Int) 0)])) w2) := Lib.hid (float_lo (by omega) F2.out)
  clear t2 f2 c1
  go_wp2_with fail
  refine (HJ.out).mono ?_
  rintro e w3 ⟨rfl, rfl⟩
  go_wp2_with fail
  go_ret2
  exact P.out

theorem dFloat_good (lb cap n : Nat) (ng : Bool) (xs : Nat → Int) (E : Int) (w : World) (hn : n ≤ 2100) (h : IntsV w (.slice (some ⟨lb, 0, none⟩) n cap) n xs) (hP : ValidP ng n xs E) :
    Calls Tryz.prog 17 #[.agg #[.bool ng, .slice (some ⟨lb, 0, none⟩) n cap, .int .i64 E]] w (FloatPost ng (dv (digN n xs) n) E w) := by
  rcases Nat.eq_zero_or_pos n with rfl | h0
  · rcases hP with ⟨_, rfl, rfl⟩ | ⟨h, _⟩
    · exact dFloat_zero lb cap xs w h
    · omega
  · exact float_num _ ng _ E w (lent_num hP h0 h)

set_option maxRecDepth 100000 in
set_option maxHeartbeats 4000000 in
theorem dFloat_bad (lb cap n : Nat) (ng : Bool) (xs : Nat → Int) (E : Int) (w : World) (hn : n ≤ 2100) (h : IntsV w (.slice (some ⟨lb, 0, none⟩) n cap) n xs) (hP : ¬ ValidP ng n xs E) :
    Calls Tryz.prog 17 #[.agg #[.bool ng, .slice (some ⟨lb, 0, none⟩) n cap, .int .i64 E]] w fun en w' => en = .returned (.tuple #[.int .i64 0, .bool false]) ∧ Fr w w' None := by
  obtain ⟨t0, f0⟩ := box_at w (.bool ng) (.slice (some ⟨lb, 0, none⟩) n cap) (.int .i64 E) 24
  have hval := validP_dy ng _ n xs E _ (by omega) (h.keep f0)
  rw [decide_eq_false hP] at hval
  have HV := Lib.hid hval
  have F0 := Lib.hid f0
  clear hval t0 f0 h
  go_enter Tryz.func17, Tryz.ntmps17
  go_wp2_with fail
  refine (HV.out).mono ?_
  rintro e w1 ⟨rfl, f1⟩
  have F1 := Lib.hid (F0.out.trans f1 (fun _ h => h) (fun _ _ h => h))
  clear f1
  go_wp2_with fail
  go_ret2
  exact ⟨rfl, F1.out⟩
end Go.Proofs.YtgmebioogkmfgaaGreatDoor

namespace Go.Proofs.YtgmebioogkmfgaaGreatDoor
open Go.RowKit Go.Pt Go.Mem

theorem intSign_any (z : Nat) (vz : Value) (ng : Bool) (N : Nat) (w : World) (hz : IntV w z vz ng N) :
    Calls Tryz.prog 39 #[.pointer (some ⟨z, 0, none⟩)] w fun e w' => e = .returned (.int .i64 (if N = 0 then 0 else if ng then -1 else 1)) ∧ w = w' := by
  rcases Nat.eq_zero_or_pos N with rfl | h0
  · exact intSign_zero z vz ng w hz
  · rw [if_neg (by omega)]
    exact intSign_pos z vz ng N w h0 hz

/-- The end of a call that answers with a value and an error's number. -/
theorem ans_end1 {fn : Func} {p q : Tmp} (h : fn.results = #[.tmp p, .cell q 32]) {tmps : Array Value} {w : World} {R2 : Nat} {x : Value} {er : Int} {R : Ending → World → Prop}
    (hp : tmps.getD p undef = x) (hq : tmps.getD q undef = .pointer (some ⟨R2, 0, none⟩)) (h2 : At w R2 #[.int .i64 er] 32)
    (hR : R (.returned (.tuple #[x, .int .i64 er])) w) : Leaves Tryz.prog fn tmps R [] .returning w := by
  have hp' : tmps[p]?.getD undef = x := by simpa using hp
  have hq' : tmps[q]?.getD undef = .pointer (some ⟨R2, 0, none⟩) := by simpa using hq
  refine ⟨.tuple #[x, .int .i64 er], ?_, hR⟩
  have e2 := load_err w R2 er h2
  simp [results, h, hp', hq', asAddr, e2]

set_option maxRecDepth 100000 in
set_option maxHeartbeats 4000000 in
theorem dSign_good (lb cap n : Nat) (ng : Bool) (xs : Nat → Int) (E : Int) (w : World) (hn : n ≤ 2100) (h : IntsV w (.slice (some ⟨lb, 0, none⟩) n cap) n xs) (hP : ValidP ng n xs E) :
    Calls Tryz.prog 16 #[.agg #[.bool ng, .slice (some ⟨lb, 0, none⟩) n cap, .int .i64 E]] w fun en w' => en = .returned (.tuple #[.int .i64 (if dv (digN n xs) n = 0 then 0 else if ng then -1 else 1), .int .i64 0]) ∧ Fr w w' None := by
  obtain ⟨tx, fx⟩ := box_at w (.bool ng) (.slice (some ⟨lb, 0, none⟩) n cap) (.int .i64 E) 24
  have hsx : (w.alloc (.cells #[.bool ng, .slice (some ⟨lb, 0, none⟩) n cap, .int .i64 E] 24)).heap.size = w.heap.size + 1 := by simp
  have r1 := At.alloc (w.alloc (.cells #[.bool ng, .slice (some ⟨lb, 0, none⟩) n cap, .int .i64 E] 24)) #[.int .i64 0] 32
  have fr := (Fr.refl (w.alloc (.cells #[.bool ng, .slice (some ⟨lb, 0, none⟩) n cap, .int .i64 E] 24)) None).alloc (.cells #[.int .i64 0] 32)
  rw [hsx] at r1
  have hsz : ((w.alloc (.cells #[.bool ng, .slice (some ⟨lb, 0, none⟩) n cap, .int .i64 E] 24)).alloc (.cells #[.int .i64 0] 32)).heap.size = w.heap.size + 1 + 1 := by simp
  have f5 := (Fr.refl ((w.alloc (.cells #[.bool ng, .slice (some ⟨lb, 0, none⟩) n cap, .int .i64 E] 24)).alloc (.cells #[.int .i64 0] 32)) None).alloc (.cells #[.bool ng, .slice (some ⟨lb, 0, none⟩) n cap, .int .i64 E] 24)
  have r5 := At.alloc ((w.alloc (.cells #[.bool ng, .slice (some ⟨lb, 0, none⟩) n cap, .int .i64 E] 24)).alloc (.cells #[.int .i64 0] 32)) #[.bool ng, .slice (some ⟨lb, 0, none⟩) n cap, .int .i64 E] 24
  rw [hsz] at r5
  have F0 := Lib.hid ((fx.trans fr (fun _ h => h) (fun _ _ h => h)).trans f5 (fun _ h => h) (fun _ _ h => h))
  have R1 := Lib.hid (r1.keep f5 (fun x => x))
  have R5 := Lib.hid r5
  have hop := open_lent _ lb cap n ng xs E _ (by omega) (h.keep F0.out) hP R5.out
  generalize dv (digN n xs) n = N at *
  obtain ⟨s, hs⟩ : ∃ s : Int, (if N = 0 then 0 else if ng then -1 else 1) = s := ⟨_, rfl⟩
  rw [hs]
  have HS := Lib.hid hs
  have HOP := Lib.hid hop
  clear tx fx r1 fr f5 r5 hsz hsx h hP hop R5 hs
  go_enter_defers Tryz.func16, Tryz.ntmps16
  go_wp2_with fail
  generalize ((w.alloc (.cells #[.bool ng, .slice (some ⟨lb, 0, none⟩) n cap, .int .i64 E] 24)).alloc (.cells #[.int .i64 0] 32)).alloc (.cells #[.bool ng, .slice (some ⟨lb, 0, none⟩) n cap, .int .i64 E] 24) = w0 at F0 R1 HOP ⊢
  refine (HOP.out).mono ?_
  rintro en w1 ⟨ob, p0, v0, rfl, o1, o2, o3, k1, k2, k4⟩
  have y0 := k1.cell 0
  have hsg := intSign_any p0 v0 ng N w1 k2
  rw [HS.out] at hsg
  have HSG := Lib.hid hsg
  have r2 := R1.out.keep k4 (fun x => x)
  have e0 := r2.cell 0
  have g0 := r2.free 0
  have R2 := Lib.hid r2
  have FX := Lib.hid (F0.out.trans k4 (fun _ h => h) (fun _ _ h => h))
  clear hsg r2 k1 k2 k4 o1 o2 o3 HS
  go_wp2_with fail
  refine (HSG.out).mono ?_
  rintro en w2 ⟨rfl, rfl⟩
  go_wp2_with fail
  have fy : Fr w1 (w1.setCell ⟨w.heap.size + 1, 0, none⟩ (.int .i64 0)) (One (w.heap.size + 1)) := (Fr.refl w1 (One (w.heap.size + 1))).setCell (p := ⟨w.heap.size + 1, 0, none⟩) (Or.inl rfl) _
  have ry := R2.out.put 0 (.int .i64 0)
  have FY := Lib.hid (FX.out.trans fy (fun _ h => h) (fun x hx h => by unfold Mem.One at h; omega))
  generalize w1.setCell ⟨w.heap.size + 1, 0, none⟩ (.int .i64 0) = wy at ry FY ⊢
  refine leaves_cons (f := 27) (args := #[.pointer (some ⟨w.heap.size + 1, 0, none⟩)]) (by simp) (by simp [go_sem]) ?_
  refine (caught_idle ⟨w.heap.size + 1, 0, none⟩ wy).mono ?_
  rintro en u' w9 ⟨rfl, rfl, rfl⟩
  exact ans_end1 rfl rfl rfl ry ⟨rfl, FY.out⟩

set_option maxRecDepth 100000 in
set_option maxHeartbeats 4000000 in
theorem dSign_bad (lb cap n : Nat) (ng : Bool) (xs : Nat → Int) (E : Int) (w : World) (hn : n ≤ 2100) (h : IntsV w (.slice (some ⟨lb, 0, none⟩) n cap) n xs) (hP : ¬ ValidP ng n xs E) :
    Calls Tryz.prog 16 #[.agg #[.bool ng, .slice (some ⟨lb, 0, none⟩) n cap, .int .i64 E]] w fun en w' => en = .returned (.tuple #[.int .i64 0, .int .i64 11]) ∧ Fr w w' None := by
  obtain ⟨tx, fx⟩ := box_at w (.bool ng) (.slice (some ⟨lb, 0, none⟩) n cap) (.int .i64 E) 24
  have hsx : (w.alloc (.cells #[.bool ng, .slice (some ⟨lb, 0, none⟩) n cap, .int .i64 E] 24)).heap.size = w.heap.size + 1 := by simp
  have r1 := At.alloc (w.alloc (.cells #[.bool ng, .slice (some ⟨lb, 0, none⟩) n cap, .int .i64 E] 24)) #[.int .i64 0] 32
  have fr := (Fr.refl (w.alloc (.cells #[.bool ng, .slice (some ⟨lb, 0, none⟩) n cap, .int .i64 E] 24)) None).alloc (.cells #[.int .i64 0] 32)
  rw [hsx] at r1
  have hsz : ((w.alloc (.cells #[.bool ng, .slice (some ⟨lb, 0, none⟩) n cap, .int .i64 E] 24)).alloc (.cells #[.int .i64 0] 32)).heap.size = w.heap.size + 1 + 1 := by simp
  have f5 := (Fr.refl ((w.alloc (.cells #[.bool ng, .slice (some ⟨lb, 0, none⟩) n cap, .int .i64 E] 24)).alloc (.cells #[.int .i64 0] 32)) None).alloc (.cells #[.bool ng, .slice (some ⟨lb, 0, none⟩) n cap, .int .i64 E] 24)
  have r5 := At.alloc ((w.alloc (.cells #[.bool ng, .slice (some ⟨lb, 0, none⟩) n cap, .int .i64 E] 24)).alloc (.cells #[.int .i64 0] 32)) #[.bool ng, .slice (some ⟨lb, 0, none⟩) n cap, .int .i64 E] 24
  rw [hsz] at r5
  have F0 := Lib.hid ((fx.trans fr (fun _ h => h) (fun _ _ h => h)).trans f5 (fun _ h => h) (fun _ _ h => h))
  have R1 := Lib.hid (r1.keep f5 (fun x => x))
  have R5 := Lib.hid r5
  have hop := open_lent_no _ lb cap n ng xs E _ (by omega) (h.keep F0.out) hP R5.out
  have HOP := Lib.hid hop
  clear tx fx r1 fr f5 r5 hsz hsx h hP hop R5
  go_enter_defers Tryz.func16, Tryz.ntmps16
  go_wp2_with fail
  generalize ((w.alloc (.cells #[.bool ng, .slice (some ⟨lb, 0, none⟩) n cap, .int .i64 E] 24)).alloc (.cells #[.int .i64 0] 32)).alloc (.cells #[.bool ng, .slice (some ⟨lb, 0, none⟩) n cap, .int .i64 E] 24) = w0 at F0 R1 HOP ⊢
  refine (HOP.out).mono ?_
  rintro en w1 ⟨rfl, f1⟩
  have FX := Lib.hid (F0.out.trans f1 (fun _ h => h) (fun _ _ h => h))
  have R3 := Lib.hid (R1.out.keep f1 (fun x => x))
  clear f1
  unfold gaveUp
  go_wp2_with fail
  refine leaves_cons (f := 27) (args := #[.pointer (some ⟨w.heap.size + 1, 0, none⟩)]) (by simp) (by simp [go_sem]) ?_
  refine (caught_panicking (w.heap.size + 1) _ 0 11 [] w1 R3.out).mono ?_
  rintro en u' w9 ⟨rfl, rfl, rfl⟩
  have fa : Fr w1 (w1.alloc (.cells #[.int .i64 11] 57)) None := (Fr.refl w1 None).alloc _
  have rb := R3.out.keep fa (fun x => x)
  have fb : Fr (w1.alloc (.cells #[.int .i64 11] 57)) ((w1.alloc (.cells #[.int .i64 11] 57)).setCell ⟨w.heap.size + 1, 0, none⟩ (.int .i64 11)) (One (w.heap.size + 1)) := (Fr.refl _ (One (w.heap.size + 1))).setCell (p := ⟨w.heap.size + 1, 0, none⟩) (Or.inl rfl) _
  exact ans_end1 rfl rfl rfl (rb.put 0 (.int .i64 11)) ⟨rfl, (FX.out.trans fa (fun _ h => h) (fun _ _ h => h)).trans fb (fun _ h => h) (fun x hx h => by unfold Mem.One at h; omega)⟩
end Go.Proofs.YtgmebioogkmfgaaGreatDoor

namespace Go.Proofs.YtgmebioogkmfgaaGreatDoor
open Go.RowKit Go.Pt Go.Mem

set_option maxRecDepth 100000 in
set_option maxHeartbeats 4000000 in
theorem dScale_good (lb cap n : Nat) (ng : Bool) (xs : Nat → Int) (E : Int) (k : Int) (w : World) (hn : n ≤ 2100) (h : IntsV w (.slice (some ⟨lb, 0, none⟩) n cap) n xs) (hP : ValidP ng n xs E) (hT : Tab w) :
    Calls Tryz.prog 18 #[.agg #[.bool ng, .slice (some ⟨lb, 0, none⟩) n cap, .int .i64 E], .int .i64 k] w (OutPost ng (dv (digN n xs) n) (E + min (max k (-4194304)) 4194304) w) := by
  obtain ⟨tx, fx⟩ := box_at w (.bool ng) (.slice (some ⟨lb, 0, none⟩) n cap) (.int .i64 E) 24
  have hsx : (w.alloc (.cells #[.bool ng, .slice (some ⟨lb, 0, none⟩) n cap, .int .i64 E] 24)).heap.size = w.heap.size + 1 := by simp
  obtain ⟨r0, r1, fr⟩ := res_at (w.alloc (.cells #[.bool ng, .slice (some ⟨lb, 0, none⟩) n cap, .int .i64 E] 24))
  rw [hsx] at r0 r1
  have hsz : (((w.alloc (.cells #[.bool ng, .slice (some ⟨lb, 0, none⟩) n cap, .int .i64 E] 24)).alloc (.cells #[.bool false, .slice none 0 0, .int .i64 0] 24)).alloc (.cells #[.int .i64 0] 32)).heap.size = w.heap.size + 1 + 1 + 1 := by simp
  have f5 := (Fr.refl (((w.alloc (.cells #[.bool ng, .slice (some ⟨lb, 0, none⟩) n cap, .int .i64 E] 24)).alloc (.cells #[.bool false, .slice none 0 0, .int .i64 0] 24)).alloc (.cells #[.int .i64 0] 32)) None).alloc (.cells #[.bool ng, .slice (some ⟨lb, 0, none⟩) n cap, .int .i64 E] 24)
  have r5 := At.alloc (((w.alloc (.cells #[.bool ng, .slice (some ⟨lb, 0, none⟩) n cap, .int .i64 E] 24)).alloc (.cells #[.bool false, .slice none 0 0, .int .i64 0] 24)).alloc (.cells #[.int .i64 0] 32)) #[.bool ng, .slice (some ⟨lb, 0, none⟩) n cap, .int .i64 E] 24
  rw [hsz] at r5
  have F0 := Lib.hid ((fx.trans fr (fun _ h => h) (fun _ _ h => h)).trans f5 (fun _ h => h) (fun _ _ h => h))
  have HI := Lib.hid h
  have HP := Lib.hid hP
  have R0 := Lib.hid (r0.keep f5 (fun x => x))
  have R1 := Lib.hid (r1.keep f5 (fun x => x))
  have R5 := Lib.hid r5
  obtain ⟨c, hc, hc0, hc1⟩ : ∃ c, min (max k (-4194304)) 4194304 = c ∧ -4194304 ≤ c ∧ c ≤ 4194304 := ⟨_, rfl, by omega, by omega⟩
  rw [hc]
  obtain ⟨hE0, hE1⟩ : -1048576 ≤ E ∧ E ≤ 1048576 := by rcases hP with ⟨_, _, rfl⟩ | ⟨_, _, _, h1, h2⟩ <;> omega
  have hlt := Nat.lt_of_lt_of_le (digN_lt hP.valid) (two_mono (30 * n) 60000 (by have := hP.valid.1; omega))
  have hop := open_lent _ lb cap n ng xs E _ (by omega) (h.keep F0.out) hP R5.out
  generalize dv (digN n xs) n = N at *
  obtain ⟨T, hT0, hT1⟩ : ∃ T, T = 60000 ∧ N < 2 ^ T := ⟨60000, rfl, hlt⟩
  have HOP := Lib.hid hop
  have HT := Lib.hid hT
  have HN := Lib.hid hT1
  have HE := Lib.hid (And.intro hE0 hE1)
  clear tx fx r0 r1 fr f5 r5 hsz hsx hT hT1 hlt h hP hop hE0 hE1 R5
  go_enter_defers Tryz.func18, Tryz.ntmps18
  go_wp2_with fail
  generalize (((w.alloc (.cells #[.bool ng, .slice (some ⟨lb, 0, none⟩) n cap, .int .i64 E] 24)).alloc (.cells #[.bool false, .slice none 0 0, .int .i64 0] 24)).alloc (.cells #[.int .i64 0] 32)).alloc (.cells #[.bool ng, .slice (some ⟨lb, 0, none⟩) n cap, .int .i64 E] 24) = w0 at F0 R0 R1 HOP ⊢
  refine (HOP.out).mono ?_
  rintro en w1 ⟨ob, p0, v0, rfl, o1, o2, o3, k1, k2, k4⟩
  have y0 := k1.cell 0
  have y1 := k1.cell 1
  have z0 := k1.free 0
  have z1 := k1.free 1
  have fs : Fr w1 (w1.setCell ⟨ob, 1, none⟩ (.int .i64 (E + c))) (One ob) := (Fr.refl w1 (One ob)).setCell (p := ⟨ob, 1, none⟩) (Or.inl rfl) _
  have rs : At (w1.setCell ⟨ob, 1, none⟩ (.int .i64 (E + c))) ob #[.pointer (some ⟨p0, 0, none⟩), .int .i64 (E + c)] 62 := k1.put 1 (.int .i64 (E + c))
  have iv := k2.keep fs (fun e => by unfold Mem.One at e; omega) (fun b hb e => by have := o3 b hb; unfold Mem.One at e; omega)
  have hRlt := R0.out.lt
  have hR1lt := R1.out.lt
  have fw := (F0.out.trans k4 (fun _ h => h) (fun _ _ h => h)).trans fs (fun _ h => h) (fun x hx e => by have := F0.out.size; unfold Mem.One at e; omega)
  have R2 := Lib.hid ((R0.out.keep k4 (fun x => x)).keep fs (fun e => by unfold Mem.One at e; omega))
  have R3 := Lib.hid ((R1.out.keep k4 (fun x => x)).keep fs (fun e => by unfold Mem.One at e; omega))
  have B4 := Lib.hid fw
  have RS := Lib.hid rs
  have HTO := Lib.hid (told_all p0 v0 ng N T (E + c) _ (by omega) HN.out (by have := HE.out.1; omega) (by have := HE.out.2; omega) iv (HT.out.keep fw))
  have e1 := HE.out.1
  have e2 := HE.out.2
  clear rs iv fs fw k1 k2 k4 o1 o2 o3 R0 R1 hRlt hR1lt
  go_wp2_with fail
  generalize w1.setCell ⟨ob, 1, none⟩ (.int .i64 (E + c)) = w2 at B4 R2 R3 RS HTO ⊢
  have y0 := RS.out.cell 0
  have y1 := RS.out.cell 1
  clear hc hc0 hc1 e1 e2 z0 z1
  go_wp2_with fail
  refine (HTO.out).mono ?_
  rintro en w3 ⟨fx, ⟨hz0, rfl⟩ | ⟨k, tz, ⟨k1, k2, y, rfl, hy⟩ | ⟨k1, rfl⟩⟩⟩
  · have r2 := R2.out.keep fx (fun x => x)
    have c0 := r2.cell 0
    have c1 := r2.cell 1
    have c2 := r2.cell 2
    have d0 := r2.free 0
    have d1 := r2.free 1
    have d2 := r2.free 2
    have r3 := R3.out.keep fx (fun x => x)
    have e0 := r3.cell 0
    have g0 := r3.free 0
    have FX := Lib.hid (B4.out.trans fx (fun _ h => h) (fun _ _ h => h))
    have R4 := Lib.hid r2
    have R5 := Lib.hid r3
    have HZ0 := Lib.hid hz0
    clear fx r2 r3 hz0
    unfold zeroN
    go_wp2_with fail
    obtain ⟨ay, ry, fy⟩ := out_zero (R := w.heap.size + 1) (by omega) FX.out R4.out R5.out
    generalize (((w3.setCell ⟨w.heap.size + 1, 0, none⟩ (.bool false)).setCell ⟨w.heap.size + 1, 1, none⟩ (.slice none 0 0)).setCell ⟨w.heap.size + 1, 2, none⟩ (.int .i64 0)).setCell ⟨w.heap.size + 1 + 1, 0, none⟩ (.int .i64 0) = wy at ay ry fy ⊢
    refine leaves_cons (f := 27) (args := #[.pointer (some ⟨w.heap.size + 1 + 1, 0, none⟩)]) (by simp) (by simp [go_sem]) ?_
    refine (caught_idle ⟨w.heap.size + 1 + 1, 0, none⟩ wy).mono ?_
    rintro en u' w9 ⟨rfl, rfl, rfl⟩
    exact ans_end rfl rfl rfl ay ry ⟨fy, Or.inl ⟨HZ0.out, rfl⟩⟩
  · obtain ⟨xa, xn, xc, rfl⟩ := hy.shape
    have r2 := R2.out.keep fx (fun x => x)
    have c0 := r2.cell 0
    have c1 := r2.cell 1
    have c2 := r2.cell 2
    have d0 := r2.free 0
    have d1 := r2.free 1
    have d2 := r2.free 2
    have r3 := R3.out.keep fx (fun x => x)
    have e0 := r3.cell 0
    have g0 := r3.free 0
    have FX := Lib.hid (B4.out.trans fx (fun _ h => h) (fun _ _ h => h))
    have Y := Lib.hid (And.intro tz (And.intro k1 (And.intro k2 (hy.low B4.out.size))))
    have R4 := Lib.hid r2
    have R5 := Lib.hid r3
    clear fx r2 r3 tz k1 k2 hy
    go_wp2_with fail
    obtain ⟨ay, ry, xy, fy⟩ := out_world (a := .bool (ng)) (b := .slice xa xn xc) (c := .int .i64 (E + c + (k : Int))) (R := w.heap.size + 1) (by omega) FX.out Y.out.2.2.2 R4.out R5.out
    generalize (((w3.setCell ⟨w.heap.size + 1, 0, none⟩ (.bool (ng))).setCell ⟨w.heap.size + 1, 1, none⟩ (.slice xa xn xc)).setCell ⟨w.heap.size + 1, 2, none⟩ (.int .i64 (E + c + (k : Int)))).setCell ⟨w.heap.size + 1 + 1, 0, none⟩ (.int .i64 0) = wy at ay ry xy fy ⊢
    refine leaves_cons (f := 27) (args := #[.pointer (some ⟨w.heap.size + 1 + 1, 0, none⟩)]) (by simp) (by simp [go_sem]) ?_
    refine (caught_idle ⟨w.heap.size + 1 + 1, 0, none⟩ wy).mono ?_
    rintro en u' w9 ⟨rfl, rfl, rfl⟩
    exact ans_end rfl rfl rfl ay ry ⟨fy, Or.inr ⟨k, Y.out.1, Or.inl ⟨Y.out.2.1, Y.out.2.2.1, _, rfl, xy⟩⟩⟩
  · have FX := Lib.hid (B4.out.trans fx (fun _ h => h) (fun _ _ h => h))
    have R4 := Lib.hid (R2.out.keep fx (fun x => x))
    have R5 := Lib.hid (R3.out.keep fx (fun x => x))
    have K := Lib.hid (And.intro tz k1)
    clear fx tz k1
    unfold gaveUp
    go_wp2_with fail
    refine leaves_cons (f := 27) (args := #[.pointer (some ⟨w.heap.size + 1 + 1, 0, none⟩)]) (by simp) (by simp [go_sem]) ?_
    refine (caught_panicking (w.heap.size + 1 + 1) _ 0 2 [] w3 R5.out).mono ?_
    rintro en u' w9 ⟨rfl, rfl, rfl⟩
    obtain ⟨ay, ry, fy⟩ := out_caught (k := 2) (R := w.heap.size + 1) (by omega) FX.out R4.out R5.out
    exact ans_end rfl rfl rfl ay ry ⟨fy, Or.inr ⟨k, K.out.1, Or.inr ⟨K.out.2, rfl⟩⟩⟩

set_option maxRecDepth 100000 in
set_option maxHeartbeats 4000000 in
theorem dNeg_bad (lb cap n : Nat) (ng : Bool) (xs : Nat → Int) (E : Int) (w : World) (hn : n ≤ 2100) (h : IntsV w (.slice (some ⟨lb, 0, none⟩) n cap) n xs) (hP : ¬ ValidP ng n xs E) :
    Calls Tryz.prog 14 #[.agg #[.bool ng, .slice (some ⟨lb, 0, none⟩) n cap, .int .i64 E]] w fun en w' => en = .returned (.tuple #[zeroN, .int .i64 11]) ∧ Fr w w' None := by
  obtain ⟨tx, fx⟩ := box_at w (.bool ng) (.slice (some ⟨lb, 0, none⟩) n cap) (.int .i64 E) 24
  have hsx : (w.alloc (.cells #[.bool ng, .slice (some ⟨lb, 0, none⟩) n cap, .int .i64 E] 24)).heap.size = w.heap.size + 1 := by simp
  obtain ⟨r0, r1, fr⟩ := res_at (w.alloc (.cells #[.bool ng, .slice (some ⟨lb, 0, none⟩) n cap, .int .i64 E] 24))
  rw [hsx] at r0 r1
  have hsz : (((w.alloc (.cells #[.bool ng, .slice (some ⟨lb, 0, none⟩) n cap, .int .i64 E] 24)).alloc (.cells #[.bool false, .slice none 0 0, .int .i64 0] 24)).alloc (.cells #[.int .i64 0] 32)).heap.size = w.heap.size + 1 + 1 + 1 := by simp
  have f5 := (Fr.refl (((w.alloc (.cells #[.bool ng, .slice (some ⟨lb, 0, none⟩) n cap, .int .i64 E] 24)).alloc (.cells #[.bool false, .slice none 0 0, .int .i64 0] 24)).alloc (.cells #[.int .i64 0] 32)) None).alloc (.cells #[.bool ng, .slice (some ⟨lb, 0, none⟩) n cap, .int .i64 E] 24)
  have r5 := At.alloc (((w.alloc (.cells #[.bool ng, .slice (some ⟨lb, 0, none⟩) n cap, .int .i64 E] 24)).alloc (.cells #[.bool false, .slice none 0 0, .int .i64 0] 24)).alloc (.cells #[.int .i64 0] 32)) #[.bool ng, .slice (some ⟨lb, 0, none⟩) n cap, .int .i64 E] 24
  rw [hsz] at r5
  have F0 := Lib.hid ((fx.trans fr (fun _ h => h) (fun _ _ h => h)).trans f5 (fun _ h => h) (fun _ _ h => h))
  have HI := Lib.hid h
  have HP := Lib.hid hP
  have R0 := Lib.hid (r0.keep f5 (fun x => x))
  have R1 := Lib.hid (r1.keep f5 (fun x => x))
  have R5 := Lib.hid r5
  have hop := open_lent_no _ lb cap n ng xs E _ (by omega) (h.keep F0.out) hP R5.out
  have HOP := Lib.hid hop
  clear tx fx r0 r1 fr f5 r5 hsz hsx h hP hop R5
  go_enter_defers Tryz.func14, Tryz.ntmps14
  go_wp2_with fail
  generalize (((w.alloc (.cells #[.bool ng, .slice (some ⟨lb, 0, none⟩) n cap, .int .i64 E] 24)).alloc (.cells #[.bool false, .slice none 0 0, .int .i64 0] 24)).alloc (.cells #[.int .i64 0] 32)).alloc (.cells #[.bool ng, .slice (some ⟨lb, 0, none⟩) n cap, .int .i64 E] 24) = w0 at F0 R0 R1 HOP ⊢
  refine (HOP.out).mono ?_
  rintro en w1 ⟨rfl, f1⟩
  have FX := Lib.hid (F0.out.trans f1 (fun _ h => h) (fun _ _ h => h))
  have R2 := Lib.hid (R0.out.keep f1 (fun x => x))
  have R3 := Lib.hid (R1.out.keep f1 (fun x => x))
  clear f1
  unfold gaveUp
  go_wp2_with fail
  refine leaves_cons (f := 27) (args := #[.pointer (some ⟨w.heap.size + 1 + 1, 0, none⟩)]) (by simp) (by simp [go_sem]) ?_
  refine (caught_panicking (w.heap.size + 1 + 1) _ 0 11 [] w1 R3.out).mono ?_
  rintro en u' w9 ⟨rfl, rfl, rfl⟩
  obtain ⟨ay, ry, fy⟩ := out_caught (k := 11) (R := w.heap.size + 1) (by omega) FX.out R2.out R3.out
  exact ans_end rfl rfl rfl ay ry ⟨rfl, fy⟩

set_option maxRecDepth 100000 in
set_option maxHeartbeats 4000000 in
theorem dAbs_bad (lb cap n : Nat) (ng : Bool) (xs : Nat → Int) (E : Int) (w : World) (hn : n ≤ 2100) (h : IntsV w (.slice (some ⟨lb, 0, none⟩) n cap) n xs) (hP : ¬ ValidP ng n xs E) :
    Calls Tryz.prog 15 #[.agg #[.bool ng, .slice (some ⟨lb, 0, none⟩) n cap, .int .i64 E]] w fun en w' => en = .returned (.tuple #[zeroN, .int .i64 11]) ∧ Fr w w' None := by
  obtain ⟨tx, fx⟩ := box_at w (.bool ng) (.slice (some ⟨lb, 0, none⟩) n cap) (.int .i64 E) 24
  have hsx : (w.alloc (.cells #[.bool ng, .slice (some ⟨lb, 0, none⟩) n cap, .int .i64 E] 24)).heap.size = w.heap.size + 1 := by simp
  obtain ⟨r0, r1, fr⟩ := res_at (w.alloc (.cells #[.bool ng, .slice (some ⟨lb, 0, none⟩) n cap, .int .i64 E] 24))
  rw [hsx] at r0 r1
  have hsz : (((w.alloc (.cells #[.bool ng, .slice (some ⟨lb, 0, none⟩) n cap, .int .i64 E] 24)).alloc (.cells #[.bool false, .slice none 0 0, .int .i64 0] 24)).alloc (.cells #[.int .i64 0] 32)).heap.size = w.heap.size + 1 + 1 + 1 := by simp
  have f5 := (Fr.refl (((w.alloc (.cells #[.bool ng, .slice (some ⟨lb, 0, none⟩) n cap, .int .i64 E] 24)).alloc (.cells #[.bool false, .slice none 0 0, .int .i64 0] 24)).alloc (.cells #[.int .i64 0] 32)) None).alloc (.cells #[.bool ng, .slice (some ⟨lb, 0, none⟩) n cap, .int .i64 E] 24)
  have r5 := At.alloc (((w.alloc (.cells #[.bool ng, .slice (some ⟨lb, 0, none⟩) n cap, .int .i64 E] 24)).alloc (.cells #[.bool false, .slice none 0 0, .int .i64 0] 24)).alloc (.cells #[.int .i64 0] 32)) #[.bool ng, .slice (some ⟨lb, 0, none⟩) n cap, .int .i64 E] 24
  rw [hsz] at r5
  have F0 := Lib.hid ((fx.trans fr (fun _ h => h) (fun _ _ h => h)).trans f5 (fun _ h => h) (fun _ _ h => h))
  have HI := Lib.hid h
  have HP := Lib.hid hP
  have R0 := Lib.hid (r0.keep f5 (fun x => x))
  have R1 := Lib.hid (r1.keep f5 (fun x => x))
  have R5 := Lib.hid r5
  have hop := open_lent_no _ lb cap n ng xs E _ (by omega) (h.keep F0.out) hP R5.out
  have HOP := Lib.hid hop
  clear tx fx r0 r1 fr f5 r5 hsz hsx h hP hop R5
  go_enter_defers Tryz.func15, Tryz.ntmps15
  go_wp2_with fail
  generalize (((w.alloc (.cells #[.bool ng, .slice (some ⟨lb, 0, none⟩) n cap, .int .i64 E] 24)).alloc (.cells #[.bool false, .slice none 0 0, .int .i64 0] 24)).alloc (.cells #[.int .i64 0] 32)).alloc (.cells #[.bool ng, .slice (some ⟨lb, 0, none⟩) n cap, .int .i64 E] 24) = w0 at F0 R0 R1 HOP ⊢
  refine (HOP.out).mono ?_
  rintro en w1 ⟨rfl, f1⟩
  have FX := Lib.hid (F0.out.trans f1 (fun _ h => h) (fun _ _ h => h))
  have R2 := Lib.hid (R0.out.keep f1 (fun x => x))
  have R3 := Lib.hid (R1.out.keep f1 (fun x => x))
  clear f1
  unfold gaveUp
  go_wp2_with fail
  refine leaves_cons (f := 27) (args := #[.pointer (some ⟨w.heap.size + 1 + 1, 0, none⟩)]) (by simp) (by simp [go_sem]) ?_
  refine (caught_panicking (w.heap.size + 1 + 1) _ 0 11 [] w1 R3.out).mono ?_
  rintro en u' w9 ⟨rfl, rfl, rfl⟩
  obtain ⟨ay, ry, fy⟩ := out_caught (k := 11) (R := w.heap.size + 1) (by omega) FX.out R2.out R3.out
  exact ans_end rfl rfl rfl ay ry ⟨rfl, fy⟩

set_option maxRecDepth 100000 in
set_option maxHeartbeats 4000000 in
theorem dScale_bad (lb cap n : Nat) (ng : Bool) (xs : Nat → Int) (E : Int) (k : Int) (w : World) (hn : n ≤ 2100) (h : IntsV w (.slice (some ⟨lb, 0, none⟩) n cap) n xs) (hP : ¬ ValidP ng n xs E) :
    Calls Tryz.prog 18 #[.agg #[.bool ng, .slice (some ⟨lb, 0, none⟩) n cap, .int .i64 E], .int .i64 k] w fun en w' => en = .returned (.tuple #[zeroN, .int .i64 11]) ∧ Fr w w' None := by
  obtain ⟨tx, fx⟩ := box_at w (.bool ng) (.slice (some ⟨lb, 0, none⟩) n cap) (.int .i64 E) 24
  have hsx : (w.alloc (.cells #[.bool ng, .slice (some ⟨lb, 0, none⟩) n cap, .int .i64 E] 24)).heap.size = w.heap.size + 1 := by simp
  obtain ⟨r0, r1, fr⟩ := res_at (w.alloc (.cells #[.bool ng, .slice (some ⟨lb, 0, none⟩) n cap, .int .i64 E] 24))
  rw [hsx] at r0 r1
  have hsz : (((w.alloc (.cells #[.bool ng, .slice (some ⟨lb, 0, none⟩) n cap, .int .i64 E] 24)).alloc (.cells #[.bool false, .slice none 0 0, .int .i64 0] 24)).alloc (.cells #[.int .i64 0] 32)).heap.size = w.heap.size + 1 + 1 + 1 := by simp
  have f5 := (Fr.refl (((w.alloc (.cells #[.bool ng, .slice (some ⟨lb, 0, none⟩) n cap, .int .i64 E] 24)).alloc (.cells #[.bool false, .slice none 0 0, .int .i64 0] 24)).alloc (.cells #[.int .i64 0] 32)) None).alloc (.cells #[.bool ng, .slice (some ⟨lb, 0, none⟩) n cap, .int .i64 E] 24)
  have r5 := At.alloc (((w.alloc (.cells #[.bool ng, .slice (some ⟨lb, 0, none⟩) n cap, .int .i64 E] 24)).alloc (.cells #[.bool false, .slice none 0 0, .int .i64 0] 24)).alloc (.cells #[.int .i64 0] 32)) #[.bool ng, .slice (some ⟨lb, 0, none⟩) n cap, .int .i64 E] 24
  rw [hsz] at r5
  have F0 := Lib.hid ((fx.trans fr (fun _ h => h) (fun _ _ h => h)).trans f5 (fun _ h => h) (fun _ _ h => h))
  have HI := Lib.hid h
  have HP := Lib.hid hP
  have R0 := Lib.hid (r0.keep f5 (fun x => x))
  have R1 := Lib.hid (r1.keep f5 (fun x => x))
  have R5 := Lib.hid r5
  have hop := open_lent_no _ lb cap n ng xs E _ (by omega) (h.keep F0.out) hP R5.out
  have HOP := Lib.hid hop
  clear tx fx r0 r1 fr f5 r5 hsz hsx h hP hop R5
  go_enter_defers Tryz.func18, Tryz.ntmps18
  go_wp2_with fail
  generalize (((w.alloc (.cells #[.bool ng, .slice (some ⟨lb, 0, none⟩) n cap, .int .i64 E] 24)).alloc (.cells #[.bool false, .slice none 0 0, .int .i64 0] 24)).alloc (.cells #[.int .i64 0] 32)).alloc (.cells #[.bool ng, .slice (some ⟨lb, 0, none⟩) n cap, .int .i64 E] 24) = w0 at F0 R0 R1 HOP ⊢
  refine (HOP.out).mono ?_
  rintro en w1 ⟨rfl, f1⟩
  have FX := Lib.hid (F0.out.trans f1 (fun _ h => h) (fun _ _ h => h))
  have R2 := Lib.hid (R0.out.keep f1 (fun x => x))
  have R3 := Lib.hid (R1.out.keep f1 (fun x => x))
  clear f1
  unfold gaveUp
  go_wp2_with fail
  refine leaves_cons (f := 27) (args := #[.pointer (some ⟨w.heap.size + 1 + 1, 0, none⟩)]) (by simp) (by simp [go_sem]) ?_
  refine (caught_panicking (w.heap.size + 1 + 1) _ 0 11 [] w1 R3.out).mono ?_
  rintro en u' w9 ⟨rfl, rfl, rfl⟩
  obtain ⟨ay, ry, fy⟩ := out_caught (k := 11) (R := w.heap.size + 1) (by omega) FX.out R2.out R3.out
  exact ans_end rfl rfl rfl ay ry ⟨rfl, fy⟩

end Go.Proofs.YtgmebioogkmfgaaGreatDoor
