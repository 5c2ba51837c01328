/- open, Neg, Abs of plumb/dyadic. Condition: it stands in each fact. -/
import Derived.Test.YtgmebioogkmfgaaGreatDoorQ5
import Derived.Test.YtgmebioogkmfgaaGreatDoorQV
import Derived.Test.YtgmebioogkmfgaaGreatDoorQT5
import Derived.Deep.RegionHeld3
namespace Go.Proofs.YtgmebioogkmfgaaGreatDoor
open Go.RowKit Go.Pt Go.Mem

set_option maxRecDepth 100000 in
set_option maxHeartbeats 4000000 in
theorem whole_nil (w : World) : Calls Tryz.prog 30 #[.bool false, .slice none 0 0] w (NewPost false 0 w) := by
  have P := Lib.hid (new_zero w)
  go_enter Tryz.func30, Tryz.ntmps30
  go_wp2_with fail
  generalize w.alloc (.cells #[.bool false, .slice none 0 0] 81) = w0 at P ⊢
  go_loopw [10] (fun i wr => i = .int .i64 0 ∧ w0 = wr) (fun _ _ => 0)
  case atStart => exact ⟨rfl, rfl⟩
  case round =>
    obtain ⟨rfl, rfl⟩ := hrel
    go_wp2_with fail
    go_ret
    exact P.out

theorem whole_num {w : World} {x : Value} {neg : Bool} {A : Nat} {E : Int} (hx : NumV w x neg A E) :
    ∃ a n c, x = .agg #[.bool neg, .slice a n c, .int .i64 E] ∧ ∀ W, Fr w W None → Calls Tryz.prog 30 #[.bool neg, .slice a n c] W (NewPost neg A W) := by
  rcases hx.cases with ⟨rfl, rfl, rfl, rfl⟩ | ⟨hA, ho, e1, e2, b, n, cap, rfl, hn, hc, hb, hd, hdv, hx⟩
  · exact ⟨_, _, _, rfl, fun W _ => whole_nil W⟩
  · refine ⟨_, _, _, rfl, fun W f => ?_⟩
    have := whole_pos b cap n (dgt A) neg W hn hd hc (Nat.lt_of_lt_of_le hb f.size) (fun j hj => by rw [f.cell (p := ⟨b, j, none⟩) hb (fun x => x)]; exact hx j hj)
    rw [hdv] at this
    exact this

/-- What open has laid of the first i, no two in one place. -/
def OqInv (ob n : Nat) (ng : Nat → Bool) (A : Nat → Nat) (E : Nat → Int) (i : Nat) (w wr : World) : Prop :=
  ∃ (ps : Nat → Nat) (pv : Nat → Value) (cs : Array Value), At wr ob cs 62 ∧ cs.size = n * 2 ∧
    (∀ q, q < i → cs[q * 2]? = some (.pointer (some ⟨ps q, 0, none⟩)) ∧ cs[q * 2 + 1]? = some (.int .i64 (E q)) ∧ IntV wr (ps q) (pv q) (ng q) (A q) ∧ ob < ps q ∧ ∀ b, Blk (pv q) b → ob < b) ∧ (∀ q r, q < r → r < i → ps q ≠ ps r) ∧ Fr w wr None

def OqPost (n : Nat) (ng : Nat → Bool) (A : Nat → Nat) (E : Nat → Int) (w : World) (en : Ending) (w' : World) : Prop :=
  ∃ ob, en = .returned (.slice (some ⟨ob, 0, none⟩) n n) ∧ w.heap.size ≤ ob ∧ OqInv ob n ng A E n w w'

theorem OqInv.step {ob n i p : Nat} {ng : Nat → Bool} {A : Nat → Nat} {E : Nat → Int} {w wr w2 : World} {pv : Value} (h : OqInv ob n ng A E i w wr) (hi : i < n) (hw : w.heap.size ≤ ob) (f : Fr wr w2 None) (hp : IntV w2 p pv (ng i) (A i)) (h1 : ob < p) (h2 : ∀ b, Blk pv b → ob < b) (h3 : wr.heap.size ≤ p) :
    OqInv ob n ng A E (i + 1) w ((w2.setCell ⟨ob, i * 2, none⟩ (.pointer (some ⟨p, 0, none⟩))).setCell ⟨ob, i * 2 + 1, none⟩ (.int .i64 (E i))) := by
  obtain ⟨ps, pvs, cs, k1, k2, k3, k5, k4⟩ := h
  have fz : Fr w2 ((w2.setCell ⟨ob, i * 2, none⟩ (.pointer (some ⟨p, 0, none⟩))).setCell ⟨ob, i * 2 + 1, none⟩ (.int .i64 (E i))) (One ob) :=
    ((Fr.refl w2 (One ob)).setCell (p := ⟨ob, i * 2, none⟩) (Or.inl rfl) _).setCell (p := ⟨ob, i * 2 + 1, none⟩) (Or.inl rfl) _
  refine ⟨fun q => if q = i then p else ps q, fun q => if q = i then pv else pvs q, _, ((k1.keep f (fun x => x)).put (i * 2) (.pointer (some ⟨p, 0, none⟩))).put (i * 2 + 1) (.int .i64 (E i)), by rw [Array.size_setIfInBounds, Array.size_setIfInBounds]; exact k2, fun q hq => ?_,
    fun q r hqr hr => ?_, (k4.trans f (fun _ h => h) (fun _ _ h => h)).trans fz (fun _ h => h) (fun x hx h => by unfold Mem.One at h; omega)⟩
  · rw [Array.getElem?_setIfInBounds, Array.getElem?_setIfInBounds, Array.getElem?_setIfInBounds, Array.getElem?_setIfInBounds, Array.size_setIfInBounds]
    by_cases e : q = i
    · subst e
      rw [if_neg (by omega), if_pos rfl, if_pos (by omega), if_pos rfl, if_pos (by omega)]
      simp only [eq_self, if_true, true_and]
      exact ⟨ hp.keep fz (fun e => by unfold Mem.One at e; omega) (fun b hb e => by have := h2 b hb; unfold Mem.One at e; omega), h1, h2⟩
    · rw [if_neg (by omega), if_neg (by omega), if_neg (by omega), if_neg (by omega)]
      simp only [e, if_false]
      obtain ⟨g1, g2, g3, g4, g5⟩ := k3 q (by omega)
      exact ⟨g1, g2, (g3.keep f (fun x => x) (fun _ _ x => x)).keep fz (fun e => by unfold Mem.One at e; omega) (fun b hb e => by have := g5 b hb; unfold Mem.One at e; omega), g4, g5⟩
  · have e : q ≠ i := by omega
    simp only [e, if_false]
    by_cases c : r = i
    · simp only [c, if_true]
      obtain ⟨_, _, g3, _, _⟩ := k3 q (by omega)
      have := g3.1.lt
      omega
    · simp only [c, if_false]
      exact k5 q r hqr (by omega)

theorem OqInv.room {ob n i : Nat} {ng : Nat → Bool} {A : Nat → Nat} {E : Nat → Int} {w wr w2 : World} (h : OqInv ob n ng A E i w wr) (hi : i < n) (f : Fr wr w2 None) :
    ∃ y0 y1, w2.cell? ⟨ob, i * 2, none⟩ = some y0 ∧ w2.cell? ⟨ob, i * 2 + 1, none⟩ = some y1 ∧ w2.frozen? ⟨ob, i * 2, none⟩ = false ∧ w2.frozen? ⟨ob, i * 2 + 1, none⟩ = false := by
  obtain ⟨ps, pvs, cs, k1, k2, k3, k5, k4⟩ := h
  have k := k1.keep f (fun x => x)
  exact ⟨cs[i * 2]'(by omega), cs[i * 2 + 1]'(by omega), by rw [k.cell]; exact Array.getElem?_eq_getElem _, by rw [k.cell]; exact Array.getElem?_eq_getElem _, k.free _, k.free _⟩

set_option maxRecDepth 100000 in
set_option maxHeartbeats 4000000 in
theorem open_any (b n : Nat) (xs : Nat → Value) (ng : Nat → Bool) (A : Nat → Nat) (E : Nat → Int) (cs : Array Value) (w : World) (hn : n ≤ 1000) (hx : ∀ i, i < n → NumV w (xs i) (ng i) (A i) (E i))
    (hb : At w b cs 24) (hcs : ∀ i, i < n → ∃ v, xs i = .agg #[.bool (ng i), v, .int .i64 (E i)] ∧ cs[i * 3]? = some (.bool (ng i)) ∧ cs[i * 3 + 1]? = some v ∧ cs[i * 3 + 2]? = some (.int .i64 (E i))) :
    Calls Tryz.prog 34 #[.slice (some ⟨b, 0, none⟩) n n] w (OqPost n ng A E w) := by
  obtain ⟨ms, hms, hmk⟩ := run_mkE n (by omega) w
  have I : Hid (OqInv w.heap.size n ng A E 0 w (w.alloc (.cells ms 62))) :=
    Lib.hid ⟨fun _ => 0, fun _ => .bool false, ms, At.alloc w _ _, hms, fun q hq => by omega, fun q r _ hr => by omega, (Fr.refl w None).alloc _⟩
  have HX := Lib.hid (And.intro hx (And.intro hb hcs))
  clear hx hb hcs hms
  go_enter Tryz.func34, Tryz.ntmps34
  go_wp2_with fail
  clear hmk
  generalize w.alloc (.cells ms 62) = w0 at I ⊢
  go_loopw [11] (fun ix wr => ∃ i : Nat, i ≤ n ∧ ix = .int .i64 (i : Int) ∧ OqInv w.heap.size n ng A E i w wr) (fun ix _ => n - (intOf ix).toNat)
  case atStart => exact ⟨0, Nat.zero_le _, rfl, I.out⟩
  case round =>
    obtain ⟨i, hi, rfl, hr⟩ := hrel
    have HR := Lib.hid hr
    clear hr
    by_cases c : i < n
    · have i0 : (i : Int) < (n : Int) := by omega
      have fr : Fr w wr None := by obtain ⟨_, _, _, _, _, _, _, f⟩ := HR.out; exact f
      obtain ⟨v, hxi, k0, k1, k2⟩ := HX.out.2.2 i c
      have hnum := (HX.out.1 i c).keep fr
      have hbr := HX.out.2.1.keep fr (fun x => x)
      obtain ⟨da, dn, dcap, hxe, hwhole⟩ := whole_num hnum
      rw [hxi] at hxe
      obtain rfl : v = .slice da dn dcap := by injection hxe with h; have := congrArg (fun a : Array Value => a[1]?) h; simpa using this
      have s0 : wr.cell? ⟨b, i * 3, none⟩ = some (.bool (ng i)) := by rw [hbr.cell]; exact k0
      have s1 : wr.cell? ⟨b, i * 3 + 1, none⟩ = some (.slice da dn dcap) := by rw [hbr.cell]; exact k1
      have s2 : wr.cell? ⟨b, i * 3 + 2, none⟩ = some (.int .i64 (E i)) := by rw [hbr.cell]; exact k2
      clear hxe k0 k1 k2 hbr
      obtain ⟨t0, fa⟩ := box_at wr (.bool (ng i)) (.slice da dn dcap) (.int .i64 (E i)) 24
      have hval := valid_num _ (ng i) (A i) (E i) _ (hnum.keep fa)
      rw [hxi] at hval
      have hmid : ∀ w1, Fr (wr.alloc (.cells #[.bool (ng i), .slice da dn dcap, .int .i64 (E i)] 24)) w1 None → Calls Tryz.prog 30 #[.bool (ng i), .slice da dn dcap] w1 (NewPost (ng i) (A i) w1) := fun w1 f1 => hwhole w1 (fa.trans f1 (fun _ h => h) (fun _ _ h => h))
      have hob : w.heap.size < wr.heap.size := by obtain ⟨_, _, _, k, _⟩ := HR.out; exact k.lt
      have HM := Lib.hid hmid
      have HV := Lib.hid hval
      have T0 := Lib.hid t0
      have FA := Lib.hid fa
      clear hmid hval t0 fa hwhole hnum fr hxi
      go_wp2_with fail
      generalize hbv : wr.heap.size = bx at T0 hob ⊢
      generalize wr.alloc (.cells #[.bool (ng i), .slice da dn dcap, .int .i64 (E i)] 24) = wa at HM HV T0 FA ⊢
      refine (HV.out).mono ?_
      rintro en w1 ⟨rfl, f1⟩
      have HW := Lib.hid (HM.out w1.drew f1.drew)
      have t1 := T0.out.keep f1 (fun x => x)
      have c0 := t1.cell 0
      have c1 := t1.cell 1
      have c2 := t1.cell 2
      have T1 := Lib.hid t1
      have F1 := Lib.hid (FA.out.trans f1 (fun _ h => h) (fun _ _ h => h))
      clear t1 f1 HM HV s0 s1 s2
      go_wp2_with fail
      go_region_with (go_at_call 30; refine (HW.out).mono ?_; rintro e w2 ⟨p, pv, rfl, b1, b2, b3, b4⟩; replace b4 := Fr.undrew b4; have t2 := T1.out.keep b4 (fun x => x); have e2 := t2.cell 2; obtain ⟨y0, y1, g0, g1, g2, g3⟩ := (HR.out).room c (F1.out.trans b4 (fun _ h => h) (fun _ _ h => h)); have BB := Lib.hid (And.intro b1 (And.intro b2 (And.intro b3 b4))); clear b1 b2 b3 b4 t2)
      all_goals
        have hb2 : w1.heap.size ≤ p := BB.out.2.1
        have hsz := F1.out.size
        have R : Hid (OqInv w.heap.size n ng A E (i + 1) w ((w2.setCell ⟨w.heap.size, i * 2, none⟩ (.pointer (some ⟨p, 0, none⟩))).setCell ⟨w.heap.size, i * 2 + 1, none⟩ (.int .i64 (E i)))) :=
          Lib.hid ((HR.out).step c (Nat.le_refl _) (F1.out.trans BB.out.2.2.2 (fun _ h => h) (fun _ _ h => h)) BB.out.1 (by omega) (fun q hq => by have h3 : w1.heap.size ≤ q := BB.out.2.2.1 q hq; omega) (by omega))
        clear e2 g0 g1 g2 g3 c0 c1 c2 hb2 hsz
        generalize (w2.setCell ⟨w.heap.size, i * 2, none⟩ (.pointer (some ⟨p, 0, none⟩))).setCell ⟨w.heap.size, i * 2 + 1, none⟩ (.int .i64 (E i)) = wz at R ⊢
        go_wp2_with fail
        go_roundw
        case rel => exact ⟨i + 1, by omega, by push_cast; rfl, R.out⟩
        case measure => simp [intOf]; omega
    · obtain rfl : i = n := by omega
      go_wp2_with fail
      go_ret
      exact ⟨_, rfl, Nat.le_refl _, HR.out⟩
end Go.Proofs.YtgmebioogkmfgaaGreatDoor

namespace Go.Proofs.YtgmebioogkmfgaaGreatDoor
open Go.RowKit Go.Pt Go.Mem

set_option maxRecDepth 100000 in
set_option maxHeartbeats 4000000 in
theorem validP_dy (neg : Bool) (v : Value) (n : Nat) (x : Nat → Int) (E : Int) (w : World) (hn : n ≤ 100000) (h : IntsV w v n x) :
    Calls Tryz.prog 11 #[.agg #[.bool neg, v, .int .i64 E]] w fun en w' => en = .returned (.bool (decide (ValidP neg n x E))) ∧ Fr w w' None := by
  obtain ⟨t0, f0⟩ := box_at w (.bool neg) v (.int .i64 E) 24
  have hval := valid_nat v n x _ hn (h.keep f0)
  have c0 := t0.cell 0
  have c1 := t0.cell 1
  have c2 := t0.cell 2
  have F0 := Lib.hid f0
  have T0 := Lib.hid t0
  have h0 := h.keep f0
  have H := Lib.hid h0
  obtain ⟨a, cap, rfl, hcap, hin⟩ := h0
  have HV := Lib.hid hval
  clear t0 f0 hval h
  rcases Nat.eq_zero_or_pos n with rfl | hp
  · have F : Hid (decide (ValidP neg 0 x E) = (!neg && (E == 0))) := by
      cases neg
      · by_cases e : E = 0
        · subst e; exact Lib.hid (decide_eq_true (Or.inl ⟨rfl, rfl, rfl⟩))
        · rw [beq_eq_false_iff_ne.2 e]; exact Lib.hid (decide_eq_false (fun h => by rcases h with ⟨_, _, h⟩ | ⟨h, _⟩; exact e h; omega))
      · exact Lib.hid (decide_eq_false (fun h => by rcases h with ⟨_, h, _⟩ | ⟨h, _⟩; cases h; omega))
    cases neg
    · by_cases e : E = 0
      · subst e
        go_enter Tryz.func11, Tryz.ntmps11
        go_wp2_with fail
        go_ret
        exact ⟨by rw [F.out]; rfl, F0.out⟩
      · have e' : (E == 0) = false := beq_eq_false_iff_ne.2 e
        rw [e'] at F
        clear e
        go_enter Tryz.func11, Tryz.ntmps11
        go_wp2_with fail
        go_ret
        exact ⟨by rw [F.out]; rfl, F0.out⟩
    · go_enter Tryz.func11, Tryz.ntmps11
      go_wp2_with fail
      go_ret
      exact ⟨by rw [F.out]; rfl, F0.out⟩
  · have i1 : ((n : Int) == 0) = false := beq_eq_false_iff_ne.2 (by omega)
    have i2 : (0 : Int) < (n : Int) := by omega
    by_cases cv : ValidI n x
    · rw [decide_eq_true cv] at HV
      have hx0 := (cv.2.1 0 hp).1
      have F : Hid (decide (ValidP neg n x E) = (((x 0 % 2 : Int) == 1) && (decide (-1048576 ≤ E) && decide (E ≤ 1048576)))) := by
        by_cases h1 : x 0 % 2 = 1
        · by_cases h2 : -1048576 ≤ E
          · by_cases h3 : E ≤ 1048576
            · rw [decide_eq_true h2, decide_eq_true h3, h1]; exact Lib.hid (decide_eq_true (Or.inr ⟨hp, cv, h1, h2, h3⟩))
            · rw [decide_eq_true h2, decide_eq_false h3, h1]; exact Lib.hid (decide_eq_false (fun h => by rcases h with ⟨h, _⟩ | ⟨_, _, _, _, h⟩; omega; exact h3 h))
          · rw [decide_eq_false h2, h1]; exact Lib.hid (decide_eq_false (fun h => by rcases h with ⟨h, _⟩ | ⟨_, _, _, h, _⟩; omega; exact h2 h))
        · rw [beq_eq_false_iff_ne.2 h1]; exact Lib.hid (decide_eq_false (fun h => by rcases h with ⟨h, _⟩ | ⟨_, _, h, _⟩; omega; exact h1 h))
      have hin2 : ∀ W, Fr (w.alloc (.cells #[.bool neg, .slice a n cap, .int .i64 E] 24)) W None → ∃ b off, a = some ⟨b, off, none⟩ ∧ W.cell? ⟨b, off, none⟩ = some (.int .i64 (x 0)) := fun W fW => by
        obtain ⟨b, off, rfl, h1, h2⟩ := hin 0 hp
        rw [Nat.add_zero] at h2
        exact ⟨b, off, rfl, by rw [fW.cell (p := ⟨b, off, none⟩) h1 (fun x => x)]; exact h2⟩
      generalize x 0 = d at F hin2
      have HI := Lib.hid hin2
      clear hin hin2 cv hx0
      by_cases h1 : d % 2 = 1
      · have p1 := and_one d
        rw [h1] at p1
        have p2 : (d % 2 == 1) = true := beq_iff_eq.2 h1
        rw [p2] at F
        by_cases h2 : -1048576 ≤ E
        · by_cases h3 : E ≤ 1048576
          · rw [decide_eq_true h2, decide_eq_true h3] at F
            clear h1
            go_enter Tryz.func11, Tryz.ntmps11
            go_wp2_with fail
            generalize w.alloc (.cells #[.bool neg, .slice a n cap, .int .i64 E] 24) = w0 at HV F0 T0 HI H c0 c1 c2 ⊢
            refine (HV.out).mono ?_
            rintro en w1 ⟨rfl, f1⟩
            obtain ⟨b, off, rfl, g0⟩ := HI.out w1 f1
            have t1 := T0.out.keep f1 (fun x => x)
            have c0 := t1.cell 0
            have c1 := t1.cell 1
            have c2 := t1.cell 2
            have FX := Lib.hid (F0.out.trans f1 (fun _ h => h) (fun _ _ h => h))
            clear f1 t1 HI H
            go_wp2_with fail
            go_ret
            exact ⟨by rw [F.out]; rfl, FX.out⟩
          · rw [decide_eq_true h2, decide_eq_false h3] at F
            have H3 := Lib.hid (decide_eq_false h3)
            have h3' : 1048576 < E := by omega
            clear h1
            go_enter Tryz.func11, Tryz.ntmps11
            go_wp2_with fail
            generalize w.alloc (.cells #[.bool neg, .slice a n cap, .int .i64 E] 24) = w0 at HV F0 T0 HI H c0 c1 c2 ⊢
            refine (HV.out).mono ?_
            rintro en w1 ⟨rfl, f1⟩
            obtain ⟨b, off, rfl, g0⟩ := HI.out w1 f1
            have t1 := T0.out.keep f1 (fun x => x)
            have c0 := t1.cell 0
            have c1 := t1.cell 1
            have c2 := t1.cell 2
            have FX := Lib.hid (F0.out.trans f1 (fun _ h => h) (fun _ _ h => h))
            clear f1 t1 HI H
            go_wp2_with fail
            go_ret
            exact ⟨by rw [F.out]; exact congrArg (fun q => Ending.returned (.bool q)) H3.out, FX.out⟩
        · rw [decide_eq_false h2] at F
          have h2' : E < -1048576 := by omega
          clear h1
          go_enter Tryz.func11, Tryz.ntmps11
          go_wp2_with fail
          generalize w.alloc (.cells #[.bool neg, .slice a n cap, .int .i64 E] 24) = w0 at HV F0 T0 HI H c0 c1 c2 ⊢
          refine (HV.out).mono ?_
          rintro en w1 ⟨rfl, f1⟩
          obtain ⟨b, off, rfl, g0⟩ := HI.out w1 f1
          have t1 := T0.out.keep f1 (fun x => x)
          have c0 := t1.cell 0
          have c1 := t1.cell 1
          have c2 := t1.cell 2
          have FX := Lib.hid (F0.out.trans f1 (fun _ h => h) (fun _ _ h => h))
          clear f1 t1 HI H
          go_wp2_with fail
          go_ret
          exact ⟨by rw [F.out]; rfl, FX.out⟩
      · have p1 := and_one d
        have p2 : (d % 2 == 1) = false := beq_eq_false_iff_ne.2 h1
        rw [p2] at F
        clear h1
        go_enter Tryz.func11, Tryz.ntmps11
        go_wp2_with fail
        generalize w.alloc (.cells #[.bool neg, .slice a n cap, .int .i64 E] 24) = w0 at HV F0 T0 HI H c0 c1 c2 ⊢
        refine (HV.out).mono ?_
        rintro en w1 ⟨rfl, f1⟩
        obtain ⟨b, off, rfl, g0⟩ := HI.out w1 f1
        have t1 := T0.out.keep f1 (fun x => x)
        have c0 := t1.cell 0
        have c1 := t1.cell 1
        have c2 := t1.cell 2
        have FX := Lib.hid (F0.out.trans f1 (fun _ h => h) (fun _ _ h => h))
        clear f1 t1 HI H
        go_wp2_with fail
        go_ret
        exact ⟨by rw [F.out]; rfl, FX.out⟩
    · rw [decide_eq_false cv] at HV
      have F : Hid (decide (ValidP neg n x E) = false) := Lib.hid (decide_eq_false (fun h => by rcases h with ⟨h, _⟩ | ⟨_, h, _⟩; omega; exact cv h))
      clear hin cv H
      go_enter Tryz.func11, Tryz.ntmps11
      go_wp2_with fail
      generalize w.alloc (.cells #[.bool neg, .slice a n cap, .int .i64 E] 24) = w0 at HV F0 T0 c0 c1 c2 ⊢
      refine (HV.out).mono ?_
      rintro en w1 ⟨rfl, f1⟩
      have FX := Lib.hid (F0.out.trans f1 (fun _ h => h) (fun _ _ h => h))
      clear f1
      go_wp2_with fail
      go_ret
      exact ⟨by rw [F.out]; rfl, FX.out⟩
end Go.Proofs.YtgmebioogkmfgaaGreatDoor

namespace Go.Proofs.YtgmebioogkmfgaaGreatDoor
open Go.RowKit Go.Pt Go.Mem

theorem ValidP.valid {ng : Bool} {n : Nat} {x : Nat → Int} {E : Int} (h : ValidP ng n x E) : ValidI n x := by
  rcases h with ⟨rfl, _⟩ | ⟨_, h, _⟩
  · exact ⟨by omega, fun j hj => by omega, fun h => by omega⟩
  · exact h

/-- whole of a valid number that was lent. -/
theorem whole_lentP {ng : Bool} {b cap n : Nat} {x : Nat → Int} {E : Int} {w : World} (hP : ValidP ng n x E) (h : IntsV w (.slice (some ⟨b, 0, none⟩) n cap) n x) :
    Calls Tryz.prog 30 #[.bool ng, .slice (some ⟨b, 0, none⟩) n cap] w (NewPost ng (dv (digN n x) n) w) := by
  rcases hP with ⟨rfl, rfl, rfl⟩ | ⟨h0, hv, _⟩
  · exact whole_empty false b cap w
  · obtain ⟨ng', e, hc⟩ := whole_lent ng b cap n x w hv h
    obtain rfl := e (by omega)
    exact hc

set_option maxRecDepth 100000 in
set_option maxHeartbeats 4000000 in
theorem open_gen (b n : Nat) (ng : Nat → Bool) (A : Nat → Nat) (E : Nat → Int) (da : Nat → Option Addr) (dn dcap : Nat → Nat) (cs : Array Value) (w : World) (hn : n ≤ 1000)
    (hval : ∀ i, i < n → ∀ W, Fr w W None → Calls Tryz.prog 11 #[.agg #[.bool (ng i), .slice (da i) (dn i) (dcap i), .int .i64 (E i)]] W fun e W' => e = .returned (.bool true) ∧ Fr W W' None)
    (hwh : ∀ i, i < n → ∀ W, Fr w W None → Calls Tryz.prog 30 #[.bool (ng i), .slice (da i) (dn i) (dcap i)] W (NewPost (ng i) (A i) W))
    (hb : At w b cs 24) (hcs : ∀ i, i < n → cs[i * 3]? = some (.bool (ng i)) ∧ cs[i * 3 + 1]? = some (.slice (da i) (dn i) (dcap i)) ∧ cs[i * 3 + 2]? = some (.int .i64 (E i))) :
    Calls Tryz.prog 34 #[.slice (some ⟨b, 0, none⟩) n n] w (OpenPost n ng A E w) := by
  obtain ⟨ms, hms, hmk⟩ := run_mkE n (by omega) w
  have I : Hid (OpInv w.heap.size n ng A E 0 w (w.alloc (.cells ms 62))) :=
    Lib.hid ⟨fun _ => 0, fun _ => .bool false, ms, At.alloc w _ _, hms, fun q hq => by omega, (Fr.refl w None).alloc _⟩
  have HX := Lib.hid (And.intro (And.intro hval hwh) (And.intro hb hcs))
  clear hval hwh hb hcs hms
  go_enter Tryz.func34, Tryz.ntmps34
  go_wp2_with fail
  clear hmk
  generalize w.alloc (.cells ms 62) = w0 at I ⊢
  go_loopw [11] (fun ix wr => ∃ i : Nat, i ≤ n ∧ ix = .int .i64 (i : Int) ∧ OpInv w.heap.size n ng A E i w wr) (fun ix _ => n - (intOf ix).toNat)
  case atStart => exact ⟨0, Nat.zero_le _, rfl, I.out⟩
  case round =>
    obtain ⟨i, hi, rfl, hr⟩ := hrel
    have HR := Lib.hid hr
    clear hr
    by_cases c : i < n
    · have i0 : (i : Int) < (n : Int) := by omega
      have fr : Fr w wr None := by obtain ⟨_, _, _, _, _, _, f⟩ := HR.out; exact f
      obtain ⟨k0, k1, k2⟩ := HX.out.2.2 i c
      have hbr := HX.out.2.1.keep fr (fun x => x)
      have s0 : wr.cell? ⟨b, i * 3, none⟩ = some (.bool (ng i)) := by rw [hbr.cell]; exact k0
      have s1 : wr.cell? ⟨b, i * 3 + 1, none⟩ = some (.slice (da i) (dn i) (dcap i)) := by rw [hbr.cell]; exact k1
      have s2 : wr.cell? ⟨b, i * 3 + 2, none⟩ = some (.int .i64 (E i)) := by rw [hbr.cell]; exact k2
      clear k0 k1 k2 hbr
      have hv0 := HX.out.1.1 i c
      have hw0 := HX.out.1.2 i c
      generalize da i = xa at s1 hv0 hw0
      generalize dn i = xn at s1 hv0 hw0
      generalize dcap i = xc at s1 hv0 hw0
      obtain ⟨t0, fa⟩ := box_at wr (.bool (ng i)) (.slice xa xn xc) (.int .i64 (E i)) 24
      have hval := hv0 _ (fr.trans fa (fun _ h => h) (fun _ _ h => h))
      have hmid : ∀ w1, Fr (wr.alloc (.cells #[.bool (ng i), .slice xa xn xc, .int .i64 (E i)] 24)) w1 None → Calls Tryz.prog 30 #[.bool (ng i), .slice xa xn xc] w1 (NewPost (ng i) (A i) w1) := fun w1 f1 => hw0 w1 ((fr.trans fa (fun _ h => h) (fun _ _ h => h)).trans f1 (fun _ h => h) (fun _ _ h => h))
      have hob : w.heap.size < wr.heap.size := by obtain ⟨_, _, _, k, _⟩ := HR.out; exact k.lt
      have HM := Lib.hid hmid
      have HV := Lib.hid hval
      have T0 := Lib.hid t0
      have FA := Lib.hid fa
      clear hmid hval t0 fa hv0 hw0 fr
      go_wp2_with fail
      generalize hbv : wr.heap.size = bx at T0 hob ⊢
      generalize wr.alloc (.cells #[.bool (ng i), .slice xa xn xc, .int .i64 (E i)] 24) = wa at HM HV T0 FA ⊢
      refine (HV.out).mono ?_
      rintro en w1 ⟨rfl, f1⟩
      have HW := Lib.hid (HM.out w1.drew f1.drew)
      have t1 := T0.out.keep f1 (fun x => x)
      have c0 := t1.cell 0
      have c1 := t1.cell 1
      have c2 := t1.cell 2
      have T1 := Lib.hid t1
      have F1 := Lib.hid (FA.out.trans f1 (fun _ h => h) (fun _ _ h => h))
      clear t1 f1 HM HV s0 s1 s2
      go_wp2_with fail
      go_region_with (go_at_call 30; refine (HW.out).mono ?_; rintro e w2 ⟨p, pv, rfl, b1, b2, b3, b4⟩; replace b4 := Fr.undrew b4; have t2 := T1.out.keep b4 (fun x => x); have e2 := t2.cell 2; obtain ⟨y0, y1, g0, g1, g2, g3⟩ := (HR.out).room c (F1.out.trans b4 (fun _ h => h) (fun _ _ h => h)); have BB := Lib.hid (And.intro b1 (And.intro b2 (And.intro b3 b4))); clear b1 b2 b3 b4 t2)
      all_goals
        have hb2 : w1.heap.size ≤ p := BB.out.2.1
        have hsz := F1.out.size
        have R : Hid (OpInv w.heap.size n ng A E (i + 1) w ((w2.setCell ⟨w.heap.size, i * 2, none⟩ (.pointer (some ⟨p, 0, none⟩))).setCell ⟨w.heap.size, i * 2 + 1, none⟩ (.int .i64 (E i)))) :=
          Lib.hid ((HR.out).step c (Nat.le_refl _) (F1.out.trans BB.out.2.2.2 (fun _ h => h) (fun _ _ h => h)) BB.out.1 (by omega) (fun q hq => by have h3 : w1.heap.size ≤ q := BB.out.2.2.1 q hq; omega))
        clear e2 g0 g1 g2 g3 c0 c1 c2 hb2 hsz
        generalize (w2.setCell ⟨w.heap.size, i * 2, none⟩ (.pointer (some ⟨p, 0, none⟩))).setCell ⟨w.heap.size, i * 2 + 1, none⟩ (.int .i64 (E i)) = wz at R ⊢
        go_wp2_with fail
        go_roundw
        case rel => exact ⟨i + 1, by omega, by push_cast; rfl, R.out⟩
        case measure => simp [intOf]; omega
    · obtain rfl : i = n := by omega
      go_wp2_with fail
      go_ret
      exact ⟨_, rfl, Nat.le_refl _, HR.out⟩

theorem open_1g (b : Nat) (ng : Bool) (A : Nat) (E : Int) (xa : Option Addr) (xn xc : Nat) (w : World)
    (hval : ∀ W, Fr w W None → Calls Tryz.prog 11 #[.agg #[.bool ng, .slice xa xn xc, .int .i64 E]] W fun e W' => e = .returned (.bool true) ∧ Fr W W' None)
    (hwh : ∀ W, Fr w W None → Calls Tryz.prog 30 #[.bool ng, .slice xa xn xc] W (NewPost ng A W)) (hb : At w b #[.bool ng, .slice xa xn xc, .int .i64 E] 24) :
    Calls Tryz.prog 34 #[.slice (some ⟨b, 0, none⟩) 1 1] w fun en w' => ∃ ob p0 v0, en = .returned (.slice (some ⟨ob, 0, none⟩) 1 1) ∧ w.heap.size ≤ ob ∧ ob < p0 ∧ (∀ b, Blk v0 b → ob < b) ∧
      At w' ob #[.pointer (some ⟨p0, 0, none⟩), .int .i64 E] 62 ∧ IntV w' p0 v0 ng A ∧ Fr w w' None := by
  refine (open_gen b 1 (fun _ => ng) (fun _ => A) (fun _ => E) (fun _ => xa) (fun _ => xn) (fun _ => xc) _ w (by omega) (fun _ _ => hval) (fun _ _ => hwh) hb (fun i hi => ?_)).mono ?_
  · obtain rfl : i = 0 := by omega
    exact ⟨rfl, rfl, rfl⟩
  · rintro en w' ⟨ob, rfl, h1, ps, pv, cs, k1, k2, k3, k4⟩
    obtain ⟨a1, a2, a3, a4, a5⟩ := k3 0 (by omega)
    have e := arr2 k2 a1 a2
    rw [e] at k1
    exact ⟨ob, _, _, rfl, h1, a4, a5, k1, a3, k4⟩

set_option maxRecDepth 100000 in
set_option maxHeartbeats 4000000 in
theorem open_no (b m : Nat) (ng : Bool) (E : Int) (xa : Option Addr) (xn xc : Nat) (w : World) (hm : 0 < m) (hm2 : m ≤ 1000)
    (hval : ∀ W, Fr w W None → Calls Tryz.prog 11 #[.agg #[.bool ng, .slice xa xn xc, .int .i64 E]] W fun e W' => e = .returned (.bool false) ∧ Fr W W' None)
    (hb : At w b #[.bool ng, .slice xa xn xc, .int .i64 E] 24) :
    Calls Tryz.prog 34 #[.slice (some ⟨b, 0, none⟩) m m] w fun en w' => en = gaveUp 11 ∧ Fr w w' None := by
  obtain ⟨ms, hms, hmk⟩ := run_mkE m (by omega) w
  have I : Hid (Fr w (w.alloc (.cells ms 62)) None) := Lib.hid ((Fr.refl w None).alloc _)
  have HX := Lib.hid (And.intro hval hb)
  have i0 : (0 : Int) < (m : Int) := by omega
  clear hval hb hms
  unfold gaveUp
  go_enter Tryz.func34, Tryz.ntmps34
  go_wp2_with fail
  clear hmk
  generalize w.alloc (.cells ms 62) = w0 at I ⊢
  go_loopw [11] (fun ix wr => ix = .int .i64 0 ∧ Fr w wr None) (fun _ _ => 0)
  case atStart => exact ⟨rfl, I.out⟩
  case round =>
    obtain ⟨rfl, fr⟩ := hrel
    have hbr := HX.out.2.keep fr (fun x => x)
    have s0 := hbr.cell 0
    have s1 := hbr.cell 1
    have s2 := hbr.cell 2
    obtain ⟨t0, fa⟩ := box_at wr (.bool ng) (.slice xa xn xc) (.int .i64 E) 24
    have hv := HX.out.1 _ (fr.trans fa (fun _ h => h) (fun _ _ h => h))
    have HV := Lib.hid hv
    have FA := Lib.hid (fr.trans fa (fun _ h => h) (fun _ _ h => h))
    clear t0 fa hv fr hbr
    go_wp2_with fail
    refine (HV.out).mono ?_
    rintro en w1 ⟨rfl, f1⟩
    have FX := Lib.hid (FA.out.trans f1 (fun _ h => h) (fun _ _ h => h))
    clear f1
    go_wp2_with fail
    exact ⟨rfl, rfl, FX.out⟩

/-- open of one number that was lent. -/
theorem open_lent (b lb cap n : Nat) (ng : Bool) (x : Nat → Int) (E : Int) (w : World) (hn : n ≤ 100000) (h : IntsV w (.slice (some ⟨lb, 0, none⟩) n cap) n x) (hP : ValidP ng n x E)
    (hb : At w b #[.bool ng, .slice (some ⟨lb, 0, none⟩) n cap, .int .i64 E] 24) :
    Calls Tryz.prog 34 #[.slice (some ⟨b, 0, none⟩) 1 1] w fun en w' => ∃ ob p0 v0, en = .returned (.slice (some ⟨ob, 0, none⟩) 1 1) ∧ w.heap.size ≤ ob ∧ ob < p0 ∧ (∀ b, Blk v0 b → ob < b) ∧
      At w' ob #[.pointer (some ⟨p0, 0, none⟩), .int .i64 E] 62 ∧ IntV w' p0 v0 ng (dv (digN n x) n) ∧ Fr w w' None :=
  open_1g b ng _ E _ n cap w (fun W f => by have := validP_dy ng _ n x E W hn (h.keep f); rwa [decide_eq_true hP] at this) (fun W f => whole_lentP hP (h.keep f)) hb
theorem open_lent_no (b lb cap n : Nat) (ng : Bool) (x : Nat → Int) (E : Int) (w : World) (hn : n ≤ 100000) (h : IntsV w (.slice (some ⟨lb, 0, none⟩) n cap) n x) (hP : ¬ ValidP ng n x E)
    (hb : At w b #[.bool ng, .slice (some ⟨lb, 0, none⟩) n cap, .int .i64 E] 24) :
    Calls Tryz.prog 34 #[.slice (some ⟨b, 0, none⟩) 1 1] w fun en w' => en = gaveUp 11 ∧ Fr w w' None :=
  open_no b 1 ng E _ n cap w (by omega) (by omega) (fun W f => by have := validP_dy ng _ n x E W hn (h.keep f); rwa [decide_eq_false hP] at this) hb
end Go.Proofs.YtgmebioogkmfgaaGreatDoor

namespace Go.Proofs.YtgmebioogkmfgaaGreatDoor
open Go.RowKit Go.Pt Go.Mem

set_option maxRecDepth 100000 in
set_option maxHeartbeats 4000000 in
theorem intSet_same (z : Nat) (w : World) : Calls Tryz.prog 59 #[.pointer (some ⟨z, 0, none⟩), .pointer (some ⟨z, 0, none⟩)] w fun e w' => e = .returned (.pointer (some ⟨z, 0, none⟩)) ∧ w = w' := by
  have hne := neq_same w ⟨z, 0, none⟩
  go_enter Tryz.func59, Tryz.ntmps59
  go_wp2
  go_ret
  exact ⟨rfl, rfl⟩

set_option maxRecDepth 100000 in
set_option maxHeartbeats 4000000 in
theorem intNeg_any (z : Nat) (vz : Value) (nz : Bool) (N : Nat) (w : World) (hz : IntV w z vz nz N) :
    Calls Tryz.prog 37 #[.pointer (some ⟨z, 0, none⟩), .pointer (some ⟨z, 0, none⟩)] w fun e w' => e = .returned (.pointer (some ⟨z, 0, none⟩)) ∧ ∃ s, (N ≠ 0 → s = !nz) ∧ IntV w' z vz s N ∧ Fr w w' (One z) := by
  rcases Nat.eq_zero_or_pos N with rfl | h0
  · have z0 := hz.1.c0
    have z1 := hz.1.c1
    have z2 := hz.1.free 0
    have P : Hid (IntV (w.setCell ⟨z, 0, none⟩ (.bool false)) z vz false 0 ∧ Fr w (w.setCell ⟨z, 0, none⟩ (.bool false)) (One z)) :=
      ⟨hz.setNeg _, (Fr.refl w (One z)).setCell (p := ⟨z, 0, none⟩) (Or.inl rfl) _⟩
    have HS := Lib.hid (intSet_same z w)
    rcases hz.2.zero with rfl | ⟨b, cap, l, rfl, _⟩
    · clear hz
      go_enter Tryz.func37, Tryz.ntmps37
      go_wp2_with fail
      refine (HS.out).mono ?_
      rintro e w1 ⟨rfl, rfl⟩
      go_wp2_with fail
      go_ret
      exact ⟨rfl, false, fun h => absurd rfl h, P.out⟩
    · clear hz
      go_enter Tryz.func37, Tryz.ntmps37
      go_wp2_with fail
      refine (HS.out).mono ?_
      rintro e w1 ⟨rfl, rfl⟩
      go_wp2_with fail
      go_ret
      exact ⟨rfl, false, fun h => absurd rfl h, P.out⟩
  · refine (intNeg z vz nz N w h0 hz).mono ?_
    rintro e w' ⟨rfl, h1, h2⟩
    exact ⟨rfl, !nz, fun _ => rfl, h1, h2⟩

set_option maxRecDepth 100000 in
set_option maxHeartbeats 4000000 in
theorem intAbs_same (z : Nat) (vz : Value) (nz : Bool) (N : Nat) (w : World) (hz : IntV w z vz nz N) :
    Calls Tryz.prog 38 #[.pointer (some ⟨z, 0, none⟩), .pointer (some ⟨z, 0, none⟩)] w fun e w' => e = .returned (.pointer (some ⟨z, 0, none⟩)) ∧ IntV w' z vz false N ∧ Fr w w' (One z) := by
  have HS := Lib.hid (intSet_same z w)
  have k1 := hz.1.c0
  have k2 := hz.1.free 0
  have P : Hid (IntV (w.setCell ⟨z, 0, none⟩ (.bool false)) z vz false N ∧ Fr w (w.setCell ⟨z, 0, none⟩ (.bool false)) (One z)) :=
    ⟨hz.setNeg _, (Fr.refl w (One z)).setCell (p := ⟨z, 0, none⟩) (Or.inl rfl) _⟩
  clear hz
  go_enter Tryz.func38, Tryz.ntmps38
  go_wp2_with fail
  refine (HS.out).mono ?_
  rintro e w1 ⟨rfl, rfl⟩
  go_wp2_with fail
  go_ret
  exact ⟨rfl, P.out⟩

theorem OutPost.sign {a b : Bool} {N : Nat} {e : Int} {w w' : World} {en : Ending} (hs : N ≠ 0 → a = b) (h : OutPost a N e w en w') : OutPost b N e w en w' := by
  by_cases c : N = 0
  · obtain ⟨h1, h2 | ⟨k, tz, _⟩⟩ := h
    · exact ⟨h1, Or.inl h2⟩
    · exact absurd tz.pos (by omega)
  · rw [hs c] at h
    exact h

set_option maxRecDepth 100000 in
set_option maxHeartbeats 4000000 in
theorem dNeg_good (lb cap n : Nat) (ng : Bool) (xs : Nat → Int) (E : Int) (w : World) (hn : n ≤ 2100) (h : IntsV w (.slice (some ⟨lb, 0, none⟩) n cap) n xs) (hP : ValidP ng n xs E) (hT : Tab w) :
    Calls Tryz.prog 14 #[.agg #[.bool ng, .slice (some ⟨lb, 0, none⟩) n cap, .int .i64 E]] w (OutPost (!ng) (dv (digN n xs) n) E w) := by
  obtain ⟨tx, fx⟩ := box_at w (.bool ng) (.slice (some ⟨lb, 0, none⟩) n cap) (.int .i64 E) 24
  have hsx : (w.alloc (.cells #[.bool ng, .slice (some ⟨lb, 0, none⟩) n cap, .int .i64 E] 24)).heap.size = w.heap.size + 1 := by simp
  obtain ⟨r0, r1, fr⟩ := res_at (w.alloc (.cells #[.bool ng, .slice (some ⟨lb, 0, none⟩) n cap, .int .i64 E] 24))
  rw [hsx] at r0 r1
  have hsz : (((w.alloc (.cells #[.bool ng, .slice (some ⟨lb, 0, none⟩) n cap, .int .i64 E] 24)).alloc (.cells #[.bool false, .slice none 0 0, .int .i64 0] 24)).alloc (.cells #[.int .i64 0] 32)).heap.size = w.heap.size + 1 + 1 + 1 := by simp
  have f5 := (Fr.refl (((w.alloc (.cells #[.bool ng, .slice (some ⟨lb, 0, none⟩) n cap, .int .i64 E] 24)).alloc (.cells #[.bool false, .slice none 0 0, .int .i64 0] 24)).alloc (.cells #[.int .i64 0] 32)) None).alloc (.cells #[.bool ng, .slice (some ⟨lb, 0, none⟩) n cap, .int .i64 E] 24)
  have r5 := At.alloc (((w.alloc (.cells #[.bool ng, .slice (some ⟨lb, 0, none⟩) n cap, .int .i64 E] 24)).alloc (.cells #[.bool false, .slice none 0 0, .int .i64 0] 24)).alloc (.cells #[.int .i64 0] 32)) #[.bool ng, .slice (some ⟨lb, 0, none⟩) n cap, .int .i64 E] 24
  rw [hsz] at r5
  have F0 := Lib.hid ((fx.trans fr (fun _ h => h) (fun _ _ h => h)).trans f5 (fun _ h => h) (fun _ _ h => h))
  have HI := Lib.hid h
  have HP := Lib.hid hP
  have R0 := Lib.hid (r0.keep f5 (fun x => x))
  have R1 := Lib.hid (r1.keep f5 (fun x => x))
  have R5 := Lib.hid r5
  obtain ⟨hE0, hE1⟩ : -1048576 ≤ E ∧ E ≤ 1048576 := by rcases hP with ⟨_, _, rfl⟩ | ⟨_, _, _, h1, h2⟩ <;> omega
  have hlt := Nat.lt_of_lt_of_le (digN_lt hP.valid) (two_mono (30 * n) 60000 (by have := hP.valid.1; omega))
  have hop := open_lent _ lb cap n ng xs E _ (by omega) (h.keep F0.out) hP R5.out
  generalize dv (digN n xs) n = N at *
  obtain ⟨T, hT0, hT1⟩ : ∃ T, T = 60000 ∧ N < 2 ^ T := ⟨60000, rfl, hlt⟩
  have HOP := Lib.hid hop
  have HT := Lib.hid hT
  have HN := Lib.hid hT1
  have HE := Lib.hid (And.intro hE0 hE1)
  clear tx fx r0 r1 fr f5 r5 hsz hsx hT hT1 hlt h hP hop hE0 hE1 R5
  go_enter_defers Tryz.func14, Tryz.ntmps14
  go_wp2_with fail
  generalize (((w.alloc (.cells #[.bool ng, .slice (some ⟨lb, 0, none⟩) n cap, .int .i64 E] 24)).alloc (.cells #[.bool false, .slice none 0 0, .int .i64 0] 24)).alloc (.cells #[.int .i64 0] 32)).alloc (.cells #[.bool ng, .slice (some ⟨lb, 0, none⟩) n cap, .int .i64 E] 24) = w0 at F0 R0 R1 HOP ⊢
  refine (HOP.out).mono ?_
  rintro en w1 ⟨ob, p0, v0, rfl, o1, o2, o3, k1, k2, k4⟩
  have y0 := k1.cell 0
  have y1 := k1.cell 1
  have z0 := k1.free 0
  have z1 := k1.free 1
  have HNG := Lib.hid (intNeg_any p0 v0 ng N w1.drew (k2.keep (Fr.refl w1 None).drew (fun x => x) (fun _ _ x => x)))
  have hR0 := R0.out.lt
  have hR1 := R1.out.lt
  have HL := Lib.hid (show w0.heap.size ≤ ob ∧ ob < p0 ∧ w.heap.size + 1 < w0.heap.size ∧ w.heap.size + 1 + 1 < w0.heap.size from ⟨o1, o2, hR0, hR1⟩)
  have K1 := Lib.hid k1
  have K4 := Lib.hid k4
  clear k1 k2 k4 o1 o2 o3 hR0 hR1
  go_wp2_with fail
  refine wp_region_noPanic ?_
  go_region_with (go_at_call 37; refine (HNG.out).mono ?_; rintro e w2 ⟨rfl, s, n1, n2, n3⟩; have SG := Lib.hid n1; have NN := Lib.hid (And.intro n2 (Fr.undrew n3)); clear n2 n3)
  all_goals
    refine NoPanic.normal ?_
    have q1 : w0.heap.size ≤ p0 := by have := HL.out; omega
    have k1 := K1.out.keep NN.out.2 (fun e => by have := HL.out; unfold Mem.One at e; omega)
    have y0 := k1.cell 0
    have y1 := k1.cell 1
    have fw := (F0.out.trans K4.out (fun _ h => h) (fun _ _ h => h)).trans NN.out.2 (fun _ h => h) (fun x hx e => by have := F0.out.size; unfold Mem.One at e; omega)
    have HTO := Lib.hid (told_all p0 v0 s N T E w2 (by omega) HN.out (by have := HE.out.1; omega) (by have := HE.out.2; omega) NN.out.1 (HT.out.keep fw))
    have B4 := Lib.hid fw
    have R2 := Lib.hid ((R0.out.keep K4.out (fun x => x)).keep NN.out.2 (fun e => by have := HL.out; unfold Mem.One at e; omega))
    have R3 := Lib.hid ((R1.out.keep K4.out (fun x => x)).keep NN.out.2 (fun e => by have := HL.out; unfold Mem.One at e; omega))
    clear k1 fw q1
    go_wp2_with fail
    refine (HTO.out).mono ?_
    rintro en w3 ⟨fx, ⟨hz0, rfl⟩ | ⟨k, tz, ⟨k1, k2, y, rfl, hy⟩ | ⟨k1, rfl⟩⟩⟩
    · have r2 := R2.out.keep fx (fun x => x)
      have c0 := r2.cell 0
      have c1 := r2.cell 1
      have c2 := r2.cell 2
      have d0 := r2.free 0
      have d1 := r2.free 1
      have d2 := r2.free 2
      have r3 := R3.out.keep fx (fun x => x)
      have e0 := r3.cell 0
      have g0 := r3.free 0
      have FX := Lib.hid (B4.out.trans fx (fun _ h => h) (fun _ _ h => h))
      have R4 := Lib.hid r2
      have R5 := Lib.hid r3
      have HZ0 := Lib.hid hz0
      clear fx r2 r3 hz0
      unfold zeroN
      go_wp2_with fail
      obtain ⟨ay, ry, fy⟩ := out_zero (R := w.heap.size + 1) (by omega) FX.out R4.out R5.out
      generalize (((w3.setCell ⟨w.heap.size + 1, 0, none⟩ (.bool false)).setCell ⟨w.heap.size + 1, 1, none⟩ (.slice none 0 0)).setCell ⟨w.heap.size + 1, 2, none⟩ (.int .i64 0)).setCell ⟨w.heap.size + 1 + 1, 0, none⟩ (.int .i64 0) = wy at ay ry fy ⊢
      refine leaves_cons (f := 27) (args := #[.pointer (some ⟨w.heap.size + 1 + 1, 0, none⟩)]) (by simp) (by simp [go_sem]) ?_
      refine (caught_idle ⟨w.heap.size + 1 + 1, 0, none⟩ wy).mono ?_
      rintro en u' w9 ⟨rfl, rfl, rfl⟩
      exact ans_end rfl rfl rfl ay ry (OutPost.sign SG.out ⟨fy, Or.inl ⟨HZ0.out, rfl⟩⟩)
    · obtain ⟨xa, xn, xc, rfl⟩ := hy.shape
      have r2 := R2.out.keep fx (fun x => x)
      have c0 := r2.cell 0
      have c1 := r2.cell 1
      have c2 := r2.cell 2
      have d0 := r2.free 0
      have d1 := r2.free 1
      have d2 := r2.free 2
      have r3 := R3.out.keep fx (fun x => x)
      have e0 := r3.cell 0
      have g0 := r3.free 0
      have FX := Lib.hid (B4.out.trans fx (fun _ h => h) (fun _ _ h => h))
      have Y := Lib.hid (And.intro tz (And.intro k1 (And.intro k2 (hy.low B4.out.size))))
      have R4 := Lib.hid r2
      have R5 := Lib.hid r3
      clear fx r2 r3 tz k1 k2 hy
      go_wp2_with fail
      obtain ⟨ay, ry, xy, fy⟩ := out_world (a := .bool (s)) (b := .slice xa xn xc) (c := .int .i64 (E + (k : Int))) (R := w.heap.size + 1) (by omega) FX.out Y.out.2.2.2 R4.out R5.out
      generalize (((w3.setCell ⟨w.heap.size + 1, 0, none⟩ (.bool (s))).setCell ⟨w.heap.size + 1, 1, none⟩ (.slice xa xn xc)).setCell ⟨w.heap.size + 1, 2, none⟩ (.int .i64 (E + (k : Int)))).setCell ⟨w.heap.size + 1 + 1, 0, none⟩ (.int .i64 0) = wy at ay ry xy fy ⊢
      refine leaves_cons (f := 27) (args := #[.pointer (some ⟨w.heap.size + 1 + 1, 0, none⟩)]) (by simp) (by simp [go_sem]) ?_
      refine (caught_idle ⟨w.heap.size + 1 + 1, 0, none⟩ wy).mono ?_
      rintro en u' w9 ⟨rfl, rfl, rfl⟩
      exact ans_end rfl rfl rfl ay ry (OutPost.sign SG.out ⟨fy, Or.inr ⟨k, Y.out.1, Or.inl ⟨Y.out.2.1, Y.out.2.2.1, _, rfl, xy⟩⟩⟩)
    · have FX := Lib.hid (B4.out.trans fx (fun _ h => h) (fun _ _ h => h))
      have R4 := Lib.hid (R2.out.keep fx (fun x => x))
      have R5 := Lib.hid (R3.out.keep fx (fun x => x))
      have K := Lib.hid (And.intro tz k1)
      clear fx tz k1
      unfold gaveUp
      go_wp2_with fail
      refine leaves_cons (f := 27) (args := #[.pointer (some ⟨w.heap.size + 1 + 1, 0, none⟩)]) (by simp) (by simp [go_sem]) ?_
      refine (caught_panicking (w.heap.size + 1 + 1) _ 0 2 [] w3 R5.out).mono ?_
      rintro en u' w9 ⟨rfl, rfl, rfl⟩
      obtain ⟨ay, ry, fy⟩ := out_caught (k := 2) (R := w.heap.size + 1) (by omega) FX.out R4.out R5.out
      exact ans_end rfl rfl rfl ay ry (OutPost.sign SG.out ⟨fy, Or.inr ⟨k, K.out.1, Or.inr ⟨K.out.2, rfl⟩⟩⟩)

set_option maxRecDepth 100000 in
set_option maxHeartbeats 4000000 in
theorem dAbs_good (lb cap n : Nat) (ng : Bool) (xs : Nat → Int) (E : Int) (w : World) (hn : n ≤ 2100) (h : IntsV w (.slice (some ⟨lb, 0, none⟩) n cap) n xs) (hP : ValidP ng n xs E) (hT : Tab w) :
    Calls Tryz.prog 15 #[.agg #[.bool ng, .slice (some ⟨lb, 0, none⟩) n cap, .int .i64 E]] w (OutPost false (dv (digN n xs) n) E w) := by
  obtain ⟨tx, fx⟩ := box_at w (.bool ng) (.slice (some ⟨lb, 0, none⟩) n cap) (.int .i64 E) 24
  have hsx : (w.alloc (.cells #[.bool ng, .slice (some ⟨lb, 0, none⟩) n cap, .int .i64 E] 24)).heap.size = w.heap.size + 1 := by simp
  obtain ⟨r0, r1, fr⟩ := res_at (w.alloc (.cells #[.bool ng, .slice (some ⟨lb, 0, none⟩) n cap, .int .i64 E] 24))
  rw [hsx] at r0 r1
  have hsz : (((w.alloc (.cells #[.bool ng, .slice (some ⟨lb, 0, none⟩) n cap, .int .i64 E] 24)).alloc (.cells #[.bool false, .slice none 0 0, .int .i64 0] 24)).alloc (.cells #[.int .i64 0] 32)).heap.size = w.heap.size + 1 + 1 + 1 := by simp
  have f5 := (Fr.refl (((w.alloc (.cells #[.bool ng, .slice (some ⟨lb, 0, none⟩) n cap, .int .i64 E] 24)).alloc (.cells #[.bool false, .slice none 0 0, .int .i64 0] 24)).alloc (.cells #[.int .i64 0] 32)) None).alloc (.cells #[.bool ng, .slice (some ⟨lb, 0, none⟩) n cap, .int .i64 E] 24)
  have r5 := At.alloc (((w.alloc (.cells #[.bool ng, .slice (some ⟨lb, 0, none⟩) n cap, .int .i64 E] 24)).alloc (.cells #[.bool false, .slice none 0 0, .int .i64 0] 24)).alloc (.cells #[.int .i64 0] 32)) #[.bool ng, .slice (some ⟨lb, 0, none⟩) n cap, .int .i64 E] 24
  rw [hsz] at r5
  have F0 := Lib.hid ((fx.trans fr (fun _ h => h) (fun _ _ h => h)).trans f5 (fun _ h => h) (fun _ _ h => h))
  have HI := Lib.hid h
  have HP := Lib.hid hP
  have R0 := Lib.hid (r0.keep f5 (fun x => x))
  have R1 := Lib.hid (r1.keep f5 (fun x => x))
  have R5 := Lib.hid r5
  obtain ⟨hE0, hE1⟩ : -1048576 ≤ E ∧ E ≤ 1048576 := by rcases hP with ⟨_, _, rfl⟩ | ⟨_, _, _, h1, h2⟩ <;> omega
  have hlt := Nat.lt_of_lt_of_le (digN_lt hP.valid) (two_mono (30 * n) 60000 (by have := hP.valid.1; omega))
  have hop := open_lent _ lb cap n ng xs E _ (by omega) (h.keep F0.out) hP R5.out
  generalize dv (digN n xs) n = N at *
  obtain ⟨T, hT0, hT1⟩ : ∃ T, T = 60000 ∧ N < 2 ^ T := ⟨60000, rfl, hlt⟩
  have HOP := Lib.hid hop
  have HT := Lib.hid hT
  have HN := Lib.hid hT1
  have HE := Lib.hid (And.intro hE0 hE1)
  clear tx fx r0 r1 fr f5 r5 hsz hsx hT hT1 hlt h hP hop hE0 hE1 R5
  go_enter_defers Tryz.func15, Tryz.ntmps15
  go_wp2_with fail
  generalize (((w.alloc (.cells #[.bool ng, .slice (some ⟨lb, 0, none⟩) n cap, .int .i64 E] 24)).alloc (.cells #[.bool false, .slice none 0 0, .int .i64 0] 24)).alloc (.cells #[.int .i64 0] 32)).alloc (.cells #[.bool ng, .slice (some ⟨lb, 0, none⟩) n cap, .int .i64 E] 24) = w0 at F0 R0 R1 HOP ⊢
  refine (HOP.out).mono ?_
  rintro en w1 ⟨ob, p0, v0, rfl, o1, o2, o3, k1, k2, k4⟩
  have y0 := k1.cell 0
  have y1 := k1.cell 1
  have z0 := k1.free 0
  have z1 := k1.free 1
  have HNG := Lib.hid (intAbs_same p0 v0 ng N w1.drew (k2.keep (Fr.refl w1 None).drew (fun x => x) (fun _ _ x => x)))
  have hR0 := R0.out.lt
  have hR1 := R1.out.lt
  have HL := Lib.hid (show w0.heap.size ≤ ob ∧ ob < p0 ∧ w.heap.size + 1 < w0.heap.size ∧ w.heap.size + 1 + 1 < w0.heap.size from ⟨o1, o2, hR0, hR1⟩)
  have K1 := Lib.hid k1
  have K4 := Lib.hid k4
  clear k1 k2 k4 o1 o2 o3 hR0 hR1
  go_wp2_with fail
  refine wp_region_noPanic ?_
  go_region_with (go_at_call 38; refine (HNG.out).mono ?_; rintro e w2 ⟨rfl, n2, n3⟩; have NN := Lib.hid (And.intro n2 (Fr.undrew n3)); clear n2 n3)
  all_goals
    refine NoPanic.normal ?_
    have q1 : w0.heap.size ≤ p0 := by have := HL.out; omega
    have k1 := K1.out.keep NN.out.2 (fun e => by have := HL.out; unfold Mem.One at e; omega)
    have y0 := k1.cell 0
    have y1 := k1.cell 1
    have fw := (F0.out.trans K4.out (fun _ h => h) (fun _ _ h => h)).trans NN.out.2 (fun _ h => h) (fun x hx e => by have := F0.out.size; unfold Mem.One at e; omega)
    have HTO := Lib.hid (told_all p0 v0 false N T E w2 (by omega) HN.out (by have := HE.out.1; omega) (by have := HE.out.2; omega) NN.out.1 (HT.out.keep fw))
    have B4 := Lib.hid fw
    have R2 := Lib.hid ((R0.out.keep K4.out (fun x => x)).keep NN.out.2 (fun e => by have := HL.out; unfold Mem.One at e; omega))
    have R3 := Lib.hid ((R1.out.keep K4.out (fun x => x)).keep NN.out.2 (fun e => by have := HL.out; unfold Mem.One at e; omega))
    clear k1 fw q1
    go_wp2_with fail
    refine (HTO.out).mono ?_
    rintro en w3 ⟨fx, ⟨hz0, rfl⟩ | ⟨k, tz, ⟨k1, k2, y, rfl, hy⟩ | ⟨k1, rfl⟩⟩⟩
    · have r2 := R2.out.keep fx (fun x => x)
      have c0 := r2.cell 0
      have c1 := r2.cell 1
      have c2 := r2.cell 2
      have d0 := r2.free 0
      have d1 := r2.free 1
      have d2 := r2.free 2
      have r3 := R3.out.keep fx (fun x => x)
      have e0 := r3.cell 0
      have g0 := r3.free 0
      have FX := Lib.hid (B4.out.trans fx (fun _ h => h) (fun _ _ h => h))
      have R4 := Lib.hid r2
      have R5 := Lib.hid r3
      have HZ0 := Lib.hid hz0
      clear fx r2 r3 hz0
      unfold zeroN
      go_wp2_with fail
      obtain ⟨ay, ry, fy⟩ := out_zero (R := w.heap.size + 1) (by omega) FX.out R4.out R5.out
      generalize (((w3.setCell ⟨w.heap.size + 1, 0, none⟩ (.bool false)).setCell ⟨w.heap.size + 1, 1, none⟩ (.slice none 0 0)).setCell ⟨w.heap.size + 1, 2, none⟩ (.int .i64 0)).setCell ⟨w.heap.size + 1 + 1, 0, none⟩ (.int .i64 0) = wy at ay ry fy ⊢
      refine leaves_cons (f := 27) (args := #[.pointer (some ⟨w.heap.size + 1 + 1, 0, none⟩)]) (by simp) (by simp [go_sem]) ?_
      refine (caught_idle ⟨w.heap.size + 1 + 1, 0, none⟩ wy).mono ?_
      rintro en u' w9 ⟨rfl, rfl, rfl⟩
      exact ans_end rfl rfl rfl ay ry ⟨fy, Or.inl ⟨HZ0.out, rfl⟩⟩
    · obtain ⟨xa, xn, xc, rfl⟩ := hy.shape
      have r2 := R2.out.keep fx (fun x => x)
      have c0 := r2.cell 0
      have c1 := r2.cell 1
      have c2 := r2.cell 2
      have d0 := r2.free 0
      have d1 := r2.free 1
      have d2 := r2.free 2
      have r3 := R3.out.keep fx (fun x => x)
      have e0 := r3.cell 0
      have g0 := r3.free 0
      have FX := Lib.hid (B4.out.trans fx (fun _ h => h) (fun _ _ h => h))
      have Y := Lib.hid (And.intro tz (And.intro k1 (And.intro k2 (hy.low B4.out.size))))
      have R4 := Lib.hid r2
      have R5 := Lib.hid r3
      clear fx r2 r3 tz k1 k2 hy
      go_wp2_with fail
      obtain ⟨ay, ry, xy, fy⟩ := out_world (a := .bool (false)) (b := .slice xa xn xc) (c := .int .i64 (E + (k : Int))) (R := w.heap.size + 1) (by omega) FX.out Y.out.2.2.2 R4.out R5.out
      generalize (((w3.setCell ⟨w.heap.size + 1, 0, none⟩ (.bool (false))).setCell ⟨w.heap.size + 1, 1, none⟩ (.slice xa xn xc)).setCell ⟨w.heap.size + 1, 2, none⟩ (.int .i64 (E + (k : Int)))).setCell ⟨w.heap.size + 1 + 1, 0, none⟩ (.int .i64 0) = wy at ay ry xy fy ⊢
      refine leaves_cons (f := 27) (args := #[.pointer (some ⟨w.heap.size + 1 + 1, 0, none⟩)]) (by simp) (by simp [go_sem]) ?_
      refine (caught_idle ⟨w.heap.size + 1 + 1, 0, none⟩ wy).mono ?_
      rintro en u' w9 ⟨rfl, rfl, rfl⟩
      exact ans_end rfl rfl rfl ay ry ⟨fy, Or.inr ⟨k, Y.out.1, Or.inl ⟨Y.out.2.1, Y.out.2.2.1, _, rfl, xy⟩⟩⟩
    · have FX := Lib.hid (B4.out.trans fx (fun _ h => h) (fun _ _ h => h))
      have R4 := Lib.hid (R2.out.keep fx (fun x => x))
      have R5 := Lib.hid (R3.out.keep fx (fun x => x))
      have K := Lib.hid (And.intro tz k1)
      clear fx tz k1
      unfold gaveUp
      go_wp2_with fail
      refine leaves_cons (f := 27) (args := #[.pointer (some ⟨w.heap.size + 1 + 1, 0, none⟩)]) (by simp) (by simp [go_sem]) ?_
      refine (caught_panicking (w.heap.size + 1 + 1) _ 0 2 [] w3 R5.out).mono ?_
      rintro en u' w9 ⟨rfl, rfl, rfl⟩
      obtain ⟨ay, ry, fy⟩ := out_caught (k := 2) (R := w.heap.size + 1) (by omega) FX.out R4.out R5.out
      exact ans_end rfl rfl rfl ay ry ⟨fy, Or.inr ⟨k, K.out.1, Or.inr ⟨K.out.2, rfl⟩⟩⟩

end Go.Proofs.YtgmebioogkmfgaaGreatDoor
