/- open, times, Scale, Mul of plumb/dyadic at any numbers. Condition: it stands in each fact. -/
import Derived.Test.YtgphmlllngichaaGreatDoorQ5
import Derived.Test.YtgphmlllngichaaGreatDoorQ6
import Derived.Deep.RegionHeld3
namespace Go.Proofs.YtgphmlllngichaaGreatDoor
open Go.RowKit Go.Pt Go.Mem

set_option maxRecDepth 100000 in
set_option maxHeartbeats 4000000 in
theorem whole_nil (w : World) : Calls Tryz.prog 15 #[.bool false, .slice none 0 0] w (NewPost false 0 w) := by
  have P := Lib.hid (new_zero w)
  go_enter Tryz.func15, Tryz.ntmps15
  go_wp2_with fail
  generalize w.alloc (.cells #[.bool false, .slice none 0 0] 61) = w0 at P ⊢
  go_loopw [10] (fun i wr => i = .int .i64 0 ∧ w0 = wr) (fun _ _ => 0)
  case atStart => exact ⟨rfl, rfl⟩
  case round =>
    obtain ⟨rfl, rfl⟩ := hrel
    go_wp2_with fail
    go_ret
    exact P.out

theorem whole_num {w : World} {x : Value} {neg : Bool} {A : Nat} {E : Int} (hx : NumV w x neg A E) :
    ∃ a n c, x = .agg #[.bool neg, .slice a n c, .int .i64 E] ∧ ∀ W, Fr w W None → Calls Tryz.prog 15 #[.bool neg, .slice a n c] W (NewPost neg A W) := by
  rcases hx.cases with ⟨rfl, rfl, rfl, rfl⟩ | ⟨hA, ho, e1, e2, b, n, cap, rfl, hn, hc, hb, hd, hdv, hx⟩
  · exact ⟨_, _, _, rfl, fun W _ => whole_nil W⟩
  · refine ⟨_, _, _, rfl, fun W f => ?_⟩
    have := whole_pos b cap n (dgt A) neg W hn hd hc (Nat.lt_of_lt_of_le hb f.size) (fun j hj => by rw [f.cell (p := ⟨b, j, none⟩) hb (fun x => x)]; exact hx j hj)
    rw [hdv] at this
    exact this

/-- What open has laid of the first i, no two in one place. -/
def OqInv (ob n : Nat) (ng : Nat → Bool) (A : Nat → Nat) (E : Nat → Int) (i : Nat) (w wr : World) : Prop :=
  ∃ (ps : Nat → Nat) (pv : Nat → Value) (cs : Array Value), At wr ob cs 41 ∧ cs.size = n * 2 ∧
    (∀ q, q < i → cs[q * 2]? = some (.pointer (some ⟨ps q, 0, none⟩)) ∧ cs[q * 2 + 1]? = some (.int .i64 (E q)) ∧ IntV wr (ps q) (pv q) (ng q) (A q) ∧ ob < ps q ∧ ∀ b, Blk (pv q) b → ob < b) ∧ (∀ q r, q < r → r < i → ps q ≠ ps r) ∧ Fr w wr None

def OqPost (n : Nat) (ng : Nat → Bool) (A : Nat → Nat) (E : Nat → Int) (w : World) (en : Ending) (w' : World) : Prop :=
  ∃ ob, en = .returned (.slice (some ⟨ob, 0, none⟩) n n) ∧ w.heap.size ≤ ob ∧ OqInv ob n ng A E n w w'

theorem OqInv.step {ob n i p : Nat} {ng : Nat → Bool} {A : Nat → Nat} {E : Nat → Int} {w wr w2 : World} {pv : Value} (h : OqInv ob n ng A E i w wr) (hi : i < n) (hw : w.heap.size ≤ ob) (f : Fr wr w2 None) (hp : IntV w2 p pv (ng i) (A i)) (h1 : ob < p) (h2 : ∀ b, Blk pv b → ob < b) (h3 : wr.heap.size ≤ p) :
    OqInv ob n ng A E (i + 1) w ((w2.setCell ⟨ob, i * 2, none⟩ (.pointer (some ⟨p, 0, none⟩))).setCell ⟨ob, i * 2 + 1, none⟩ (.int .i64 (E i))) := by
  obtain ⟨ps, pvs, cs, k1, k2, k3, k5, k4⟩ := h
  have fz : Fr w2 ((w2.setCell ⟨ob, i * 2, none⟩ (.pointer (some ⟨p, 0, none⟩))).setCell ⟨ob, i * 2 + 1, none⟩ (.int .i64 (E i))) (One ob) :=
    ((Fr.refl w2 (One ob)).setCell (p := ⟨ob, i * 2, none⟩) (Or.inl rfl) _).setCell (p := ⟨ob, i * 2 + 1, none⟩) (Or.inl rfl) _
  refine ⟨fun q => if q = i then p else ps q, fun q => if q = i then pv else pvs q, _, ((k1.keep f (fun x => x)).put (i * 2) (.pointer (some ⟨p, 0, none⟩))).put (i * 2 + 1) (.int .i64 (E i)), by rw [Array.size_setIfInBounds, Array.size_setIfInBounds]; exact k2, fun q hq => ?_,
    fun q r hqr hr => ?_, (k4.trans f (fun _ h => h) (fun _ _ h => h)).trans fz (fun _ h => h) (fun x hx h => by unfold Mem.One at h; omega)⟩
  · rw [Array.getElem?_setIfInBounds, Array.getElem?_setIfInBounds, Array.getElem?_setIfInBounds, Array.getElem?_setIfInBounds, Array.size_setIfInBounds]
    by_cases e : q = i
    · subst e
      rw [if_neg (by omega), if_pos rfl, if_pos (by omega), if_pos rfl, if_pos (by omega)]
      simp only [eq_self, if_true, true_and]
      exact ⟨ hp.keep fz (fun e => by unfold Mem.One at e; omega) (fun b hb e => by have := h2 b hb; unfold Mem.One at e; omega), h1, h2⟩
    · rw [if_neg (by omega), if_neg (by omega), if_neg (by omega), if_neg (by omega)]
      simp only [e, if_false]
      obtain ⟨g1, g2, g3, g4, g5⟩ := k3 q (by omega)
      exact ⟨g1, g2, (g3.keep f (fun x => x) (fun _ _ x => x)).keep fz (fun e => by unfold Mem.One at e; omega) (fun b hb e => by have := g5 b hb; unfold Mem.One at e; omega), g4, g5⟩
  · have e : q ≠ i := by omega
    simp only [e, if_false]
    by_cases c : r = i
    · simp only [c, if_true]
      obtain ⟨_, _, g3, _, _⟩ := k3 q (by omega)
      have := g3.1.lt
      omega
    · simp only [c, if_false]
      exact k5 q r hqr (by omega)

theorem OqInv.room {ob n i : Nat} {ng : Nat → Bool} {A : Nat → Nat} {E : Nat → Int} {w wr w2 : World} (h : OqInv ob n ng A E i w wr) (hi : i < n) (f : Fr wr w2 None) :
    ∃ y0 y1, w2.cell? ⟨ob, i * 2, none⟩ = some y0 ∧ w2.cell? ⟨ob, i * 2 + 1, none⟩ = some y1 ∧ w2.frozen? ⟨ob, i * 2, none⟩ = false ∧ w2.frozen? ⟨ob, i * 2 + 1, none⟩ = false := by
  obtain ⟨ps, pvs, cs, k1, k2, k3, k5, k4⟩ := h
  have k := k1.keep f (fun x => x)
  exact ⟨cs[i * 2]'(by omega), cs[i * 2 + 1]'(by omega), by rw [k.cell]; exact Array.getElem?_eq_getElem _, by rw [k.cell]; exact Array.getElem?_eq_getElem _, k.free _, k.free _⟩

set_option maxRecDepth 100000 in
set_option maxHeartbeats 4000000 in
theorem open_any (b n : Nat) (xs : Nat → Value) (ng : Nat → Bool) (A : Nat → Nat) (E : Nat → Int) (cs : Array Value) (w : World) (hn : n ≤ 1000) (hx : ∀ i, i < n → NumV w (xs i) (ng i) (A i) (E i))
    (hb : At w b cs 24) (hcs : ∀ i, i < n → ∃ v, xs i = .agg #[.bool (ng i), v, .int .i64 (E i)] ∧ cs[i * 3]? = some (.bool (ng i)) ∧ cs[i * 3 + 1]? = some v ∧ cs[i * 3 + 2]? = some (.int .i64 (E i))) :
    Calls Tryz.prog 12 #[.slice (some ⟨b, 0, none⟩) n n] w (OqPost n ng A E w) := by
  obtain ⟨ms, hms, hmk⟩ := run_mkE n (by omega) w
  have I : Hid (OqInv w.heap.size n ng A E 0 w (w.alloc (.cells ms 41))) :=
    Lib.hid ⟨fun _ => 0, fun _ => .bool false, ms, At.alloc w _ _, hms, fun q hq => by omega, fun q r _ hr => by omega, (Fr.refl w None).alloc _⟩
  have HX := Lib.hid (And.intro hx (And.intro hb hcs))
  clear hx hb hcs hms
  go_enter Tryz.func12, Tryz.ntmps12
  go_wp2_with fail
  clear hmk
  generalize w.alloc (.cells ms 41) = w0 at I ⊢
  go_loopw [11] (fun ix wr => ∃ i : Nat, i ≤ n ∧ ix = .int .i64 (i : Int) ∧ OqInv w.heap.size n ng A E i w wr) (fun ix _ => n - (intOf ix).toNat)
  case atStart => exact ⟨0, Nat.zero_le _, rfl, I.out⟩
  case round =>
    obtain ⟨i, hi, rfl, hr⟩ := hrel
    have HR := Lib.hid hr
    clear hr
    by_cases c : i < n
    · have i0 : (i : Int) < (n : Int) := by omega
      have fr : Fr w wr None := by obtain ⟨_, _, _, _, _, _, _, f⟩ := HR.out; exact f
      obtain ⟨v, hxi, k0, k1, k2⟩ := HX.out.2.2 i c
      have hnum := (HX.out.1 i c).keep fr
      have hbr := HX.out.2.1.keep fr (fun x => x)
      obtain ⟨da, dn, dcap, hxe, hwhole⟩ := whole_num hnum
      rw [hxi] at hxe
      obtain rfl : v = .slice da dn dcap := by injection hxe with h; have := congrArg (fun a : Array Value => a[1]?) h; simpa using this
      have s0 : wr.cell? ⟨b, i * 3, none⟩ = some (.bool (ng i)) := by rw [hbr.cell]; exact k0
      have s1 : wr.cell? ⟨b, i * 3 + 1, none⟩ = some (.slice da dn dcap) := by rw [hbr.cell]; exact k1
      have s2 : wr.cell? ⟨b, i * 3 + 2, none⟩ = some (.int .i64 (E i)) := by rw [hbr.cell]; exact k2
      clear hxe k0 k1 k2 hbr
      obtain ⟨t0, fa⟩ := box_at wr (.bool (ng i)) (.slice da dn dcap) (.int .i64 (E i)) 24
      have hval := valid_num _ (ng i) (A i) (E i) _ (hnum.keep fa)
      rw [hxi] at hval
      have hmid : ∀ w1, Fr (wr.alloc (.cells #[.bool (ng i), .slice da dn dcap, .int .i64 (E i)] 24)) w1 None → Calls Tryz.prog 15 #[.bool (ng i), .slice da dn dcap] w1 (NewPost (ng i) (A i) w1) := fun w1 f1 => hwhole w1 (fa.trans f1 (fun _ h => h) (fun _ _ h => h))
      have hob : w.heap.size < wr.heap.size := by obtain ⟨_, _, _, k, _⟩ := HR.out; exact k.lt
      have HM := Lib.hid hmid
      have HV := Lib.hid hval
      have T0 := Lib.hid t0
      have FA := Lib.hid fa
      clear hmid hval t0 fa hwhole hnum fr hxi
      go_wp2_with fail
      generalize hbv : wr.heap.size = bx at T0 hob ⊢
      generalize wr.alloc (.cells #[.bool (ng i), .slice da dn dcap, .int .i64 (E i)] 24) = wa at HM HV T0 FA ⊢
      refine (HV.out).mono ?_
      rintro en w1 ⟨rfl, f1⟩
      have HW := Lib.hid (HM.out w1.drew f1.drew)
      have t1 := T0.out.keep f1 (fun x => x)
      have c0 := t1.cell 0
      have c1 := t1.cell 1
      have c2 := t1.cell 2
      have T1 := Lib.hid t1
      have F1 := Lib.hid (FA.out.trans f1 (fun _ h => h) (fun _ _ h => h))
      clear t1 f1 HM HV s0 s1 s2
      go_wp2_with fail
      go_region_with (go_at_call 15; refine (HW.out).mono ?_; rintro e w2 ⟨p, pv, rfl, b1, b2, b3, b4⟩; replace b4 := Fr.undrew b4; have t2 := T1.out.keep b4 (fun x => x); have e2 := t2.cell 2; obtain ⟨y0, y1, g0, g1, g2, g3⟩ := (HR.out).room c (F1.out.trans b4 (fun _ h => h) (fun _ _ h => h)); have BB := Lib.hid (And.intro b1 (And.intro b2 (And.intro b3 b4))); clear b1 b2 b3 b4 t2)
      all_goals
        have hb2 : w1.heap.size ≤ p := BB.out.2.1
        have hsz := F1.out.size
        have R : Hid (OqInv w.heap.size n ng A E (i + 1) w ((w2.setCell ⟨w.heap.size, i * 2, none⟩ (.pointer (some ⟨p, 0, none⟩))).setCell ⟨w.heap.size, i * 2 + 1, none⟩ (.int .i64 (E i)))) :=
          Lib.hid ((HR.out).step c (Nat.le_refl _) (F1.out.trans BB.out.2.2.2 (fun _ h => h) (fun _ _ h => h)) BB.out.1 (by omega) (fun q hq => by have h3 : w1.heap.size ≤ q := BB.out.2.2.1 q hq; omega) (by omega))
        clear e2 g0 g1 g2 g3 c0 c1 c2 hb2 hsz
        generalize (w2.setCell ⟨w.heap.size, i * 2, none⟩ (.pointer (some ⟨p, 0, none⟩))).setCell ⟨w.heap.size, i * 2 + 1, none⟩ (.int .i64 (E i)) = wz at R ⊢
        go_wp2_with fail
        go_roundw
        case rel => exact ⟨i + 1, by omega, by push_cast; rfl, R.out⟩
        case measure => simp [intOf]; omega
    · obtain rfl : i = n := by omega
      go_wp2_with fail
      go_ret
      exact ⟨_, rfl, Nat.le_refl _, HR.out⟩
end Go.Proofs.YtgphmlllngichaaGreatDoor

namespace Go.Proofs.YtgphmlllngichaaGreatDoor
open Go.RowKit Go.Pt Go.Mem

theorem mul_at {wa W : World} {z p q A : Nat} {vp vq : Value} {n0 : Bool} (hne : p ≠ q) (h0 : A = 0 → n0 = false) (hA : A < 2 ^ (64 * 30)) (hF : Fr wa W None) (hz : Shell W z (.slice none 0 0) false) (hn : wa.heap.size ≤ z) (hp : IntV wa p vp n0 A) (hq : IntV wa q vq false 1) :
    Calls Tryz.prog 34 #[.pointer (some ⟨z, 0, none⟩), .pointer (some ⟨p, 0, none⟩), .pointer (some ⟨q, 0, none⟩)] W (AddAt wa z n0 A) := by
  refine (intMul z p q vp vq n0 A W hne h0 hA ⟨hz, Or.inl ⟨rfl, rfl⟩⟩ (hp.keep hF (fun x => x) (fun _ _ x => x)) (hq.keep hF (fun x => x) (fun _ _ x => x))).mono ?_
  rintro e w2 ⟨rfl, v, h1, h2, h3⟩
  have nb : ∀ b, ¬ Blk (.slice none 0 0) b := fun b h => by obtain ⟨_, _, h⟩ := h; cases h
  exact ⟨rfl, hF.trans h3 (fun _ h => h) (fun x hx h => h.elim (fun h => by omega) (nb x)), v, h1⟩

theorem box2 (w : World) (a b : Value) (t : Nat) : At (w.alloc (.cells #[a, b] t)) w.heap.size #[a, b] t ∧ Fr w (w.alloc (.cells #[a, b] t)) None := ⟨At.alloc w _ _, (Fr.refl w None).alloc _⟩

/-- The cells that times reads. -/
def TmAt (B p q : Nat) (e0 e1 : Int) (w : World) : Prop :=
  At w B #[.pointer (some ⟨p, 0, none⟩), .int .i64 e0] 41 ∧ At w (B + 1) #[.pointer (some ⟨q, 0, none⟩), .int .i64 e1] 41 ∧ At w (B + 2) #[.pointer none, .int .i64 0] 41
theorem tm_at (w : World) (p q : Nat) (e0 e1 : Int) : TmAt w.heap.size p q e0 e1 (((w.alloc (.cells #[.pointer (some ⟨p, 0, none⟩), .int .i64 e0] 41)).alloc (.cells #[.pointer (some ⟨q, 0, none⟩), .int .i64 e1] 41)).alloc (.cells #[.pointer none, .int .i64 0] 41)) ∧
    Fr w (((w.alloc (.cells #[.pointer (some ⟨p, 0, none⟩), .int .i64 e0] 41)).alloc (.cells #[.pointer (some ⟨q, 0, none⟩), .int .i64 e1] 41)).alloc (.cells #[.pointer none, .int .i64 0] 41)) None := by
  obtain ⟨a0, f0⟩ := box2 w (.pointer (some ⟨p, 0, none⟩)) (.int .i64 e0) 41
  generalize hw1 : w.alloc (.cells #[.pointer (some ⟨p, 0, none⟩), .int .i64 e0] 41) = w1 at a0 f0 ⊢
  have s1 : w1.heap.size = w.heap.size + 1 := by rw [← hw1]; simp
  obtain ⟨a1, f1⟩ := box2 w1 (.pointer (some ⟨q, 0, none⟩)) (.int .i64 e1) 41
  generalize hw2 : w1.alloc (.cells #[.pointer (some ⟨q, 0, none⟩), .int .i64 e1] 41) = w2 at a1 f1 ⊢
  have s2 : w2.heap.size = w.heap.size + 2 := by rw [← hw2]; simp [s1]
  obtain ⟨a2, f2⟩ := box2 w2 (.pointer none) (.int .i64 0) 41
  rw [s2] at a2
  rw [s1] at a1
  exact ⟨⟨(a0.keep f1 (fun x => x)).keep f2 (fun x => x), a1.keep f2 (fun x => x), a2⟩, (f0.trans f1 (fun _ h => h) (fun _ _ h => h)).trans f2 (fun _ h => h) (fun _ _ h => h)⟩
theorem TmAt.keep {B p q : Nat} {e0 e1 : Int} {w w' : World} (h : TmAt B p q e0 e1 w) (f : Fr w w' None) : TmAt B p q e0 e1 w' := ⟨h.1.keep f (fun x => x), h.2.1.keep f (fun x => x), h.2.2.keep f (fun x => x)⟩

set_option maxRecDepth 100000 in
set_option maxHeartbeats 4000000 in
theorem times_ok (p q : Nat) (vp vq : Value) (n0 : Bool) (A : Nat) (e0 e1 : Int) (w : World) (hne : p ≠ q) (h0 : A = 0 → n0 = false) (hA : A < 2 ^ (64 * 30)) (b0 : -2000000 ≤ e0) (b1 : e0 ≤ 2000000) (b2 : -2000000 ≤ e1) (b3 : e1 ≤ 2000000)
    (hp : IntV w p vp n0 A) (hq : IntV w q vq false 1) :
    Calls Tryz.prog 16 #[.agg #[.pointer (some ⟨p, 0, none⟩), .int .i64 e0], .agg #[.pointer (some ⟨q, 0, none⟩), .int .i64 e1]] w (PlusPost n0 A (e0 + e1) w) := by
  obtain ⟨ht, hf⟩ := tm_at w p q e0 e1
  have T := Lib.hid (And.intro ht (And.intro hf (And.intro (hp.keep hf (fun x => x) (fun _ _ x => x)) (hq.keep hf (fun x => x) (fun _ _ x => x)))))
  have HA := Lib.hid (And.intro hne (And.intro h0 hA))
  clear ht hf hp hq hne h0 hA
  go_enter Tryz.func16, Tryz.ntmps16
  go_wp2_with fail
  generalize ((w.alloc (.cells #[.pointer (some ⟨p, 0, none⟩), .int .i64 e0] 41)).alloc (.cells #[.pointer (some ⟨q, 0, none⟩), .int .i64 e1] 41)).alloc (.cells #[.pointer none, .int .i64 0] 41) = w0 at T ⊢
  generalize hB : w.heap.size = B at T ⊢
  have c0 : w0.cell? ⟨B, 0, none⟩ = some (.pointer (some ⟨p, 0, none⟩)) := T.out.1.1.cell 0
  have c1 : w0.cell? ⟨B, 1, none⟩ = some (.int .i64 e0) := T.out.1.1.cell 1
  have d0 : w0.cell? ⟨B + 1, 0, none⟩ = some (.pointer (some ⟨q, 0, none⟩)) := T.out.1.2.1.cell 0
  have d1 : w0.cell? ⟨B + 1, 1, none⟩ = some (.int .i64 e1) := T.out.1.2.1.cell 1
  have nb0 : ¬ (B = B + 1 + 1) := by omega
  have nb1 : ¬ (B + 1 + 1 = B) := by omega
  have nb2 : ¬ (B + 1 = B + 1 + 1) := by omega
  have nb3 : ¬ (B + 1 + 1 = B + 1) := by omega
  go_wp2_with fail
  go_region_held3 (fun w' => w'.cell? ⟨B, 0, none⟩ = some (.pointer (some ⟨p, 0, none⟩)) ∧ w'.cell? ⟨B, 1, none⟩ = some (.int .i64 e0) ∧ w'.cell? ⟨B + 1, 0, none⟩ = some (.pointer (some ⟨q, 0, none⟩)) ∧ w'.cell? ⟨B + 1, 1, none⟩ = some (.int .i64 e1))
    (first
      | go_keep
      | exact ⟨h3.1.cell 0, h3.1.cell 1, h3.2.1.cell 0, h3.2.1.cell 1⟩
      | (dsimp only; refine ⟨?_, ?_, ?_, ?_⟩ <;> go_keep)
      | (try dsimp only
         repeat' apply And.intro
         all_goals go_keep))
    ((refine (mul_at HA.out.1 HA.out.2.1 HA.out.2.2 ((Fr.refl w0 None).drew.alloc _) (alloc_shell _ _ _) (Nat.le_refl _) T.out.2.2.1 T.out.2.2.2).mono ?_; rintro en w3 ⟨rfl, f3, v3, hv3⟩; have h3 := T.out.1.keep f3; have g0 := h3.2.2.cell 0; have g1 := h3.2.2.cell 1; have k0 := h3.2.2.free 0; have k1 := h3.2.2.free 1))
  have hw : IntKind.i64.wrap (e0 + e1) = e0 + e1 := IntWalk.i64_in _ (by omega)
  rw [hw]
  obtain ⟨ay, fy⟩ := put2 h3.2.2 (.pointer (some ⟨w0.heap.size, 0, none⟩)) (.int .i64 (e0 + e1))
  have P : Hid (PlusPost n0 A (e0 + e1) w (.returned (.agg #[.pointer (some ⟨w0.heap.size, 0, none⟩), .int .i64 (e0 + e1)])) ((w3.setCell ⟨B + 2, 0, none⟩ (.pointer (some ⟨w0.heap.size, 0, none⟩))).setCell ⟨B + 2, 1, none⟩ (.int .i64 (e0 + e1)))) := by
    have hlt := T.out.1.2.2.lt
    have rz := h3.2.2
    refine Lib.hid ⟨_, v3, rfl, hv3.keep fy (fun e => ?_) (fun b hb e => ?_), (T.out.2.1.trans f3 (fun _ h => h) (fun _ _ h => h)).trans fy (fun _ h => h) (fun x hx h => by unfold Mem.One at h; omega)⟩
    · unfold Mem.One at e
      have : w0.drew.heap.size = w0.heap.size := rfl
      omega
    · unfold Mem.One at e
      subst e
      obtain ⟨l, c, rfl⟩ := hb
      rcases hv3.2 with ⟨h, _⟩ | ⟨b', len, cap, l', h, hr, _⟩
      · cases h
      · cases h
        have := rz.symm.trans hr.1
        injection this with this
        injection this with _ h2
        revert h2
        decide
  change Exit.then _ _ Exit.normal _ ((w3.setCell ⟨B + 2, 0, none⟩ (.pointer (some ⟨w0.heap.size, 0, none⟩))).setCell ⟨B + 2, 1, none⟩ (.int .i64 (e0 + e1)))
  generalize (w3.setCell ⟨B + 2, 0, none⟩ (.pointer (some ⟨w0.heap.size, 0, none⟩))).setCell ⟨B + 2, 1, none⟩ (.int .i64 (e0 + e1)) = wz at ay P ⊢
  clear c0 c1 d0 d1 g0 g1 k0 k1
  go_wp2_with fail
  refine bodyPost_ret (results_cell_row rfl _ _ _ _ _ _ _ rfl ay Tryz.underlying41 rfl (by kernel_rfl)) rfl ?_
  exact P.out
end Go.Proofs.YtgphmlllngichaaGreatDoor

namespace Go.Proofs.YtgphmlllngichaaGreatDoor
open Go.RowKit Go.Pt Go.Mem

theorem NumV.form0 {w : World} {x : Value} {neg : Bool} {A : Nat} {E : Int} (h : NumV w x neg A E) : ∃ a n c, x = .agg #[.bool neg, .slice a n c, .int .i64 E] := by
  rcases h.cases with ⟨_, rfl, rfl, rfl⟩ | ⟨_, ho, e1, e2, b, n, cap, rfl, _⟩
  · exact ⟨_, _, _, rfl⟩
  · exact ⟨_, _, _, rfl⟩

/-- open at two numbers. -/
theorem open_qtwo (b : Nat) (x y : Value) (nx ny : Bool) (Ax Ay : Nat) (Ex Ey : Int) (xa ya : Option Addr) (xn xc yn yc : Nat) (w : World) (hx : NumV w x nx Ax Ex) (hy : NumV w y ny Ay Ey)
    (ex : x = .agg #[.bool nx, .slice xa xn xc, .int .i64 Ex]) (ey : y = .agg #[.bool ny, .slice ya yn yc, .int .i64 Ey])
    (hb : At w b #[.bool nx, .slice xa xn xc, .int .i64 Ex, .bool ny, .slice ya yn yc, .int .i64 Ey] 24) :
    Calls Tryz.prog 12 #[.slice (some ⟨b, 0, none⟩) 2 2] w fun en w' => ∃ ob p0 p1 v0 v1, en = .returned (.slice (some ⟨ob, 0, none⟩) 2 2) ∧
      At w' ob #[.pointer (some ⟨p0, 0, none⟩), .int .i64 Ex, .pointer (some ⟨p1, 0, none⟩), .int .i64 Ey] 41 ∧ IntV w' p0 v0 nx Ax ∧ IntV w' p1 v1 ny Ay ∧ p0 ≠ p1 ∧ Fr w w' None := by
  refine (open_any b 2 (fun i => if i = 0 then x else y) (fun i => if i = 0 then nx else ny) (fun i => if i = 0 then Ax else Ay) (fun i => if i = 0 then Ex else Ey) _ w (by omega) (fun i hi => ?_) hb (fun i hi => ?_)).mono ?_
  · by_cases c : i = 0
    · simp only [c, if_true]; exact hx
    · simp only [c, if_false]; exact hy
  · by_cases c : i = 0
    · subst c
      exact ⟨_, ex, rfl, rfl, rfl⟩
    · obtain rfl : i = 1 := by omega
      exact ⟨_, ey, rfl, rfl, rfl⟩
  · rintro en w' ⟨ob, rfl, h1, ps, pv, cs, k1, k2, k3, k5, k4⟩
    obtain ⟨a1, a2, a3, _, _⟩ := k3 0 (by omega)
    obtain ⟨b1, b2, b3, _, _⟩ := k3 1 (by omega)
    have e := arr4 k2 a1 a2 b1 b2
    rw [e] at k1
    exact ⟨ob, _, _, _, _, rfl, k1, a3, b3, k5 0 1 (by omega) (by omega), k4⟩
theorem open_q1 (b : Nat) (x : Value) (nx : Bool) (Ax : Nat) (Ex : Int) (xa : Option Addr) (xn xc : Nat) (w : World) (hx : NumV w x nx Ax Ex)
    (ex : x = .agg #[.bool nx, .slice xa xn xc, .int .i64 Ex]) (hb : At w b #[.bool nx, .slice xa xn xc, .int .i64 Ex] 24) :
    Calls Tryz.prog 12 #[.slice (some ⟨b, 0, none⟩) 1 1] w fun en w' => ∃ ob p0 v0, en = .returned (.slice (some ⟨ob, 0, none⟩) 1 1) ∧ w.heap.size ≤ ob ∧ ob < p0 ∧ (∀ b, Blk v0 b → ob < b) ∧
      At w' ob #[.pointer (some ⟨p0, 0, none⟩), .int .i64 Ex] 41 ∧ IntV w' p0 v0 nx Ax ∧ Fr w w' None := by
  refine (open_any b 1 (fun _ => x) (fun _ => nx) (fun _ => Ax) (fun _ => Ex) _ w (by omega) (fun i hi => hx) hb (fun i hi => ?_)).mono ?_
  · obtain rfl : i = 0 := by omega
    exact ⟨_, ex, rfl, rfl, rfl⟩
  · rintro en w' ⟨ob, rfl, h1, ps, pv, cs, k1, k2, k3, k5, k4⟩
    obtain ⟨a1, a2, a3, a4, a5⟩ := k3 0 (by omega)
    have e := arr2 k2 a1 a2
    rw [e] at k1
    exact ⟨ob, _, _, rfl, h1, a4, a5, k1, a3, k4⟩

set_option maxRecDepth 100000 in
set_option maxHeartbeats 4000000 in
theorem scale_q (x : Value) (nx : Bool) (Ax : Nat) (Ex k : Int) (w : World) (hx : NumV w x nx Ax Ex) (hN : Ax < 2 ^ (64 * 30)) (hk0 : -4194304 ≤ k) (hk1 : k ≤ 4194304) (hE0 : -1048576 ≤ Ex + k) (hE1 : Ex + k ≤ 1000000) (hlow : Ax ≠ 0 → Ax % 18446744073709551616 ≠ 0) (hT : Tab w) :
    Calls Tryz.prog 5 #[x, .int .i64 k] w (AnsPost nx Ax (Ex + k) w) := by
  obtain ⟨xa, xn, xc, rfl⟩ := hx.form0
  obtain ⟨tx, fx⟩ := box_at w (.bool nx) (.slice xa xn xc) (.int .i64 Ex) 24
  have hsx : (w.alloc (.cells #[.bool nx, .slice xa xn xc, .int .i64 Ex] 24)).heap.size = w.heap.size + 1 := by simp
  obtain ⟨r0, r1, fr⟩ := res_at (w.alloc (.cells #[.bool nx, .slice xa xn xc, .int .i64 Ex] 24))
  rw [hsx] at r0 r1
  have hsz : (((w.alloc (.cells #[.bool nx, .slice xa xn xc, .int .i64 Ex] 24)).alloc (.cells #[.bool false, .slice none 0 0, .int .i64 0] 24)).alloc (.cells #[.int .i64 0] 26)).heap.size = w.heap.size + 1 + 1 + 1 := by simp
  have f5 := (Fr.refl (((w.alloc (.cells #[.bool nx, .slice xa xn xc, .int .i64 Ex] 24)).alloc (.cells #[.bool false, .slice none 0 0, .int .i64 0] 24)).alloc (.cells #[.int .i64 0] 26)) None).alloc (.cells #[.bool nx, .slice xa xn xc, .int .i64 Ex] 24)
  have r5 := At.alloc (((w.alloc (.cells #[.bool nx, .slice xa xn xc, .int .i64 Ex] 24)).alloc (.cells #[.bool false, .slice none 0 0, .int .i64 0] 24)).alloc (.cells #[.int .i64 0] 26)) #[.bool nx, .slice xa xn xc, .int .i64 Ex] 24
  rw [hsz] at r5
  have HX := Lib.hid hx
  have F0 := Lib.hid ((fx.trans fr (fun _ h => h) (fun _ _ h => h)).trans f5 (fun _ h => h) (fun _ _ h => h))
  have R0 := Lib.hid (r0.keep f5 (fun x => x))
  have R1 := Lib.hid (r1.keep f5 (fun x => x))
  have R5 := Lib.hid r5
  have HT := Lib.hid hT
  have HN := Lib.hid (And.intro hN hlow)
  clear tx fx r0 r1 fr f5 r5 hsz hsx hT hN hlow hx
  go_enter_defers Tryz.func5, Tryz.ntmps5
  go_wp2_with fail
  generalize (((w.alloc (.cells #[.bool nx, .slice xa xn xc, .int .i64 Ex] 24)).alloc (.cells #[.bool false, .slice none 0 0, .int .i64 0] 24)).alloc (.cells #[.int .i64 0] 26)).alloc (.cells #[.bool nx, .slice xa xn xc, .int .i64 Ex] 24) = w0 at F0 R0 R1 R5 ⊢
  refine (open_q1 _ _ nx Ax Ex xa xn xc w0 (HX.out.keep F0.out) rfl R5.out).mono ?_
  rintro en w1 ⟨ob, p0, v0, rfl, o1, o2, o3, k1, k2, k4⟩
  have y0 := k1.cell 0
  have y1 := k1.cell 1
  have z0 := k1.free 0
  have z1 := k1.free 1
  have emin : min (max k (-4194304)) 4194304 = k := by omega
  have fs : Fr w1 (w1.setCell ⟨ob, 1, none⟩ (.int .i64 (Ex + k))) (One ob) := (Fr.refl w1 (One ob)).setCell (p := ⟨ob, 1, none⟩) (Or.inl rfl) _
  have rs : At (w1.setCell ⟨ob, 1, none⟩ (.int .i64 (Ex + k))) ob #[.pointer (some ⟨p0, 0, none⟩), .int .i64 (Ex + k)] 41 := k1.put 1 (.int .i64 (Ex + k))
  have iv := k2.keep fs (fun e => by unfold Mem.One at e; omega) (fun b hb e => by have := o3 b hb; unfold Mem.One at e; omega)
  have hRlt := R0.out.lt
  have hR1lt := R1.out.lt
  have F1 := Lib.hid ((F0.out.trans k4 (fun _ h => h) (fun _ _ h => h)).trans fs (fun _ h => h) (fun x hx e => by have := F0.out.size; unfold Mem.One at e; omega))
  have R2 := Lib.hid ((R0.out.keep k4 (fun x => x)).keep fs (fun e => by unfold Mem.One at e; omega))
  have R3 := Lib.hid ((R1.out.keep k4 (fun x => x)).keep fs (fun e => by unfold Mem.One at e; omega))
  have RS := Lib.hid rs
  have IV := Lib.hid iv
  clear rs iv fs k1 k2 k4 o1 o2 o3 R0 R1 R5 hRlt hR1lt
  go_wp2_with fail
  generalize w1.setCell ⟨ob, 1, none⟩ (.int .i64 (Ex + k)) = w2 at F1 R2 R3 RS IV ⊢
  have ht := told_num p0 v0 nx Ax (Ex + k) w2 HN.out.1 HN.out.2 hE0 hE1 IV.out (HT.out.keep F1.out)
  refine ht.mono ?_
  clear ht
  rintro en w3 ⟨x, rfl, hx, fx⟩
  have X := Lib.hid hx
  obtain ⟨xg, xa', xn', xc', xe', rfl⟩ := hx.shape
  have r2 := R2.out.keep fx (fun x => x)
  have c0 := r2.cell 0
  have c1 := r2.cell 1
  have c2 := r2.cell 2
  have d0 := r2.free 0
  have d1 := r2.free 1
  have d2 := r2.free 2
  have r3 := R3.out.keep fx (fun x => x)
  have e0 := r3.cell 0
  have g0 := r3.free 0
  have FX := Lib.hid (F1.out.trans fx (fun _ h => h) (fun _ _ h => h))
  have R4 := Lib.hid r2
  have R5 := Lib.hid r3
  clear hx fx r2 r3
  go_wp2_with fail
  obtain ⟨ay, ry, xy, fy⟩ := ans_world (a := .bool xg) (b := .slice xa' xn' xc') (c := .int .i64 xe') (R := w.heap.size + 1) (by omega) FX.out X.out R4.out R5.out
  generalize (((w3.setCell ⟨w.heap.size + 1, 0, none⟩ (.bool xg)).setCell ⟨w.heap.size + 1, 1, none⟩ (.slice xa' xn' xc')).setCell ⟨w.heap.size + 1, 2, none⟩ (.int .i64 xe')).setCell ⟨w.heap.size + 1 + 1, 0, none⟩ (.int .i64 0) = wy at ay ry xy fy ⊢
  refine leaves_cons (f := 11) (args := #[.pointer (some ⟨w.heap.size + 1 + 1, 0, none⟩)]) (by simp) (by simp [go_sem]) ?_
  refine (caught_idle ⟨w.heap.size + 1 + 1, 0, none⟩ wy).mono ?_
  rintro en u' w9 ⟨rfl, rfl, rfl⟩
  exact ans_end rfl rfl rfl ay ry ⟨_, rfl, xy, fy⟩

set_option maxRecDepth 100000 in
set_option maxHeartbeats 4000000 in
theorem mulp_ok (x y : Value) (nx : Bool) (Ax : Nat) (Ex Ey : Int) (w : World) (hx : NumV w x nx Ax Ex) (hy : NumV w y false 1 Ey) (hN : Ax < 2 ^ (64 * 30)) (hE0 : -1048576 ≤ Ex + Ey) (hE1 : Ex + Ey ≤ 1000000) (hlow : Ax ≠ 0 → Ax % 18446744073709551616 ≠ 0) (hT : Tab w) :
    Calls Tryz.prog 7 #[x, y] w (AnsPost nx Ax (Ex + Ey) w) := by
  obtain ⟨h0, bx0, bx1⟩ : (Ax = 0 → nx = false) ∧ -2000000 ≤ Ex ∧ Ex ≤ 2000000 := by
    rcases hx.cases with ⟨rfl, rfl, rfl, _⟩ | ⟨h, _, e1, e2, _⟩
    · exact ⟨fun _ => rfl, by omega, by omega⟩
    · exact ⟨fun k => absurd k h, by omega, by omega⟩
  obtain ⟨by0, by1⟩ : -2000000 ≤ Ey ∧ Ey ≤ 2000000 := by
    obtain ⟨e1, e2, _⟩ := hy.form (by omega)
    omega
  obtain ⟨xa, xn, xc, rfl⟩ := hx.form0
  obtain ⟨ya, yn, yc, rfl⟩ := hy.form0
  obtain ⟨tx, fx⟩ := box_at w (.bool nx) (.slice xa xn xc) (.int .i64 Ex) 24
  have hsx : (w.alloc (.cells #[.bool nx, .slice xa xn xc, .int .i64 Ex] 24)).heap.size = w.heap.size + 1 := by simp
  obtain ⟨ty, fy⟩ := box_at (w.alloc (.cells #[.bool nx, .slice xa xn xc, .int .i64 Ex] 24)) (.bool false) (.slice ya yn yc) (.int .i64 Ey) 24
  rw [hsx] at ty
  have hsy : ((w.alloc (.cells #[.bool nx, .slice xa xn xc, .int .i64 Ex] 24)).alloc (.cells #[.bool false, .slice ya yn yc, .int .i64 Ey] 24)).heap.size = w.heap.size + 1 + 1 := by simp
  obtain ⟨r0, r1, fr⟩ := res_at ((w.alloc (.cells #[.bool nx, .slice xa xn xc, .int .i64 Ex] 24)).alloc (.cells #[.bool false, .slice ya yn yc, .int .i64 Ey] 24))
  rw [hsy] at r0 r1
  have HX := Lib.hid (And.intro hx hy)
  have hsz : ((((w.alloc (.cells #[.bool nx, .slice xa xn xc, .int .i64 Ex] 24)).alloc (.cells #[.bool false, .slice ya yn yc, .int .i64 Ey] 24)).alloc (.cells #[.bool false, .slice none 0 0, .int .i64 0] 24)).alloc (.cells #[.int .i64 0] 26)).heap.size = w.heap.size + 1 + 1 + 1 + 1 := by simp
  have f5 := (Fr.refl ((((w.alloc (.cells #[.bool nx, .slice xa xn xc, .int .i64 Ex] 24)).alloc (.cells #[.bool false, .slice ya yn yc, .int .i64 Ey] 24)).alloc (.cells #[.bool false, .slice none 0 0, .int .i64 0] 24)).alloc (.cells #[.int .i64 0] 26)) None).alloc (.cells #[.bool nx, .slice xa xn xc, .int .i64 Ex, .bool false, .slice ya yn yc, .int .i64 Ey] 24)
  have r5 := At.alloc ((((w.alloc (.cells #[.bool nx, .slice xa xn xc, .int .i64 Ex] 24)).alloc (.cells #[.bool false, .slice ya yn yc, .int .i64 Ey] 24)).alloc (.cells #[.bool false, .slice none 0 0, .int .i64 0] 24)).alloc (.cells #[.int .i64 0] 26)) #[.bool nx, .slice xa xn xc, .int .i64 Ex, .bool false, .slice ya yn yc, .int .i64 Ey] 24
  rw [hsz] at r5
  have F0 := Lib.hid (((fx.trans fy (fun _ h => h) (fun _ _ h => h)).trans fr (fun _ h => h) (fun _ _ h => h)).trans f5 (fun _ h => h) (fun _ _ h => h))
  have R0 := Lib.hid (r0.keep f5 (fun x => x))
  have R1 := Lib.hid (r1.keep f5 (fun x => x))
  have R5 := Lib.hid r5
  have HT := Lib.hid hT
  have HN := Lib.hid (And.intro hN (And.intro hlow h0))
  clear tx fx ty fy r0 r1 fr f5 r5 hsz hsx hsy hT hN hlow hx hy h0
  go_enter_defers Tryz.func7, Tryz.ntmps7
  go_wp2_with fail
  generalize ((((w.alloc (.cells #[.bool nx, .slice xa xn xc, .int .i64 Ex] 24)).alloc (.cells #[.bool false, .slice ya yn yc, .int .i64 Ey] 24)).alloc (.cells #[.bool false, .slice none 0 0, .int .i64 0] 24)).alloc (.cells #[.int .i64 0] 26)).alloc (.cells #[.bool nx, .slice xa xn xc, .int .i64 Ex, .bool false, .slice ya yn yc, .int .i64 Ey] 24) = w0 at F0 R0 R1 R5 ⊢
  refine (open_qtwo _ _ _ nx false Ax 1 Ex Ey xa ya xn xc yn yc w0 (HX.out.1.keep F0.out) (HX.out.2.keep F0.out) rfl rfl R5.out).mono ?_
  rintro en w1 ⟨ob, p0, p1, v0, v1, rfl, k1, k2, k3, k5, k4⟩
  have hpl := times_ok p0 p1 v0 v1 nx Ax Ex Ey w1.drew k5 HN.out.2.2 HN.out.1 bx0 bx1 by0 by1 (k2.drewN 1) (k3.drewN 1)
  have HP := Lib.hid hpl
  have F1 := Lib.hid (F0.out.trans k4.drew (fun _ h => h) (fun _ _ h => h))
  have R2 := Lib.hid (R0.out.keep k4.drew (fun x => x))
  have R3 := Lib.hid (R1.out.keep k4.drew (fun x => x))
  have K1 := Lib.hid (k1.keep (Fr.refl w1 None).drew (fun x => x))
  have y0 := k1.cell 0
  have y1 := k1.cell 1
  have y2 := k1.cell 2
  have y3 := k1.cell 3
  clear hpl k1 k2 k3 k4 k5 R0 R1 R5
  go_wp2_with fail
  go_still_tail 6, (by kernel_rfl)
  change wpList _ _ _ _ _ w1.drew
  clear y0 y1 y2 y3
  generalize w1.drew = w2 at HP F1 R2 R3 K1 ⊢
  have y0 := K1.out.cell 0
  have y1 := K1.out.cell 1
  have y2 := K1.out.cell 2
  have y3 := K1.out.cell 3
  go_wp2_with fail
  refine (HP.out).mono ?_
  rintro en w9 ⟨m, v, rfl, m1, m2⟩
  have ht := told_num m v nx Ax (Ex + Ey) w9 HN.out.1 HN.out.2.1 hE0 hE1 m1 (HT.out.keep (F1.out.trans m2 (fun _ h => h) (fun _ _ h => h)))
  have HTO := Lib.hid ht
  have M2 := Lib.hid m2
  clear ht m1 m2
  go_wp2_with fail
  refine (HTO.out).mono ?_
  rintro en w3 ⟨x, rfl, hx, fx⟩
  have X := Lib.hid hx
  obtain ⟨xg, xa', xn', xc', xe', rfl⟩ := hx.shape
  have fx2 := M2.out.trans fx (fun _ h => h) (fun _ _ h => h)
  have r2 := R2.out.keep fx2 (fun x => x)
  have c0 := r2.cell 0
  have c1 := r2.cell 1
  have c2 := r2.cell 2
  have d0 := r2.free 0
  have d1 := r2.free 1
  have d2 := r2.free 2
  have r3 := R3.out.keep fx2 (fun x => x)
  have e0 := r3.cell 0
  have g0 := r3.free 0
  have FX := Lib.hid (F1.out.trans fx2 (fun _ h => h) (fun _ _ h => h))
  have R4 := Lib.hid r2
  have R5 := Lib.hid r3
  clear hx fx fx2 r2 r3
  go_wp2_with fail
  obtain ⟨ay, ry, xy, fy⟩ := ans_world (a := .bool xg) (b := .slice xa' xn' xc') (c := .int .i64 xe') (R := w.heap.size + 1 + 1) (by omega) FX.out X.out R4.out R5.out
  generalize (((w3.setCell ⟨w.heap.size + 1 + 1, 0, none⟩ (.bool xg)).setCell ⟨w.heap.size + 1 + 1, 1, none⟩ (.slice xa' xn' xc')).setCell ⟨w.heap.size + 1 + 1, 2, none⟩ (.int .i64 xe')).setCell ⟨w.heap.size + 1 + 1 + 1, 0, none⟩ (.int .i64 0) = wy at ay ry xy fy ⊢
  refine leaves_cons (f := 11) (args := #[.pointer (some ⟨w.heap.size + 1 + 1 + 1, 0, none⟩)]) (by simp) (by simp [go_sem]) ?_
  refine (caught_idle ⟨w.heap.size + 1 + 1 + 1, 0, none⟩ wy).mono ?_
  rintro en u' w9 ⟨rfl, rfl, rfl⟩
  exact ans_end rfl rfl rfl ay ry ⟨_, rfl, xy, fy⟩
end Go.Proofs.YtgphmlllngichaaGreatDoor
