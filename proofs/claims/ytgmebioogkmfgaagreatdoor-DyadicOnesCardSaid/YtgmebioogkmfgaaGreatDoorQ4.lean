/- open of plumb/dyadic; a region that ends in a store. Condition: it stands in each fact. -/
import Derived.Test.YtgmebioogkmfgaaGreatDoorQ3
import Derived.Deep.RegionHeld3
import Derived.StillTailTactics
namespace Go.Proofs.YtgmebioogkmfgaaGreatDoor
open Go.RowKit Go.Pt Go.Mem

theorem infoE : (Tryz.prog.info? 62).map (fun i => (i.zero, i.size, i.bytes)) = some (some (.agg #[.pointer none, .int .i64 0]), 2, 16) := by kernel_rfl

/-- make of n structs. -/
theorem run_mkE (n : Nat) (hn : n ≤ 100000) (w : World) : ∃ cs : Array Value, cs.size = n * 2 ∧ (Instr.makeSlice 67 (.int .i64 (n : Int)) (.int .i64 (n : Int))).run Tryz.prog w = .ok (.slice (some ⟨w.heap.size, 0, none⟩) n n) (w.alloc (.cells cs 62)) := by
  obtain ⟨i0, hi, hz0, hz1, hz2⟩ := info_parts infoE
  have := run_make (P := Tryz.prog) w 67 62 i0 _ Tryz.underlying67 hi hz0 .i64 .i64 n n (by omega) (by omega) (by rw [hz2]; omega) (by omega)
  simp only [Int.toNat_natCast] at this
  rw [hz1] at this
  exact ⟨_, size_madeCells _ _, this⟩

/-- What open has laid of the first i. -/
def OpInv (ob n : Nat) (ng : Nat → Bool) (A : Nat → Nat) (E : Nat → Int) (i : Nat) (w wr : World) : Prop :=
  ∃ (ps : Nat → Nat) (pv : Nat → Value) (cs : Array Value), At wr ob cs 62 ∧ cs.size = n * 2 ∧
    (∀ q, q < i → cs[q * 2]? = some (.pointer (some ⟨ps q, 0, none⟩)) ∧ cs[q * 2 + 1]? = some (.int .i64 (E q)) ∧ IntV wr (ps q) (pv q) (ng q) (A q) ∧ ob < ps q ∧ ∀ b, Blk (pv q) b → ob < b) ∧ Fr w wr None

def OpenPost (n : Nat) (ng : Nat → Bool) (A : Nat → Nat) (E : Nat → Int) (w : World) (en : Ending) (w' : World) : Prop :=
  ∃ ob, en = .returned (.slice (some ⟨ob, 0, none⟩) n n) ∧ w.heap.size ≤ ob ∧ OpInv ob n ng A E n w w'

theorem OpInv.step {ob n i p : Nat} {ng : Nat → Bool} {A : Nat → Nat} {E : Nat → Int} {w wr w2 : World} {pv : Value} (h : OpInv ob n ng A E i w wr) (hi : i < n) (hw : w.heap.size ≤ ob) (f : Fr wr w2 None) (hp : IntV w2 p pv (ng i) (A i)) (h1 : ob < p) (h2 : ∀ b, Blk pv b → ob < b) :
    OpInv ob n ng A E (i + 1) w ((w2.setCell ⟨ob, i * 2, none⟩ (.pointer (some ⟨p, 0, none⟩))).setCell ⟨ob, i * 2 + 1, none⟩ (.int .i64 (E i))) := by
  obtain ⟨ps, pvs, cs, k1, k2, k3, k4⟩ := h
  have fz : Fr w2 ((w2.setCell ⟨ob, i * 2, none⟩ (.pointer (some ⟨p, 0, none⟩))).setCell ⟨ob, i * 2 + 1, none⟩ (.int .i64 (E i))) (One ob) :=
    ((Fr.refl w2 (One ob)).setCell (p := ⟨ob, i * 2, none⟩) (Or.inl rfl) _).setCell (p := ⟨ob, i * 2 + 1, none⟩) (Or.inl rfl) _
  refine ⟨fun q => if q = i then p else ps q, fun q => if q = i then pv else pvs q, _, ((k1.keep f (fun x => x)).put (i * 2) (.pointer (some ⟨p, 0, none⟩))).put (i * 2 + 1) (.int .i64 (E i)), by rw [Array.size_setIfInBounds, Array.size_setIfInBounds]; exact k2, fun q hq => ?_,
    (k4.trans f (fun _ h => h) (fun _ _ h => h)).trans fz (fun _ h => h) (fun x hx h => by unfold Mem.One at h; omega)⟩
  rw [Array.getElem?_setIfInBounds, Array.getElem?_setIfInBounds, Array.getElem?_setIfInBounds, Array.getElem?_setIfInBounds, Array.size_setIfInBounds]
  by_cases e : q = i
  · subst e
    rw [if_neg (by omega), if_pos rfl, if_pos (by omega), if_pos rfl, if_pos (by omega)]
    simp only [eq_self, if_true, true_and]
    exact ⟨ hp.keep fz (fun e => by unfold Mem.One at e; omega) (fun b hb e => by have := h2 b hb; unfold Mem.One at e; omega), h1, h2⟩
  · rw [if_neg (by omega), if_neg (by omega), if_neg (by omega), if_neg (by omega)]
    simp only [e, if_false]
    obtain ⟨g1, g2, g3, g4, g5⟩ := k3 q (by omega)
    exact ⟨g1, g2, (g3.keep f (fun x => x) (fun _ _ x => x)).keep fz (fun e => by unfold Mem.One at e; omega) (fun b hb e => by have := g5 b hb; unfold Mem.One at e; omega), g4, g5⟩

theorem OpInv.room {ob n i : Nat} {ng : Nat → Bool} {A : Nat → Nat} {E : Nat → Int} {w wr w2 : World} (h : OpInv ob n ng A E i w wr) (hi : i < n) (f : Fr wr w2 None) :
    ∃ y0 y1, w2.cell? ⟨ob, i * 2, none⟩ = some y0 ∧ w2.cell? ⟨ob, i * 2 + 1, none⟩ = some y1 ∧ w2.frozen? ⟨ob, i * 2, none⟩ = false ∧ w2.frozen? ⟨ob, i * 2 + 1, none⟩ = false := by
  obtain ⟨ps, pvs, cs, k1, k2, k3, k4⟩ := h
  have k := k1.keep f (fun x => x)
  exact ⟨cs[i * 2]'(by omega), cs[i * 2 + 1]'(by omega), by rw [k.cell]; exact Array.getElem?_eq_getElem _, by rw [k.cell]; exact Array.getElem?_eq_getElem _, k.free _, k.free _⟩

set_option maxRecDepth 100000 in
set_option maxHeartbeats 4000000 in
theorem open_ok (b n : Nat) (xs : Nat → Value) (ng : Nat → Bool) (A : Nat → Nat) (E : Nat → Int) (cs : Array Value) (w : World) (hn : n ≤ 1000) (hx : ∀ i, i < n → NumV w (xs i) (ng i) (A i) (E i) ∧ A i ≠ 0)
    (hb : At w b cs 24) (hcs : ∀ i, i < n → ∃ v, xs i = .agg #[.bool (ng i), v, .int .i64 (E i)] ∧ cs[i * 3]? = some (.bool (ng i)) ∧ cs[i * 3 + 1]? = some v ∧ cs[i * 3 + 2]? = some (.int .i64 (E i))) :
    Calls Tryz.prog 34 #[.slice (some ⟨b, 0, none⟩) n n] w (OpenPost n ng A E w) := by
  obtain ⟨ms, hms, hmk⟩ := run_mkE n (by omega) w
  have I : Hid (OpInv w.heap.size n ng A E 0 w (w.alloc (.cells ms 62))) :=
    Lib.hid ⟨fun _ => 0, fun _ => .bool false, ms, At.alloc w _ _, hms, fun q hq => by omega, (Fr.refl w None).alloc _⟩
  have HX := Lib.hid (And.intro hx (And.intro hb hcs))
  clear hx hb hcs hms
  go_enter Tryz.func34, Tryz.ntmps34
  go_wp2_with fail
  clear hmk
  generalize w.alloc (.cells ms 62) = w0 at I ⊢
  go_loopw [11] (fun ix wr => ∃ i : Nat, i ≤ n ∧ ix = .int .i64 (i : Int) ∧ OpInv w.heap.size n ng A E i w wr) (fun ix _ => n - (intOf ix).toNat)
  case atStart => exact ⟨0, Nat.zero_le _, rfl, I.out⟩
  case round =>
    obtain ⟨i, hi, rfl, hr⟩ := hrel
    have HR := Lib.hid hr
    clear hr
    by_cases c : i < n
    · have i0 : (i : Int) < (n : Int) := by omega
      have fr : Fr w wr None := by obtain ⟨_, _, _, _, _, _, f⟩ := HR.out; exact f
      obtain ⟨v, hxi, k0, k1, k2⟩ := HX.out.2.2 i c
      have hnum := (HX.out.1 i c).1.keep fr
      have hA0 := (HX.out.1 i c).2
      have hbr := HX.out.2.1.keep fr (fun x => x)
      rcases hnum.cases with ⟨h, _⟩ | ⟨_, ho, e1, e2, db, dn, dcap, hxe, hdn, hdc, hdb, hdd, hdv, hdx⟩
      · exact absurd h hA0
      rw [hxi] at hxe
      obtain rfl : v = .slice (some ⟨db, 0, none⟩) dn dcap := by injection hxe with h; have := congrArg (fun a : Array Value => a[1]?) h; simpa using this
      have s0 : wr.cell? ⟨b, i * 3, none⟩ = some (.bool (ng i)) := by rw [hbr.cell]; exact k0
      have s1 : wr.cell? ⟨b, i * 3 + 1, none⟩ = some (.slice (some ⟨db, 0, none⟩) dn dcap) := by rw [hbr.cell]; exact k1
      have s2 : wr.cell? ⟨b, i * 3 + 2, none⟩ = some (.int .i64 (E i)) := by rw [hbr.cell]; exact k2
      clear hxe k0 k1 k2 hbr
      obtain ⟨t0, fa⟩ := box_at wr (.bool (ng i)) (.slice (some ⟨db, 0, none⟩) dn dcap) (.int .i64 (E i)) 24
      have hval := valid_num _ (ng i) (A i) (E i) _ (hnum.keep fa)
      rw [hxi] at hval
      have hmid : ∀ w1, Fr (wr.alloc (.cells #[.bool (ng i), .slice (some ⟨db, 0, none⟩) dn dcap, .int .i64 (E i)] 24)) w1 None → Calls Tryz.prog 30 #[.bool (ng i), .slice (some ⟨db, 0, none⟩) dn dcap] w1 (NewPost (ng i) (A i) w1) := fun w1 f1 => by
        have f2 := fa.trans f1 (fun _ h => h) (fun _ _ h => h)
        have := whole_pos db dcap dn (dgt (A i)) (ng i) w1 hdn hdd hdc (Nat.lt_of_lt_of_le hdb f2.size) (fun j hj => by rw [f2.cell (p := ⟨db, j, none⟩) hdb (fun x => x)]; exact hdx j hj)
        rw [hdv] at this
        exact this
      have hob : w.heap.size < wr.heap.size := by obtain ⟨_, _, _, k, _⟩ := HR.out; exact k.lt
      have HM := Lib.hid hmid
      have HV := Lib.hid hval
      have T0 := Lib.hid t0
      have FA := Lib.hid fa
      clear hmid hval t0 fa hdx hdv hdd hnum fr hxi ho hdn
      go_wp2_with fail
      generalize hbv : wr.heap.size = bx at T0 hob ⊢
      generalize wr.alloc (.cells #[.bool (ng i), .slice (some ⟨db, 0, none⟩) dn dcap, .int .i64 (E i)] 24) = wa at HM HV T0 FA ⊢
      refine (HV.out).mono ?_
      rintro en w1 ⟨rfl, f1⟩
      have HW := Lib.hid (HM.out w1.drew f1.drew)
      have t1 := T0.out.keep f1 (fun x => x)
      have c0 := t1.cell 0
      have c1 := t1.cell 1
      have c2 := t1.cell 2
      have T1 := Lib.hid t1
      have F1 := Lib.hid (FA.out.trans f1 (fun _ h => h) (fun _ _ h => h))
      clear t1 f1 HM HV s0 s1 s2
      go_wp2_with fail
      go_region_with (go_at_call 30; refine (HW.out).mono ?_; rintro e w2 ⟨p, pv, rfl, b1, b2, b3, b4⟩; replace b4 := Fr.undrew b4; have t2 := T1.out.keep b4 (fun x => x); have e2 := t2.cell 2; obtain ⟨y0, y1, g0, g1, g2, g3⟩ := (HR.out).room c (F1.out.trans b4 (fun _ h => h) (fun _ _ h => h)); have BB := Lib.hid (And.intro b1 (And.intro b2 (And.intro b3 b4))); clear b1 b2 b3 b4 t2)
      all_goals
        have hb2 : w1.heap.size ≤ p := BB.out.2.1
        have hsz := F1.out.size
        have R : Hid (OpInv w.heap.size n ng A E (i + 1) w ((w2.setCell ⟨w.heap.size, i * 2, none⟩ (.pointer (some ⟨p, 0, none⟩))).setCell ⟨w.heap.size, i * 2 + 1, none⟩ (.int .i64 (E i)))) :=
          Lib.hid ((HR.out).step c (Nat.le_refl _) (F1.out.trans BB.out.2.2.2 (fun _ h => h) (fun _ _ h => h)) BB.out.1 (by omega) (fun q hq => by have h3 : w1.heap.size ≤ q := BB.out.2.2.1 q hq; omega))
        clear e2 g0 g1 g2 g3 c0 c1 c2 hb2 hsz
        generalize (w2.setCell ⟨w.heap.size, i * 2, none⟩ (.pointer (some ⟨p, 0, none⟩))).setCell ⟨w.heap.size, i * 2 + 1, none⟩ (.int .i64 (E i)) = wz at R ⊢
        go_wp2_with fail
        go_roundw
        case rel => exact ⟨i + 1, by omega, by push_cast; rfl, R.out⟩
        case measure => simp [intOf]; omega
    · obtain rfl : i = n := by omega
      go_wp2_with fail
      go_ret
      exact ⟨_, rfl, Nat.le_refl _, HR.out⟩
end Go.Proofs.YtgmebioogkmfgaaGreatDoor

namespace Go.Mem
open Go.RowKit

section
variable {P : Program} {ops : Array Oper} {Q : Exit → Act → World → Prop} {md : Region.Mode} {S : World → Prop} {m : Nat}

/-- In whatever order: S holds behind each operation but number m. -/
def AnyBut (P : Program) (md : Region.Mode) (ops : Array Oper) (Q : Exit → Act → World → Prop) (S : World → Prop) (m : Nat) : Nat → Array Bool → Act → World → Prop
  | 0, l, a, w => Region.ready md ops l = [] ∧ Q .normal a w
  | f + 1, l, a, w => (Region.ready md ops l = [] → Q .normal a w) ∧
      ∀ j ∈ Region.ready md ops l, wpOp P ops Q j (fun b u => (j ≠ m → S u) ∧ AnyBut P md ops Q S m f (l.setIfInBounds j true) b u) a w

theorem AnyBut.any : ∀ (f : Nat) (l : Array Bool) (a : Act) (w : World), AnyBut P md ops Q S m f l a w → wpAny P md ops Q f l a w
  | 0, _, _, _, h => h
  | f + 1, _, _, _, h => ⟨h.1, fun j hj => wpOp_mono (fun b u k => AnyBut.any f _ b u k.2) (h.2 j hj)⟩

theorem AnyBut.first {i : Nat} {o : Oper} {v : Value} (ho : ops[i]? = some o) (hsel : ∀ (j : Nat) (o : Oper) cs b, ops[j]? = some o → o.op ≠ .select cs b)
    (hQ : ∀ c a w, Q (.panic c) (a.put o.dst v) w → Q (.panic c) a w) {om : Oper} (hom : ops[m]? = some om) (hw : ∃ e ∈ om.after, Region.binds md e = true ∧ e.on = i) :
    ∀ (f : Nat) (l : Array Bool) (a : Act) (w : World),
      (∀ j oj, ops[j]? = some oj → j ≠ i → l.getD j true = false → (∀ e ∈ oj.after, Region.binds md e = true → e.on ≠ i) → o.apart ops oj = true) →
      i ∈ Region.ready md ops l → YieldsIf P ops S o v a → S w → AnyBut P md ops Q S m f (l.setIfInBounds i true) (a.put o.dst v) w → AnyBut P md ops Q S m (f + 1) l a w := by
  have un : ∀ {l : Array Bool} {x : Nat}, x ∈ Region.ready md ops l → l.getD x false = false := fun {l x} hx => by
    have h0 := (mem_ready.1 hx).1
    rcases Nat.lt_or_ge x l.size with h | h
    · simp [h] at h0 ⊢; exact h0
    · simp [Array.getElem?_eq_none h]
  intro f
  induction f with
  | zero =>
    intro l a w _ hr hy hS H
    refine ⟨fun h => (by rw [h] at hr; cases hr), fun j hj => ?_⟩
    by_cases e : j = i
    · subst e; exact hy.wpOp ho hS ⟨fun _ => hS, H⟩
    · have := ready_mono hj e
      rw [H.1] at this
      cases this
  | succ f ih =>
    intro l a w hfree hr hy hS H
    refine ⟨fun h => (by rw [h] at hr; cases hr), fun j hj => ?_⟩
    by_cases e : j = i
    · subst e; exact hy.wpOp ho hS ⟨fun _ => hS, H⟩
    · obtain ⟨hun, oj, hoj, hall⟩ := mem_ready.1 hj
      have wait : ∀ x ∈ oj.after, Region.binds md x = true → x.on ≠ i := fun x hx hb he => by
        have h1 := hall x hx hb
        rw [he, un hr] at h1
        cases h1
      have hjm : j ≠ m := fun he => by
        subst he
        obtain rfl : oj = om := Option.some.inj (hoj.symm.trans hom)
        obtain ⟨x, hx, hb, hon⟩ := hw
        exact wait x hx hb hon
      have h2 := wpOp_putIf hoj (hfree j oj hoj e hun wait) (fun cs b => hsel i o cs b ho) (fun cs b => hsel j oj cs b hoj) hQ hy (H.2 j (ready_mono hj e))
      refine wpOp_mono (fun b u k => ⟨k.2.1, ih (l.setIfInBounds j true) b u (fun q oq hq hqi hq0 hno => ?_) (ready_mono hr (Ne.symm e)) k.1 (k.2.1 hjm) ?_⟩) h2
      · refine hfree q oq hq hqi ?_ hno
        by_cases ejq : j = q
        · subst ejq; exact hun
        · rw [getD_set_ne true ejq] at hq0; exact hq0
      · rw [Array.setIfInBounds_comm _ _ e]
        exact k.2.2

/-- Number i first, if number m waits for it. -/
theorem AnyBut.take {i : Nat} {o : Oper} {d : Option Tmp} {v : Value} {f : Nat} {l : Array Bool} {a : Act} {w : World} (ho : ops[i]? = some o) (hd : o.dst = d) (hs : Region.noSelect ops = true) (hf : Region.free md ops l i = true) (hr : (Region.ready md ops l).contains i = true)
    (hm : Region.waitsFor md ops m i = true) (hQ : ∀ c a w, Q (.panic c) (a.put o.dst v) w → Q (.panic c) a w) (hy : YieldsIf P ops S o v a) (hS : S w)
    (h : AnyBut P md ops Q S m f (l.setIfInBounds i true) (a.put d v) w) : AnyBut P md ops Q S m (f + 1) l a w := by
  subst hd
  obtain ⟨om, hom, hw⟩ := Region.waitsFor_spec hm
  exact AnyBut.first ho (Region.noSelect_spec hs) hQ hom hw f l a w (Region.free_spec ho hf) (by simpa using hr) hy hS h

/-- Whichever comes up. -/
theorem AnyBut.all {rs : List Nat} {f : Nat} {l : Array Bool} {a : Act} {w : World} (hr : Region.ready md ops l = rs) (hne : rs ≠ [])
    (h : ∀ j ∈ rs, wpOp P ops Q j (fun b u => (j ≠ m → S u) ∧ AnyBut P md ops Q S m f (l.setIfInBounds j true) b u) a w) : AnyBut P md ops Q S m (f + 1) l a w :=
  ⟨fun h0 => absurd (hr ▸ h0) hne, hr ▸ h⟩
theorem AnyBut.done {l : Array Bool} {a : Act} {w : World} (hr : Region.ready md ops l = []) (h : Q .normal a w) : ∀ f, AnyBut P md ops Q S m f l a w
  | 0 => ⟨hr, h⟩
  | _ + 1 => ⟨fun _ => h, by rw [hr]; simp⟩
/-- One operation is carried out. -/
theorem opGo {i : Nat} {o : Oper} {K : Act → World → Prop} {a : Act} {w : World} (ho : ops[i]? = some o) (hg : o.guard = none) (h : o.wp P a w K Q) : wpOp P ops Q i K a w := by
  unfold wpOp
  simp only [ho]
  rw [if_pos (by unfold Region.wanted; rw [hg])]
  exact Or.inl h
end
end Go.Mem
