/- Of, Of32 of the document's answer; two answers side by side. Condition: it stands in each fact. -/
import Derived.Test.YtgmebioogkmfgaaDoorQT5
import Derived.Test.YtgmebioogkmfgaaDoorQT3
namespace Go.Proofs.YtgmebioogkmfgaaDoor
open Go.RowKit Go.Pt Go.Mem

set_option maxRecDepth 100000 in
set_option maxHeartbeats 4000000 in
theorem rOf_any (b : Int) (w : World) (hb : I64 b) : Calls Tryd.prog 20 #[.int .i64 b] w (NormO (pneg b) (pmag b).natAbs (pexp b) w) := by
  have f1 := (Fr.refl w None).alloc (.cells #[.bool false, .slice none 0 0, .int .i64 0] 31)
  have r1 := At.alloc w #[.bool false, .slice none 0 0, .int .i64 0] 31
  have hp := rParts_any b hb (w.alloc (.cells #[.bool false, .slice none 0 0, .int .i64 0] 31))
  obtain ⟨m0, m1, m2, m3⟩ := pmag_bounds b
  obtain ⟨M, hM⟩ : ∃ M : Nat, pmag b = (M : Int) := ⟨(pmag b).natAbs, by omega⟩
  rw [hM] at hp m1 ⊢
  rw [Int.natAbs_natCast]
  generalize pexp b = e at *
  generalize pneg b = ng at *
  generalize pok b = ok at *
  have HP := Lib.hid hp
  have HFR := fun W => from_in M W (by omega)
  have HF := Lib.hid HFR
  have F1 := Lib.hid f1
  have R1 := Lib.hid r1
  have HB := Lib.hid (And.intro m1 (And.intro m2 m3))
  clear hp f1 r1 HFR m0 m1 m2 m3 hM
  go_enter Tryd.func20, Tryd.ntmps20
  go_wp2_with fail
  generalize w.alloc (.cells #[.bool false, .slice none 0 0, .int .i64 0] 31) = w0 at HP F1 R1 ⊢
  refine (HP.out).mono ?_
  rintro en w1 ⟨rfl, rfl⟩
  go_wp2_with fail
  refine (HF.out w0).mono ?_
  rintro en w2 ⟨u, n, rfl, hu, hn, hlt, f2⟩
  have hnm := norm_in ng u n (dgt M) e w2 (by omega) (dgt_lt M) (IRow.vrow hu).inV (by have := HB.out; omega) (by have := HB.out; omega)
  rw [dv_dgt, Nat.mod_eq_of_lt hlt] at hnm
  obtain ⟨ua, uc, rfl⟩ := hu.shape
  have HN := Lib.hid hnm
  have F2 := Lib.hid (F1.out.trans f2 (fun _ h => h) (fun _ _ h => h))
  have R2 := Lib.hid (R1.out.keep f2 (fun x => x))
  clear hnm hu hlt f2
  go_wp2_with fail
  refine (HN.out).mono ?_
  rintro en w3 ⟨f3, ⟨hz0, rfl⟩ | ⟨k, hk, tz, y, rfl, hy⟩⟩
  · have r4 := R2.out.keep f3 (fun x => x)
    have d0 := r4.cell 0
    have d1 := r4.cell 1
    have d2 := r4.cell 2
    have g0 := r4.free 0
    have g1 := r4.free 1
    have g2 := r4.free 2
    have R4 := Lib.hid r4
    have HZ0 := Lib.hid hz0
    have FX3 := Lib.hid (F2.out.trans f3 (fun _ h => h) (fun _ _ h => h))
    clear r4 f3 hz0
    unfold zeroN
    go_wp2_with fail
    obtain ⟨az, fz⟩ := put3 R4.out (.bool false) (.slice none 0 0) (.int .i64 0)
    generalize ((w3.setCell ⟨w.heap.size, 0, none⟩ (.bool false)).setCell ⟨w.heap.size, 1, none⟩ (.slice none 0 0)).setCell ⟨w.heap.size, 2, none⟩ (.int .i64 0) = wz at az fz ⊢
    refine bodyPost_ret (results_cell_row rfl _ _ _ _ _ _ _ rfl az Tryd.underlying31 rfl (by kernel_rfl)) rfl ?_
    exact ⟨FX3.out.trans fz (fun _ h => h) (fun x hx h => by unfold Mem.One at h; omega), Or.inl ⟨HZ0.out, rfl⟩⟩
  · obtain ⟨ya, yn, yc, rfl⟩ := hy.shape
    have r4 := R2.out.keep f3 (fun x => x)
    have d0 := r4.cell 0
    have d1 := r4.cell 1
    have d2 := r4.cell 2
    have g0 := r4.free 0
    have g1 := r4.free 1
    have g2 := r4.free 2
    have R4 := Lib.hid r4
    have Y := Lib.hid (And.intro (hy.low F2.out.size) (And.intro hk tz))
    have FX3 := Lib.hid (F2.out.trans f3 (fun _ h => h) (fun _ _ h => h))
    clear r4 f3 hy hk tz
    go_wp2_with fail
    obtain ⟨az, yz, fz⟩ := lay_out (a := .bool ng) (b := .slice ya yn yc) (c := .int .i64 (e + (k : Int))) (Nat.le_refl _) FX3.out R4.out Y.out.1
    generalize ((w3.setCell ⟨w.heap.size, 0, none⟩ (.bool ng)).setCell ⟨w.heap.size, 1, none⟩ (.slice ya yn yc)).setCell ⟨w.heap.size, 2, none⟩ (.int .i64 (e + (k : Int))) = wz at az yz fz ⊢
    refine bodyPost_ret (results_cell_row rfl _ _ _ _ _ _ _ rfl az Tryd.underlying31 rfl (by kernel_rfl)) rfl ?_
    exact ⟨fz, Or.inr ⟨k, Y.out.2.1, Y.out.2.2, _, rfl, yz⟩⟩

set_option maxRecDepth 100000 in
set_option maxHeartbeats 4000000 in
theorem rOf32_any (b : Int) (w : World) : Calls Tryd.prog 21 #[.int .i64 b] w (NormO (pneg3 b) (pmag3 b).natAbs (pexp3 b) w) := by
  have f1 := (Fr.refl w None).alloc (.cells #[.bool false, .slice none 0 0, .int .i64 0] 31)
  have r1 := At.alloc w #[.bool false, .slice none 0 0, .int .i64 0] 31
  have hp := rParts32_any b (w.alloc (.cells #[.bool false, .slice none 0 0, .int .i64 0] 31))
  obtain ⟨m0, m1, m2, m3⟩ := pmag3_bounds b
  obtain ⟨M, hM⟩ : ∃ M : Nat, pmag3 b = (M : Int) := ⟨(pmag3 b).natAbs, by omega⟩
  rw [hM] at hp m1 ⊢
  rw [Int.natAbs_natCast]
  generalize pexp3 b = e at *
  generalize pneg3 b = ng at *
  generalize pok3 b = ok at *
  have HP := Lib.hid hp
  have HFR := fun W => from_in M W (by omega)
  have HF := Lib.hid HFR
  have F1 := Lib.hid f1
  have R1 := Lib.hid r1
  have HB := Lib.hid (And.intro m1 (And.intro m2 m3))
  clear hp f1 r1 HFR m0 m1 m2 m3 hM
  go_enter Tryd.func21, Tryd.ntmps21
  go_wp2_with fail
  generalize w.alloc (.cells #[.bool false, .slice none 0 0, .int .i64 0] 31) = w0 at HP F1 R1 ⊢
  refine (HP.out).mono ?_
  rintro en w1 ⟨rfl, rfl⟩
  go_wp2_with fail
  refine (HF.out w0).mono ?_
  rintro en w2 ⟨u, n, rfl, hu, hn, hlt, f2⟩
  have hnm := norm_in ng u n (dgt M) e w2 (by omega) (dgt_lt M) (IRow.vrow hu).inV (by have := HB.out; omega) (by have := HB.out; omega)
  rw [dv_dgt, Nat.mod_eq_of_lt hlt] at hnm
  obtain ⟨ua, uc, rfl⟩ := hu.shape
  have HN := Lib.hid hnm
  have F2 := Lib.hid (F1.out.trans f2 (fun _ h => h) (fun _ _ h => h))
  have R2 := Lib.hid (R1.out.keep f2 (fun x => x))
  clear hnm hu hlt f2
  go_wp2_with fail
  refine (HN.out).mono ?_
  rintro en w3 ⟨f3, ⟨hz0, rfl⟩ | ⟨k, hk, tz, y, rfl, hy⟩⟩
  · have r4 := R2.out.keep f3 (fun x => x)
    have d0 := r4.cell 0
    have d1 := r4.cell 1
    have d2 := r4.cell 2
    have g0 := r4.free 0
    have g1 := r4.free 1
    have g2 := r4.free 2
    have R4 := Lib.hid r4
    have HZ0 := Lib.hid hz0
    have FX3 := Lib.hid (F2.out.trans f3 (fun _ h => h) (fun _ _ h => h))
    clear r4 f3 hz0
    unfold zeroN
    go_wp2_with fail
    obtain ⟨az, fz⟩ := put3 R4.out (.bool false) (.slice none 0 0) (.int .i64 0)
    generalize ((w3.setCell ⟨w.heap.size, 0, none⟩ (.bool false)).setCell ⟨w.heap.size, 1, none⟩ (.slice none 0 0)).setCell ⟨w.heap.size, 2, none⟩ (.int .i64 0) = wz at az fz ⊢
    refine bodyPost_ret (results_cell_row rfl _ _ _ _ _ _ _ rfl az Tryd.underlying31 rfl (by kernel_rfl)) rfl ?_
    exact ⟨FX3.out.trans fz (fun _ h => h) (fun x hx h => by unfold Mem.One at h; omega), Or.inl ⟨HZ0.out, rfl⟩⟩
  · obtain ⟨ya, yn, yc, rfl⟩ := hy.shape
    have r4 := R2.out.keep f3 (fun x => x)
    have d0 := r4.cell 0
    have d1 := r4.cell 1
    have d2 := r4.cell 2
    have g0 := r4.free 0
    have g1 := r4.free 1
    have g2 := r4.free 2
    have R4 := Lib.hid r4
    have Y := Lib.hid (And.intro (hy.low F2.out.size) (And.intro hk tz))
    have FX3 := Lib.hid (F2.out.trans f3 (fun _ h => h) (fun _ _ h => h))
    clear r4 f3 hy hk tz
    go_wp2_with fail
    obtain ⟨az, yz, fz⟩ := lay_out (a := .bool ng) (b := .slice ya yn yc) (c := .int .i64 (e + (k : Int))) (Nat.le_refl _) FX3.out R4.out Y.out.1
    generalize ((w3.setCell ⟨w.heap.size, 0, none⟩ (.bool ng)).setCell ⟨w.heap.size, 1, none⟩ (.slice ya yn yc)).setCell ⟨w.heap.size, 2, none⟩ (.int .i64 (e + (k : Int))) = wz at az yz fz ⊢
    refine bodyPost_ret (results_cell_row rfl _ _ _ _ _ _ _ rfl az Tryd.underlying31 rfl (by kernel_rfl)) rfl ?_
    exact ⟨fz, Or.inr ⟨k, Y.out.2.1, Y.out.2.2, _, rfl, yz⟩⟩
end Go.Proofs.YtgmebioogkmfgaaDoor

namespace Go.Proofs.YtgmebioogkmfgaaDoor
open Go.RowKit Go.Pt Go.Mem

theorem tz_uniq {N k j : Nat} (h : TzIs N k) (g : TzIs N j) : k = j := by
  obtain ⟨_, e⟩ := Ieee.Format.deq_odd h.1 g.1 (p := (k : Int)) (q := (j : Int)) ⟨k, j, by rw [h.2, g.2], rfl⟩
  omega
theorem zeroO (w : World) (base : Nat) : NumO w zeroN false 0 0 base := ⟨_, 0, rfl, IRow.nil _ _ _, ⟨dgt_lt 0, fun h => by omega, by omega⟩, rfl⟩

/-- Two answers to one question are one. -/
theorem out_two {neg : Bool} {N : Nat} {e : Int} {w1 w1' w2 w2' : World} {en1 en2 : Ending} (h : OutPost neg N e w1 en1 w1') (g : OutPost neg N e w2 en2 w2') :
    Fr w1 w1' None ∧ Fr w2 w2' None ∧ ∃ y1 y2 er ng A E, en1 = .returned (.tuple #[y1, .int .i64 er]) ∧ en2 = .returned (.tuple #[y2, .int .i64 er]) ∧ NumO w1' y1 ng A E w1.heap.size ∧ NumO w2' y2 ng A E w2.heap.size := by
  obtain ⟨f1, h⟩ := h
  obtain ⟨f2, g⟩ := g
  refine ⟨f1, f2, ?_⟩
  rcases h with ⟨rfl, rfl⟩ | ⟨k, tz, h⟩
  · rcases g with ⟨_, rfl⟩ | ⟨j, tz, _⟩
    · exact ⟨_, _, _, _, _, _, rfl, rfl, zeroO _ _, zeroO _ _⟩
    · exact absurd tz.pos (by omega)
  · rcases g with ⟨rfl, _⟩ | ⟨j, tz2, g⟩
    · exact absurd tz.pos (by omega)
    · obtain rfl := tz_uniq tz tz2
      rcases h with ⟨k1, k2, y, rfl, hy⟩ | ⟨k1, rfl⟩
      · rcases g with ⟨_, _, y2, rfl, hy2⟩ | ⟨k3, _⟩
        · exact ⟨_, _, _, _, _, _, rfl, rfl, hy, hy2⟩
        · exact absurd ⟨k1, k2⟩ k3
      · rcases g with ⟨k3, k4, _⟩ | ⟨_, rfl⟩
        · exact absurd ⟨k3, k4⟩ k1
        · exact ⟨_, _, _, _, _, _, rfl, rfl, zeroO _ _, zeroO _ _⟩

/-- The parts of two numbers that are one. -/
theorem num_two {w1 w2 : World} {y1 y2 : Value} {ng : Bool} {A b1 b2 : Nat} {E : Int} (h : NumO w1 y1 ng A E b1) (g : NumO w2 y2 ng A E b2) :
    ∃ a1 c1 a2 c2 n, y1 = .agg #[.bool ng, .slice a1 n c1, .int .i64 E] ∧ y2 = .agg #[.bool ng, .slice a2 n c2, .int .i64 E] ∧ IRow w1 (.slice a1 n c1) n (dgt A) b1 ∧ IRow w2 (.slice a2 n c2) n (dgt A) b2 ∧ Digs n (dgt A) ∧ dv (dgt A) n = A := by
  obtain ⟨v1, n, rfl, h2, h3, h4⟩ := h
  obtain ⟨v2, n2, rfl, g2, g3, g4⟩ := g
  obtain rfl := digs_uniq h3 g3 h4 g4
  obtain ⟨a1, c1, rfl⟩ := h2.shape
  obtain ⟨a2, c2, rfl⟩ := g2.shape
  exact ⟨_, _, _, _, _, rfl, rfl, h2, g2, h3, h4⟩

set_option maxRecDepth 100000 in
set_option maxHeartbeats 8000000 in
theorem is_ok (kb m n top top' : Nat) (v u : Value) (ng : Bool) (x : Nat → Int) (E : Int) (w0 w : World) (hm : m ≤ 100) (hn : n ≤ 2000) (hk : KeepV w kb m w0.heap.size top) (hl : VRow w v n (fun j => .int .i64 (x j)) 3 w0.heap.size)
    (hu : IntsV w0 u n x ∨ VRow w u n (fun j => .int .i64 (x j)) 3 w0.heap.size) (hf : Fr w0 w None) (ht : top ≤ top') (h0 : ∀ b, Blk v b → top ≤ b) (h1 : ∀ b, Blk v b → b < top') (hP : ValidP ng n x E) :
    Calls Tryd.prog 19 #[.pointer (some ⟨kb, 0, none⟩), .agg #[.bool ng, v, .int .i64 E], .int .i64 0, .bool false, .agg #[.bool ng, u, .int .i64 E]] w (AddPost kb m w0.heap.size top' w0 w) := by
  have hui : IntsV w u n x := hu.elim (fun h => h.keep hf) VRow.ints
  obtain ⟨ta, fa⟩ := box_at w (.bool ng) v (.int .i64 E) 31
  obtain ⟨tb, fb⟩ := box_at (w.alloc (.cells #[.bool ng, v, .int .i64 E] 31)) (.bool ng) u (.int .i64 E) 31
  rw [show (w.alloc (.cells #[.bool ng, v, .int .i64 E] 31)).heap.size = w.heap.size + 1 by simp] at tb
  have fab := fa.trans fb (fun _ h => h) (fun _ _ h => h)
  have tac := ta.keep fb (fun x => x)
  have ha := answer_ok ng u n x E _ (by omega) (hui.keep fab) hP
  have HA := Lib.hid ha
  have TA := Lib.hid tac
  have TB := Lib.hid tb
  have FAB := Lib.hid fab
  have c0 := tb.cell 0
  have c1 := tb.cell 1
  have c2 := tb.cell 2
  have HH := Lib.hid (And.intro hk (And.intro hl (And.intro hu (And.intro hf (And.intro ht (And.intro h0 h1))))))
  obtain ⟨va, vc, rfl⟩ := hl.shape
  obtain ⟨ua, uc, rfl, _⟩ := hui
  clear hk hu hf ht h0 h1 hP ta tb fa fb fab tac ha
  go_enter Tryd.func19, Tryd.ntmps19
  go_wp2_with fail
  generalize (w.alloc (.cells #[.bool ng, .slice va n vc, .int .i64 E] 31)).alloc (.cells #[.bool ng, .slice ua n uc, .int .i64 E] 31) = wa at HA TA TB FAB c0 c1 c2 ⊢
  refine (HA.out).mono ?_
  rintro en w1 ⟨rfl, f1⟩
  have fx := FAB.out.trans f1 (fun _ h => h) (fun _ _ h => h)
  have fy := (Fr.refl w1 None).alloc (.cells #[.bool ng, .slice ua n uc, .int .i64 E] 31)
  have t0 := (TA.out.keep f1 (fun x => x)).keep fy (fun x => x)
  have tn := At.alloc w1 #[.bool ng, .slice ua n uc, .int .i64 E] 31
  have fz := fx.trans fy (fun _ h => h) (fun _ _ h => h)
  obtain ⟨hk, hl, hu, hf, ht, h0, h1⟩ := HH.out
  have hlz := hl.keep fz
  have hfz := hf.trans fz (fun _ h => h) (fun _ _ h => h)
  have huz : SrcV w0 (w1.alloc (.cells #[.bool ng, .slice ua n uc, .int .i64 E] 31)) (.slice ua n uc) n x := hu.imp (fun h => h.inV) (fun h => VRow.keep h fz)
  have hs := same_agg (.slice va n vc) (.slice ua n uc) ng n x E _ (by omega) hlz.inV (huz.inV hfz)
  have HS := Lib.hid hs
  have SZ := Lib.hid fz
  have HG := Lib.hid (And.intro (hk.keep fz) (And.intro hlz (And.intro huz hfz)))
  have T0 := Lib.hid t0
  have TN := Lib.hid tn
  have a0 := t0.cell 0
  have a1 := t0.cell 1
  have a2 := t0.cell 2
  have e0 := tn.cell 0
  have e1 := tn.cell 1
  have e2 := tn.cell 2
  clear f1 fx fy t0 tn fz hk hl hu hf ht h0 h1 hlz hfz huz hs c0 c1 c2
  go_wp2_with fail
  generalize hb3 : w1.heap.size = b3 at TN e0 e1 e2 ⊢
  generalize w1.alloc (.cells #[.bool ng, .slice ua n uc, .int .i64 E] 31) = wb at HS HG SZ T0 TN a0 a1 a2 e0 e1 e2 ⊢
  refine (HS.out).mono ?_
  rintro en w2 ⟨rfl, f2⟩
  have t1 := T0.out.keep f2 (fun x => x)
  have t2 := TN.out.keep f2 (fun x => x)
  have a1 := t1.cell 1
  have e1 := t2.cell 1
  have hadd := keepAdd_ok kb m n top top' (.slice va n vc) (.slice ua n uc) x w0 w2 hm hn (HG.out.1.keep f2) (HG.out.2.1.keep f2) (HG.out.2.2.1.keep (IntK.of f2 _)) (HG.out.2.2.2.trans f2 (fun _ h => h) (fun _ _ h => h)) HH.out.2.2.2.2.1 HH.out.2.2.2.2.2.1 HH.out.2.2.2.2.2.2
  have HADD := Lib.hid hadd
  have SZ2 := Lib.hid (SZ.out.trans f2 (fun _ h => h) (fun _ _ h => h))
  clear f2 t1 t2 hadd a0 a2 e0 e2
  go_wp2_with fail
  refine (HADD.out).mono ?_
  rintro en w3 ⟨rfl, k3, f3, s3⟩
  have K := Lib.hid (And.intro k3 (And.intro f3 (SZ2.out.trans s3 (U := KeepS w kb) (fun _ h => h.elim) (fun q hq h => h.imp id (fun ⟨cs, hc⟩ => ⟨cs, by unfold At at hc ⊢; rw [← SZ2.out.block q hq (fun x => x)]; exact hc⟩)))))
  clear k3 f3 s3
  go_wp2_with fail
  go_ret
  exact ⟨rfl, K.out.1, K.out.2.1, K.out.2.2⟩

set_option maxRecDepth 100000 in
set_option maxHeartbeats 4000000 in
theorem is_bad (p : Value) (a : Option Addr) (n c : Nat) (ng : Bool) (E : Int) (w : World) :
    Calls Tryd.prog 19 #[p, zeroN, .int .i64 11, .bool true, .agg #[.bool ng, .slice a n c, .int .i64 E]] w fun en w' => en = .returned (.bool true) ∧ Fr w w' None := by
  obtain ⟨ta, fa⟩ := box_at w (.bool false) (.slice none 0 0) (.int .i64 0) 31
  have fb := (Fr.refl (w.alloc (.cells #[.bool false, .slice none 0 0, .int .i64 0] 31)) None).alloc (.cells #[.bool ng, .slice a n c, .int .i64 E] 31)
  have fab := fa.trans fb (fun _ h => h) (fun _ _ h => h)
  have tac := ta.keep fb (fun x => x)
  have hs := same_agg (.slice none 0 0) (.slice none 0 0) false 0 (fun _ => 0) 0 ((w.alloc (.cells #[.bool false, .slice none 0 0, .int .i64 0] 31)).alloc (.cells #[.bool ng, .slice a n c, .int .i64 E] 31)) (by omega) ⟨_, _, rfl, fun j hj => by omega⟩ ⟨_, _, rfl, fun j hj => by omega⟩
  have HS := Lib.hid hs
  have F := Lib.hid fab
  have c0 := tac.cell 0
  have c1 := tac.cell 1
  have c2 := tac.cell 2
  clear hs fab ta fa fb tac
  unfold zeroN
  go_enter Tryd.func19, Tryd.ntmps19
  go_wp2_with fail
  refine (HS.out).mono ?_
  rintro en w2 ⟨rfl, f2⟩
  have FX := Lib.hid (F.out.trans f2 (fun _ h => h) (fun _ _ h => h))
  clear f2
  go_wp2_with fail
  go_ret
  exact ⟨rfl, FX.out⟩
end Go.Proofs.YtgmebioogkmfgaaDoor

namespace Go.Proofs.YtgmebioogkmfgaaDoor
open Go.RowKit Go.Pt Go.Mem

/-- What Make answers, at any list. -/
def MadePost (ok : Prop) (neg : Bool) (N : Nat) (e : Int) (w : World) (en : Ending) (w' : World) : Prop :=
  (ok ∧ OutPost neg N e w en w') ∨ (¬ ok ∧ Fr w w' None ∧ en = .returned (.tuple #[zeroN, .int .i64 11]))

theorem dMake_any (neg : Bool) (b cap n : Nat) (x : Nat → Int) (e : Int) (w : World) (hn : n ≤ 100000) (h : IntsV w (.slice (some ⟨b, 0, none⟩) n cap) n x) (hT : Tab w) :
    Calls Tryd.prog 7 #[.bool neg, .slice (some ⟨b, 0, none⟩) n cap, .int .i64 e] w (MadePost (ValidI n x) neg (dv (digN n x) n) (min (max e (-4194304)) 4194304) w) := by
  by_cases c : ValidI n x
  · exact (dMake_good neg b cap n x e w h c hT).mono fun en w' h => Or.inl ⟨c, h⟩
  · exact (dMake_bad neg _ n x e w hn h c).mono fun en w' ⟨h1, h2⟩ => Or.inr ⟨c, h2, h1⟩
theorem rMake_any (neg : Bool) (v : Value) (n : Nat) (x : Nat → Int) (e : Int) (w : World) (hn : n ≤ 100000) (h : IntsV w v n x) :
    Calls Tryd.prog 13 #[.bool neg, v, .int .i64 e] w (MadePost (ValidI n x) neg (dv (digN n x) n) (min (max e (-4194304)) 4194304) w) := by
  by_cases c : ValidI n x
  · exact (rMake_good neg v n x e w h c).mono fun en w' h => Or.inl ⟨c, h⟩
  · exact (rMake_bad neg v n x e w hn h c).mono fun en w' ⟨h1, h2⟩ => Or.inr ⟨c, h2, h1⟩

theorem out_shape {neg : Bool} {N : Nat} {e : Int} {w w' : World} {en : Ending} (h : OutPost neg N e w en w') :
    Fr w w' None ∧ ∃ ng a n c E er, en = .returned (.tuple #[.agg #[.bool ng, .slice a n c, .int .i64 E], .int .i64 er]) ∧ ∀ q, Blk (.slice a n c) q → w.heap.size ≤ q ∧ q < w'.heap.size := by
  obtain ⟨f, ⟨_, rfl⟩ | ⟨k, _, ⟨_, _, y, rfl, hy⟩ | ⟨_, rfl⟩⟩⟩ := h
  · exact ⟨f, _, _, _, _, _, _, rfl, fun q ⟨_, _, h⟩ => by cases h⟩
  · obtain ⟨v, n, rfl, h2, _⟩ := hy
    obtain ⟨a, c, rfl⟩ := h2.shape
    exact ⟨f, _, _, _, _, _, _, rfl, fun q hq => ⟨(h2.vrow.lt hq).2, (h2.vrow.lt hq).1⟩⟩
  · exact ⟨f, _, _, _, _, _, _, rfl, fun q ⟨_, _, h⟩ => by cases h⟩
theorem made_shape {ok : Prop} {neg : Bool} {N : Nat} {e : Int} {w w' : World} {en : Ending} (h : MadePost ok neg N e w en w') :
    Fr w w' None ∧ ∃ ng a n c E er, en = .returned (.tuple #[.agg #[.bool ng, .slice a n c, .int .i64 E], .int .i64 er]) ∧ ∀ q, Blk (.slice a n c) q → w.heap.size ≤ q ∧ q < w'.heap.size := by
  rcases h with ⟨_, h⟩ | ⟨_, f, rfl⟩
  · exact out_shape h
  · exact ⟨f, _, _, _, _, _, _, rfl, fun q ⟨_, _, h⟩ => by cases h⟩

/-- Two Makes of one list answer alike. -/
theorem made_two {ok : Prop} {neg : Bool} {N : Nat} {e : Int} {w1 w1' w2 w2' : World} {ng1 ng2 : Bool} {v1 v2 : Value} {E1 E2 er1 er2 : Int}
    (h : MadePost ok neg N e w1 (.returned (.tuple #[.agg #[.bool ng1, v1, .int .i64 E1], .int .i64 er1])) w1') (g : MadePost ok neg N e w2 (.returned (.tuple #[.agg #[.bool ng2, v2, .int .i64 E2], .int .i64 er2])) w2') :
    ng1 = ng2 ∧ E1 = E2 ∧ er1 = er2 ∧ ∃ (n : Nat) (x : Nat → Nat), n ≤ 2000 ∧ VRow w1' v1 n (fun j => .int .i64 ((x j : Nat) : Int)) 3 w1.heap.size ∧ VRow w2' v2 n (fun j => .int .i64 ((x j : Nat) : Int)) 3 w2.heap.size := by
  have key : ∃ y1 y2 er ng A E, (.returned (.tuple #[.agg #[.bool ng1, v1, .int .i64 E1], .int .i64 er1]) : Ending) = .returned (.tuple #[y1, .int .i64 er]) ∧ (.returned (.tuple #[.agg #[.bool ng2, v2, .int .i64 E2], .int .i64 er2]) : Ending) = .returned (.tuple #[y2, .int .i64 er]) ∧ NumO w1' y1 ng A E w1.heap.size ∧ NumO w2' y2 ng A E w2.heap.size := by
    rcases h with ⟨ho, h⟩ | ⟨ho, _, h⟩
    · rcases g with ⟨_, g⟩ | ⟨go, _⟩
      · exact (out_two h g).2.2
      · exact absurd ho go
    · rcases g with ⟨go, _⟩ | ⟨_, _, g⟩
      · exact absurd go ho
      · exact ⟨_, _, _, _, _, _, h, g, zeroO _ _, zeroO _ _⟩
  obtain ⟨y1, y2, er, ng, A, E, e1, e2, h1, h2⟩ := key
  obtain ⟨a1, c1, a2, c2, n, rfl, rfl, k1, k2, k3, k4⟩ := num_two h1 h2
  simp only [Ending.returned.injEq, Value.tuple.injEq, Array.mk.injEq, List.cons.injEq, Value.agg.injEq, Value.bool.injEq, Value.int.injEq, and_true, true_and] at e1 e2
  obtain ⟨⟨rfl, rfl, rfl⟩, rfl⟩ := e1
  obtain ⟨⟨rfl, rfl, rfl⟩, rfl⟩ := e2
  exact ⟨rfl, rfl, rfl, n, _, k3.2.2, k1, k2⟩

/-- What a float's value and the document's answer have in common. -/
def TwinY (w6 : World) (base : Nat) (ng : Bool) (v : Value) (E : Int) (W : World) (en : Ending) (w' : World) : Prop :=
  ∃ ua n uc, en = .returned (.agg #[.bool ng, .slice ua n uc, .int .i64 E]) ∧ Fr W w' None ∧ ∃ x : Nat → Int, n ≤ 2000 ∧ VRow w6 v n (fun j => .int .i64 (x j)) 3 base ∧ VRow w' (.slice ua n uc) n (fun j => .int .i64 (x j)) 3 W.heap.size ∧ ValidP ng n x E

theorem twin {neg : Bool} {N T : Nat} {e : Int} {w5 w6 : World} {ng : Bool} {v : Value} {E er : Int} (h : OutPost neg N e w5 (.returned (.tuple #[.agg #[.bool ng, v, .int .i64 E], .int .i64 er])) w6) (hN : N < 2 ^ T) (hT : T ≤ 100) (e0 : -1048576 ≤ e) (e1 : e ≤ 1000000) :
    er = 0 ∧ ∀ W en w', NormO neg N e W en w' → TwinY w6 w5.heap.size ng v E W en w' := by
  have hz : zeroN = .agg #[.bool ng, v, .int .i64 E] → ng = false ∧ v = .slice none 0 0 ∧ E = 0 := by
    intro h
    unfold zeroN at h
    simp only [Value.agg.injEq, Array.mk.injEq, List.cons.injEq, Value.bool.injEq, Value.int.injEq, and_true, true_and] at h
    obtain ⟨rfl, rfl, rfl⟩ := h
    exact ⟨rfl, rfl, rfl⟩
  obtain ⟨f, ⟨hN0, h⟩ | ⟨k, tz, ⟨k1, k2, y, h, hy⟩ | ⟨k1, h⟩⟩⟩ := h
  · simp only [Ending.returned.injEq, Value.tuple.injEq, Array.mk.injEq, List.cons.injEq, Value.int.injEq, and_true, true_and] at h
    obtain ⟨h, rfl⟩ := h
    obtain ⟨rfl, rfl, rfl⟩ := hz h.symm
    refine ⟨rfl, fun W en w' g => ?_⟩
    obtain ⟨f2, ⟨_, rfl⟩ | ⟨j, _, tz, _⟩⟩ := g
    · exact ⟨none, 0, 0, rfl, f2, fun _ => 0, by omega, VRow.nil _ _ _ _, VRow.nil _ _ _ _, Or.inl ⟨rfl, rfl, rfl⟩⟩
    · exact absurd tz.pos (by omega)
  · simp only [Ending.returned.injEq, Value.tuple.injEq, Array.mk.injEq, List.cons.injEq, Value.int.injEq, and_true, true_and] at h
    obtain ⟨rfl, rfl⟩ := h
    refine ⟨rfl, fun W en w' g => ?_⟩
    obtain ⟨f2, ⟨hN0, _⟩ | ⟨j, _, tz2, y2, rfl, hy2⟩⟩ := g
    · exact absurd tz.pos (by omega)
    · obtain rfl := tz_uniq tz tz2
      have hy1 := hy
      obtain ⟨_, _, hx, _⟩ := hy1
      simp only [Value.agg.injEq, Array.mk.injEq, List.cons.injEq, Value.bool.injEq, Value.int.injEq, and_true, true_and] at hx
      obtain ⟨rfl, rfl, rfl⟩ := hx
      obtain ⟨a1, c1, a2, c2, n, e1, rfl, g1, g2, g3, g4⟩ := num_two hy hy2
      simp only [Value.agg.injEq, Array.mk.injEq, List.cons.injEq, and_true, true_and] at e1
      subst e1
      exact ⟨a2, n, c2, rfl, f2, _, g3.2.2, g1, g2, odd_validP g3 g4 tz.1 k1 k2⟩
  · exact absurd (tz_bound tz hN) (by omega)

theorem pmag_lt (b : Int) : (pmag b).natAbs < 2 ^ 53 := by
  have := pmag_bounds b
  rw [show (2 : Nat) ^ 53 = 9007199254740992 from rfl]
  omega
theorem pmag3_lt (b : Int) : (pmag3 b).natAbs < 2 ^ 53 := by
  have := pmag3_bounds b
  rw [show (2 : Nat) ^ 53 = 9007199254740992 from rfl]
  omega

/-- What Of answers, at any pattern. -/
def FloatPostO (ok : Bool) (neg : Bool) (N : Nat) (e : Int) (w : World) (en : Ending) (w' : World) : Prop :=
  ∃ ng a n c E er, en = .returned (.tuple #[.agg #[.bool ng, .slice a n c, .int .i64 E], .int .i64 er]) ∧ Fr w w' None ∧ (∀ q, Blk (.slice a n c) q → w.heap.size ≤ q ∧ q < w'.heap.size) ∧
    ((ok = true ∧ er = 0 ∧ ∀ W en w'', NormO neg N e W en w'' → TwinY w' w.heap.size ng (.slice a n c) E W en w'') ∨ (ok = false ∧ er = 10 ∧ ng = false ∧ a = none ∧ n = 0 ∧ c = 0 ∧ E = 0))

theorem dOf_any (b : Int) (w : World) (hT : Tab w) : Calls Tryd.prog 8 #[.int .i64 b] w (FloatPostO (pok b) (pneg b) (pmag b).natAbs (pexp b) w) := by
  cases c : pok b
  · refine (dOf_none b w c).mono ?_
    rintro en w' ⟨rfl, f⟩
    exact ⟨false, none, 0, 0, 0, 10, rfl, f, (fun q ⟨_, _, h⟩ => by cases h), Or.inr ⟨rfl, rfl, rfl, rfl, rfl, rfl, rfl⟩⟩
  · refine (dOf_all b w c hT).mono ?_
    intro en w' h
    obtain ⟨f, ng, a, n, cc, E, er, rfl, hb⟩ := out_shape h
    obtain ⟨_, _, m2, m3⟩ := pmag_bounds b
    obtain ⟨e0, htw⟩ := twin h (pmag_lt b) (by omega) m2 m3
    exact ⟨ng, a, n, cc, E, er, rfl, f, hb, Or.inl ⟨rfl, e0, htw⟩⟩
theorem dOf32_any (b : Int) (w : World) (hb : I64 b) (hT : Tab w) : Calls Tryd.prog 16 #[.int .i64 b] w (FloatPostO (pok3 b) (pneg3 b) (pmag3 b).natAbs (pexp3 b) w) := by
  cases c : pok3 b
  · refine (dOf32_none b w hb c).mono ?_
    rintro en w' ⟨rfl, f⟩
    exact ⟨false, none, 0, 0, 0, 10, rfl, f, (fun q ⟨_, _, h⟩ => by cases h), Or.inr ⟨rfl, rfl, rfl, rfl, rfl, rfl, rfl⟩⟩
  · refine (dOf32_all b w hb c hT).mono ?_
    intro en w' h
    obtain ⟨f, ng, a, n, cc, E, er, rfl, hq⟩ := out_shape h
    obtain ⟨_, _, m2, m3⟩ := pmag3_bounds b
    obtain ⟨e0, htw⟩ := twin h (pmag3_lt b) (by omega) m2 m3
    exact ⟨ng, a, n, cc, E, er, rfl, f, hq, Or.inl ⟨rfl, e0, htw⟩⟩

theorem finite_any (b : Int) (hb : I64 b) (w : World) : Calls Tryd.prog 17 #[.int .i64 b] w fun e w' => e = .returned (.bool (pok b)) ∧ w = w' := by
  have H := Lib.hid (rClass_any b hb)
  by_cases c : cl b < 3
  · have P : Hid (pok b = true) := Lib.hid (decide_eq_true c)
    generalize cl b = k at H c
    go_enter Tryd.func17, Tryd.ntmps17
    go_wp2_with fail
    refine (H.out w).mono ?_
    rintro e w' ⟨rfl, rfl⟩
    go_wp2_with fail
    go_ret
    exact ⟨by rw [P.out]; rfl, rfl⟩
  · have P : Hid (pok b = false) := Lib.hid (decide_eq_false c)
    generalize cl b = k at H c
    have C := Lib.hid (decide_eq_false c)
    have c' : 3 ≤ k := by omega
    clear c
    go_enter Tryd.func17, Tryd.ntmps17
    go_wp2_with fail
    refine (H.out w).mono ?_
    rintro e w' ⟨rfl, rfl⟩
    go_wp2_with fail
    go_ret
    exact ⟨by rw [P.out]; exact congrArg (fun q => Ending.returned (.bool q)) C.out, rfl⟩
end Go.Proofs.YtgmebioogkmfgaaDoor
