/- or with a small number, more. Condition: it stands in each fact. -/
import Derived.Test.YtgmebioogkmfgaaGreatDoorZM11
namespace Go.Proofs.YtgmebioogkmfgaaGreatDoor
open Go.RowKit Go.Pt Go.Mem

set_option maxRecDepth 100000 in
set_option maxHeartbeats 2000000 in
theorem or_one (b len cap : Nat) (l : List Nat) (N d : Nat) (yb yc : Nat) (yl : List Nat) (w : World) (hr : Row w b l) (h0 : 0 < len) (h1 : l.length = cap) (h2 : len ≤ cap) (h3 : cap ≤ 1000000) (hv : val (fun j => l.getD j 0) len = N)
    (hm : N % 1073741824 = 0) (hd : d < 1073741824) (hy : Row w yb yl) (hyl : 1 ≤ yl.length) (hy0 : yl.getD 0 0 = d) :
    Calls Tryz.prog 73 #[.slice (some ⟨b, 0, none⟩) len cap, .slice (some ⟨b, 0, none⟩) len cap, .slice (some ⟨yb, 0, none⟩) 1 yc] w (NatPost (Blk (.slice (some ⟨b, 0, none⟩) len cap)) (N + d) w) := by
  have xc := hr.cell (i := 0) (by omega)
  have xf := hr.free 0
  have yc' := hy.cell (i := 0) (by omega)
  rw [hy0] at yc'
  have hX : l.getD 0 0 % 1073741824 = 0 := by
    obtain ⟨t, ht⟩ := val_low (fun j => l.getD j 0) h0
    rw [hv] at ht
    omega
  have e1 : bits .or .u64 ((l.getD 0 0 : Nat) : Int) (d : Int) = ((l.getD 0 0 + d : Nat) : Int) := or_add (s := 30) (by omega) _ _ (hr.2 0) hX hd
  have hvl : l.getD 0 0 + d < 18446744073709551616 := add_lt (s := 30) (by omega) _ _ (hr.2 0) hX hd
  have V : val (fun j => (l.set 0 (l.getD 0 0 + d)).getD j 0) len = N + d := by rw [val_set0 l d h0 (by omega), hv]
  have hne : w.cell? ⟨b, 0, none⟩ = some (.int .u64 ((l.getD 0 0 : Nat) : Int)) := xc
  generalize hv0 : l.getD 0 0 + d = v at e1 hvl V
  generalize l.getD 0 0 = X at xc e1 hv0
  have H := Lib.hid (And.intro hr (And.intro h1 V))
  clear hr h1 hv hy hy0 hyl hX hm V hne hv0
  have i1 : ¬ ((len : Int) < 1) := by omega
  have i2 : (1 : Int) ≤ (len : Int) := by omega
  go_enter Tryz.func73, Tryz.ntmps73
  go_wp2_with fail
  refine (make_old b len cap len h2 w).mono ?_
  rintro e w1 ⟨rfl, rfl⟩
  go_wp2_with fail
  go_loopw [10] (fun i wr => OrInv b l v w i wr) (fun i _ => 1 - (intOf i).toNat)
  case atStart => exact Or.inl ⟨rfl, rfl⟩
  case round =>
    rcases hrel with ⟨rfl, rfl⟩ | ⟨rfl, r1, r2⟩
    · go_wp2
      go_still_tail 12, (by kernel_rfl)
      change wpList _ _ _ _ _ w.drew
      have d1 : w.drew.cell? ⟨b, 0, none⟩ = some (.int .u64 (X : Int)) := xc
      have d2 : w.drew.frozen? ⟨b, 0, none⟩ = false := xf
      have D : Hid (Row (w.drew.setCell ⟨b, 0, none⟩ (.int .u64 (v : Int))) b (l.set 0 v) ∧ Fr w (w.drew.setCell ⟨b, 0, none⟩ (.int .u64 (v : Int))) (One b)) :=
        ⟨((H.out.1).drewN 1).set 0 v hvl, ((Fr.refl w (One b)).drew).setCell (p := ⟨b, 0, none⟩) (Or.inl rfl) _⟩
      generalize w.drew = w2 at d1 d2 D ⊢
      go_wp2
      go_roundw
      case rel => exact Or.inr ⟨rfl, D.out⟩
      case measure => simp [intOf]
    · have hl : (l.set 0 v).length = cap := by rw [List.length_set]; exact H.out.2.1
      have hc := run_copy_self wr.drew b 1 (len - 1) (cap - 1) (cap - 1) (l.set 0 v) (r1.drewN 1) (by omega) 3
      have hc0 := run_copy_self wr.drew b 0 (len - 1) 0 0 (l.set 0 v) (r1.drewN 1) (by omega) 3
      have D : Hid (Row wr.drew b (l.set 0 v) ∧ Fr w wr.drew (One b) ∧ (l.set 0 v).length = cap) := ⟨r1.drewN 1, r2.drew, hl⟩
      clear r1 r2 hl xc xf yc'
      go_wp2_with fail
      go_still_tail 8, (by kernel_rfl)
      change wpList _ _ _ _ _ wr.drew
      generalize wr.drew = w2 at hc hc0 D ⊢
      go_wp2_with fail
      · subst h
        refine (norm_row b len _ (l.set 0 v) D.out.2.2 h2 h3 _ D.out.1).mono ?_
        rintro e w4 ⟨k, rfl, hk, rfl⟩
        have HK := Lib.hid hk
        clear hk
        go_wp2_with fail
        go_ret
        exact or_post D.out.2.2 h2 h3 H.out.2.2 D.out.1 D.out.2.1 HK.out _ ⟨_, _, rfl⟩
      · refine (norm_row b len _ (l.set 0 v) D.out.2.2 h2 h3 _ D.out.1).mono ?_
        rintro e w4 ⟨k, rfl, hk, rfl⟩
        have HK := Lib.hid hk
        clear hk
        go_wp2_with fail
        go_ret
        exact or_post D.out.2.2 h2 h3 H.out.2.2 D.out.1 D.out.2.1 HK.out _ ⟨_, _, rfl⟩

set_option maxRecDepth 100000 in
set_option maxHeartbeats 2000000 in
theorem or_first (za : Option Addr) (zc M : Nat) (d : Nat) (yb yc : Nat) (yl : List Nat) (w : World) (hyc : 1 ≤ yc) (hz : NatV w (.slice za 0 zc) M) (hy : Row w yb yl) (hyl : 1 ≤ yl.length) (hy0 : yl.getD 0 0 = d) :
    Calls Tryz.prog 73 #[.slice za 0 zc, .slice za 0 zc, .slice (some ⟨yb, 0, none⟩) 1 yc] w (NatPost (Blk (.slice za 0 zc)) d w) := by
  have hm := make_any (.slice za 0 zc) M 1 (by omega) (by omega) w hz
  have HM := Lib.hid hm
  have H := Lib.hid (And.intro hy (And.intro hyl hy0))
  clear hm hy hyl hy0 hz
  go_enter Tryz.func73, Tryz.ntmps73
  go_wp2_with fail
  refine (HM.out).mono ?_
  rintro e w1 ⟨zb, zc1, zl, rfl, m1, m2, m3, m4, m5, m6⟩
  have M := Lib.hid (And.intro m1 (And.intro m2 (And.intro m5 m6)))
  clear m1 m2 m5 m6
  go_wp2_with fail
  go_loopw [10] (fun i wr => i = .int .i64 0 ∧ w1 = wr) (fun i _ => 1 - (intOf i).toNat)
  case atStart => exact ⟨rfl, rfl⟩
  case round =>
    obtain ⟨rfl, rfl⟩ := hrel
    obtain ⟨m1, m2, m5, m6⟩ := M.out
    obtain ⟨y1, y2, y3⟩ := H.out
    obtain ⟨w3, zl', c1, c2, c3, c4, c5, c6⟩ := run_copyW w1.drew zb zc1 yb 0 yc 1 zl (fun j => yl.getD j 0) (m1.drewN 1) (fun j hj => by
      obtain rfl : j = 0 := by omega
      have := (y1.keep m6 (fun x => x)).cell (i := 0) (by omega)
      exact this) y1.2 (by omega) 3
    have C := Lib.hid (And.intro c2 (And.intro (c3.trans m2) (And.intro m5 (And.intro m6 (And.intro (((Fr.refl w1 (One zb)).drew).trans c6 (fun x h => h) (fun x _ h => h)) ((c4 0 (by omega)).trans y3))))))
    clear c2 c3 c4 c5 c6
    clear m1 m2 m5 m6 y1 y2 y3
    have i3 : (1 : Int) ≤ (zc1 : Int) := by omega
    have i4 : (1 : Int) ≤ (yc : Int) := by omega
    go_wp2_with fail
    go_still_tail 8, (by kernel_rfl)
    change wpList _ _ _ _ _ w1.drew
    generalize w1.drew = w2 at c1 C ⊢
    go_wp2_with fail
    refine (norm_row zb 1 zc1 zl' C.out.2.1 m3 m4 _ C.out.1).mono ?_
    rintro e w4 ⟨k, rfl, hk, rfl⟩
    have HK := Lib.hid hk
    clear hk
    go_wp2_with fail
    go_ret
    clear c1
    obtain ⟨c1, c2, c3, c4, c5, c6⟩ := C.out
    obtain ⟨k1, k2, k3⟩ := HK.out
    refine ⟨_, rfl, Or.inr ⟨zb, k, zc1, zl', rfl, c1, c2, by omega, m4, ?_, k3⟩, ?_, ?_⟩
    · rw [← val_zeros (x := fun j => zl'.getD j 0) 1 k1 k2]
      simp only [val]
      rw [c6]
      omega
    · rintro b ⟨_, _, hb⟩
      cases hb
      exact c3
    · exact c4.trans c5 (fun x hx => hx.elim) (fun x hx hb => by cases hb; rcases c3 with h | h; exact h; omega)

/-- or, in place, of a number that ends in 30 zero bits and one of 30 bits; not both 0. -/
theorem or_any (x y : Value) (N d : Nat) (w : World) (hx : NatV w x N) (hy : NatV w y d) (hm : N % 1073741824 = 0) (hd : d < 1073741824) (h0 : 0 < N + d) :
    Calls Tryz.prog 73 #[x, x, y] w (NatPost (Blk x) (N + d) w) := by
  rcases Nat.eq_zero_or_pos N with rfl | hN
  · obtain ⟨yb, yc, yl, rfl, yr, y1, y2, y3, y4⟩ := hy.one (by omega) (by omega)
    rw [Nat.zero_add]
    obtain ⟨za, zc, rfl⟩ : ∃ za zc, x = .slice za 0 zc := by
      rcases hx.zero with rfl | ⟨b, cap, l, rfl, _⟩
      · exact ⟨_, _, rfl⟩
      · exact ⟨_, _, rfl⟩
    exact or_first za zc 0 d yb yc yl w y2 hx yr (by omega) y4
  · obtain ⟨b, len, cap, l, rfl, hr, h1, h2, h3, h4, h5, h6⟩ := hx.pos hN
    rcases Nat.eq_zero_or_pos d with rfl | hd0
    · obtain ⟨za, zc, rfl⟩ : ∃ za zc, y = .slice za 0 zc := by
        rcases hy.zero with rfl | ⟨b, cap, l, rfl, _⟩
        · exact ⟨_, _, rfl⟩
        · exact ⟨_, _, rfl⟩
      exact or_none b len cap l N za zc w hr h1 h2 h3 h4
    · obtain ⟨yb, yc, yl, rfl, yr, y1, y2, y3, y4⟩ := hy.one hd0 (by omega)
      exact or_one b len cap l N d yb yc yl w hr h5 h1 h2 h3 h4 hm hd yr (by omega) y4
end Go.Proofs.YtgmebioogkmfgaaGreatDoor
