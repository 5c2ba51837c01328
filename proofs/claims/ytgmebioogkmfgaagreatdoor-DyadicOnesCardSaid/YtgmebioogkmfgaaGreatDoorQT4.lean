/- Make, Of, Of32 of plumb/dyadic. Condition: it stands in each fact. -/
import Derived.Test.YtgmebioogkmfgaaGreatDoorQT1
import Derived.Test.YtgmebioogkmfgaaGreatDoorQT2
import Derived.Test.YtgmebioogkmfgaaGreatDoorQ3
import Derived.Test.YtgmebioogkmfgaaGreatDoorQ5
import Derived.Test.YtgmebioogkmfgaaGreatDoorQV
namespace Go.Proofs.YtgmebioogkmfgaaGreatDoor
open Go.RowKit Go.Pt Go.Mem

/-- The number 0. -/
def zeroN : Value := .agg #[.bool false, .slice none 0 0, .int .i64 0]

theorem NumO.over {w w' : World} {y : Value} {neg : Bool} {A R t base : Nat} {E : Int} {cs : Array Value} (h : NumO w y neg A E base) (hR : At w R cs t) (ht : 3 ≠ t) (f : Fr w w' (One R)) : NumO w' y neg A E base := by
  obtain ⟨v, n, h1, h2, h3, h4⟩ := h
  exact ⟨v, n, h1, h2.vrow.keepS f (fun q hq e => by unfold Mem.One at e; subst e; exact h2.vrow.apart ht hR hq), h3, h4⟩
theorem NumO.keep {w w' : World} {y : Value} {neg : Bool} {A base : Nat} {E : Int} (h : NumO w y neg A E base) (f : Fr w w' None) : NumO w' y neg A E base := by
  obtain ⟨v, n, h1, h2, h3, h4⟩ := h
  exact ⟨v, n, h1, h2.keep f, h3, h4⟩
theorem NumO.shape {w : World} {y : Value} {neg : Bool} {A base : Nat} {E : Int} (h : NumO w y neg A E base) : ∃ a n c, y = .agg #[.bool neg, .slice a n c, .int .i64 E] := by
  obtain ⟨v, n, rfl, h2, _⟩ := h
  obtain ⟨a, c, rfl⟩ := h2.shape
  exact ⟨_, _, _, rfl⟩
theorem NumO.low {w : World} {y : Value} {neg : Bool} {A base base' : Nat} {E : Int} (h : NumO w y neg A E base) (hb : base' ≤ base) : NumO w y neg A E base' := by
  obtain ⟨v, n, h1, h2, h3, h4⟩ := h
  refine ⟨v, n, h1, ?_, h3, h4⟩
  rcases h2 with h | ⟨b, cap, cs, rfl, g1, g2, g3⟩
  · exact Or.inl h
  · exact Or.inr ⟨b, cap, cs, rfl, g1, Nat.le_trans hb g2, g3⟩

/-- What told gives, of any number of at most 60,000 bits. -/
def ToldAll (neg : Bool) (N : Nat) (e : Int) (w : World) (en : Ending) (w' : World) : Prop :=
  Fr w w' None ∧ ((N = 0 ∧ en = .returned zeroN) ∨ ∃ k : Nat, TzIs N k ∧ ((-1048576 ≤ e + (k : Int) ∧ e + (k : Int) ≤ 1048576 ∧ ∃ y, en = .returned y ∧ NumO w' y neg (N / 2 ^ k) (e + (k : Int)) w.heap.size) ∨
    (¬ (-1048576 ≤ e + (k : Int) ∧ e + (k : Int) ≤ 1048576) ∧ en = gaveUp 2)))

theorem told_all (m : Nat) (v : Value) (neg : Bool) (N T : Nat) (e : Int) (w : World) (hT0 : T ≤ 60000) (hNT : N < 2 ^ T)
    (he0 : -6000000 ≤ e) (he1 : e ≤ 6000000) (hm : IntV w m v neg N) (hT : Tab w) :
    Calls Tryz.prog 29 #[.agg #[.pointer (some ⟨m, 0, none⟩), .int .i64 e]] w (ToldAll neg N e w) := by
  rcases Nat.eq_zero_or_pos N with rfl | h0
  · refine (told_zero m v neg e w hm).mono ?_
    rintro en w' ⟨x, rfl, hx, f⟩
    rcases hx.zero.cases with ⟨_, _, _, rfl⟩ | ⟨h, _⟩
    · exact ⟨f, Or.inl ⟨rfl, rfl⟩⟩
    · exact absurd rfl h
  · refine (told_big m v neg N T e w h0 hT0 hNT he0 he1 hm hT).mono ?_
    rintro en w' ⟨k, h1, h2, h3⟩
    exact ⟨h2, Or.inr ⟨k, h1, h3⟩⟩

set_option maxRecDepth 100000 in
set_option maxHeartbeats 2000000 in
theorem whole_empty (neg : Bool) (b cap : Nat) (w : World) : Calls Tryz.prog 30 #[.bool neg, .slice (some ⟨b, 0, none⟩) 0 cap] w (NewPost false 0 w) := by
  have P := Lib.hid (new_zero w)
  have hsh := alloc_shell w false (.slice none 0 0)
  have z0 := hsh.c0
  have z1 := hsh.c1
  have z2 := hsh.free 0
  have hneg : ∀ W, Shell W w.heap.size (.slice none 0 0) false → Calls Tryz.prog 37 #[.pointer (some ⟨w.heap.size, 0, none⟩), .pointer (some ⟨w.heap.size, 0, none⟩)] W fun e w' => e = .returned (.pointer (some ⟨w.heap.size, 0, none⟩)) ∧ w' = W.setCell ⟨w.heap.size, 0, none⟩ (.bool false) := by
    intro W hW
    have hs : Calls Tryz.prog 59 #[.pointer (some ⟨w.heap.size, 0, none⟩), .pointer (some ⟨w.heap.size, 0, none⟩)] W fun e w' => e = .returned (.pointer (some ⟨w.heap.size, 0, none⟩)) ∧ W = w' := by
      have hne := neq_same W ⟨w.heap.size, 0, none⟩
      clear hW
      go_enter Tryz.func59, Tryz.ntmps59
      go_wp2
      go_ret
      exact ⟨rfl, rfl⟩
    have z0 := hW.c0
    have z1 := hW.c1
    have z2 := hW.free 0
    have HS := Lib.hid hs
    clear hs hW
    go_enter Tryz.func37, Tryz.ntmps37
    go_wp2_with fail
    refine (HS.out).mono ?_
    rintro e w1 ⟨rfl, rfl⟩
    go_wp2_with fail
    go_ret
    exact ⟨rfl, rfl⟩
  have HSH := Lib.hid hsh
  have HNG := Lib.hid hneg
  clear hsh z0 z1 z2 hneg
  go_enter Tryz.func30, Tryz.ntmps30
  go_wp2_with fail
  generalize w.alloc (.cells #[.bool false, .slice none 0 0] 81) = w0 at P HSH ⊢
  go_loopw [10] (fun i wr => i = .int .i64 0 ∧ w0 = wr) (fun _ _ => 0)
  case atStart => exact ⟨rfl, rfl⟩
  case round =>
    obtain ⟨rfl, rfl⟩ := hrel
    cases neg
    · go_wp2_with fail
      go_ret
      exact P.out
    · go_wp2_with fail
      refine (HNG.out w0 HSH.out).mono ?_
      rintro e w1 ⟨rfl, rfl⟩
      have hP : NewPost false 0 w (.returned (.pointer (some ⟨w.heap.size, 0, none⟩))) (w0.setCell ⟨w.heap.size, 0, none⟩ (.bool false)) := by
        obtain ⟨p, pv, e1, h1, h2, h3, h4⟩ := P.out
        injection e1 with e1
        injection e1 with e1
        injection e1 with e1
        injection e1 with e1
        subst e1
        exact ⟨_, pv, rfl, h1.setNeg false, h2, h3, h4.setCell (p := ⟨w.heap.size, 0, none⟩) (Or.inr (Nat.le_refl _)) _⟩
      have HP := Lib.hid hP
      clear hP
      go_wp2_with fail
      go_ret
      exact HP.out

/-- The digits of a list that is a number's. -/
def digN (n : Nat) (x : Nat → Int) (j : Nat) : Nat := if j < n then (x j).toNat else 0
theorem digN_eq {n : Nat} {x : Nat → Int} (h : ValidI n x) {j : Nat} (hj : j < n) : x j = (digN n x j : Int) := by
  have := (h.2.1 j hj).1
  unfold digN
  rw [if_pos hj]
  omega
theorem digN_digs {n : Nat} {x : Nat → Int} (h : ValidI n x) : Digs n (digN n x) := by
  refine ⟨fun j => ?_, fun h0 => ?_, h.1⟩
  · unfold digN
    split
    · rename_i c; have := h.2.1 j c; omega
    · omega
  · have h1 := h.2.2 h0
    have h2 := digN_eq h (j := n - 1) (by omega)
    omega
theorem digN_lt {n : Nat} {x : Nat → Int} (h : ValidI n x) : dv (digN n x) n < 2 ^ (30 * n) := dv_lt (digN_digs h).1 n
theorem digN_pos {n : Nat} {x : Nat → Int} (h : ValidI n x) (h0 : 0 < n) : 0 < dv (digN n x) n := by
  obtain ⟨q, rfl⟩ : ∃ q, n = q + 1 := ⟨n - 1, by omega⟩
  have h1 := (digN_digs h).2.1 h0
  rw [Nat.add_sub_cancel] at h1
  show 0 < dv (digN (q + 1) x) q + digN (q + 1) x q * 2 ^ (30 * q)
  have := Nat.mul_pos (Nat.pos_of_ne_zero h1) (Nat.two_pow_pos (30 * q))
  omega

/-- whole of a list that was lent. -/
theorem whole_lent (neg : Bool) (b cap n : Nat) (x : Nat → Int) (w : World) (hv : ValidI n x) (h : IntsV w (.slice (some ⟨b, 0, none⟩) n cap) n x) :
    ∃ ng, (n ≠ 0 → ng = neg) ∧ Calls Tryz.prog 30 #[.bool neg, .slice (some ⟨b, 0, none⟩) n cap] w (NewPost ng (dv (digN n x) n) w) := by
  rcases Nat.eq_zero_or_pos n with rfl | h0
  · exact ⟨false, fun h => absurd rfl h, whole_empty neg b cap w⟩
  · obtain ⟨a, c, e, hc, hin⟩ := h
    cases e
    refine ⟨neg, fun _ => rfl, whole_pos b cap n (digN n x) neg w h0 (digN_digs hv) hc ?_ fun j hj => ?_⟩
    · obtain ⟨b', off, e, h1, _⟩ := hin 0 h0
      cases e
      exact h1
    · obtain ⟨b', off, e, _, h2⟩ := hin j hj
      cases e
      rw [Nat.zero_add] at h2
      rw [h2, digN_eq hv hj]

/-- What a call of plumb/dyadic answers: neg, N times 2^e. -/
def OutPost (neg : Bool) (N : Nat) (e : Int) (w : World) (en : Ending) (w' : World) : Prop :=
  Fr w w' None ∧ ((N = 0 ∧ en = .returned (.tuple #[zeroN, .int .i64 0])) ∨ ∃ k : Nat, TzIs N k ∧ ((-1048576 ≤ e + (k : Int) ∧ e + (k : Int) ≤ 1048576 ∧ ∃ y, en = .returned (.tuple #[y, .int .i64 0]) ∧ NumO w' y neg (N / 2 ^ k) (e + (k : Int)) w.heap.size) ∨
    (¬ (-1048576 ≤ e + (k : Int) ∧ e + (k : Int) ≤ 1048576) ∧ en = .returned (.tuple #[zeroN, .int .i64 2]))))

/-- The world behind the two results' being laid. -/
theorem out_world {w w2 : World} {R A base : Nat} {neg : Bool} {E : Int} {x a b c : Value} {b0 : Bool} {u v : Value} (hw : w.heap.size ≤ R) (f : Fr w w2 None) (hx : NumO w2 x neg A E base) (r2 : At w2 R #[.bool b0, u, v] 24) (r3 : At w2 (R + 1) #[.int .i64 0] 32) :
    At ((((w2.setCell ⟨R, 0, none⟩ a).setCell ⟨R, 1, none⟩ b).setCell ⟨R, 2, none⟩ c).setCell ⟨R + 1, 0, none⟩ (.int .i64 0)) R #[a, b, c] 24 ∧
    At ((((w2.setCell ⟨R, 0, none⟩ a).setCell ⟨R, 1, none⟩ b).setCell ⟨R, 2, none⟩ c).setCell ⟨R + 1, 0, none⟩ (.int .i64 0)) (R + 1) #[.int .i64 0] 32 ∧
    NumO ((((w2.setCell ⟨R, 0, none⟩ a).setCell ⟨R, 1, none⟩ b).setCell ⟨R, 2, none⟩ c).setCell ⟨R + 1, 0, none⟩ (.int .i64 0)) x neg A E base ∧
    Fr w ((((w2.setCell ⟨R, 0, none⟩ a).setCell ⟨R, 1, none⟩ b).setCell ⟨R, 2, none⟩ c).setCell ⟨R + 1, 0, none⟩ (.int .i64 0)) None := by
  obtain ⟨az, fz⟩ := put3 r2 a b c
  have rz := r3.keep fz (fun e => by unfold Mem.One at e; omega)
  have hz := hx.over r2 (by decide) fz
  generalize ((w2.setCell ⟨R, 0, none⟩ a).setCell ⟨R, 1, none⟩ b).setCell ⟨R, 2, none⟩ c = wz at az fz rz hz ⊢
  have fy : Fr wz (wz.setCell ⟨R + 1, 0, none⟩ (.int .i64 0)) (One (R + 1)) := (Fr.refl wz (One (R + 1))).setCell (p := ⟨R + 1, 0, none⟩) (Or.inl rfl) _
  refine ⟨az.keep fy (fun e => by unfold Mem.One at e; omega), rz.put 0 (.int .i64 0), hz.over rz (by decide) fy, ?_⟩
  exact (f.trans fz (fun _ h => h) (fun x hx h => by unfold Mem.One at h; omega)).trans fy (fun _ h => h) (fun x hx h => by unfold Mem.One at h; omega)
/-- .. where it is the zero that is laid. -/
theorem out_zero {w w2 : World} {R : Nat} {b0 : Bool} {u v : Value} (hw : w.heap.size ≤ R) (f : Fr w w2 None) (r2 : At w2 R #[.bool b0, u, v] 24) (r3 : At w2 (R + 1) #[.int .i64 0] 32) :
    At ((((w2.setCell ⟨R, 0, none⟩ (.bool false)).setCell ⟨R, 1, none⟩ (.slice none 0 0)).setCell ⟨R, 2, none⟩ (.int .i64 0)).setCell ⟨R + 1, 0, none⟩ (.int .i64 0)) R #[.bool false, .slice none 0 0, .int .i64 0] 24 ∧
    At ((((w2.setCell ⟨R, 0, none⟩ (.bool false)).setCell ⟨R, 1, none⟩ (.slice none 0 0)).setCell ⟨R, 2, none⟩ (.int .i64 0)).setCell ⟨R + 1, 0, none⟩ (.int .i64 0)) (R + 1) #[.int .i64 0] 32 ∧
    Fr w ((((w2.setCell ⟨R, 0, none⟩ (.bool false)).setCell ⟨R, 1, none⟩ (.slice none 0 0)).setCell ⟨R, 2, none⟩ (.int .i64 0)).setCell ⟨R + 1, 0, none⟩ (.int .i64 0)) None := by
  have hx : NumO w2 zeroN false 0 0 0 := ⟨_, 0, rfl, IRow.nil _ _ _, ⟨dgt_lt 0, fun h => by omega, by omega⟩, rfl⟩
  obtain ⟨h1, h2, _, h3⟩ := out_world (a := .bool false) (b := .slice none 0 0) (c := .int .i64 0) hw f hx r2 r3
  exact ⟨h1, h2, h3⟩
/-- The world behind what recovers. -/
theorem out_caught {w w2 : World} {R : Nat} {k : Int} (hw : w.heap.size ≤ R) (f : Fr w w2 None) (r2 : At w2 R #[.bool false, .slice none 0 0, .int .i64 0] 24) (r3 : At w2 (R + 1) #[.int .i64 0] 32) :
    At ((w2.alloc (.cells #[.int .i64 k] 57)).setCell ⟨R + 1, 0, none⟩ (.int .i64 k)) R #[.bool false, .slice none 0 0, .int .i64 0] 24 ∧
    At ((w2.alloc (.cells #[.int .i64 k] 57)).setCell ⟨R + 1, 0, none⟩ (.int .i64 k)) (R + 1) #[.int .i64 k] 32 ∧
    Fr w ((w2.alloc (.cells #[.int .i64 k] 57)).setCell ⟨R + 1, 0, none⟩ (.int .i64 k)) None := by
  have fa : Fr w2 (w2.alloc (.cells #[.int .i64 k] 57)) None := (Fr.refl w2 None).alloc _
  have ra := r2.keep fa (fun x => x)
  have rb := r3.keep fa (fun x => x)
  have fb : Fr (w2.alloc (.cells #[.int .i64 k] 57)) ((w2.alloc (.cells #[.int .i64 k] 57)).setCell ⟨R + 1, 0, none⟩ (.int .i64 k)) (One (R + 1)) := (Fr.refl _ (One (R + 1))).setCell (p := ⟨R + 1, 0, none⟩) (Or.inl rfl) _
  exact ⟨ra.keep fb (fun e => by unfold Mem.One at e; omega), rb.put 0 (.int .i64 k), (f.trans fa (fun _ h => h) (fun _ _ h => h)).trans fb (fun _ h => h) (fun x hx h => by unfold Mem.One at h; omega)⟩

set_option maxRecDepth 100000 in
set_option maxHeartbeats 4000000 in
theorem dMake_bad (neg : Bool) (v : Value) (n : Nat) (x : Nat → Int) (e : Int) (w : World) (hn : n ≤ 100000) (h : IntsV w v n x) (hbad : ¬ ValidI n x) :
    Calls Tryz.prog 7 #[.bool neg, v, .int .i64 e] w fun en w' => en = .returned (.tuple #[zeroN, .int .i64 11]) ∧ Fr w w' None := by
  obtain ⟨r0, r1, f0⟩ := res_at w
  have hval := valid_nat v n x _ hn (h.keep f0)
  rw [decide_eq_false hbad] at hval
  have HV := Lib.hid hval
  have F0 := Lib.hid f0
  have R0 := Lib.hid r0
  have R1 := Lib.hid r1
  obtain ⟨a, c, rfl, _⟩ := h
  clear hval f0 r0 r1
  go_enter_defers Tryz.func7, Tryz.ntmps7
  go_wp2_with fail
  generalize (w.alloc (.cells #[.bool false, .slice none 0 0, .int .i64 0] 24)).alloc (.cells #[.int .i64 0] 32) = w0 at HV F0 R0 R1 ⊢
  refine (HV.out).mono ?_
  rintro en w1 ⟨rfl, f1⟩
  have FX := Lib.hid (F0.out.trans f1 (fun _ h => h) (fun _ _ h => h))
  have R2 := Lib.hid (R0.out.keep f1 (fun x => x))
  have R3 := Lib.hid (R1.out.keep f1 (fun x => x))
  clear f1
  go_wp2_with fail
  refine leaves_cons (f := 27) (args := #[.pointer (some ⟨w.heap.size + 1, 0, none⟩)]) (by simp) (by simp [go_sem]) ?_
  refine (caught_panicking (w.heap.size + 1) _ 0 11 [] w1 R3.out).mono ?_
  rintro en u' w9 ⟨rfl, rfl, rfl⟩
  obtain ⟨ay, ry, fy⟩ := out_caught (k := 11) (Nat.le_refl _) FX.out R2.out R3.out
  exact ans_end rfl rfl rfl ay ry ⟨rfl, fy⟩

set_option maxRecDepth 100000 in
set_option maxHeartbeats 4000000 in
theorem dMake_good (neg : Bool) (b cap n : Nat) (x : Nat → Int) (e : Int) (w : World) (h : IntsV w (.slice (some ⟨b, 0, none⟩) n cap) n x) (hv : ValidI n x) (hT : Tab w) :
    Calls Tryz.prog 7 #[.bool neg, .slice (some ⟨b, 0, none⟩) n cap, .int .i64 e] w (OutPost neg (dv (digN n x) n) (min (max e (-4194304)) 4194304) w) := by
  obtain ⟨r0, r1, f0⟩ := res_at w
  have hval := valid_nat _ n x _ (by have := hv.1; omega) (h.keep f0)
  rw [decide_eq_true hv] at hval
  have hwh := fun W f => whole_lent neg b cap n x W hv ((h.keep f0).keep f)
  have hpos := fun h0 => digN_pos hv h0
  have hlt := Nat.lt_of_lt_of_le (digN_lt hv) (two_mono (30 * n) 60000 (by have := hv.1; omega))
  have hz : n = 0 → dv (digN n x) n = 0 := fun h => by subst h; rfl
  obtain ⟨a', c', e', hcap, _⟩ := h
  cases e'
  generalize dv (digN n x) n = N at *
  obtain ⟨T, hT0, hT1⟩ : ∃ T, T = 60000 ∧ N < 2 ^ T := ⟨60000, rfl, hlt⟩
  obtain ⟨E, hE, hE0, hE1⟩ : ∃ E, min (max e (-4194304)) 4194304 = E ∧ -6000000 ≤ E ∧ E ≤ 6000000 := ⟨_, rfl, by omega, by omega⟩
  rw [hE]
  have HE := Lib.hid hE
  have HV := Lib.hid hval
  have HW := Lib.hid hwh
  have F0 := Lib.hid f0
  have R0 := Lib.hid r0
  have R1 := Lib.hid r1
  have HT := Lib.hid hT
  have HN := Lib.hid (And.intro hpos (And.intro hT1 hz))
  have ic : (n : Int) ≤ (cap : Int) := by omega
  clear hval f0 r0 r1 hwh hpos hlt hT hT1 hE hz hv
  go_enter_defers Tryz.func7, Tryz.ntmps7
  go_wp2_with fail
  generalize (w.alloc (.cells #[.bool false, .slice none 0 0, .int .i64 0] 24)).alloc (.cells #[.int .i64 0] 32) = w0 at HV HW F0 R0 R1 ⊢
  refine (HV.out).mono ?_
  rintro en w1 ⟨rfl, f1⟩
  have F1 := Lib.hid f1
  clear f1
  go_wp2_with fail
  obtain ⟨ng, hng, hwc⟩ := HW.out w1 F1.out
  have HNG := Lib.hid hng
  clear hng
  refine hwc.mono ?_
  clear hwc
  rintro en w2 ⟨p, pv, rfl, b1, b2, b3, b4⟩
  have fw := (F0.out.trans F1.out (fun _ h => h) (fun _ _ h => h)).trans b4 (fun _ h => h) (fun _ _ h => h)
  have ht := told_all p pv ng N T E w2 (by omega) HN.out.2.1 hE0 hE1 b1 (HT.out.keep fw)
  have HTO := Lib.hid ht
  have B4 := Lib.hid fw
  have R2 := Lib.hid (R0.out.keep (F1.out.trans b4 (fun _ h => h) (fun _ _ h => h)) (fun x => x))
  have R3 := Lib.hid (R1.out.keep (F1.out.trans b4 (fun _ h => h) (fun _ _ h => h)) (fun x => x))
  clear ht b1 b2 b3 b4 fw
  go_wp2_with fail
  rw [HE.out]
  refine (HTO.out).mono ?_
  rintro en w3 ⟨fx, ⟨rfl, rfl⟩ | ⟨k, tz, ⟨k1, k2, y, rfl, hy⟩ | ⟨k1, rfl⟩⟩⟩
  · have r2 := R2.out.keep fx (fun x => x)
    have c0 := r2.cell 0
    have c1 := r2.cell 1
    have c2 := r2.cell 2
    have d0 := r2.free 0
    have d1 := r2.free 1
    have d2 := r2.free 2
    have r3 := R3.out.keep fx (fun x => x)
    have e0 := r3.cell 0
    have g0 := r3.free 0
    have FX := Lib.hid (B4.out.trans fx (fun _ h => h) (fun _ _ h => h))
    have R4 := Lib.hid r2
    have R5 := Lib.hid r3
    clear fx r2 r3
    unfold zeroN
    go_wp2_with fail
    obtain ⟨ay, ry, fy⟩ := out_zero (R := w.heap.size) (Nat.le_refl _) FX.out R4.out R5.out
    generalize (((w3.setCell ⟨w.heap.size, 0, none⟩ (.bool false)).setCell ⟨w.heap.size, 1, none⟩ (.slice none 0 0)).setCell ⟨w.heap.size, 2, none⟩ (.int .i64 0)).setCell ⟨w.heap.size + 1, 0, none⟩ (.int .i64 0) = wy at ay ry fy ⊢
    refine leaves_cons (f := 27) (args := #[.pointer (some ⟨w.heap.size + 1, 0, none⟩)]) (by simp) (by simp [go_sem]) ?_
    refine (caught_idle ⟨w.heap.size + 1, 0, none⟩ wy).mono ?_
    rintro en u' w9 ⟨rfl, rfl, rfl⟩
    exact ans_end rfl rfl rfl ay ry ⟨fy, Or.inl ⟨rfl, rfl⟩⟩
  · obtain ⟨xa, xn, xc, rfl⟩ := hy.shape
    have r2 := R2.out.keep fx (fun x => x)
    have c0 := r2.cell 0
    have c1 := r2.cell 1
    have c2 := r2.cell 2
    have d0 := r2.free 0
    have d1 := r2.free 1
    have d2 := r2.free 2
    have r3 := R3.out.keep fx (fun x => x)
    have e0 := r3.cell 0
    have g0 := r3.free 0
    have hng : ng = neg := HNG.out (fun h => by have := HN.out.2.2 h; have := tz.pos; omega)
    subst hng
    have FX := Lib.hid (B4.out.trans fx (fun _ h => h) (fun _ _ h => h))
    have Y := Lib.hid (And.intro tz (And.intro k1 (And.intro k2 (hy.low B4.out.size))))
    have R4 := Lib.hid r2
    have R5 := Lib.hid r3
    clear fx r2 r3 tz k1 k2 hy
    go_wp2_with fail
    obtain ⟨ay, ry, xy, fy⟩ := out_world (a := .bool ng) (b := .slice xa xn xc) (c := .int .i64 (E + (k : Int))) (R := w.heap.size) (Nat.le_refl _) FX.out Y.out.2.2.2 R4.out R5.out
    generalize (((w3.setCell ⟨w.heap.size, 0, none⟩ (.bool ng)).setCell ⟨w.heap.size, 1, none⟩ (.slice xa xn xc)).setCell ⟨w.heap.size, 2, none⟩ (.int .i64 (E + (k : Int)))).setCell ⟨w.heap.size + 1, 0, none⟩ (.int .i64 0) = wy at ay ry xy fy ⊢
    refine leaves_cons (f := 27) (args := #[.pointer (some ⟨w.heap.size + 1, 0, none⟩)]) (by simp) (by simp [go_sem]) ?_
    refine (caught_idle ⟨w.heap.size + 1, 0, none⟩ wy).mono ?_
    rintro en u' w9 ⟨rfl, rfl, rfl⟩
    exact ans_end rfl rfl rfl ay ry ⟨fy, Or.inr ⟨k, Y.out.1, Or.inl ⟨Y.out.2.1, Y.out.2.2.1, _, rfl, xy⟩⟩⟩
  · have FX := Lib.hid (B4.out.trans fx (fun _ h => h) (fun _ _ h => h))
    have R4 := Lib.hid (R2.out.keep fx (fun x => x))
    have R5 := Lib.hid (R3.out.keep fx (fun x => x))
    have K := Lib.hid (And.intro tz k1)
    clear fx tz k1
    unfold gaveUp
    go_wp2_with fail
    refine leaves_cons (f := 27) (args := #[.pointer (some ⟨w.heap.size + 1, 0, none⟩)]) (by simp) (by simp [go_sem]) ?_
    refine (caught_panicking (w.heap.size + 1) _ 0 2 [] w3 R5.out).mono ?_
    rintro en u' w9 ⟨rfl, rfl, rfl⟩
    obtain ⟨ay, ry, fy⟩ := out_caught (k := 2) (Nat.le_refl _) FX.out R4.out R5.out
    exact ans_end rfl rfl rfl ay ry ⟨fy, Or.inr ⟨k, K.out.1, Or.inr ⟨K.out.2, rfl⟩⟩⟩
end Go.Proofs.YtgmebioogkmfgaaGreatDoor

namespace Go.Proofs.YtgmebioogkmfgaaGreatDoor
open Go.RowKit Go.Pt Go.Mem

theorem pmag3_bounds (b : Int) : 0 ≤ pmag3 b ∧ pmag3 b < 9007199254740992 ∧ -1048576 ≤ pexp3 b ∧ pexp3 b ≤ 1000000 := by
  have h1 : 0 ≤ frc3 b ∧ frc3 b < 8388608 := by unfold frc3; omega
  have h2 : 0 ≤ fld3 b ∧ fld3 b < 256 := by unfold fld3; omega
  unfold pmag3 pexp3
  split <;> (try split) <;> omega

set_option maxRecDepth 100000 in
set_option maxHeartbeats 4000000 in
theorem of_all (neg : Bool) (mag e : Int) (w : World) (h0 : 0 ≤ mag) (h1 : mag < 9007199254740992) (he0 : -6000000 ≤ e) (he1 : e ≤ 6000000) (hT : Tab w) :
    Calls Tryz.prog 32 #[.bool neg, .int .i64 mag, .int .i64 e, .bool true] w (ToldAll neg mag.natAbs e w) := by
  have f0 : Fr w (w.alloc (.cells #[.bool false, .slice none 0 0, .int .i64 0] 24)) None := (Fr.refl w None).alloc _
  have r0 := At.alloc w #[.bool false, .slice none 0 0, .int .i64 0] 24
  have HT := Lib.hid (hT.keep f0)
  have F0 := Lib.hid f0
  have R0 := Lib.hid r0
  clear hT f0 r0
  have hnew : ∀ s : Int, (s = mag ∨ s = -mag) → Calls Tryz.prog 47 #[.int .i64 s] (w.alloc (.cells #[.bool false, .slice none 0 0, .int .i64 0] 24)) (NewPost (decide (s < 0)) s.natAbs (w.alloc (.cells #[.bool false, .slice none 0 0, .int .i64 0] 24))) :=
    fun s hs => newInt s (by unfold I64; omega) _
  have HNEW := Lib.hid hnew
  clear hnew
  cases neg
  · skip
    go_enter Tryz.func32, Tryz.ntmps32
    go_wp2_with fail
    generalize w.alloc (.cells #[.bool false, .slice none 0 0, .int .i64 0] 24) = w0 at HT F0 R0 HNEW ⊢
    refine (HNEW.out (mag) (Or.inl rfl)).mono ?_
    rintro en w1 ⟨p, pv, rfl, b1, b2, b3, b4⟩
    have ht := told_all p pv (decide (mag < 0)) (mag).natAbs 60 e w1 (by omega) (by omega) he0 he1 b1 (HT.out.keep b4)
    have HTO := Lib.hid ht
    have B4 := Lib.hid b4
    clear ht b1 b2 b3 b4
    go_wp2_with fail
    refine (HTO.out).mono ?_
    rintro en w2 ⟨fx, ⟨hz0, rfl⟩ | ⟨k, tz, ⟨k1, k2, y, rfl, hy⟩ | ⟨k1, rfl⟩⟩⟩
    · have r2 := (R0.out.keep B4.out (fun x => x)).keep fx (fun x => x)
      have c0 := r2.cell 0
      have c1 := r2.cell 1
      have c2 := r2.cell 2
      have d0 := r2.free 0
      have d1 := r2.free 1
      have d2 := r2.free 2
      have FX := Lib.hid ((F0.out.trans B4.out (fun _ h => h) (fun _ _ h => h)).trans fx (fun _ h => h) (fun _ _ h => h))
      have R2 := Lib.hid r2
      clear fx r2
      unfold zeroN
      go_wp2_with fail
      obtain ⟨az, fz⟩ := put3 R2.out (.bool false) (.slice none 0 0) (.int .i64 0)
      generalize ((w2.setCell ⟨w.heap.size, 0, none⟩ (.bool false)).setCell ⟨w.heap.size, 1, none⟩ (.slice none 0 0)).setCell ⟨w.heap.size, 2, none⟩ (.int .i64 0) = wz at az fz ⊢
      refine bodyPost_ret (results_cell_row rfl _ _ _ _ _ _ _ rfl az Tryz.underlying24 rfl (by kernel_rfl)) rfl ?_
      exact ⟨FX.out.trans fz (fun _ h => h) (fun x hx h => by unfold Mem.One at h; omega), Or.inl ⟨by omega, rfl⟩⟩
    · obtain ⟨xa, xn, xc, rfl⟩ := hy.shape
      have r2 := (R0.out.keep B4.out (fun x => x)).keep fx (fun x => x)
      have c0 := r2.cell 0
      have c1 := r2.cell 1
      have c2 := r2.cell 2
      have d0 := r2.free 0
      have d1 := r2.free 1
      have d2 := r2.free 2
      have f1 := F0.out.trans B4.out (fun _ h => h) (fun _ _ h => h)
      have FX := Lib.hid (f1.trans fx (fun _ h => h) (fun _ _ h => h))
      have R2 := Lib.hid r2
      have hmag : mag ≠ 0 := fun h => by subst h; exact absurd tz.pos (by simp)
      rw [show decide (mag < 0) = false by simp; omega] at hy ⊢
      rw [show (mag).natAbs = mag.natAbs by omega] at hy tz
      have Y := Lib.hid (And.intro tz (And.intro k1 (And.intro k2 (hy.low f1.size))))
      clear fx r2 tz k1 k2 hy f1
      go_wp2_with fail
      obtain ⟨az, fz⟩ := put3 R2.out (.bool false) (.slice xa xn xc) (.int .i64 (e + (k : Int)))
      generalize ((w2.setCell ⟨w.heap.size, 0, none⟩ (.bool false)).setCell ⟨w.heap.size, 1, none⟩ (.slice xa xn xc)).setCell ⟨w.heap.size, 2, none⟩ (.int .i64 (e + (k : Int))) = wz at az fz ⊢
      refine bodyPost_ret (results_cell_row rfl _ _ _ _ _ _ _ rfl az Tryz.underlying24 rfl (by kernel_rfl)) rfl ?_
      exact ⟨FX.out.trans fz (fun _ h => h) (fun x hx h => by unfold Mem.One at h; omega), Or.inr ⟨k, Y.out.1, Or.inl ⟨Y.out.2.1, Y.out.2.2.1, _, rfl, Y.out.2.2.2.over R2.out (by decide) fz⟩⟩⟩
    · have FX := Lib.hid ((F0.out.trans B4.out (fun _ h => h) (fun _ _ h => h)).trans fx (fun _ h => h) (fun _ _ h => h))
      rw [show (mag).natAbs = mag.natAbs by omega] at tz
      have K := Lib.hid (And.intro tz k1)
      clear fx tz k1
      unfold gaveUp
      go_wp2_with fail
      exact ⟨rfl, FX.out, Or.inr ⟨k, K.out.1, Or.inr ⟨K.out.2, rfl⟩⟩⟩
  · skip
    go_enter Tryz.func32, Tryz.ntmps32
    go_wp2_with fail
    generalize w.alloc (.cells #[.bool false, .slice none 0 0, .int .i64 0] 24) = w0 at HT F0 R0 HNEW ⊢
    refine (HNEW.out (-mag) (Or.inr rfl)).mono ?_
    rintro en w1 ⟨p, pv, rfl, b1, b2, b3, b4⟩
    have ht := told_all p pv (decide (-mag < 0)) (-mag).natAbs 60 e w1 (by omega) (by omega) he0 he1 b1 (HT.out.keep b4)
    have HTO := Lib.hid ht
    have B4 := Lib.hid b4
    clear ht b1 b2 b3 b4
    go_wp2_with fail
    refine (HTO.out).mono ?_
    rintro en w2 ⟨fx, ⟨hz0, rfl⟩ | ⟨k, tz, ⟨k1, k2, y, rfl, hy⟩ | ⟨k1, rfl⟩⟩⟩
    · have r2 := (R0.out.keep B4.out (fun x => x)).keep fx (fun x => x)
      have c0 := r2.cell 0
      have c1 := r2.cell 1
      have c2 := r2.cell 2
      have d0 := r2.free 0
      have d1 := r2.free 1
      have d2 := r2.free 2
      have FX := Lib.hid ((F0.out.trans B4.out (fun _ h => h) (fun _ _ h => h)).trans fx (fun _ h => h) (fun _ _ h => h))
      have R2 := Lib.hid r2
      clear fx r2
      unfold zeroN
      go_wp2_with fail
      obtain ⟨az, fz⟩ := put3 R2.out (.bool false) (.slice none 0 0) (.int .i64 0)
      generalize ((w2.setCell ⟨w.heap.size, 0, none⟩ (.bool false)).setCell ⟨w.heap.size, 1, none⟩ (.slice none 0 0)).setCell ⟨w.heap.size, 2, none⟩ (.int .i64 0) = wz at az fz ⊢
      refine bodyPost_ret (results_cell_row rfl _ _ _ _ _ _ _ rfl az Tryz.underlying24 rfl (by kernel_rfl)) rfl ?_
      exact ⟨FX.out.trans fz (fun _ h => h) (fun x hx h => by unfold Mem.One at h; omega), Or.inl ⟨by omega, rfl⟩⟩
    · obtain ⟨xa, xn, xc, rfl⟩ := hy.shape
      have r2 := (R0.out.keep B4.out (fun x => x)).keep fx (fun x => x)
      have c0 := r2.cell 0
      have c1 := r2.cell 1
      have c2 := r2.cell 2
      have d0 := r2.free 0
      have d1 := r2.free 1
      have d2 := r2.free 2
      have f1 := F0.out.trans B4.out (fun _ h => h) (fun _ _ h => h)
      have FX := Lib.hid (f1.trans fx (fun _ h => h) (fun _ _ h => h))
      have R2 := Lib.hid r2
      have hmag : mag ≠ 0 := fun h => by subst h; exact absurd tz.pos (by simp)
      rw [show decide (-mag < 0) = true by simp; omega] at hy ⊢
      rw [show (-mag).natAbs = mag.natAbs by omega] at hy tz
      have Y := Lib.hid (And.intro tz (And.intro k1 (And.intro k2 (hy.low f1.size))))
      clear fx r2 tz k1 k2 hy f1
      go_wp2_with fail
      obtain ⟨az, fz⟩ := put3 R2.out (.bool true) (.slice xa xn xc) (.int .i64 (e + (k : Int)))
      generalize ((w2.setCell ⟨w.heap.size, 0, none⟩ (.bool true)).setCell ⟨w.heap.size, 1, none⟩ (.slice xa xn xc)).setCell ⟨w.heap.size, 2, none⟩ (.int .i64 (e + (k : Int))) = wz at az fz ⊢
      refine bodyPost_ret (results_cell_row rfl _ _ _ _ _ _ _ rfl az Tryz.underlying24 rfl (by kernel_rfl)) rfl ?_
      exact ⟨FX.out.trans fz (fun _ h => h) (fun x hx h => by unfold Mem.One at h; omega), Or.inr ⟨k, Y.out.1, Or.inl ⟨Y.out.2.1, Y.out.2.2.1, _, rfl, Y.out.2.2.2.over R2.out (by decide) fz⟩⟩⟩
    · have FX := Lib.hid ((F0.out.trans B4.out (fun _ h => h) (fun _ _ h => h)).trans fx (fun _ h => h) (fun _ _ h => h))
      rw [show (-mag).natAbs = mag.natAbs by omega] at tz
      have K := Lib.hid (And.intro tz k1)
      clear fx tz k1
      unfold gaveUp
      go_wp2_with fail
      exact ⟨rfl, FX.out, Or.inr ⟨k, K.out.1, Or.inr ⟨K.out.2, rfl⟩⟩⟩

set_option maxRecDepth 100000 in
set_option maxHeartbeats 4000000 in
theorem dOf_all (b : Int) (w : World) (hok : pok b = true) (hT : Tab w) :
    Calls Tryz.prog 8 #[.int .i64 b] w (OutPost (pneg b) (pmag b).natAbs (pexp b) w) := by
  obtain ⟨r0, r1, f0⟩ := res_at w
  have hp := parts_any b ((w.alloc (.cells #[.bool false, .slice none 0 0, .int .i64 0] 24)).alloc (.cells #[.int .i64 0] 32))
  obtain ⟨m0, m1, m2, m3⟩ := pmag_bounds b
  have ho := of_all (pneg b) (pmag b) (pexp b) _ m0 m1 (by omega) (by omega) (hT.keep f0)
  rw [hok] at hp
  generalize pmag b = mag at *
  generalize pexp b = ex at *
  generalize pneg b = ng at *
  have HP := Lib.hid hp
  have HTO := Lib.hid ho
  have B4 := Lib.hid f0
  have R2 := Lib.hid r0
  have R3 := Lib.hid r1
  clear hp ho f0 r0 r1 hT hok
  go_enter_defers Tryz.func8, Tryz.ntmps8
  go_wp2_with fail
  generalize (w.alloc (.cells #[.bool false, .slice none 0 0, .int .i64 0] 24)).alloc (.cells #[.int .i64 0] 32) = w0 at HP HTO B4 R2 R3 ⊢
  refine (HP.out).mono ?_
  rintro en w1 ⟨rfl, rfl⟩
  go_wp2_with fail
  refine (HTO.out).mono ?_
  rintro en w3 ⟨fx, ⟨hz0, rfl⟩ | ⟨k, tz, ⟨k1, k2, y, rfl, hy⟩ | ⟨k1, rfl⟩⟩⟩
  · have r2 := R2.out.keep fx (fun x => x)
    have c0 := r2.cell 0
    have c1 := r2.cell 1
    have c2 := r2.cell 2
    have d0 := r2.free 0
    have d1 := r2.free 1
    have d2 := r2.free 2
    have r3 := R3.out.keep fx (fun x => x)
    have e0 := r3.cell 0
    have g0 := r3.free 0
    have FX := Lib.hid (B4.out.trans fx (fun _ h => h) (fun _ _ h => h))
    have R4 := Lib.hid r2
    have R5 := Lib.hid r3
    have HZ0 := Lib.hid hz0
    clear fx r2 r3 hz0
    unfold zeroN
    go_wp2_with fail
    obtain ⟨ay, ry, fy⟩ := out_zero (R := w.heap.size) (by omega) FX.out R4.out R5.out
    generalize (((w3.setCell ⟨w.heap.size, 0, none⟩ (.bool false)).setCell ⟨w.heap.size, 1, none⟩ (.slice none 0 0)).setCell ⟨w.heap.size, 2, none⟩ (.int .i64 0)).setCell ⟨w.heap.size + 1, 0, none⟩ (.int .i64 0) = wy at ay ry fy ⊢
    refine leaves_cons (f := 27) (args := #[.pointer (some ⟨w.heap.size + 1, 0, none⟩)]) (by simp) (by simp [go_sem]) ?_
    refine (caught_idle ⟨w.heap.size + 1, 0, none⟩ wy).mono ?_
    rintro en u' w9 ⟨rfl, rfl, rfl⟩
    exact ans_end rfl rfl rfl ay ry ⟨fy, Or.inl ⟨HZ0.out, rfl⟩⟩
  · obtain ⟨xa, xn, xc, rfl⟩ := hy.shape
    have r2 := R2.out.keep fx (fun x => x)
    have c0 := r2.cell 0
    have c1 := r2.cell 1
    have c2 := r2.cell 2
    have d0 := r2.free 0
    have d1 := r2.free 1
    have d2 := r2.free 2
    have r3 := R3.out.keep fx (fun x => x)
    have e0 := r3.cell 0
    have g0 := r3.free 0
    have FX := Lib.hid (B4.out.trans fx (fun _ h => h) (fun _ _ h => h))
    have Y := Lib.hid (And.intro tz (And.intro k1 (And.intro k2 (hy.low B4.out.size))))
    have R4 := Lib.hid r2
    have R5 := Lib.hid r3
    clear fx r2 r3 tz k1 k2 hy
    go_wp2_with fail
    obtain ⟨ay, ry, xy, fy⟩ := out_world (a := .bool (ng)) (b := .slice xa xn xc) (c := .int .i64 (ex + (k : Int))) (R := w.heap.size) (by omega) FX.out Y.out.2.2.2 R4.out R5.out
    generalize (((w3.setCell ⟨w.heap.size, 0, none⟩ (.bool (ng))).setCell ⟨w.heap.size, 1, none⟩ (.slice xa xn xc)).setCell ⟨w.heap.size, 2, none⟩ (.int .i64 (ex + (k : Int)))).setCell ⟨w.heap.size + 1, 0, none⟩ (.int .i64 0) = wy at ay ry xy fy ⊢
    refine leaves_cons (f := 27) (args := #[.pointer (some ⟨w.heap.size + 1, 0, none⟩)]) (by simp) (by simp [go_sem]) ?_
    refine (caught_idle ⟨w.heap.size + 1, 0, none⟩ wy).mono ?_
    rintro en u' w9 ⟨rfl, rfl, rfl⟩
    exact ans_end rfl rfl rfl ay ry ⟨fy, Or.inr ⟨k, Y.out.1, Or.inl ⟨Y.out.2.1, Y.out.2.2.1, _, rfl, xy⟩⟩⟩
  · have FX := Lib.hid (B4.out.trans fx (fun _ h => h) (fun _ _ h => h))
    have R4 := Lib.hid (R2.out.keep fx (fun x => x))
    have R5 := Lib.hid (R3.out.keep fx (fun x => x))
    have K := Lib.hid (And.intro tz k1)
    clear fx tz k1
    unfold gaveUp
    go_wp2_with fail
    refine leaves_cons (f := 27) (args := #[.pointer (some ⟨w.heap.size + 1, 0, none⟩)]) (by simp) (by simp [go_sem]) ?_
    refine (caught_panicking (w.heap.size + 1) _ 0 2 [] w3 R5.out).mono ?_
    rintro en u' w9 ⟨rfl, rfl, rfl⟩
    obtain ⟨ay, ry, fy⟩ := out_caught (k := 2) (R := w.heap.size) (by omega) FX.out R4.out R5.out
    exact ans_end rfl rfl rfl ay ry ⟨fy, Or.inr ⟨k, K.out.1, Or.inr ⟨K.out.2, rfl⟩⟩⟩

end Go.Proofs.YtgmebioogkmfgaaGreatDoor
