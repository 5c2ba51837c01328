/- Valid, Int of plumb/nat; Valid, Float of plumb/dyadic. Condition: it stands in each fact. -/
import Derived.Test.YtehfnpbplkbdhaaDoorR32
import Derived.Laws.Append
namespace Go.Proofs.YtehfnpbplkbdhaaDoor
open Go.RowKit Go.Pt Go.Mem

set_option maxRecDepth 100000 in
set_option maxHeartbeats 4000000 in
theorem valid_ok (v : Value) (n : Nat) (x : Nat → Nat) (w : World) (hv : DigV w v n x) (hd : Digs n x) :
    Calls Tryd.prog 31 #[v] w fun e w' => e = .returned (.bool true) ∧ w = w' := by
  rcases hv with ⟨rfl, rfl⟩ | ⟨b, cap, rfl, h1, h2, h3⟩
  · clear hd
    go_enter Tryd.func31, Tryd.ntmps31
    go_wp2
    go_loop [7] (fun i => i = .int .i64 0) (fun i => 0)
    case atStart => rfl
    case round =>
      obtain rfl := hrel
      go_wp2
      go_ret
      exact ⟨rfl, rfl⟩
  · obtain ⟨d1, d2, d3⟩ := hd
    have D := Lib.hid (And.intro d1 d2)
    have H := Lib.hid h3
    have i9 : (n : Int) ≤ 2000 := by omega
    clear d1 d2 h3 h2
    go_enter Tryd.func31, Tryd.ntmps31
    go_wp2
    go_loop [7] (fun i => ∃ k : Nat, k ≤ n ∧ i = .int .i64 (k : Int)) (fun i => n - (intOf i).toNat)
    case atStart => exact ⟨0, Nat.zero_le _, rfl⟩
    case round =>
      obtain ⟨k, hk, rfl⟩ := hrel
      by_cases c : k < n
      · have hc := H.out k c
        have hlt := D.out.1 k
        generalize x k = d at hc hlt
        have i0 : (k : Int) < (n : Int) := by omega
        have i1 : ¬ ((d : Int) < 0) := by omega
        have i2 : ¬ ((1073741824 : Int) ≤ (d : Int)) := by omega
        go_wp2
        go_round
        case rel => exact ⟨k + 1, by omega, by push_cast; rfl⟩
        case measure => simp [intOf]; omega
      · obtain rfl : k = n := by omega
        rcases Nat.eq_zero_or_pos k with rfl | c0
        · go_wp2
          go_ret
          exact ⟨rfl, rfl⟩
        · obtain ⟨q, rfl⟩ : ∃ q, k = q + 1 := ⟨k - 1, by omega⟩
          have hc := H.out q (by omega)
          have ht := D.out.2 (by omega)
          rw [Nat.add_sub_cancel] at ht
          generalize x q = d at hc ht
          have t1 : ((d : Int) == 0) = false := beq_eq_false_iff_ne.2 (by omega)
          have t9 : ((d : Int) != 0) = true := by rw [bne, t1]; rfl
          have t2 : (((q + 1 : Nat) : Int) == 0) = false := beq_eq_false_iff_ne.2 (by omega)
          have t3 : (((q : Int) + 1) == 0) = false := beq_eq_false_iff_ne.2 (by omega)
          go_wp2
          go_ret
          exact ⟨rfl, rfl⟩

/-- What Int of plumb/nat gives. -/
def IntOfPost (A : Nat) (w : World) (e : Ending) (w' : World) : Prop :=
  e = .returned (.tuple #[.int .i64 (if A < 9223372036854775808 then (A : Int) else 0), .bool (decide (A < 9223372036854775808))]) ∧ Fr w w' None

theorem dv_lt_dgt {n A : Nat} (h : dv (dgt A) n = A) : A < 2 ^ (30 * n) := by
  have := dv_lt (x := dgt A) (dgt_lt A) n
  rw [h] at this
  exact this

set_option maxRecDepth 100000 in
set_option maxHeartbeats 4000000 in
theorem natInt_pos (b cap n A : Nat) (w : World) (hn : 0 < n) (hd : Digs n (dgt A)) (hA : dv (dgt A) n = A) (hcap : n ≤ cap) (hb : b < w.heap.size) (hx : ∀ j, j < n → w.cell? ⟨b, j, none⟩ = some (.int .i64 ((dgt A j : Nat) : Int))) :
    Calls Tryd.prog 29 #[.slice (some ⟨b, 0, none⟩) n cap] w (IntOfPost A w) := by
  have hv := valid_ok (.slice (some ⟨b, 0, none⟩) n cap) n (dgt A) w (Or.inr ⟨b, cap, rfl, hcap, hb, hx⟩) hd
  have hr := read_ok b cap n A w hn hd.2.2 (dv_lt_dgt hA) hcap hb hx
  have HV := Lib.hid hv
  have HR := Lib.hid hr
  have HX := Lib.hid (And.intro hb hx)
  have HD := Lib.hid (And.intro hd hA)
  clear hv hr hx hd hA hb
  go_enter Tryd.func29, Tryd.ntmps29
  go_wp2_with fail
  refine (HV.out).mono ?_
  rintro e w1 ⟨rfl, rfl⟩
  go_wp2_with fail
  refine (HR.out).mono ?_
  rintro e w1 ⟨p, pv, rfl, a1, a2, a3, a4⟩
  have A1 := Lib.hid a1
  have A4 := Lib.hid a4
  clear a1 a2 a3 a4
  go_wp2_with fail
  by_cases c : A < 9223372036854775808
  · have hi := isInt64_any p pv A w1 A1.out
    rw [decide_eq_true c] at hi
    refine hi.mono ?_
    clear hi
    rintro e w2 ⟨rfl, rfl⟩
    have hr2 := read_ok b cap n A w1 hn HD.out.1.2.2 (dv_lt_dgt HD.out.2) hcap (Nat.lt_of_lt_of_le HX.out.1 A4.out.size) (fun j hj => by rw [A4.out.cell (p := ⟨b, j, none⟩) HX.out.1 (fun x => x)]; exact HX.out.2 j hj)
    have HR2 := Lib.hid hr2
    clear hr2
    have CC := Lib.hid c
    clear c
    go_wp2_with fail
    refine (HR2.out).mono ?_
    rintro e w3 ⟨p2, pv2, rfl, b1, b2, b3, b4⟩
    have hj := int64_any p2 pv2 A CC.out w3 b1
    have HJ := Lib.hid hj
    have F := Lib.hid (A4.out.trans b4 (fun _ h => h) (fun _ _ h => h))
    clear hj b1 b2 b3 b4
    go_wp2_with fail
    refine (HJ.out).mono ?_
    rintro e w4 ⟨rfl, rfl⟩
    go_wp2_with fail
    go_ret2
    exact ⟨by rw [if_pos CC.out, decide_eq_true CC.out]; rfl, F.out⟩
  · have hi := isInt64_any p pv A w1 A1.out
    rw [decide_eq_false c] at hi
    refine hi.mono ?_
    clear hi
    rintro e w2 ⟨rfl, rfl⟩
    have CC := Lib.hid c
    clear c
    go_wp2_with fail
    go_ret2
    exact ⟨by rw [if_neg CC.out, decide_eq_false CC.out]; rfl, A4.out⟩
end Go.Proofs.YtehfnpbplkbdhaaDoor

namespace Go.Proofs.YtehfnpbplkbdhaaDoor
open Go.RowKit Go.Pt Go.Mem

theorem app_nilB (w : World) (a : Addr) (nb : Nat) (ty : Nat) (hn : w.cell? ⟨nb, 0, none⟩ = some (.int .u8 0)) :
    ∃ C w', (Builtin.append_ #[98, 98] ty #[.slice (some a) 0 0, .slice (some ⟨nb, 0, none⟩) 1 1]).run Tryd.prog w = .ok (.slice (some ⟨w.heap.size, 0, none⟩) 1 C) w' ∧ 1 ≤ C ∧ w'.cell? ⟨w.heap.size, 0, none⟩ = some (.int .u8 0) ∧ w.heap.size < w'.heap.size ∧ Fr w w' None := by
  obtain ⟨i0, hi, hz0, hz1, hz2⟩ := info_parts infoB
  have h := run_append_grow (P := Tryd.prog) w 98 ty 5 i0 (.int .u8 0) Tryd.underlying98 hi hz0 a 0 0 [] (by simp) (by intro j v hj; cases hj) ⟨nb, 0, none⟩ 1 1 [.int .u8 0] (by rw [hz1]; rfl)
    (by
      intro k u hk
      rcases k with _ | k
      · cases hk; exact hn
      · cases hk)
    (by omega) (by omega) (by rw [hz2]; decide)
  have hge := grownCap_ge w (0 + 1) 0 5
  refine ⟨_, _, h, hge, ?_, by simp, ((Fr.refl w None).drew).alloc _⟩
  have k := At.alloc w.drew ((#[] : Array Value) ++ #[Value.int .u8 0] ++ Builtin.zeroCells (Value.int .u8 0).cells (grownCap w (0 + 1) 0 5 - (0 + 1))) 5
  have k2 := k.cell 0
  rw [show w.drew.heap.size = w.heap.size from rfl] at k2
  refine Eq.trans k2 ?_
  rw [Array.getElem?_append_left (by simp)]
  rfl

set_option maxRecDepth 100000 in
set_option maxHeartbeats 4000000 in
theorem read_nil (w : World) : Calls Tryd.prog 47 #[.slice none 0 0] w (NewPost false 0 w) := by
  have hmk : (Instr.makeSlice 98 (.int .i64 0) (.int .i64 0)).run Tryd.prog w = .ok (.slice (some ⟨w.heap.size, 0, none⟩) 0 0) (w.alloc (brow 0)) := run_mkB 0 0 (by omega) (by omega) w
  have f0 : Fr w (w.alloc (brow 0)) None := (Fr.refl w None).alloc _
  have F0 := Lib.hid f0
  clear f0
  go_enter Tryd.func47, Tryd.ntmps47
  go_wp2_with fail
  clear hmk
  generalize hdb : w.heap.size = db
  generalize w.alloc (brow 0) = w0 at F0 ⊢
  go_loopw [3, 4, 5, 15] (fun b bits have_ ix wr => b = .slice (some ⟨db, 0, none⟩) 0 0 ∧ bits = .int .i64 0 ∧ have_ = .int .i64 0 ∧ ix = .int .i64 0 ∧ w0 = wr) (fun _ _ _ _ _ => 0)
  case atStart => exact ⟨rfl, rfl, rfl, rfl, rfl⟩
  case round =>
    obtain ⟨rfl, rfl, rfl, rfl, rfl⟩ := hrel
    obtain ⟨C, w1, happ, hC, hc, hlt, hf⟩ := app_nilB (w0.alloc (.cells #[.int .u8 0] 5)) ⟨db, 0, none⟩ w0.heap.size 98 ((At.alloc w0 _ _).cell 0)
    have h0 : w.heap.size ≤ (w0.alloc (.cells #[.int .u8 0] 5)).heap.size := Nat.le_trans F0.out.size (by simp)
    generalize hb : (w0.alloc (.cells #[.int .u8 0] 5)).heap.size = bb at happ hc hlt h0
    have B : Hid (Bytes w1 bb 1 0) := Lib.hid ⟨hlt, fun q hq => by
      have : q = 0 := by omega
      subst this
      rw [hc]
      rfl⟩
    have F1 : Hid (Fr w w1 None) := Lib.hid (((F0.out).alloc _).trans hf (fun _ h => h) (fun _ _ h => h))
    have HC := Lib.hid (And.intro hC h0)
    clear hC hc hlt hf h0 hb
    go_wp2_with (refine wpList_appB _ _ rfl _ _ rfl _ _ _ rfl rfl happ ?_)
    clear happ
    go_loopw [46] (fun ix wz => ix = .int .i64 0 ∧ w1 = wz) (fun _ _ => 0)
    case atStart => exact ⟨rfl, rfl⟩
    case round =>
      obtain ⟨rfl, rfl⟩ := hrel
      have f1 : Fr w1 (w1.alloc (.cells #[.bool false, .slice none 0 0] 87)) None := (Fr.refl w1 None).alloc _
      have z1 : IntV (w1.alloc (.cells #[.bool false, .slice none 0 0] 87)) w1.heap.size (.slice none 0 0) false 0 := ⟨alloc_shell w1 false _, Or.inl ⟨rfl, rfl⟩⟩
      have hs := intSetBytes w1.heap.size bb 1 C 0 (w1.alloc (.cells #[.bool false, .slice none 0 0] 87)) (by omega) (by omega) (by decide) (B.out.keep f1 (fun x => x)) HC.out.1 z1
      have HS := Lib.hid hs
      have FF := Lib.hid f1
      clear hs f1 z1
      go_wp2_with fail
      refine (HS.out).mono ?_
      rintro e w9 ⟨rfl, v, v1, v2, v3⟩
      have P : Hid (NewPost false 0 w (.returned (.pointer (some ⟨w1.heap.size, 0, none⟩))) w9) := by
        refine Lib.hid ⟨_, v, rfl, v1, F1.out.size, fun q hq => ?_, (F1.out.trans FF.out (fun _ h => h) (fun _ _ h => h)).trans v3 (fun _ h => h) (fun x hx h => ?_)⟩
        · rcases v2 q hq with ⟨_, _, h⟩ | h
          · cases h
          · exact Nat.le_trans (Nat.le_trans F1.out.size FF.out.size) h
        · rcases h with h | ⟨_, _, h⟩
          · have := F1.out.size
            omega
          · cases h
      clear v1 v2 v3
      go_wp2_with fail
      go_ret
      exact P.out

set_option maxRecDepth 100000 in
set_option maxHeartbeats 4000000 in
theorem natInt_nil (w : World) : Calls Tryd.prog 29 #[.slice none 0 0] w (IntOfPost 0 w) := by
  have hv := valid_ok (.slice none 0 0) 0 (fun _ => 0) w (Or.inl ⟨rfl, rfl⟩) ⟨fun _ => (by decide : (0 : Nat) < 1073741824), fun h => by omega, by omega⟩
  have HV := Lib.hid hv
  clear hv
  go_enter Tryd.func29, Tryd.ntmps29
  go_wp2_with fail
  refine (HV.out).mono ?_
  rintro e w1 ⟨rfl, rfl⟩
  go_wp2_with fail
  refine (read_nil w).mono ?_
  rintro e w1 ⟨p, pv, rfl, a1, a2, a3, a4⟩
  have A1 := Lib.hid a1
  have A4 := Lib.hid a4
  clear a1 a2 a3 a4
  go_wp2_with fail
  refine (isInt64_any p pv 0 w1 A1.out).mono ?_
  rintro e w2 ⟨rfl, rfl⟩
  go_wp2_with fail
  refine (read_nil w1).mono ?_
  rintro e w3 ⟨p2, pv2, rfl, b1, b2, b3, b4⟩
  have hj := int64_any p2 pv2 0 (by omega) w3 b1
  have HJ := Lib.hid hj
  have F := Lib.hid (A4.out.trans b4 (fun _ h => h) (fun _ _ h => h))
  clear hj b1 b2 b3 b4
  go_wp2_with fail
  refine (HJ.out).mono ?_
  rintro e w4 ⟨rfl, rfl⟩
  go_wp2_with fail
  go_ret2
  exact ⟨rfl, F.out⟩
end Go.Proofs.YtehfnpbplkbdhaaDoor

namespace Go.Proofs.YtehfnpbplkbdhaaDoor
open Go.RowKit Go.Pt Go.Mem

/-- x is an exact number in its one form: neg, A times 2^E. -/
def NumV (w : World) (x : Value) (neg : Bool) (A : Nat) (E : Int) : Prop :=
  ∃ v n, x = .agg #[.bool neg, v, .int .i64 E] ∧ DigV w v n (dgt A) ∧ Digs n (dgt A) ∧ dv (dgt A) n = A ∧ (A = 0 → neg = false ∧ E = 0 ∧ v = .slice none 0 0) ∧ (A ≠ 0 → A % 2 = 1 ∧ -1048576 ≤ E ∧ E ≤ 1048576)
theorem NumV.keep {w w' : World} {x : Value} {neg : Bool} {A : Nat} {E : Int} (h : NumV w x neg A E) (f : Fr w w' None) : NumV w' x neg A E := by
  obtain ⟨v, n, h1, h2, h3⟩ := h
  exact ⟨v, n, h1, h2.keep f (fun _ _ x => x), h3⟩
theorem dgt_zero (j : Nat) : dgt 0 j = 0 := by unfold dgt; simp
theorem NumV.cases {w : World} {x : Value} {neg : Bool} {A : Nat} {E : Int} (h : NumV w x neg A E) :
    (A = 0 ∧ neg = false ∧ E = 0 ∧ x = .agg #[.bool false, .slice none 0 0, .int .i64 0]) ∨
    (A ≠ 0 ∧ A % 2 = 1 ∧ -1048576 ≤ E ∧ E ≤ 1048576 ∧ ∃ b n cap, x = .agg #[.bool neg, .slice (some ⟨b, 0, none⟩) n cap, .int .i64 E] ∧ 0 < n ∧ n ≤ cap ∧ b < w.heap.size ∧ Digs n (dgt A) ∧ dv (dgt A) n = A ∧ ∀ j, j < n → w.cell? ⟨b, j, none⟩ = some (.int .i64 ((dgt A j : Nat) : Int))) := by
  obtain ⟨v, n, h1, h2, h3, h4, h5, h6⟩ := h
  by_cases c : A = 0
  · obtain ⟨rfl, rfl, rfl⟩ := h5 c
    exact Or.inl ⟨c, rfl, rfl, h1⟩
  · obtain ⟨g1, g2, g3⟩ := h6 c
    have hn : 0 < n := by
      rcases Nat.eq_zero_or_pos n with rfl | h
      · exact absurd h4.symm c
      · exact h
    rcases h2 with ⟨_, rfl⟩ | ⟨b, cap, rfl, k1, k2, k3⟩
    · omega
    · exact Or.inr ⟨c, g1, g2, g3, b, n, cap, h1, hn, k1, k2, h3, h4, k3⟩

/-- The struct of a number in a new variable. -/
theorem box_at (w : World) (a b c : Value) (t : Nat) : At (w.alloc (.cells #[a, b, c] t)) w.heap.size #[a, b, c] t ∧ Fr w (w.alloc (.cells #[a, b, c] t)) None := ⟨At.alloc w _ _, (Fr.refl w None).alloc _⟩

theorem dgt_odd {A : Nat} (h : A % 2 = 1) : dgt A 0 % 2 = 1 := by
  unfold dgt
  rw [Nat.mul_zero, Nat.pow_zero, Nat.div_one]
  omega

set_option maxRecDepth 100000 in
set_option maxHeartbeats 4000000 in
theorem valid_num (x : Value) (neg : Bool) (A : Nat) (E : Int) (w : World) (h : NumV w x neg A E) :
    Calls Tryd.prog 14 #[x] w fun e w' => e = .returned (.bool true) ∧ Fr w w' None := by
  rcases h.cases with ⟨rfl, rfl, rfl, rfl⟩ | ⟨hA, ho, e1, e2, b, n, cap, rfl, hn, hc, hb, hd, hdv, hx⟩
  · obtain ⟨t0, f0⟩ := box_at w (.bool false) (.slice none 0 0) (.int .i64 0) 31
    have c0 := t0.cell 0
    have c1 := t0.cell 1
    have c2 := t0.cell 2
    have F0 := Lib.hid f0
    clear t0 f0 h
    go_enter Tryd.func14, Tryd.ntmps14
    go_wp2_with fail
    go_ret
    exact ⟨rfl, F0.out⟩
  · obtain ⟨t0, f0⟩ := box_at w (.bool neg) (.slice (some ⟨b, 0, none⟩) n cap) (.int .i64 E) 31
    have c0 := t0.cell 0
    have c1 := t0.cell 1
    have c2 := t0.cell 2
    have hx1 : ∀ j, j < n → (w.alloc (.cells #[.bool neg, .slice (some ⟨b, 0, none⟩) n cap, .int .i64 E] 31)).cell? ⟨b, j, none⟩ = some (.int .i64 ((dgt A j : Nat) : Int)) := fun j hj => by
      rw [f0.cell (p := ⟨b, j, none⟩) hb (fun x => x)]; exact hx j hj
    have hval := valid_ok (.slice (some ⟨b, 0, none⟩) n cap) n (dgt A) _ (Or.inr ⟨b, cap, rfl, hc, Nat.lt_of_lt_of_le hb f0.size, hx1⟩) hd
    have d0 := hx1 0 hn
    have hodd := dgt_odd ho
    generalize dgt A 0 = d at d0 hodd
    have a1 := and_one (d : Int)
    have a2 : (d : Int) % 2 = 1 := by omega
    rw [a2] at a1
    have i0 : (0 : Int) < (n : Int) := by omega
    have i1 : ((n : Int) == 0) = false := beq_eq_false_iff_ne.2 (by omega)
    have HV := Lib.hid hval
    have F0 := Lib.hid f0
    clear hval f0 t0 hx hx1 hd hdv h ho a2 hodd
    go_enter Tryd.func14, Tryd.ntmps14
    go_wp2_with fail
    generalize w.alloc (.cells #[.bool neg, .slice (some ⟨b, 0, none⟩) n cap, .int .i64 E] 31) = w0 at HV F0 c0 c1 c2 d0 ⊢
    refine (HV.out).mono ?_
    rintro e w1 ⟨rfl, rfl⟩
    go_wp2_with fail
    go_ret
    exact ⟨rfl, F0.out⟩

theorem nat_lt63 {A : Nat} (h : A < 9223372036854775808) : (A : Int) < 9223372036854775808 := by omega

/-- What Float gives. -/
def FloatPost (neg : Bool) (A : Nat) (E : Int) (w : World) (e : Ending) (w' : World) : Prop :=
  e = .returned (.tuple #[.int .i64 (if A < 9223372036854775808 then jv64 neg A E else 0), .bool (decide (A < 9223372036854775808) && jo64 A E)]) ∧ Fr w w' None

theorem float_lo {neg : Bool} {A : Nat} {E : Int} {w w' : World} (c : A < 9223372036854775808) (f : Fr w w' None) : FloatPost neg A E w (.returned (.tuple #[.int .i64 (jv64 neg A E), .bool (jo64 A E)])) w' := by
  refine ⟨?_, f⟩
  rw [if_pos c, decide_eq_true c, Bool.true_and]
theorem float_hi {neg : Bool} {A : Nat} {E : Int} {w w' : World} (c : ¬ A < 9223372036854775808) (f : Fr w w' None) : FloatPost neg A E w (.returned (.tuple #[.int .i64 0, .bool false])) w' := by
  refine ⟨?_, f⟩
  rw [if_neg c, decide_eq_false c, Bool.false_and]
theorem intof_lo {A : Nat} {w w' : World} {e : Ending} (c : A < 9223372036854775808) (h : IntOfPost A w e w') : e = .returned (.tuple #[.int .i64 (A : Int), .bool true]) ∧ Fr w w' None := by
  obtain ⟨h, f⟩ := h
  rw [if_pos c, decide_eq_true c] at h
  exact ⟨h, f⟩
theorem intof_hi {A : Nat} {w w' : World} {e : Ending} (c : ¬ A < 9223372036854775808) (h : IntOfPost A w e w') : e = .returned (.tuple #[.int .i64 0, .bool false]) ∧ Fr w w' None := by
  obtain ⟨h, f⟩ := h
  rw [if_neg c, decide_eq_false c] at h
  exact ⟨h, f⟩

set_option maxRecDepth 100000 in
set_option maxHeartbeats 4000000 in
theorem float_num (x : Value) (neg : Bool) (A : Nat) (E : Int) (w : World) (h : NumV w x neg A E) :
    Calls Tryd.prog 10 #[x] w (FloatPost neg A E w) := by
  have H := Lib.hid h
  have hint : ∃ v, x = .agg #[.bool neg, v, .int .i64 E] ∧ (∃ a c d, v = .slice a c d) ∧ ∀ W, Fr w W None → Calls Tryd.prog 29 #[v] W (IntOfPost A W) := by
    rcases h.cases with ⟨rfl, rfl, rfl, rfl⟩ | ⟨hA, ho, e1, e2, b, n, cap, rfl, hn, hc, hb, hd, hdv, hx⟩
    · exact ⟨_, rfl, ⟨_, _, _, rfl⟩, fun W _ => natInt_nil W⟩
    · exact ⟨_, rfl, ⟨_, _, _, rfl⟩, fun W f => natInt_pos b cap n A W hn hd hdv hc (Nat.lt_of_lt_of_le hb f.size) (fun j hj => by rw [f.cell (p := ⟨b, j, none⟩) hb (fun x => x)]; exact hx j hj)⟩
  clear h
  obtain ⟨v, rfl, ⟨va, vc, vd, rfl⟩, hint⟩ := hint
  generalize hv : Value.slice va vc vd = v at H hint
  obtain ⟨t0, f0⟩ := box_at w (.bool neg) v (.int .i64 E) 31
  have hval := valid_num (.agg #[.bool neg, v, .int .i64 E]) neg A E _ (H.out.keep f0)
  subst hv
  have HV := Lib.hid hval
  have HI := Lib.hid hint
  have T0 := Lib.hid t0
  have F0 := Lib.hid f0
  clear hint hval t0 f0
  go_enter Tryd.func10, Tryd.ntmps10
  go_wp2_with fail
  generalize w.alloc (.cells #[.bool neg, .slice va vc vd, .int .i64 E] 31) = w0 at HV T0 F0 ⊢
  refine (HV.out).mono ?_
  rintro e w1 ⟨rfl, f1⟩
  have F1 := Lib.hid (F0.out.trans f1 (fun _ h => h) (fun _ _ h => h))
  have t1 := T0.out.keep f1 (fun x => x)
  have c1 := t1.cell 1
  have T1 := Lib.hid t1
  clear f1 t1
  go_wp2_with fail
  by_cases c : A < 9223372036854775808
  · have CC := Lib.hid c
    clear c
    refine (HI.out _ F1.out).mono ?_
    intro e w2 hpost
    obtain ⟨rfl, f2⟩ := intof_lo CC.out hpost
    clear hpost
    have F2 := Lib.hid (F1.out.trans f2 (fun _ h => h) (fun _ _ h => h))
    have t2 := T1.out.keep f2 (fun x => x)
    have c0 := t2.cell 0
    have c2 := t2.cell 2
    have HJ := Lib.hid (join_any neg (A : Int) E (nat_lt63 CC.out) w2)
    have P : Hid (FloatPost neg A E w (.returned (.tuple #[.int .i64 (jv64 neg A E), .bool (jo64 A E)])) w2) := Lib.hid (float_lo CC.out F2.out)
    clear t2 f2 c1
    go_wp2_with fail
    refine (HJ.out).mono ?_
    rintro e w3 ⟨rfl, rfl⟩
    go_wp2_with fail
    go_ret2
    exact P.out
  · have CC := Lib.hid c
    clear c
    refine (HI.out _ F1.out).mono ?_
    intro e w2 hpost
    obtain ⟨rfl, f2⟩ := intof_hi CC.out hpost
    clear hpost
    have P : Hid (FloatPost neg A E w (.returned (.tuple #[.int .i64 0, .bool false])) w2) := Lib.hid (float_hi CC.out (F1.out.trans f2 (fun _ h => h) (fun _ _ h => h)))
    clear f2 c1
    go_wp2_with fail
    go_ret2
    exact P.out
end Go.Proofs.YtehfnpbplkbdhaaDoor
