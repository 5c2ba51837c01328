/- Valid of plumb/nat and plumb/dyadic. Condition: it stands in each fact. -/
import Derived.Test.YtgmebioogkmfgaaDoorQ1
import Derived.BigRegion
import Derived.Laws.Append
namespace Go.Proofs.YtgmebioogkmfgaaDoor
open Go.RowKit Go.Pt Go.Mem

/-- Bytes taken off so far: len of them lie in block db. -/
def RdInv (db C A len : Nat) (w wr : World) : Prop :=
  ∃ cs, At wr db cs 5 ∧ cs.size = C ∧ (∀ q, q < len → cs[q]? = some (.int .u8 ((byt A q : Nat) : Int))) ∧ Fr w wr None

theorem RdInv.put {db C A len : Nat} {w wr : World} (h : RdInv db C A len w wr) (hlen : len < C) (hdb : w.heap.size ≤ db) :
    RdInv db C A (len + 1) w ((wr.alloc (.cells #[.int .u8 ((byt A len : Nat) : Int)] 5)).setCell ⟨db, len, none⟩ (.int .u8 ((byt A len : Nat) : Int))) := by
  obtain ⟨cs, h1, h2, h3, h4⟩ := h
  refine ⟨cs.setIfInBounds len (.int .u8 ((byt A len : Nat) : Int)), (h1.keep ((Fr.refl wr None).alloc _) (fun x => x)).put len _, by rw [Array.size_setIfInBounds]; exact h2, fun q hq => ?_, (h4.alloc _).setCell (p := ⟨db, len, none⟩) (Or.inr hdb) _⟩
  rw [Array.getElem?_setIfInBounds]
  by_cases e : len = q
  · subst e
    rw [if_pos rfl, if_pos (by omega)]
  · rw [if_neg e]
    exact h3 q (by omega)

/-- What the outer loop of read has done after i digits, and the inner one within. -/
def RdOut (db n A : Nat) (w : World) (b bits have_ ix : Value) (wr : World) : Prop :=
  ∃ i len h : Nat, i ≤ n ∧ h < 8 ∧ 8 * len + h = 30 * i ∧ b = .slice (some ⟨db, 0, none⟩) len (4 * n) ∧ bits = .int .i64 ((A % 2 ^ (30 * i) / 2 ^ (8 * len) : Nat) : Int) ∧ have_ = .int .i64 (h : Int) ∧ ix = .int .i64 (i : Int) ∧ RdInv db (4 * n) A len w wr
def RdIn (db n A i : Nat) (w : World) (b bits have_ : Value) (wr : World) : Prop :=
  ∃ len h : Nat, 8 * len + h = 30 * (i + 1) ∧ b = .slice (some ⟨db, 0, none⟩) len (4 * n) ∧ bits = .int .i64 ((A % 2 ^ (30 * (i + 1)) / 2 ^ (8 * len) : Nat) : Int) ∧ have_ = .int .i64 (h : Int) ∧ RdInv db (4 * n) A len w wr

theorem digit_in (A i len h : Nat) (e : 8 * len + h = 30 * i) : A % 2 ^ (30 * i) / 2 ^ (8 * len) + dgt A i * 2 ^ h = A % 2 ^ (30 * (i + 1)) / 2 ^ (8 * len) := by
  have e1 : A % 2 ^ (30 * (i + 1)) = A % 2 ^ (30 * i) + dgt A i * 2 ^ h * 2 ^ (8 * len) := by
    rw [show 30 * (i + 1) = 30 * i + 30 by omega, Nat.pow_add, Nat.mod_mul, show (2 : Nat) ^ 30 = 1073741824 from rfl, Nat.mul_assoc, ← Nat.pow_add, show h + 8 * len = 30 * i by omega, Nat.mul_comm (2 ^ (30 * i))]
    rfl
  rw [e1, Nat.add_mul_div_right _ _ (Nat.two_pow_pos _)]
theorem low_in (A i len h : Nat) (e : 8 * len + h = 30 * i) : A % 2 ^ (30 * i) / 2 ^ (8 * len) < 2 ^ h := by
  refine Nat.div_lt_of_lt_mul ?_
  rw [← Nat.pow_add, e]
  exact Nat.mod_lt _ (Nat.two_pow_pos _)
theorem byte_off (A p len : Nat) (h : 8 * len + 8 ≤ p) : A % 2 ^ p / 2 ^ (8 * len) % 256 = byt A len := by
  have := mod_field A p (8 * len) 8 h
  exact this
theorem byte_next (A p len : Nat) : A % 2 ^ p / 2 ^ (8 * len) / 256 = A % 2 ^ p / 2 ^ (8 * (len + 1)) := by
  rw [Nat.div_div_eq_div_mul, show 8 * (len + 1) = 8 * len + 8 by omega, Nat.pow_add]

/-- What the loop that turns the bytes round has done after k swaps. -/
def RvInv (db C A len : Nat) (w : World) (ix : Value) (wr : World) : Prop :=
  ∃ k cs, k ≤ (len + 1) / 2 ∧ ix = .int .i64 (k : Int) ∧ At wr db cs 5 ∧ cs.size = C ∧ (∀ q, q < len + 1 → cs[q]? = some (.int .u8 ((byt A (if q < k ∨ len + 1 - k ≤ q then len - q else q) : Nat) : Int))) ∧ Fr w wr None

end Go.Proofs.YtgmebioogkmfgaaDoor

namespace Go.Proofs.YtgmebioogkmfgaaDoor
open Go.RowKit Go.Pt Go.Mem

set_option maxRecDepth 100000 in
set_option maxHeartbeats 4000000 in
theorem valid_ok (v : Value) (n : Nat) (x : Nat → Nat) (w : World) (hv : DigV w v n x) (hd : Digs n x) :
    Calls Tryd.prog 24 #[v] w fun e w' => e = .returned (.bool true) ∧ w = w' := by
  rcases hv with ⟨rfl, rfl⟩ | ⟨b, cap, rfl, h1, h2, h3⟩
  · clear hd
    go_enter Tryd.func24, Tryd.ntmps24
    go_wp2
    go_loop [7] (fun i => i = .int .i64 0) (fun i => 0)
    case atStart => rfl
    case round =>
      obtain rfl := hrel
      go_wp2
      go_ret
      exact ⟨rfl, rfl⟩
  · obtain ⟨d1, d2, d3⟩ := hd
    have D := Lib.hid (And.intro d1 d2)
    have H := Lib.hid h3
    have i9 : (n : Int) ≤ 2000 := by omega
    clear d1 d2 h3 h2
    go_enter Tryd.func24, Tryd.ntmps24
    go_wp2
    go_loop [7] (fun i => ∃ k : Nat, k ≤ n ∧ i = .int .i64 (k : Int)) (fun i => n - (intOf i).toNat)
    case atStart => exact ⟨0, Nat.zero_le _, rfl⟩
    case round =>
      obtain ⟨k, hk, rfl⟩ := hrel
      by_cases c : k < n
      · have hc := H.out k c
        have hlt := D.out.1 k
        generalize x k = d at hc hlt
        have i0 : (k : Int) < (n : Int) := by omega
        have i1 : ¬ ((d : Int) < 0) := by omega
        have i2 : ¬ ((1073741824 : Int) ≤ (d : Int)) := by omega
        go_wp2
        go_round
        case rel => exact ⟨k + 1, by omega, by push_cast; rfl⟩
        case measure => simp [intOf]; omega
      · obtain rfl : k = n := by omega
        rcases Nat.eq_zero_or_pos k with rfl | c0
        · go_wp2
          go_ret
          exact ⟨rfl, rfl⟩
        · obtain ⟨q, rfl⟩ : ∃ q, k = q + 1 := ⟨k - 1, by omega⟩
          have hc := H.out q (by omega)
          have ht := D.out.2 (by omega)
          rw [Nat.add_sub_cancel] at ht
          generalize x q = d at hc ht
          have t1 : ((d : Int) == 0) = false := beq_eq_false_iff_ne.2 (by omega)
          have t9 : ((d : Int) != 0) = true := by rw [bne, t1]; rfl
          have t2 : (((q + 1 : Nat) : Int) == 0) = false := beq_eq_false_iff_ne.2 (by omega)
          have t3 : (((q : Int) + 1) == 0) = false := beq_eq_false_iff_ne.2 (by omega)
          go_wp2
          go_ret
          exact ⟨rfl, rfl⟩

/-- What Int of plumb/nat gives. -/
def IntOfPost (A : Nat) (w : World) (e : Ending) (w' : World) : Prop :=
  e = .returned (.tuple #[.int .i64 (if A < 9223372036854775808 then (A : Int) else 0), .bool (decide (A < 9223372036854775808))]) ∧ Fr w w' None

theorem dv_lt_dgt {n A : Nat} (h : dv (dgt A) n = A) : A < 2 ^ (30 * n) := by
  have := dv_lt (x := dgt A) (dgt_lt A) n
  rw [h] at this
  exact this

end Go.Proofs.YtgmebioogkmfgaaDoor

namespace Go.Proofs.YtgmebioogkmfgaaDoor
open Go.RowKit Go.Pt Go.Mem

end Go.Proofs.YtgmebioogkmfgaaDoor

namespace Go.Proofs.YtgmebioogkmfgaaDoor
open Go.RowKit Go.Pt Go.Mem

/-- x is an exact number in its one form: neg, A times 2^E. -/
def NumV (w : World) (x : Value) (neg : Bool) (A : Nat) (E : Int) : Prop :=
  ∃ v n, x = .agg #[.bool neg, v, .int .i64 E] ∧ DigV w v n (dgt A) ∧ Digs n (dgt A) ∧ dv (dgt A) n = A ∧ (A = 0 → neg = false ∧ E = 0 ∧ v = .slice none 0 0) ∧ (A ≠ 0 → A % 2 = 1 ∧ -1048576 ≤ E ∧ E ≤ 1048576)
theorem NumV.keep {w w' : World} {x : Value} {neg : Bool} {A : Nat} {E : Int} (h : NumV w x neg A E) (f : Fr w w' None) : NumV w' x neg A E := by
  obtain ⟨v, n, h1, h2, h3⟩ := h
  exact ⟨v, n, h1, h2.keep f (fun _ _ x => x), h3⟩
theorem dgt_zero (j : Nat) : dgt 0 j = 0 := by unfold dgt; simp
theorem NumV.cases {w : World} {x : Value} {neg : Bool} {A : Nat} {E : Int} (h : NumV w x neg A E) :
    (A = 0 ∧ neg = false ∧ E = 0 ∧ x = .agg #[.bool false, .slice none 0 0, .int .i64 0]) ∨
    (A ≠ 0 ∧ A % 2 = 1 ∧ -1048576 ≤ E ∧ E ≤ 1048576 ∧ ∃ b n cap, x = .agg #[.bool neg, .slice (some ⟨b, 0, none⟩) n cap, .int .i64 E] ∧ 0 < n ∧ n ≤ cap ∧ b < w.heap.size ∧ Digs n (dgt A) ∧ dv (dgt A) n = A ∧ ∀ j, j < n → w.cell? ⟨b, j, none⟩ = some (.int .i64 ((dgt A j : Nat) : Int))) := by
  obtain ⟨v, n, h1, h2, h3, h4, h5, h6⟩ := h
  by_cases c : A = 0
  · obtain ⟨rfl, rfl, rfl⟩ := h5 c
    exact Or.inl ⟨c, rfl, rfl, h1⟩
  · obtain ⟨g1, g2, g3⟩ := h6 c
    have hn : 0 < n := by
      rcases Nat.eq_zero_or_pos n with rfl | h
      · exact absurd h4.symm c
      · exact h
    rcases h2 with ⟨_, rfl⟩ | ⟨b, cap, rfl, k1, k2, k3⟩
    · omega
    · exact Or.inr ⟨c, g1, g2, g3, b, n, cap, h1, hn, k1, k2, h3, h4, k3⟩

/-- The struct of a number in a new variable. -/
theorem box_at (w : World) (a b c : Value) (t : Nat) : At (w.alloc (.cells #[a, b, c] t)) w.heap.size #[a, b, c] t ∧ Fr w (w.alloc (.cells #[a, b, c] t)) None := ⟨At.alloc w _ _, (Fr.refl w None).alloc _⟩

theorem dgt_odd {A : Nat} (h : A % 2 = 1) : dgt A 0 % 2 = 1 := by
  unfold dgt
  rw [Nat.mul_zero, Nat.pow_zero, Nat.div_one]
  omega

set_option maxRecDepth 100000 in
set_option maxHeartbeats 4000000 in
theorem valid_num (x : Value) (neg : Bool) (A : Nat) (E : Int) (w : World) (h : NumV w x neg A E) :
    Calls Tryd.prog 11 #[x] w fun e w' => e = .returned (.bool true) ∧ Fr w w' None := by
  rcases h.cases with ⟨rfl, rfl, rfl, rfl⟩ | ⟨hA, ho, e1, e2, b, n, cap, rfl, hn, hc, hb, hd, hdv, hx⟩
  · obtain ⟨t0, f0⟩ := box_at w (.bool false) (.slice none 0 0) (.int .i64 0) 31
    have c0 := t0.cell 0
    have c1 := t0.cell 1
    have c2 := t0.cell 2
    have F0 := Lib.hid f0
    clear t0 f0 h
    go_enter Tryd.func11, Tryd.ntmps11
    go_wp2_with fail
    go_ret
    exact ⟨rfl, F0.out⟩
  · obtain ⟨t0, f0⟩ := box_at w (.bool neg) (.slice (some ⟨b, 0, none⟩) n cap) (.int .i64 E) 31
    have c0 := t0.cell 0
    have c1 := t0.cell 1
    have c2 := t0.cell 2
    have hx1 : ∀ j, j < n → (w.alloc (.cells #[.bool neg, .slice (some ⟨b, 0, none⟩) n cap, .int .i64 E] 31)).cell? ⟨b, j, none⟩ = some (.int .i64 ((dgt A j : Nat) : Int)) := fun j hj => by
      rw [f0.cell (p := ⟨b, j, none⟩) hb (fun x => x)]; exact hx j hj
    have hval := valid_ok (.slice (some ⟨b, 0, none⟩) n cap) n (dgt A) _ (Or.inr ⟨b, cap, rfl, hc, Nat.lt_of_lt_of_le hb f0.size, hx1⟩) hd
    have d0 := hx1 0 hn
    have hodd := dgt_odd ho
    generalize dgt A 0 = d at d0 hodd
    have a1 := and_one (d : Int)
    have a2 : (d : Int) % 2 = 1 := by omega
    rw [a2] at a1
    have i0 : (0 : Int) < (n : Int) := by omega
    have i1 : ((n : Int) == 0) = false := beq_eq_false_iff_ne.2 (by omega)
    have HV := Lib.hid hval
    have F0 := Lib.hid f0
    clear hval f0 t0 hx hx1 hd hdv h ho a2 hodd
    go_enter Tryd.func11, Tryd.ntmps11
    go_wp2_with fail
    generalize w.alloc (.cells #[.bool neg, .slice (some ⟨b, 0, none⟩) n cap, .int .i64 E] 31) = w0 at HV F0 c0 c1 c2 d0 ⊢
    refine (HV.out).mono ?_
    rintro e w1 ⟨rfl, rfl⟩
    go_wp2_with fail
    go_ret
    exact ⟨rfl, F0.out⟩

theorem nat_lt63 {A : Nat} (h : A < 9223372036854775808) : (A : Int) < 9223372036854775808 := by omega

/-- What Float gives. -/
def FloatPost (neg : Bool) (A : Nat) (E : Int) (w : World) (e : Ending) (w' : World) : Prop :=
  e = .returned (.tuple #[.int .i64 (if A < 9223372036854775808 then jv64 neg A E else 0), .bool (decide (A < 9223372036854775808) && jo64 A E)]) ∧ Fr w w' None

theorem float_lo {neg : Bool} {A : Nat} {E : Int} {w w' : World} (c : A < 9223372036854775808) (f : Fr w w' None) : FloatPost neg A E w (.returned (.tuple #[.int .i64 (jv64 neg A E), .bool (jo64 A E)])) w' := by
  refine ⟨?_, f⟩
  rw [if_pos c, decide_eq_true c, Bool.true_and]
theorem float_hi {neg : Bool} {A : Nat} {E : Int} {w w' : World} (c : ¬ A < 9223372036854775808) (f : Fr w w' None) : FloatPost neg A E w (.returned (.tuple #[.int .i64 0, .bool false])) w' := by
  refine ⟨?_, f⟩
  rw [if_neg c, decide_eq_false c, Bool.false_and]
theorem intof_lo {A : Nat} {w w' : World} {e : Ending} (c : A < 9223372036854775808) (h : IntOfPost A w e w') : e = .returned (.tuple #[.int .i64 (A : Int), .bool true]) ∧ Fr w w' None := by
  obtain ⟨h, f⟩ := h
  rw [if_pos c, decide_eq_true c] at h
  exact ⟨h, f⟩
theorem intof_hi {A : Nat} {w w' : World} {e : Ending} (c : ¬ A < 9223372036854775808) (h : IntOfPost A w e w') : e = .returned (.tuple #[.int .i64 0, .bool false]) ∧ Fr w w' None := by
  obtain ⟨h, f⟩ := h
  rw [if_neg c, decide_eq_false c] at h
  exact ⟨h, f⟩

end Go.Proofs.YtgmebioogkmfgaaDoor
