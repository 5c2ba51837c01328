/- told of any number of at most 60,000 bits. Condition: it stands in each fact. -/
import Derived.Test.YtgmebioogkmfgaaGreatDoorQ0
import Derived.Test.YtgmebioogkmfgaaGreatDoorQ8
namespace Go.Mem
open Go.RowKit

/-- The lowest word that is not 0. -/
theorem val_first {x : Nat → Nat} {i : Nat} (h : ∀ j, j < i → x j = 0) : ∀ n, i < n → ∃ R, val x n = 2 ^ (64 * i) * (x i + 18446744073709551616 * R)
  | 0, c => by omega
  | n + 1, c => by
    by_cases e : i = n
    · subst e
      refine ⟨0, ?_⟩
      have hz : ∀ m, m ≤ i → val x m = 0 := by
        intro m
        induction m with
        | zero => intro _; rfl
        | succ m ih => intro hm; show val x m + x m * _ = 0; rw [ih (by omega), h m (by omega)]; simp
      show val x i + x i * 2 ^ (64 * i) = _
      rw [hz i (by omega), Nat.mul_zero, Nat.add_zero, Nat.zero_add, Nat.mul_comm]
    · obtain ⟨R, hR⟩ := val_first h n (by omega)
      refine ⟨R + x n * 2 ^ (64 * (n - i - 1)), ?_⟩
      show val x n + x n * 2 ^ (64 * n) = _
      rw [hR, show 64 * n = 64 * i + 64 + 64 * (n - i - 1) by omega, Nat.pow_add, Nat.pow_add, show (2 : Nat) ^ 64 = 18446744073709551616 from rfl]
      generalize 2 ^ (64 * i) = P
      generalize 2 ^ (64 * (n - i - 1)) = T
      rw [Nat.mul_add, Nat.mul_add, Nat.mul_add, Nat.mul_add, Nat.add_assoc]
      congr 2
      rw [Nat.mul_left_comm (x n), Nat.mul_assoc P]

/-- N has k twos. -/
def TzIs (N k : Nat) : Prop := N / 2 ^ k % 2 = 1 ∧ N / 2 ^ k * 2 ^ k = N

theorem TzIs.of {N k o : Nat} (h : N = 2 ^ k * o) (ho : o % 2 = 1) : TzIs N k := by
  subst h
  unfold TzIs
  rw [Nat.mul_div_cancel_left _ (Nat.two_pow_pos k)]
  exact ⟨ho, Nat.mul_comm _ _⟩
theorem TzIs.pos {N k : Nat} (h : TzIs N k) : 0 < N := by
  obtain ⟨h1, h2⟩ := h
  generalize N / 2 ^ k = q at h1 h2
  rw [← h2]
  exact Nat.mul_pos (by omega) (Nat.two_pow_pos k)
theorem TzIs.le {N k : Nat} (h : TzIs N k) : 2 ^ k ≤ N := by
  obtain ⟨h1, h2⟩ := h
  generalize N / 2 ^ k = q at h1 h2
  rw [← h2]
  exact Nat.le_mul_of_pos_left _ (by omega)

/-- How many twos there are: in the lowest word that is not 0. -/
theorem tz_words {x : Nat → Nat} {n i c o : Nat} (hi : i < n) (h : ∀ j, j < i → x j = 0) (ho : o % 2 = 1) (hc : x i = 2 ^ c * o) (hlt : c < 64) : TzIs (val x n) (64 * i + c) := by
  obtain ⟨R, hR⟩ := val_first h n hi
  refine TzIs.of (o := o + 2 * (2 ^ (63 - c) * R)) ?_ (by omega)
  rw [hR, hc, Nat.pow_add, Nat.mul_assoc]
  congr 1
  rw [show (18446744073709551616 : Nat) = 2 ^ c * (2 * 2 ^ (63 - c)) by rw [← Nat.pow_succ', ← Nat.pow_add, show c + (63 - c + 1) = 64 by omega]]
  rw [Nat.mul_add, Nat.mul_assoc, Nat.mul_assoc]
end Go.Mem
namespace Go.Proofs.YtgmebioogkmfgaaGreatDoor
open Go.RowKit Go.Pt Go.Mem

theorem ctz_odd {X : Nat} (h : X ≠ 0) (hX : X < 18446744073709551616) : ∃ o, X = 2 ^ Lib.ctz 64 X * o ∧ o % 2 = 1 ∧ Lib.ctz 64 X < 64 := by
  obtain ⟨m, hm, hk⟩ := Lib.ctzFrom_spec 64 X (by omega) hX
  unfold Lib.ctz
  rw [if_neg h]
  exact ⟨2 * m + 1, hm, by omega, hk⟩

set_option maxRecDepth 100000 in
set_option maxHeartbeats 1000000 in
theorem tzb_any (b len cap : Nat) (l : List Nat) (w : World) (hr : Row w b l) (hl : l.length = cap) (hc : len ≤ cap) (hm : cap ≤ 1000000) (h0 : 0 < len) (ht : l.getD (len - 1) 0 ≠ 0) (hT : Tab w) :
    Calls Tryz.prog 68 #[.slice (some ⟨b, 0, none⟩) len cap] w fun e w' => ∃ k : Nat, e = .returned (.int .u64 (k : Int)) ∧ k < 64 * len ∧ TzIs (val (fun j => l.getD j 0) len) k ∧ w = w' := by
  have H := Lib.hid hr
  have HT := Lib.hid hT
  have HL := Lib.hid (And.intro hl ht)
  have hl0 : ((len : Int) == 0) = false := by simp; omega
  clear hr hl ht hT
  go_enter Tryz.func68, Tryz.ntmps68
  go_wp2
  go_loopw [3] (fun i wr => ∃ k : Nat, k < len ∧ i = .int .u64 (k : Int) ∧ (∀ j, j < k → l.getD j 0 = 0) ∧ w = wr) (fun i _ => len - (intOf i).toNat)
  case atStart => exact ⟨0, h0, rfl, fun j hj => by omega, rfl⟩
  case round =>
    obtain ⟨k, hk, rfl, hz, rfl⟩ := hrel
    have HZ := Lib.hid hz
    clear hz
    have i1 : (k : Int) < (len : Int) := by omega
    have i2 : (k : Int) ≤ 1000000 := by omega
    have hcell := H.out.cell (i := k) (by have := HL.out.1; omega)
    have hlt := H.out.2 k
    generalize hv : l.getD k 0 = v at hcell hlt
    have HV := Lib.hid hv
    clear hv
    by_cases z : v = 0
    · subst z
      have hk1 : k + 1 < len := by
        rcases Nat.lt_or_ge (k + 1) len with g | g
        · exact g
        · exfalso
          have := HL.out.2
          rw [show len - 1 = k by omega, HV.out] at this
          exact this rfl
      go_wp2_with fail
      go_roundw
      case rel =>
        refine ⟨k + 1, hk1, by push_cast; rfl, fun j g => ?_, trivial⟩
        by_cases e : j = k
        · subst e; exact HV.out
        · exact HZ.out j (by omega)
      case measure => simp [intOf]; omega
    · have z' : ((v : Int) == 0) = false := beq_eq_false_iff_ne.2 (by omega)
      have HC := Lib.hid (tz_any v hlt z w HT.out)
      obtain ⟨o, g1, g2, g3⟩ := ctz_odd z hlt
      have G := Lib.hid (And.intro g1 g2)
      clear g1 g2 z hlt
      generalize Lib.ctz 64 v = c at HC G g3
      have g4 : (c : Int) < 64 := by omega
      go_wp2_with fail
      refine (HC.out).mono ?_
      rintro e w1 ⟨rfl, rfl⟩
      go_wp2_with fail
      go_ret
      refine ⟨64 * k + c, ?_, by omega, tz_words hk HZ.out G.out.2 (by rw [HV.out]; exact G.out.1) g3, rfl⟩
      show Ending.returned (.int .u64 ((k : Int) * 64 + (c : Int))) = _
      rw [show ((64 * k + c : Nat) : Int) = (k : Int) * 64 + (c : Int) by omega]

set_option maxRecDepth 100000 in
theorem intTzb2 (z : Nat) (vz : Value) (nz : Bool) (N K : Nat) (w : World) (h0 : 0 < N) (hN : N < 2 ^ (64 * K)) (hz : IntV w z vz nz N) (hT : Tab w) :
    Calls Tryz.prog 44 #[.pointer (some ⟨z, 0, none⟩)] w fun e w' => ∃ k : Nat, e = .returned (.int .u64 (k : Int)) ∧ k < 64 * K ∧ TzIs N k ∧ w = w' := by
  have z1 := hz.1.c1
  have hlen := fun b len cap (e : vz = .slice (some ⟨b, 0, none⟩) len cap) => NatV.len (w := w) (N := N) (b := b) (cap := cap) (by rw [← e]; exact hz.2) hN
  obtain ⟨b, len, cap, l, rfl, hr, h1, h2, h3, h4, h5, h6⟩ := hz.2.pos h0
  have hl := hlen b len cap rfl
  have H := Lib.hid (tzb_any b len cap l w hr h1 h2 h3 h5 h6 hT)
  have H4 := Lib.hid h4
  clear hz hr h1 h4 h6 hT hlen
  go_enter Tryz.func44, Tryz.ntmps44
  go_wp2_with fail
  refine (H.out).mono ?_
  rintro e w1 ⟨k, rfl, k1, k2, rfl⟩
  rw [H4.out] at k2
  have K2 := Lib.hid k2
  clear k2
  go_wp2_with fail
  go_ret
  exact ⟨k, rfl, by omega, K2.out, rfl⟩

theorem or_just (a bn : Nat) (b : Int) (ha : a < 18446744073709551616) (hb : b = (bn : Int)) (hle : bn ≤ a) :
    ∃ v : Nat, bits .or .u64 (a : Int) b = (v : Int) ∧ v < 18446744073709551616 ∧ a ≤ v ∧ ∀ t, a < 2 ^ t → v < 2 ^ t := by
  subst hb
  have e : bits .or .u64 (a : Int) (bn : Int) = IntKind.u64.wrap ((BitVec.ofInt 64 (a : Int) ||| BitVec.ofInt 64 (bn : Int)).toNat : Int) := rfl
  have hlt := (BitVec.ofInt 64 (a : Int) ||| BitVec.ofInt 64 (bn : Int)).isLt
  have hor : (BitVec.ofInt 64 (a : Int) ||| BitVec.ofInt 64 (bn : Int)).toNat = a ||| bn := by
    rw [BitVec.toNat_or, BitVec.ofInt_natCast, BitVec.toNat_ofNat, Nat.mod_eq_of_lt (by omega), BitVec.ofInt_natCast, BitVec.toNat_ofNat, Nat.mod_eq_of_lt (by omega)]
  rw [hor] at e hlt
  have h1 : a ≤ a ||| bn := Nat.left_le_or
  have h2 : ∀ t, a < 2 ^ t → a ||| bn < 2 ^ t := fun t h => Nat.or_lt_two_pow h (Nat.lt_of_le_of_lt hle h)
  generalize a ||| bn = m at e hlt h1 h2
  rw [e, IntKind.wrap_u64]
  exact ⟨m, by omega, by omega, h1, h2⟩

set_option maxRecDepth 100000 in
theorem bitLen_just (b len cap X : Nat) (h0 : 0 < len) (hl : len ≤ 800000) (w : World) (hX1 : X < 18446744073709551616) (hX : w.cell? ⟨b, len - 1, none⟩ = some (.int .u64 (X : Int))) :
    Calls Tryz.prog 72 #[.slice (some ⟨b, 0, none⟩) len cap] w fun e w' => ∃ r : Nat, e = .returned (.int .i64 (((len - 1) * 64 + r : Nat) : Int)) ∧ X < 2 ^ r ∧ (∀ t, X < 2 ^ t → r ≤ t) ∧ w = w' := by
  obtain ⟨v1, e1, l1, g1, t1⟩ := or_just X (X / 2) ((X : Int) / 2) hX1 (by omega) (Nat.div_le_self _ _)
  obtain ⟨v2, e2, l2, g2, t2⟩ := or_just v1 (v1 / 4) ((v1 : Int) / 4) l1 (by omega) (Nat.div_le_self _ _)
  obtain ⟨v3, e3, l3, g3, t3⟩ := or_just v2 (v2 / 16) ((v2 : Int) / 16) l2 (by omega) (Nat.div_le_self _ _)
  obtain ⟨v4, e4, l4, g4, t4⟩ := or_just v3 (v3 / 256) ((v3 : Int) / 256) l3 (by omega) (Nat.div_le_self _ _)
  obtain ⟨v5, e5, l5, g5, t5⟩ := or_just v4 (v4 / 65536) ((v4 : Int) / 65536) l4 (by omega) (Nat.div_le_self _ _)
  obtain ⟨v6, e6, l6, g6, t6⟩ := or_just v5 (v5 / 65536 / 65536) ((v5 : Int) / 65536 / 65536) l5 (by omega) (by omega)
  have hL := fun w => len_any v6 w l6
  have hb := Lib.bitLen_le v6 64 (by omega) l6
  have hB : Hid (X < 2 ^ Lib.bitLen v6) := Nat.lt_of_le_of_lt (by omega) (lt_bitLen v6 l6)
  have hJ : Hid (∀ t, X < 2 ^ t → Lib.bitLen v6 ≤ t) := fun t h => by
    rcases Nat.lt_or_ge 64 t with c | c
    · omega
    · exact Lib.bitLen_le v6 t c (t6 t (t5 t (t4 t (t3 t (t2 t (t1 t h))))))
  have HL := Lib.hid hL
  obtain ⟨q, rfl⟩ : ∃ q, len = q + 1 := ⟨len - 1, by omega⟩
  rw [Nat.add_sub_cancel] at hX
  clear hL g1 g2 g3 g4 g5 g6 t1 t2 t3 t4 t5 t6
  rw [Nat.add_sub_cancel]
  go_enter Tryz.func72, Tryz.ntmps72
  go_wp2_with fail
  refine (HL.out _).mono ?_
  rintro e w1 ⟨rfl, rfl⟩
  generalize Lib.bitLen v6 = r at hb hB hJ
  go_wp2_with fail
  go_ret
  refine ⟨r, ?_, hB.out, hJ.out, rfl⟩
  show Ending.returned (.int .i64 ((q : Int) * 64 + (r : Int))) = _
  rw [show ((q * 64 + r : Nat) : Int) = (q : Int) * 64 + (r : Int) by omega]

set_option maxRecDepth 100000 in
theorem intBitLen2 (z : Nat) (vz : Value) (nz : Bool) (N K : Nat) (w : World) (h0 : 0 < N) (hK : K ≤ 800000) (hN : N < 2 ^ (64 * K)) (hz : IntV w z vz nz N) :
    Calls Tryz.prog 46 #[.pointer (some ⟨z, 0, none⟩)] w fun e w' => ∃ r : Nat, e = .returned (.int .i64 (r : Int)) ∧ N < 2 ^ r ∧ (∀ t, N < 2 ^ t → r ≤ t) ∧ w = w' := by
  have z1 := hz.1.c1
  have hlen := fun b len cap (e : vz = .slice (some ⟨b, 0, none⟩) len cap) => NatV.len (w := w) (N := N) (b := b) (cap := cap) (by rw [← e]; exact hz.2) hN
  obtain ⟨b, len, cap, l, rfl, hr, h1, h2, h3, h4, h5, h6⟩ := hz.2.pos h0
  have hl := hlen b len cap rfl
  have H := Lib.hid (bitLen_just b len cap _ h5 (by omega) w (hr.2 (len - 1)) (hr.cell (i := len - 1) (by omega)))
  have HT : Hid (∀ r, l.getD (len - 1) 0 < 2 ^ r → N < 2 ^ ((len - 1) * 64 + r)) := fun r hlt => by rw [← h4]; exact val_top (x := fun j => l.getD j 0) hr.2 h5 hlt
  have HJ : Hid (∀ r, (∀ t, l.getD (len - 1) 0 < 2 ^ t → r ≤ t) → ∀ t, N < 2 ^ t → (len - 1) * 64 + r ≤ t) := fun r hj t ht => by
    obtain ⟨q, rfl⟩ : ∃ q, len = q + 1 := ⟨len - 1, by omega⟩
    rw [Nat.add_sub_cancel] at *
    rw [← h4] at ht
    have h7 : l.getD q 0 * 2 ^ (64 * q) < 2 ^ t := Nat.lt_of_le_of_lt (Nat.le_add_left _ _) ht
    have hpos : 1 * 2 ^ (64 * q) ≤ l.getD q 0 * 2 ^ (64 * q) := Nat.mul_le_mul_right _ (Nat.pos_of_ne_zero h6)
    have h8 : 64 * q < t := by
      rcases Nat.lt_or_ge (64 * q) t with g | g
      · exact g
      · have := two_mono _ _ g
        omega
    rw [show t = (t - 64 * q) + 64 * q by omega, Nat.pow_add] at h7
    have h9 := hj (t - 64 * q) (Nat.lt_of_mul_lt_mul_right h7)
    omega
  clear hz hr h1 h4 h6 hlen
  go_enter Tryz.func46, Tryz.ntmps46
  go_wp2_with fail
  refine (H.out).mono ?_
  rintro e w1 ⟨r, rfl, hx, hj, rfl⟩
  have HX := Lib.hid (And.intro hx hj)
  clear hx hj
  go_wp2_with fail
  go_ret
  exact ⟨(len - 1) * 64 + r, rfl, HT.out r HX.out.1, HJ.out r HX.out.2, rfl⟩

set_option maxRecDepth 100000 in
set_option maxHeartbeats 2000000 in
theorem rsh_words (xb len cap q n : Nat) (l : List Nat) (hq : 0 < q) (h0 : 0 < n) (hqn : len = q + n) (hm : len ≤ 800000) (hll : l.length = cap) (hlc : len ≤ cap) (hcc : cap ≤ 1000000) (w : World) (hr : Row w xb l) :
    Calls Tryz.prog 70 #[.slice none 0 0, .slice (some ⟨xb, 0, none⟩) len cap, .int .u64 ((64 * q : Nat) : Int)] w (NatPost None (val (fun j => l.getD j 0) len / 2 ^ (64 * q)) w) := by
  have hmk := make_new none 0 0 n h0 (by omega) w
  have HR := Lib.hid hr
  have HB := Lib.hid hr.2
  have HM := Lib.hid hmk
  clear hr hmk
  have sz : (((64 * q : Nat) : Int) == 0) = false := beq_eq_false_iff_ne.2 (by omega)
  have s1 : ((64 * q : Nat) : Int) / 64 = q := by omega
  have s2 : ((64 * q : Nat) : Int) % 64 = 0 := by omega
  have s3 : (len : Int) - (q : Int) = n := by omega
  have s4 : ¬ ((n : Int) ≤ 0) := by omega
  generalize hS : ((64 * q : Nat) : Int) = s at sz s1 s2 ⊢
  have t0 : 0 ≤ s := by omega
  have t1 : s < 18446744073709551616 := by omega
  have HS := Lib.hid hS
  have HQN := Lib.hid hqn
  have hn8 : n ≤ 800000 := by omega
  clear hS hqn
  go_enter Tryz.func70, Tryz.ntmps70
  go_wp2_with fail
  refine (HM.out).mono ?_
  rintro e w1 ⟨zb, zc, zl, rfl, m1, m2, m3, m4, m5, m6⟩
  have X1 : ∀ j, j < n → w1.cell? ⟨xb, q + j, none⟩ = some (.int .u64 ((l.getD (q + j) 0 : Nat) : Int)) := by
    intro j hj
    rw [m6.cell (p := ⟨xb, q + j, none⟩) (HR.out).lt (fun x => x)]
    have := HQN.out
    exact (HR.out).cell (by omega)
  obtain ⟨w2, zl', c1, c2, c3, c4, c5, c6⟩ := run_copyW w1 zb zc xb q (cap - q) n zl (fun j => l.getD (q + j) 0) m1 X1 (fun j => HB.out _) (by omega) 3
  have C := Lib.hid (And.intro c2 (And.intro c3 (And.intro c4 (And.intro c5 c6))))
  have M := Lib.hid (And.intro m1 (And.intro m2 (And.intro m5 m6)))
  have s5 : (len : Int) - (n : Int) = q := by have := HQN.out; omega
  have s6 : len - q = n := by have := HQN.out; omega
  clear s3 c2 c3 c4 c5 c6 m1 m2 m5 m6 X1
  go_wp2_with fail
  refine (norm_row zb n zc zl' (by rw [C.out.2.1, M.out.2.1]) m3 m4 _ C.out.1).mono ?_
  rintro e w4 ⟨k, rfl, hk, rfl⟩
  have HK := Lib.hid hk
  clear hk
  go_wp2_with fail
  go_ret
  obtain ⟨n2, n1, n3, n4, n5⟩ := C.out
  obtain ⟨k1, k2, k3⟩ := HK.out
  obtain ⟨m1, m2, m5, m6⟩ := M.out
  have hqn := HQN.out
  have V : val (fun j => zl'.getD j 0) n = val (fun j => l.getD j 0) len / 2 ^ (64 * q) := by
    rw [hqn, val_up HB.out]
    exact val_congr _ (fun j hj => n3 j hj)
  refine ⟨_, rfl, Or.inr ⟨zb, k, zc, zl', rfl, n2, by rw [n1, m2], by omega, m4, ?_, k3⟩, ?_, ?_⟩
  · rw [← V]; exact (val_zeros (x := fun j => zl'.getD j 0) n k1 k2).symm
  · rintro b ⟨_, _, hb⟩
    cases hb
    exact m5
  · exact m6.trans n5 (fun x hx => hx.elim) (fun x hx hb => by
      cases hb
      rcases m5 with h | h
      · exact h
      · omega)

/-- rsh to new memory, by any number of bits below the number's own. -/
theorem rsh_free (x : Value) (K k : Nat) (hK : K ≤ 800000) (w : World) (N : Nat) (hx : NatV w x N) (hN : N < 2 ^ (64 * K)) (hk : 2 ^ k ≤ N) :
    Calls Tryz.prog 70 #[.slice none 0 0, x, .int .u64 (k : Int)] w (NatPost (Blk (.slice none 0 0)) (N / 2 ^ k) w) := by
  have h0 : 0 < N := Nat.lt_of_lt_of_le (Nat.two_pow_pos _) hk
  have nb : ∀ b, Blk (.slice none 0 0) b → None b := fun b h => by obtain ⟨_, _, h⟩ := h; cases h
  rcases Nat.eq_zero_or_pos k with rfl | hk0
  · rw [Nat.pow_zero, Nat.div_one]
    refine (rsh_zero x K hK w N h0 hx hN).mono ?_
    rintro e w' ⟨v, h1, h2, h3, h4⟩
    exact ⟨v, h1, h2, fun b hb => (h3 b hb).imp (fun h => h.elim) id, h4.mono (fun _ _ h => h.elim)⟩
  · rcases Nat.eq_zero_or_pos (k % 64) with hr | hr
    · obtain ⟨q, rfl⟩ : ∃ q, k = 64 * q := ⟨k / 64, by omega⟩
      have hlen := fun b len cap (e : x = .slice (some ⟨b, 0, none⟩) len cap) => NatV.len (w := w) (N := N) (b := b) (cap := cap) (by rw [← e]; exact hx) hN
      obtain ⟨b, len, cap, l, rfl, hrow, h1, h2, h3, h4, h5, h6⟩ := hx.pos h0
      have hl := hlen b len cap rfl
      have hql := words_pos hrow.2 len q (by rw [h4]; exact hk)
      rw [← h4]
      refine (rsh_words b len cap q (len - q) l (by omega) (by omega) (by omega) (by omega) h1 h2 h3 w hrow).mono ?_
      rintro e w' ⟨v, h1, h2, h3, h4⟩
      exact ⟨v, h1, h2, fun b hb => (h3 b hb).imp (fun h => h.elim) id, h4.mono (fun _ _ h => h.elim)⟩
    · have h := rsh_any (.slice none 0 0) x (k / 64) (k % 64) K hr (Nat.mod_lt _ (by omega)) hK w 0 N (Or.inl ⟨rfl, rfl⟩) hx hN (Nat.le_trans (two_mono _ _ (by omega)) hk)
      rw [show 64 * (k / 64) + k % 64 = k by omega] at h
      exact h
end Go.Proofs.YtgmebioogkmfgaaGreatDoor

namespace Go.Proofs.YtgmebioogkmfgaaGreatDoor
open Go.RowKit Go.Pt Go.Mem

/-- A call gave up with the error of number k. -/
def gaveUp (k : Int) : Ending := .panicked [{ v := .iface 57 (.agg #[.int .i64 k]), recovered := false }]

/-- x is neg, A times 2^E; its digits lie in memory that was made since. -/
def NumO (w : World) (x : Value) (neg : Bool) (A : Nat) (E : Int) (base : Nat) : Prop :=
  ∃ v n, x = .agg #[.bool neg, v, .int .i64 E] ∧ IRow w v n (dgt A) base ∧ Digs n (dgt A) ∧ dv (dgt A) n = A

/-- What told gives: the one form, or it gives up. -/
def BigPost (neg : Bool) (N : Nat) (e : Int) (w : World) (en : Ending) (w' : World) : Prop :=
  ∃ k : Nat, TzIs N k ∧ Fr w w' None ∧ ((-1048576 ≤ e + (k : Int) ∧ e + (k : Int) ≤ 1048576 ∧ ∃ x, en = .returned x ∧ NumO w' x neg (N / 2 ^ k) (e + (k : Int)) w.heap.size) ∨
    (¬ (-1048576 ≤ e + (k : Int) ∧ e + (k : Int) ≤ 1048576) ∧ en = gaveUp 2))

set_option maxRecDepth 100000 in
set_option maxHeartbeats 8000000 in
theorem told_big (m : Nat) (v : Value) (neg : Bool) (N T : Nat) (e : Int) (w : World) (h0 : 0 < N) (hT0 : T ≤ 60000) (hNT : N < 2 ^ T)
    (he0 : -6000000 ≤ e) (he1 : e ≤ 6000000) (hm : IntV w m v neg N) (hT : Tab w) :
    Calls Tryz.prog 29 #[.agg #[.pointer (some ⟨m, 0, none⟩), .int .i64 e]] w (BigPost neg N e w) := by
  obtain ⟨sg, hsg, hs0, hsn⟩ : ∃ sg : Int, (if neg then (-1 : Int) else 1) = sg ∧ (sg == 0) = false ∧ decide (sg < 0) = neg := by
    cases neg
    · exact ⟨1, rfl, rfl, rfl⟩
    · exact ⟨-1, rfl, rfl, rfl⟩
  have f0 : Fr w ((w.alloc (.cells #[.pointer (some ⟨m, 0, none⟩), .int .i64 e] 62)).alloc (.cells #[.bool false, .slice none 0 0, .int .i64 0] 24)) None := ((Fr.refl w None).alloc _).alloc _
  have t0 : At ((w.alloc (.cells #[.pointer (some ⟨m, 0, none⟩), .int .i64 e] 62)).alloc (.cells #[.bool false, .slice none 0 0, .int .i64 0] 24)) w.heap.size #[.pointer (some ⟨m, 0, none⟩), .int .i64 e] 62 :=
    (At.alloc w _ _).keep ((Fr.refl _ None).alloc _) (fun x => x)
  have r0 : At ((w.alloc (.cells #[.pointer (some ⟨m, 0, none⟩), .int .i64 e] 62)).alloc (.cells #[.bool false, .slice none 0 0, .int .i64 0] 24)) (w.heap.size + 1) #[.bool false, .slice none 0 0, .int .i64 0] 24 := by
    have := At.alloc (w.alloc (.cells #[.pointer (some ⟨m, 0, none⟩), .int .i64 e] 62)) #[.bool false, .slice none 0 0, .int .i64 0] 24
    simpa using this
  have HM := Lib.hid (hm.keep f0 (fun x => x) (fun _ _ x => x))
  have HT := Lib.hid (hT.keep f0)
  have hN := Nat.lt_of_lt_of_le hNT (two_mono T (64 * T) (by omega))
  have HN := Lib.hid (And.intro h0 (And.intro hN hNT))
  have F0 := Lib.hid f0
  have T0 := Lib.hid t0
  have R0 := Lib.hid r0
  have HSG := Lib.hid hsg
  clear hm hT h0 hN hNT f0 t0 r0 hsg
  go_enter Tryz.func29, Tryz.ntmps29
  go_wp2_with fail
  generalize (w.alloc (.cells #[.pointer (some ⟨m, 0, none⟩), .int .i64 e] 62)).alloc (.cells #[.bool false, .slice none 0 0, .int .i64 0] 24) = w0 at HM HT F0 T0 R0 ⊢
  have hs := intSign_pos m v neg N w0 HN.out.1 HM.out
  rw [HSG.out] at hs
  refine hs.mono ?_
  clear hs
  rintro en w1 ⟨rfl, rfl⟩
  have c0 := (T0.out).cell 0
  have c1 := (T0.out).cell 1
  go_wp2_with fail
  have hz := intTzb2 m v neg N T w0 HN.out.1 HN.out.2.1 HM.out HT.out
  refine hz.mono ?_
  clear hz
  rintro en w1 ⟨k, rfl, k1, k2, rfl⟩
  have hk0 : (k : Int) < 3840000 := by omega
  have TZ := Lib.hid k2
  clear k2
  have f1 : Fr w0 (w0.alloc (.cells #[.bool false, .slice none 0 0] 81)) None := (Fr.refl w0 None).alloc _
  have f2 : Fr w0 ((w0.alloc (.cells #[.bool false, .slice none 0 0] 81)).alloc (.cells #[.bool false, .slice none 0 0] 81)) None := f1.alloc _
  have g1 : IntV ((w0.alloc (.cells #[.bool false, .slice none 0 0] 81)).alloc (.cells #[.bool false, .slice none 0 0] 81)) w0.heap.size (.slice none 0 0) false 0 :=
    ⟨(alloc_shell w0 false (.slice none 0 0)).keep ((Fr.refl _ None).alloc _) (fun x => x), Or.inl ⟨rfl, rfl⟩⟩
  have g2 : IntV ((w0.alloc (.cells #[.bool false, .slice none 0 0] 81)).alloc (.cells #[.bool false, .slice none 0 0] 81)) (w0.heap.size + 1) (.slice none 0 0) false 0 := by
    have := alloc_shell (w0.alloc (.cells #[.bool false, .slice none 0 0] 81)) false (.slice none 0 0)
    exact ⟨by simpa using this, Or.inl ⟨rfl, rfl⟩⟩
  have G := Lib.hid (And.intro f2 (And.intro g1 g2))
  have d0 := (T0.out.keep f2 (fun x => x)).cell 0
  clear f1 f2 g1 g2
  go_wp2_with fail
  generalize (w0.alloc (.cells #[.bool false, .slice none 0 0] 81)).alloc (.cells #[.bool false, .slice none 0 0] 81) = w1 at G d0 ⊢
  have mlt := HM.out.1.lt
  refine (intAbs (w0.heap.size + 1) m v false neg N T (by omega) (by omega) w1 HN.out.1 HN.out.2.1 G.out.2.2 ((HM.out).keep G.out.1 (fun x => x) (fun _ _ x => x))).mono ?_
  rintro en w2 ⟨rfl, v2, a1, a2, a3⟩
  have nb : ∀ b, ¬ Blk (.slice none 0 0) b := fun b h => by obtain ⟨_, _, h⟩ := h; cases h
  have p1 : IntV w2 w0.heap.size (.slice none 0 0) false 0 := G.out.2.1.keep a3 (fun h => h.elim (fun h => by omega) (nb _)) (fun b h => (nb b h).elim)
  have f2 : Fr w0 w2 None := G.out.1.trans a3 (fun _ h => h) (fun x hx h => h.elim (fun h => by omega) (fun h => (nb x h).elim))
  have hr := intRsh w0.heap.size (w0.heap.size + 1) (.slice none 0 0) v2 false 0 N (N / 2 ^ k) (k : Int) w2 p1 a1 (rsh_free v2 T k (by omega) w2.drew N (a1.2.drewN 1) HN.out.2.1 TZ.out.le)
  have HR := Lib.hid hr
  have F2 := Lib.hid f2
  have NB := Lib.hid nb
  have S2 : Hid (w0.heap.size ≤ w2.heap.size) := f2.size
  clear hr a1 a2 a3 p1 f2 nb d0
  go_wp2_with fail
  refine (HR.out).mono ?_
  rintro en w3 ⟨rfl, v1, b1, b2, b3⟩
  have f3 : Fr w0 w3 None := F2.out.trans b3 (fun _ h => h) (fun x hx h => h.elim (fun h => by omega) (fun h => (NB.out x h).elim))
  have c3 := (T0.out.keep f3 (fun x => x)).cell 1
  have F3 := Lib.hid f3
  have B1 := Lib.hid b1
  have B2 : Hid (∀ b, Blk v1 b → w0.heap.size ≤ b) := fun b hb => (b2 b hb).elim (fun h => (NB.out b h).elim) (fun h => Nat.le_trans S2.out h)
  have hA : 0 < N / 2 ^ k := by
    exact Nat.div_pos TZ.out.le (Nat.two_pow_pos k)
  have hA2 : N / 2 ^ k < 2 ^ (64 * T) := Nat.lt_of_le_of_lt (Nat.div_le_self _ _) HN.out.2.1
  have hA3 : N / 2 ^ k < 2 ^ T := Nat.lt_of_le_of_lt (Nat.div_le_self _ _) HN.out.2.2
  have HA := Lib.hid (And.intro hA (And.intro hA2 hA3))
  clear f3 b1 b2 b3 hA hA2 hA3 HR F2
  generalize hAe : N / 2 ^ k = A at B1 HA
  have HAE := Lib.hid hAe
  clear hAe
  go_wp2_with fail
  refine (intBitLen2 w0.heap.size v1 false A T w3 HA.out.1 (by omega) HA.out.2.1 B1.out).mono ?_
  rintro en w4 ⟨r, rfl, r1, r2, rfl⟩
  have r3 := r2 T HA.out.2.2
  clear r1 r2
  have j1 : (r : Int) ≤ 60000 := by omega
  by_cases j2 : -1048576 ≤ e + (k : Int)
  case neg =>
    have j2' : e + (k : Int) < -1048576 := by omega
    go_wp2_with fail
    exact ⟨rfl, k, TZ.out, F0.out.trans F3.out (fun _ h => h) (fun _ _ h => h), Or.inr ⟨fun h => by have := h.1; omega, rfl⟩⟩
  clear hk0 k1
  by_cases j3 : e + (k : Int) ≤ 1048576
  case neg =>
    have j3' : 1048576 < e + (k : Int) := by omega
    go_wp2_with fail
    exact ⟨rfl, k, TZ.out, F0.out.trans F3.out (fun _ h => h) (fun _ _ h => h), Or.inr ⟨fun h => by have := h.2; omega, rfl⟩⟩
  have JJ := Lib.hid (And.intro j2 j3)
  go_wp2_with fail
  refine (intBitLen2 w0.heap.size v1 false A T w3 HA.out.1 (by omega) HA.out.2.1 B1.out).mono ?_
  rintro en w4 ⟨r', rfl, r4, r5, rfl⟩
  have r6 := r5 T HA.out.2.2
  have R4 := Lib.hid r4
  clear r4 r5
  have hC : ((r' / 30 + 1 : Nat) : Int) = (r' : Int) / 30 + 1 := by omega
  have hmk0 := run_mkI 0 (r' / 30 + 1) (by omega) (by omega) w3
  rw [hC] at hmk0
  have hmk : (Instr.makeSlice 22 (.int .i64 0) (.int .i64 ((r' : Int) / 30 + 1))).run Tryz.prog w3 = .ok (.slice (some ⟨w3.heap.size, 0, none⟩) 0 (r' / 30 + 1)) (w3.alloc (irow (r' / 30 + 1))) := hmk0
  clear hmk0 hC
  go_wp2_with fail
  have hcr := cap_room (A := A) (r := r') R4.out
  generalize r' / 30 + 1 = C at hcr hmk ⊢
  have hD0 : At (w3.alloc (irow C)) w3.heap.size (List.replicate C (Value.int .i64 0)).toArray 3 := At.alloc w3 _ _
  have f4 : Fr w0 (w3.alloc (irow C)) None := F3.out.alloc _
  have b4 : IntV (w3.alloc (irow C)) w0.heap.size v1 false A := (B1.out).keep ((Fr.refl w3 None).alloc _) (fun x => x) (fun _ _ x => x)
  have hdb : w0.heap.size < w3.heap.size := B1.out.1.lt
  have HCR := Lib.hid hcr
  have Q4 := Lib.hid (And.intro hD0 (And.intro f4 (And.intro b4 hdb)))
  have hsz : (w3.alloc (irow C)).heap.size = w3.heap.size + 1 := by simp
  clear hmk hD0 f4 b4 hdb hcr R4 r3 r6 j1
  generalize hdbe : w3.heap.size = db at Q4 hsz ⊢
  generalize w3.alloc (irow C) = w4 at Q4 hsz ⊢
  have hnew := newInt 1073741823 (by unfold I64; omega) w4
  rw [show decide ((1073741823 : Int) < 0) = false from rfl, show (1073741823 : Int).natAbs = 1073741823 from rfl] at hnew
  refine hnew.mono ?_
  clear hnew
  rintro en w5 ⟨mb, mv, rfl, m1, m2, m3, m4⟩
  have I : Hid (TdInv w0 w0.heap.size db mb mv A C (.slice (some ⟨db, 0, none⟩) 0 C) w5) := by
    refine ⟨0, v1, _, rfl, Nat.zero_le _, by simpa using Q4.out.2.2.1.keep m4 (fun x => x) (fun _ _ x => x), fun b hb => ⟨B2.out b hb, ?_⟩, m1, Q4.out.1.keep m4 (fun x => x), by simp, fun q hq => by omega, fun h => by omega, Q4.out.2.1.trans m4 (fun _ h => h) (fun _ _ h => h)⟩
    have hlt : b < w3.heap.size := B1.out.blkLt hb
    rw [hdbe] at hlt
    exact ⟨by omega, by omega, fun h => by have := m3 b h; omega⟩
  have Q5 := Lib.hid (And.intro Q4.out.2.2.2 (And.intro m2 (And.intro m3 hsz)))
  clear m1 m2 m3 m4 hsz Q4 B1 B2 hdbe
  go_wp2_with fail
  go_loopw [6] (fun i wr => TdInv w0 w0.heap.size db mb mv A C i wr) (fun i _ => C - lenS i)
  case atStart => exact I.out
  case round =>
    obtain ⟨j, vj, cs, rfl, hjC, q1, q2, q3, q4, q5, q6, q7, q8⟩ := hrel
    have U1 := Lib.hid q1
    have U := Lib.hid (And.intro q2 (And.intro q3 (And.intro q4 (And.intro q5 (And.intro q6 (And.intro q7 q8))))))
    clear q1 q2 q3 q4 q5 q6 q7 q8
    by_cases c : A / 2 ^ (30 * j) = 0
    · rw [c] at U1
      go_wp2_with fail
      refine (intSign_zero w0.heap.size vj false wr U1.out).mono ?_
      rintro en w6 ⟨rfl, rfl⟩
      have fr : Fr w0 wr None := U.out.2.2.2.2.2.2
      have c5 := (T0.out.keep fr (fun x => x)).cell 0
      have hm5 := (HM.out).keep fr (fun x => x) (fun _ _ x => x)
      have hs5 := intSign_pos m v neg N wr HN.out.1 hm5
      rw [HSG.out] at hs5
      have HS5 := Lib.hid hs5
      have rr := R0.out.keep fr (fun x => x)
      have rc0 := rr.cell 0
      have rc1 := rr.cell 1
      have rc2 := rr.cell 2
      have rf0 := rr.free 0
      have rf1 := rr.free 1
      have rf2 := rr.free 2
      clear hs5 fr hm5 rr
      go_wp2_with fail
      refine (HS5.out).mono ?_
      rintro en w7 ⟨rfl, rfl⟩
      go_wp2_with fail
      have at0 := ((((R0.out).keep U.out.2.2.2.2.2.2 (fun x => x)).put 0 (.bool neg)).put 1 (.slice (some ⟨db, 0, none⟩) j C)).put 2 (.int .i64 (e + (k : Int)))
      have fz0 : Fr wr (((wr.setCell ⟨w.heap.size + 1, 0, none⟩ (.bool neg)).setCell ⟨w.heap.size + 1, 1, none⟩ (.slice (some ⟨db, 0, none⟩) j C)).setCell ⟨w.heap.size + 1, 2, none⟩ (.int .i64 (e + (k : Int)))) (One (w.heap.size + 1)) :=
        (((Fr.refl wr (One (w.heap.size + 1))).setCell (p := ⟨w.heap.size + 1, 0, none⟩) (Or.inl rfl) _).setCell (p := ⟨w.heap.size + 1, 1, none⟩) (Or.inl rfl) _).setCell (p := ⟨w.heap.size + 1, 2, none⟩) (Or.inl rfl) _
      generalize ((wr.setCell ⟨w.heap.size + 1, 0, none⟩ (.bool neg)).setCell ⟨w.heap.size + 1, 1, none⟩ (.slice (some ⟨db, 0, none⟩) j C)).setCell ⟨w.heap.size + 1, 2, none⟩ (.int .i64 (e + (k : Int))) = wz at at0 fz0 ⊢
      have at1 : At wz (w.heap.size + 1) #[.bool neg, .slice (some ⟨db, 0, none⟩) j C, .int .i64 (e + (k : Int))] 24 := at0
      have rlt := (R0.out).lt
      refine bodyPost_ret (results_cell_row rfl _ _ _ _ _ _ _ rfl at1 Tryz.underlying24 rfl (by kernel_rfl)) rfl ?_
      obtain ⟨q2, q3, q4, q5, q6, q7, q8⟩ := U.out
      obtain ⟨g1, g2, g3, g4⟩ := Q5.out
      have s0 := F0.out.size
      have row : At wz db cs 3 := q4.keep fz0 (fun e => by unfold Mem.One at e; omega)
      have fall : Fr w wz None := (F0.out.trans q8 (fun _ h => h) (fun _ _ h => h)).trans fz0 (fun _ h => h) (fun x hx h => by unfold Mem.One at h; omega)
      have hlt : A < 2 ^ (30 * j) := by
        rcases Nat.div_eq_zero_iff.1 c with h | h
        · exact absurd h (Nat.ne_of_gt (Nat.two_pow_pos _))
        · exact h
      have hj64 : j ≤ 2000 := by
        rcases Nat.lt_or_ge 2000 j with h | h
        · have h2 := two_mono T (30 * (j - 1)) (by omega)
          exact absurd (Nat.div_eq_of_lt (Nat.lt_of_lt_of_le HA.out.2.2 h2)) (q7 (by omega))
        · exact h
      refine ⟨k, TZ.out, fall, Or.inl ⟨JJ.out.1, JJ.out.2, _, rfl, _, j, rfl, Or.inr ⟨db, C, cs, rfl, hjC, by omega, row, q5, by rw [HAE.out]; exact q6⟩, ⟨dgt_lt _, fun hj0 => ?_, by omega⟩, by rw [HAE.out, dv_dgt, Nat.mod_eq_of_lt hlt]⟩⟩
      · rw [HAE.out]
        unfold dgt
        rw [Nat.mod_eq_of_lt ?_]
        · exact q7 hj0
        · refine Nat.div_lt_of_lt_mul ?_
          rw [show (1073741824 : Nat) = 2 ^ 30 from rfl, ← Nat.pow_add, show 30 * (j - 1) + 30 = 30 * j by omega]
          exact hlt
    · have c' : 0 < A / 2 ^ (30 * j) := Nat.pos_of_ne_zero c
      go_wp2_with fail
      refine (intSign_pos w0.heap.size vj false _ wr c' U1.out).mono ?_
      rintro en w6 ⟨rfl, rfl⟩
      have ha : A / 2 ^ (30 * j) < 2 ^ (64 * T) := Nat.lt_of_le_of_lt (Nat.div_le_self _ _) HA.out.2.1
      have hd : dgt A j = A / 2 ^ (30 * j) % 1073741824 := rfl
      have hnext : A / 2 ^ (30 * (j + 1)) = A / 2 ^ (30 * j) / 2 ^ 30 := by rw [show 30 * (j + 1) = 30 * j + 30 by omega, Nat.pow_add, Nat.div_div_eq_div_mul]
      have hj1 := HCR.out j c
      have D := Lib.hid (And.intro c' (And.intro ha (And.intro hd (And.intro hnext c))))
      clear c' ha hd hnext c
      generalize hBe : A / 2 ^ (30 * j) = B at U1 D
      have HBE := Lib.hid hBe
      clear hBe
      have f1 : Fr wr (wr.alloc (.cells #[.bool false, .slice none 0 0] 81)) None := (Fr.refl wr None).alloc _
      have z1 : IntV (wr.alloc (.cells #[.bool false, .slice none 0 0] 81)) wr.heap.size (.slice none 0 0) false 0 := ⟨alloc_shell wr false _, Or.inl ⟨rfl, rfl⟩⟩
      have Z := Lib.hid (And.intro f1 z1)
      clear f1 z1
      go_wp2_with fail
      generalize wr.alloc (.cells #[.bool false, .slice none 0 0] 81) = wa at Z ⊢
      refine (intAnd wr.heap.size w0.heap.size mb vj mv false B wa D.out.1 Z.out.2 (U1.out.keep Z.out.1 (fun x => x) (fun _ _ x => x)) (U.out.2.1.keep Z.out.1 (fun x => x) (fun _ _ x => x))).mono ?_
      rintro en wb ⟨rfl, vz, a1, a2, a3⟩
      have f2 : Fr wr wb None := Z.out.1.trans a3 (fun _ h => h) (fun x hx h => h.elim (fun h => by omega) (fun h => (NB.out x h).elim))
      rw [← D.out.2.2.1] at a1
      have hdl := dgt_lt A j
      generalize hde : dgt A j = d at a1 hdl
      have HDE := Lib.hid hde
      clear hde
      have F2 := Lib.hid f2
      clear f2 a2 a3
      go_wp2_with fail
      refine (int64_any wr.heap.size vz d (by omega) wb a1).mono ?_
      rintro en wc ⟨rfl, rfl⟩
      clear a1
      have fd : Fr wr (wb.alloc (.cells #[.int .i64 (d : Int)] 3)) None := F2.out.alloc _
      have n1 := (At.alloc wb #[.int .i64 (d : Int)] 3).cell 0
      have r1 := U.out.2.2.1.keep fd (fun x => x)
      have hcs : j < cs.size := by rw [U.out.2.2.2.1]; omega
      have happ := run_appI (wb.alloc (.cells #[.int .i64 (d : Int)] 3)) db j C wb.heap.size d hj1 (by rw [r1.cell, Array.getElem?_eq_getElem hcs]; rfl) (r1.free j) n1 22
      have FD := Lib.hid fd
      have R1 := Lib.hid (And.intro r1 hcs)
      clear fd n1 r1 hcs
      go_wp2_with (refine wpList_appI _ _ rfl _ _ rfl _ _ _ rfl rfl happ ?_)
      obtain ⟨r1, hcs⟩ := R1.out
      obtain ⟨g1, g2, g3, g4⟩ := Q5.out
      obtain ⟨q2, q3, q4, q5, q6, q7, q8⟩ := U.out
      have sdb : Fr (wb.alloc (.cells #[.int .i64 (d : Int)] 3)) ((wb.alloc (.cells #[.int .i64 (d : Int)] 3)).setCell ⟨db, j, none⟩ (.int .i64 (d : Int))) (One db) := (Fr.refl _ (One db)).setCell (p := ⟨db, j, none⟩) (Or.inl rfl) _
      have fe : Fr wr ((wb.alloc (.cells #[.int .i64 (d : Int)] 3)).setCell ⟨db, j, none⟩ (.int .i64 (d : Int))) (One db) := FD.out.trans sdb (fun _ h => h.elim) (fun _ _ h => h)
      have row : At ((wb.alloc (.cells #[.int .i64 (d : Int)] 3)).setCell ⟨db, j, none⟩ (.int .i64 (d : Int))) db (cs.setIfInBounds j (.int .i64 (d : Int))) 3 := r1.put j _
      have m5 : IntV ((wb.alloc (.cells #[.int .i64 (d : Int)] 3)).setCell ⟨db, j, none⟩ (.int .i64 (d : Int))) mb mv false 1073741823 := q3.keep fe (fun e => by cases e; omega) (fun b hb e => by cases e; have := g3 _ hb; omega)
      have x5 : IntV ((wb.alloc (.cells #[.int .i64 (d : Int)] 3)).setCell ⟨db, j, none⟩ (.int .i64 (d : Int))) w0.heap.size vj false B := U1.out.keep fe (fun e => by cases e; omega) (fun b hb e => (q2 b hb).2.1 e)
      have E5 := Lib.hid (And.intro fe (And.intro row (And.intro m5 x5)))
      clear r1 hcs g1 g2 g3 g4 q2 q3 q4 q5 q6 q7 q8 sdb fe row m5 x5 happ
      generalize (wb.alloc (.cells #[.int .i64 (d : Int)] 3)).setCell ⟨db, j, none⟩ (.int .i64 (d : Int)) = we at E5 ⊢
      have hl : Calls Tryz.prog 70 #[vj, vj, .int .u64 30] we.drew (NatPost (Blk vj) (B / 2 ^ 30) we.drew) :=
        rsh_any vj vj 0 30 T (by omega) (by omega) (by omega) we.drew B B (E5.out.2.2.2.2.drewN 1) (E5.out.2.2.2.2.drewN 1) D.out.2.1 (by rw [Nat.mul_zero, Nat.pow_zero]; exact D.out.1)
      refine (intRsh w0.heap.size w0.heap.size vj vj false B B (B / 2 ^ 30) 30 we E5.out.2.2.2 E5.out.2.2.2 hl).mono ?_
      clear hl
      rintro en wf ⟨rfl, v', b1, b2, b3⟩
      have R : Hid (TdInv w0 w0.heap.size db mb mv A C (.slice (some ⟨db, 0, none⟩) (j + 1) C) wf) := by
        obtain ⟨fe, row, m5, x5⟩ := E5.out
        obtain ⟨g1, g2, g3, g4⟩ := Q5.out
        obtain ⟨q2, q3, q4, q5, q6, q7, q8⟩ := U.out
        have mlt := m5.1.lt
        have dlt := row.lt
        refine ⟨j + 1, v', _, rfl, hj1, by rw [D.out.2.2.2.1]; exact b1, fun b hb => ?_, m5.keep b3 (fun h => h.elim (fun h => by omega) (fun h => (q2 _ h).2.2.1 rfl)) (fun b hb h => h.elim (fun h => by have := g3 b hb; omega) (fun h => (q2 b h).2.2.2 hb)),
          row.keep b3 (fun h => h.elim (fun h => by omega) (fun h => (q2 _ h).2.1 rfl)), by rw [Array.size_setIfInBounds]; exact q5, fun q hq => ?_, fun _ => by rw [Nat.add_sub_cancel, HBE.out]; exact D.out.2.2.2.2,
          (q8.trans fe (fun _ h => h) (fun x hx h => by cases h; omega)).trans b3 (fun _ h => h) (fun x hx h => h.elim (fun h => by omega) (fun h => by have := (q2 x h).1; omega))⟩
        · rcases b2 b hb with h | h
          · exact q2 b h
          · have hs := (q8.trans fe (U := fun _ => True) (fun _ _ => trivial) (fun _ _ _ => trivial)).size
            exact ⟨by omega, by omega, by omega, fun k => by have := m5.blkLt k; omega⟩
        · by_cases e' : q = j
          · subst e'
            rw [HDE.out]
            simp [R1.out.2]
          · rw [Array.getElem?_setIfInBounds, if_neg (fun h => e' h.symm)]
            exact q6 q (by omega)
      clear b1 b2 b3
      go_wp2_with fail
      go_roundw
      case rel => exact R.out
      case measure => simp [lenS]; omega
end Go.Proofs.YtgmebioogkmfgaaGreatDoor
