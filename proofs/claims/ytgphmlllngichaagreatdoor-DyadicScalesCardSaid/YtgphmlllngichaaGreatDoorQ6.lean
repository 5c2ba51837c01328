/- The product of a whole number and 1. Condition: it stands in each fact. -/
import Derived.Test.YtgphmlllngichaaGreatDoorM20
import Derived.Defers
import Derived.Test.YtgphmlllngichaaGreatDoorM25
import Derived.BigRegion
import Derived.Deep.CutRange
namespace Go.Proofs.YtgphmlllngichaaGreatDoor
open Go.RowKit Go.Pt Go.Mem

theorem and_32 (x : Nat) : bits .and .u64 (x : Int) 4294967295 = ((x % 4294967296 : Nat) : Int) := by
  show IntKind.u64.wrap ((BitVec.ofInt 64 (x : Int) &&& BitVec.ofInt 64 4294967295).toNat : Int) = _
  rw [BitVec.toNat_and, BitVec.ofInt_natCast, BitVec.toNat_ofNat, show (BitVec.ofInt 64 4294967295).toNat = 2 ^ 32 - 1 by decide, Nat.and_two_pow_sub_one_eq_mod, IntKind.wrap_u64]
  have e : (x % 2 ^ 64) % 2 ^ 32 = x % 4294967296 := by omega
  rw [e]
  omega

set_option maxRecDepth 100000 in
theorem mul64_one (X : Nat) (hX : X < 18446744073709551616) (w : World) : Calls Tryz.prog 111 #[.int .u64 (X : Int), .int .u64 1] w fun e w' => e = .returned (.tuple #[.int .u64 0, .int .u64 (X : Int)]) ∧ w = w' := by
  have a1 := and_32 X
  have a3 : bits .and .u64 1 4294967295 = 1 := by decide
  have a6 : X / 4294967296 < 4294967296 := by omega
  have a7 : X % 4294967296 < 4294967296 := by omega
  have a2 : (X : Int) / 4294967296 = ((X / 4294967296 : Nat) : Int) := by omega
  have a5 := and_32 (X / 4294967296)
  rw [Nat.mod_eq_of_lt a6] at a5
  have i0 : (X : Int) < 18446744073709551616 := by omega
  generalize X % 4294967296 = l at *
  generalize X / 4294967296 = h at *
  have j0 : (l : Int) < 4294967296 := by omega
  have j1 : (h : Int) < 4294967296 := by omega
  have j2 : (l : Int) / 4294967296 = 0 := by omega
  have j3 : (h : Int) / 4294967296 = 0 := by omega
  go_enter Tryz.func111, Tryz.ntmps111
  go_wp2
  go_ret2
  exact ⟨rfl, rfl⟩

set_option maxRecDepth 100000 in
theorem mul_one (X : Nat) (hX : X < 18446744073709551616) (w : World) : Calls Tryz.prog 97 #[.int .u64 (X : Int), .int .u64 1] w fun e w' => e = .returned (.tuple #[.int .u64 0, .int .u64 (X : Int)]) ∧ w = w' := by
  have HM := Lib.hid (mul64_one X hX)
  clear hX
  go_enter Tryz.func97, Tryz.ntmps97
  go_wp2_with fail
  refine (HM.out _).mono ?_
  rintro e w1 ⟨rfl, rfl⟩
  go_wp2_with fail
  go_ret2
  exact ⟨rfl, rfl⟩

set_option maxRecDepth 100000 in
theorem mulWWW_one (X : Nat) (hX : X < 18446744073709551616) (w : World) : Calls Tryz.prog 99 #[.int .u64 (X : Int), .int .u64 1, .int .u64 0] w fun e w' => e = .returned (.tuple #[.int .u64 0, .int .u64 (X : Int)]) ∧ w = w' := by
  have HM := Lib.hid (mul_one X hX)
  have HA := Lib.hid (add_w X 0 (by omega))
  clear hX
  go_enter Tryz.func99, Tryz.ntmps99
  go_wp2_with fail
  refine (HM.out _).mono ?_
  rintro e w1 ⟨rfl, rfl⟩
  go_wp2_with fail
  refine (HA.out _).mono ?_
  rintro e w1 ⟨rfl, rfl⟩
  rw [Nat.add_zero]
  go_wp2_with fail
  go_ret2
  exact ⟨rfl, rfl⟩

def CpInv (zb m : Nat) (x : Nat → Nat) (zl : List Nat) (k : Nat) (w wr : World) : Prop :=
  ∃ zl' : List Nat, zl'.length = zl.length ∧ Row wr zb zl' ∧ (∀ j, j < k → zl'.getD j 0 = x j) ∧ (∀ j, m ≤ j → zl'.getD j 0 = zl.getD j 0) ∧ Fr w wr (One zb)

set_option maxRecDepth 100000 in
set_option maxHeartbeats 2000000 in
theorem mulVWW_one (zb xb m zc xc : Nat) (xl zl : List Nat) (hne : xb ≠ zb) (hm : m ≤ xl.length) (hmz : m ≤ zl.length) (hm2 : m < 1000000) (w : World) (hz : Row w zb zl) (hx : Row w xb xl) :
    Calls Tryz.prog 43 #[.slice (some ⟨zb, 0, none⟩) m zc, .slice (some ⟨xb, 0, none⟩) m xc, .int .u64 1, .int .u64 0] w fun e w' => e = .returned (.int .u64 0) ∧ CpInv zb m (fun j => xl.getD j 0) zl m w w' := by
  have HW := Lib.hid (And.intro hz hx)
  have HM := Lib.hid mulWWW_one
  clear hz hx
  go_enter Tryz.func43, Tryz.ntmps43
  go_wp2
  go_loopw [8, 19] (fun c i wr => c = .int .u64 0 ∧ ∃ k : Nat, k ≤ m ∧ i = .int .i64 (k : Int) ∧ CpInv zb m (fun j => xl.getD j 0) zl k w wr) (fun _ i _ => m - (intOf i).toNat)
  case atStart => exact ⟨rfl, 0, Nat.zero_le _, rfl, zl, rfl, HW.out.1, fun j hj => by omega, fun j _ => rfl, Fr.refl _ _⟩
  case round =>
    obtain ⟨rfl, k, hk, rfl, zl', z1, z2, z3, z4, z5⟩ := hrel
    have Z := Lib.hid (And.intro z1 (And.intro z2 (And.intro z3 (And.intro z4 z5))))
    clear z1 z2 z3 z4 z5
    by_cases c : k < m
    · have hr := (HW.out.2).keep Z.out.2.2.2.2 hne
      have c0 := hr.cell (i := k) (by omega)
      have z1 := Z.out.2.1.cell (i := k) (by rw [Z.out.1]; omega)
      have z2 := Z.out.2.1.free k
      have hlt : xl.getD k 0 < 18446744073709551616 := hr.2 k
      have i0 : (k : Int) < (m : Int) := by omega
      have HS : Hid (∀ W, Row W zb zl' → Fr wr W None → CpInv zb m (fun j => xl.getD j 0) zl (k + 1) w (W.setCell ⟨zb, k, none⟩ (.int .u64 ((xl.getD k 0 : Nat) : Int)))) := by
        refine Lib.hid fun W r f => ⟨zl'.set k (xl.getD k 0), by rw [List.length_set]; exact Z.out.1, r.set k _ hlt, fun j hj => ?_, fun j hj => ?_, (Z.out.2.2.2.2.trans f (fun _ h => h) (fun _ _ h => h.elim)).setCell (p := ⟨zb, k, none⟩) (Or.inl rfl) _⟩
        · by_cases e : j = k
          · subst e; exact getD_set_self _ _ _ (by rw [Z.out.1]; omega)
          · rw [getD_set_ne _ _ _ _ (by omega)]; exact Z.out.2.2.1 j (by omega)
        · rw [getD_set_ne _ _ _ _ (by omega)]; exact Z.out.2.2.2.1 j hj
      clear hr
      generalize xl.getD k 0 = X at c0 hlt HS
      generalize zl'.getD k 0 = zv at z1
      have HX := Lib.hid hlt
      clear hlt
      go_wp2_with fail
      refine (HM.out X HX.out _).mono ?_
      rintro e w1 ⟨rfl, rfl⟩
      go_wp2_with fail
      exact ⟨⟨rfl, k + 1, c, by push_cast; rfl, HS.out _ Z.out.2.1 (Fr.refl _ _)⟩, by simp [intOf]; omega⟩
    · obtain rfl : k = m := by omega
      go_wp2_with fail
      go_ret
      exact ⟨rfl, _, Z.out.1, Z.out.2.1, Z.out.2.2.1, Z.out.2.2.2.1, Z.out.2.2.2.2⟩
end Go.Proofs.YtgphmlllngichaaGreatDoor

namespace Go.Proofs.YtgphmlllngichaaGreatDoor
open Go.RowKit Go.Pt Go.Mem

@[go_sem] theorem tw_mulVWW (args : Array Value) (w : World) : (callFunc 104 args).run Tryz.prog w = .ok (.enter 43 args) w :=
  run_callFunc_twin (twin := "math/big.mulAddVWW_g") Tryz.func104 (by kernel_rfl) (by kernel_rfl) (by kernel_rfl) (by kernel_rfl) Tryz.func43 (by kernel_rfl) (by kernel_rfl) (by kernel_rfl) args w

set_option maxRecDepth 100000 in
set_option maxHeartbeats 4000000 in
theorem mulWW_one (x : Value) (N : Nat) (w : World) (hx : NatV w x N) (h0 : 0 < N) (hN : N < 2 ^ (64 * 30)) :
    Calls Tryz.prog 91 #[.slice none 0 0, x, .int .u64 1, .int .u64 0] w (NatPost None N w) := by
  have hlen := fun b len cap (e : x = .slice (some ⟨b, 0, none⟩) len cap) => NatV.len (w := w) (N := N) (b := b) (cap := cap) (by rw [← e]; exact hx) hN
  obtain ⟨b, m, cap, l, rfl, hr, h1, h2, h3, h4, h5, h6⟩ := hx.pos h0
  have hl := hlen b m cap rfl
  have hm := make_new none 0 0 (m + 1) (by omega) (by omega) w
  rw [show ((m + 1 : Nat) : Int) = (m : Int) + 1 by omega] at hm
  have HM := Lib.hid hm
  have H := Lib.hid (And.intro hr (And.intro h1 h4))
  have m0 : ((m : Int) == 0) = false := beq_eq_false_iff_ne.2 (by omega)
  clear hm hr h1 h4 hx h6 hlen h0 hN
  go_enter Tryz.func91, Tryz.ntmps91
  go_wp2_with fail
  refine (HM.out).mono ?_
  rintro e w1 ⟨zb, zc, zl, rfl, m1, m2, m3, m4, m5, m6⟩
  have hzb : w.heap.size ≤ zb := m5.elim (fun h => h.elim) id
  have hne : b ≠ zb := fun e => by have := H.out.1.lt; omega
  have hv := mulVWW_one zb b m zc cap l zl hne (by rw [H.out.2.1]; exact h2) (by omega) (by omega) w1 m1 (H.out.1.keep m6 (fun x => x))
  have M := Lib.hid (And.intro m1 (And.intro m2 (And.intro m5 m6)))
  have HV := Lib.hid hv
  have i1 : (m : Int) ≤ (zc : Int) := by omega
  have i2 : (m : Int) < (m : Int) + 1 := by omega
  clear m1 m2 m5 m6 hv
  go_wp2_with fail
  refine (HV.out).mono ?_
  rintro e w3 ⟨rfl, zl', g1, g2, g3, g4, g5⟩
  have z1 := g2.cell (i := m) (by rw [g1, M.out.2.1]; omega)
  have z2 := g2.free m
  generalize zl'.getD m 0 = zv at z1
  have R3 : Hid (Row (w3.setCell ⟨zb, m, none⟩ (.int .u64 0)) zb (zl'.set m 0) ∧ Fr w1 (w3.setCell ⟨zb, m, none⟩ (.int .u64 0)) (One zb)) := ⟨g2.set m 0 (by omega), g5.setCell (p := ⟨zb, m, none⟩) (Or.inl rfl) _⟩
  have hl3 : Hid ((zl'.set m 0).length = zc) := by rw [List.length_set, g1]; exact M.out.2.1
  have hval : Hid (val (fun j => (zl'.set m 0).getD j 0) (m + 1) = N) := by
    have e1 : (zl'.set m 0).getD m 0 = 0 := getD_set_self _ _ _ (by rw [g1, M.out.2.1]; omega)
    show val _ m + (zl'.set m 0).getD m 0 * _ = N
    rw [e1, Nat.zero_mul, Nat.add_zero, ← H.out.2.2]
    refine val_congr m fun j hj => ?_
    show (zl'.set m 0).getD j 0 = _
    rw [getD_set_ne _ _ _ _ (by omega)]
    exact g3 j hj
  clear g1 g2 g3 g4 g5
  go_wp2_with fail
  generalize w3.setCell ⟨zb, m, none⟩ (.int .u64 0) = w4 at R3 ⊢
  have hn := norm_row zb (m + 1) zc _ hl3.out m3 m4 _ R3.out.1
  refine hn.mono ?_
  rintro e w5 ⟨k, rfl, hk, rfl⟩
  have HK := Lib.hid hk
  clear hk hn
  go_wp2_with fail
  go_ret
  exact new_post M.out.2.2.1 M.out.2.2.2 R3.out.1 R3.out.2 hl3.out m3 m4 hval.out HK.out

theorem one_words {w : World} {v : Value} (h : NatV w v 1) : ∃ b cap l, v = .slice (some ⟨b, 0, none⟩) 1 cap ∧ Row w b l ∧ l.length = cap ∧ 1 ≤ cap ∧ cap ≤ 1000000 ∧ l.getD 0 0 = 1 := by
  have hlen := fun b len cap (e : v = .slice (some ⟨b, 0, none⟩) len cap) => NatV.len (w := w) (N := 1) (b := b) (cap := cap) (K := 1) (by rw [← e]; exact h) (by decide)
  obtain ⟨b, m, cap, l, rfl, hr, h1, h2, h3, h4, h5, h6⟩ := h.pos (by omega)
  have hl := hlen b m cap rfl
  obtain rfl : m = 1 := by omega
  refine ⟨b, cap, l, rfl, hr, h1, h2, h3, ?_⟩
  simpa [val] using h4

theorem nil_post (w : World) : NatPost None 0 w (.returned (.slice none 0 0)) w := ⟨_, rfl, Or.inl ⟨rfl, rfl⟩, (fun b h => by obtain ⟨_, _, h⟩ := h; cases h), Fr.refl _ _⟩

set_option maxRecDepth 100000 in
set_option maxHeartbeats 4000000 in
theorem mul_none (xb xc yn yc : Nat) (ya : Option Addr) (w : World) (hyn : yn = 0) :
    Calls Tryz.prog 75 #[.slice none 0 0, .pointer none, .slice (some ⟨xb, 0, none⟩) 1 xc, .slice ya yn yc] w (NatPost None 0 w) := by
  subst hyn
  have P := Lib.hid (nil_post w)
  go_enter_defers Tryz.func75, Tryz.ntmps75
  go_wp2_with fail
  exact ⟨.slice none 0 0, by simp [results, Tryz.f75], P.out⟩

set_option maxRecDepth 100000 in
set_option maxHeartbeats 4000000 in
theorem mul_by_one (x y : Value) (N : Nat) (w : World) (hx : NatV w x N) (hy : NatV w y 1) (hN : N < 2 ^ (64 * 30)) :
    Calls Tryz.prog 75 #[.slice none 0 0, .pointer none, x, y] w (NatPost None N w) := by
  obtain ⟨yb, yc, yl, rfl, y1, y2, y3, y4, y5⟩ := one_words hy
  have c0 := y1.cell (i := 0) (by omega)
  rw [y5] at c0
  rcases Nat.eq_zero_or_pos N with rfl | h0
  · obtain ⟨xa, xc, rfl⟩ : ∃ a c, x = .slice a 0 c := by
      rcases hx.zero with rfl | ⟨b, c, l, rfl, _⟩
      · exact ⟨_, _, rfl⟩
      · exact ⟨_, _, rfl⟩
    have HM := Lib.hid (mul_none yb yc 0 xc xa w rfl)
    clear hx hy
    go_enter_defers Tryz.func75, Tryz.ntmps75
    go_wp2_with fail
    refine (HM.out).mono ?_
    rintro e w1 ⟨v, rfl, v1, v2, v3⟩
    have P := Lib.hid (show NatPost None 0 w (.returned v) w1 from ⟨v, rfl, v1, v2, v3⟩)
    clear v1 v2 v3
    go_wp2_with fail
    exact ⟨v, by simp [results, Tryz.f75], P.out⟩
  · have HW := Lib.hid (mulWW_one x N w hx h0 hN)
    obtain ⟨xb, xn, xc, l, rfl, hr, h1, h2, h3, h4, h5, h6⟩ := hx.pos h0
    clear hx hy hr h1 h4 h6
    go_enter_defers Tryz.func75, Tryz.ntmps75
    go_wp2_with fail
    refine (HW.out).mono ?_
    rintro e w1 ⟨v, rfl, v1, v2, v3⟩
    have P := Lib.hid (show NatPost None N w (.returned v) w1 from ⟨v, rfl, v1, v2, v3⟩)
    clear v1 v2 v3
    go_wp2_with fail
    exact ⟨v, by simp [results, Tryz.f75], P.out⟩
end Go.Proofs.YtgphmlllngichaaGreatDoor

namespace Go.Proofs.YtgphmlllngichaaGreatDoor
open Go.RowKit Go.Pt Go.Mem

theorem run_eql_int (w : World) {a b : Nat} (va vb : Value) (na nb : Bool) (hne : a ≠ b) (ha : Shell w a va na) (hb : Shell w b vb nb) :
    (binOp .eql 39 (.pointer (some ⟨a, 0, none⟩)) (.pointer (some ⟨b, 0, none⟩))).run Tryz.prog w = .ok (.bool false) w := by
  have hs : (Tryz.prog.info? 61).map (·.size) = some 2 := by kernel_rfl
  cases hq : Tryz.prog.info? 61 with
  | none => simp [hq] at hs
  | some i =>
    have hi : i.size = 2 := by simpa [hq] using hs
    have h : ∀ d : Nat, (Op.equalIn (d + 1) 39 (.pointer (some ⟨a, 0, none⟩)) (.pointer (some ⟨b, 0, none⟩))).run Tryz.prog w = .ok false w := fun d => by
      simp [Op.equalIn, run_underlying Tryz.underlying39, sizeOf, typeInfo, hq, hi, run_sameAddr_other w (a := ⟨a, 0, none⟩) (b := ⟨b, 0, none⟩) (by intro e; exact hne (congrArg Addr.block e)) ha hb]
    simp only [binOp]
    simp [Op.equal, Op.maxDepth, h 9999]

theorem _root_.Go.Mem.IntPost.drew {z N : Nat} {S : Nat → Prop} {neg : Bool} {w w' : World} {e : Ending} (h : IntPost z S neg N w e w') : IntPost z S neg N w e w'.drew := by
  obtain ⟨h1, v, h2, h3, h4⟩ := h
  exact ⟨h1, v, h2.drewN 1, h3, h4.drew⟩

theorem _root_.Go.Mem.IntPost.drewSet {z N : Nat} {S : Nat → Prop} {neg : Bool} {w w' : World} {e : Ending} {p : Addr} {u : Value} (h : IntPost z S neg N w e (w'.setCell p u)) : IntPost z S neg N w e (w'.drew.setCell p u) := h.drew

theorem vn_of {w : World} {a : Option Addr} {n c N : Nat} (h : NatV w (.slice a n c) N) : (N = 0 ∧ n = 0) ∨ (0 < N ∧ 0 < n) := by
  rcases Nat.eq_zero_or_pos N with rfl | h0
  · refine Or.inl ⟨rfl, ?_⟩
    rcases h.zero with e | ⟨b, c', l, e, _⟩
    · cases e; rfl
    · cases e; rfl
  · exact Or.inr ⟨h0, len_pos h h0⟩

/-- The product's words are laid; its sign is not. -/
def MulAt (z x y : Nat) (nx : Bool) (N : Nat) (w w2 : World) : Prop :=
  ∃ va vn vc, ((N = 0 ∧ vn = 0) ∨ (0 < N ∧ 0 < vn)) ∧ w2.cell? ⟨z, 1, none⟩ = some (.slice va vn vc) ∧ w2.cell? ⟨z, 0, none⟩ = some (.bool false) ∧ w2.frozen? ⟨z, 0, none⟩ = false ∧
    w2.cell? ⟨x, 0, none⟩ = some (.bool nx) ∧ w2.cell? ⟨y, 0, none⟩ = some (.bool false) ∧ IntPost z (Blk (.slice none 0 0)) nx N w (.returned (.pointer (some ⟨z, 0, none⟩))) (w2.setCell ⟨z, 0, none⟩ (.bool nx))

set_option maxRecDepth 100000 in
set_option maxHeartbeats 8000000 in
theorem intMul0 (z x y : Nat) (vx vy : Value) (nx : Bool) (N : Nat) (w : World) (hne : x ≠ y) (h0 : N = 0 → nx = false) (hN : N < 2 ^ (64 * 30))
    (hz : IntV w z (.slice none 0 0) false 0) (hx : IntV w x vx nx N) (hy : IntV w y vy false 1) :
    Calls Tryz.prog 56 #[.pointer (some ⟨z, 0, none⟩), .pointer none, .pointer (some ⟨x, 0, none⟩), .pointer (some ⟨y, 0, none⟩)] w fun e w' => e = .returned (.tuple #[]) ∧ IntPost z (Blk (.slice none 0 0)) nx N w (.returned (.pointer (some ⟨z, 0, none⟩))) w' := by
  have z1 := hz.1.c1
  have x1 := hx.1.c1
  have x0 := hx.1.c0
  have y1 := hy.1.c1
  have y0 := hy.1.c0
  have he := run_eql_int w vx vy nx false hne hx.1 hy.1
  have HL := Lib.hid (mul_by_one vx vy N w.drew (hx.2.drewN 1) (hy.2.drewN 1) hN)
  have HZ := Lib.hid hz
  have HX := Lib.hid hx
  have HY := Lib.hid hy
  have HH := Lib.hid (And.intro h0 hN)
  clear hz hx hy hN h0
  go_enter Tryz.func56, Tryz.ntmps56
  go_wp2
  go_upto_region 3 with fail
  go_cut [] from 27 to 43 (fun wx => MulAt z x y nx N w wx)
  case first =>
    go_region_with (go_at_call 75; refine (HL.out).mono ?_; rintro e w1 ⟨v, rfl, v1, v2, v3⟩; obtain ⟨va, vn, vc, rfl⟩ := v1.slice; have sh := ((HZ.out).drewN 1).1.keep v3 (fun x => x); have k1 := sh.c1; have k2 := sh.free 1; have V := Lib.hid (And.intro v1 (And.intro v2 (And.intro v3.undrew sh))); clear v1 v2 v3 sh)
    all_goals
      have hvn : (N = 0 ∧ vn = 0) ∨ (0 < N ∧ 0 < vn) := vn_of V.out.1
      have R : Hid (MulAt z x y nx N w (w1.setCell ⟨z, 1, none⟩ (.slice va vn vc))) :=
        Lib.hid ⟨va, vn, vc, hvn, (V.out.2.2.2.setAbs (.slice va vn vc)).c1, (V.out.2.2.2.setAbs (.slice va vn vc)).c0, (V.out.2.2.2.setAbs (.slice va vn vc)).free 0,
          sign_after (v := .slice va vn vc) HZ.out HX.out (V.out.2.2.1.mono (fun x _ h => h.elim)), sign_after (v := .slice va vn vc) HZ.out HY.out (V.out.2.2.1.mono (fun x _ h => h.elim)),
          sum_post HZ.out (Fr.refl w None) V.out.1 V.out.2.1 V.out.2.2.1⟩
      generalize w1.setCell ⟨z, 1, none⟩ (.slice va vn vc) = w2 at R ⊢
      go_wp2_with fail
      go_meet
      exact R.out
  case rest =>
    obtain ⟨va, vn, vc, hvn, q1, q2, q3, q4, q5, P0⟩ := hcut
    have P := Lib.hid P0
    clear P0 z1 x1 x0 y1 y0 he
    rcases hvn with ⟨rfl, rfl⟩ | ⟨hp, hv⟩
    · obtain rfl := HH.out.1 rfl
      go_wp2
      go_region
      exact ⟨rfl, .tuple #[], by simp [results, Tryz.f56], rfl, P.out.drew⟩
    · have i1 : (0 : Int) < (vn : Int) := by omega
      go_wp2
      go_region
      exact ⟨rfl, .tuple #[], by simp [results, Tryz.f56], rfl, P.out.drew⟩

set_option maxRecDepth 100000 in
theorem intMul (z x y : Nat) (vx vy : Value) (nx : Bool) (N : Nat) (w : World) (hne : x ≠ y) (h0 : N = 0 → nx = false) (hN : N < 2 ^ (64 * 30))
    (hz : IntV w z (.slice none 0 0) false 0) (hx : IntV w x vx nx N) (hy : IntV w y vy false 1) :
    Calls Tryz.prog 34 #[.pointer (some ⟨z, 0, none⟩), .pointer (some ⟨x, 0, none⟩), .pointer (some ⟨y, 0, none⟩)] w (IntPost z (Blk (.slice none 0 0)) nx N w) := by
  have HM := Lib.hid (intMul0 z x y vx vy nx N w hne h0 hN hz hx hy)
  clear hz hx hy hN h0
  go_enter Tryz.func34, Tryz.ntmps34
  go_wp2_with fail
  refine (HM.out).mono ?_
  rintro e w1 ⟨rfl, h⟩
  have P := Lib.hid h
  clear h
  go_wp2_with fail
  go_ret
  exact P.out
end Go.Proofs.YtgphmlllngichaaGreatDoor
