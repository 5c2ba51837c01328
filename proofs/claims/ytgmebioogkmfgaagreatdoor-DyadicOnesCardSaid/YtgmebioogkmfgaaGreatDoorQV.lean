/- Slices of ints that were handed in. Condition: it stands in each fact. -/
import Derived.Test.YtgmebioogkmfgaaGreatDoorQ8
import Derived.ProofKit
import Derived.Deep.Slices
namespace Go.Proofs.YtgmebioogkmfgaaGreatDoor
open Go.RowKit Go.Pt Go.Mem

/-- A slice of ints, at any place. -/
def IntsV (w : World) (v : Value) (n : Nat) (x : Nat → Int) : Prop :=
  ∃ a cap, v = .slice a n cap ∧ n ≤ cap ∧ ∀ j, j < n → ∃ b off, a = some ⟨b, off, none⟩ ∧ b < w.heap.size ∧ w.cell? ⟨b, off + j, none⟩ = some (.int .i64 (x j))
theorem IntsV.keep {w w' : World} {v : Value} {n : Nat} {x : Nat → Int} (h : IntsV w v n x) (f : Fr w w' None) : IntsV w' v n x := by
  obtain ⟨a, cap, rfl, hc, h⟩ := h
  refine ⟨a, cap, rfl, hc, fun j hj => ?_⟩
  obtain ⟨b, off, rfl, h1, h2⟩ := h j hj
  exact ⟨b, off, rfl, Nat.lt_of_lt_of_le h1 f.size, by rw [f.cell (p := ⟨b, off + j, none⟩) h1 (fun x => x)]; exact h2⟩

/-- The list is a number's. -/
def ValidI (n : Nat) (x : Nat → Int) : Prop := n ≤ 2000 ∧ (∀ j, j < n → 0 ≤ x j ∧ x j < 1073741824) ∧ (0 < n → x (n - 1) ≠ 0)
instance (n : Nat) (x : Nat → Int) : Decidable (ValidI n x) := by unfold ValidI; exact inferInstance

set_option maxRecDepth 100000 in
set_option maxHeartbeats 4000000 in
theorem valid_nat (v : Value) (n : Nat) (x : Nat → Int) (w : World) (hn : n ≤ 100000) (h : IntsV w v n x) :
    Calls Tryz.prog 28 #[v] w fun e w' => e = .returned (.bool (decide (ValidI n x))) ∧ Fr w w' None := by
  obtain ⟨a, cap, rfl, hcap, hin⟩ := h
  have HI := Lib.hid hin
  clear hin
  go_enter Tryz.func28, Tryz.ntmps28
  go_wp2
  go_loop [7] (fun i => ∃ k : Nat, k ≤ n ∧ i = .int .i64 (k : Int) ∧ ∀ j, j < k → 0 ≤ x j ∧ x j < 1073741824) (fun i => n - (intOf i).toNat)
  case atStart => exact ⟨0, Nat.zero_le _, rfl, fun j hj => by omega⟩
  case round =>
    obtain ⟨k, hk, rfl, hx⟩ := hrel
    have HX := Lib.hid hx
    clear hx
    by_cases c : k < n
    · obtain ⟨b, off, rfl, hb, hc⟩ := HI.out k c
      have i0 : (k : Int) < (n : Int) := by omega
      generalize hd : x k = d at hc
      have HD := Lib.hid hd
      clear hd
      by_cases c1 : d < 0
      · have F : Hid (decide (ValidI n x) = false) := Lib.hid (decide_eq_false (fun ⟨_, h2, _⟩ => by have := h2 k c; rw [HD.out] at this; omega))
        go_wp2
        go_ret
        exact ⟨by rw [F.out]; rfl, Fr.refl _ _⟩
      · by_cases c2 : d < 1073741824
        · go_wp2
          go_round
          case rel =>
            refine ⟨k + 1, c, by push_cast; rfl, fun j hj => ?_⟩
            by_cases e : j = k
            · subst e; rw [HD.out]; omega
            · exact HX.out j (by omega)
          case measure => simp [intOf]; omega
        · have F : Hid (decide (ValidI n x) = false) := Lib.hid (decide_eq_false (fun ⟨_, h2, _⟩ => by have := h2 k c; rw [HD.out] at this; omega))
          have c3 : 1073741824 ≤ d := by omega
          go_wp2
          go_ret
          exact ⟨by rw [F.out]; rfl, Fr.refl _ _⟩
    · obtain rfl : k = n := by omega
      have k1 : (k : Int) ≤ 100000 := by omega
      by_cases c1 : k ≤ 2000
      · have c1' : (k : Int) ≤ 2000 := by omega
        rcases Nat.eq_zero_or_pos k with rfl | hp
        · have F : Hid (decide (ValidI 0 x) = true) := Lib.hid (decide_eq_true ⟨by omega, HX.out, fun h => by omega⟩)
          go_wp2
          go_ret
          exact ⟨by rw [F.out]; rfl, Fr.refl _ _⟩
        · obtain ⟨q, rfl⟩ : ∃ q, k = q + 1 := ⟨k - 1, by omega⟩
          obtain ⟨b, off, rfl, hb, hc⟩ := HI.out q (by omega)
          have p3 : (q : Int) + 1 ≤ 2000 := by omega
          clear k1 c1' c
          have p2 : ((q : Int) + 1 == 0) = false := beq_eq_false_iff_ne.2 (by omega)
          have F : Hid (decide (ValidI (q + 1) x) = (x q != 0)) := by
            by_cases z : x q = 0
            · rw [z]; exact Lib.hid (decide_eq_false (fun ⟨_, _, h3⟩ => h3 hp z))
            · rw [bne_iff_ne.2 z]; exact Lib.hid (decide_eq_true ⟨c1, HX.out, fun _ => z⟩)
          generalize hd : x q = d at hc F
          clear hd
          by_cases z : d = 0
          · subst z
            go_wp2
            go_ret
            exact ⟨by rw [F.out]; rfl, Fr.refl _ _⟩
          · have z' : (d != 0) = true := bne_iff_ne.2 z
            rw [z'] at F
            go_wp2
            go_ret
            exact ⟨by rw [F.out]; rfl, Fr.refl _ _⟩
      · have c1' : ¬ ((k : Int) ≤ 2000) := by omega
        have F : Hid (decide (ValidI k x) = false) := Lib.hid (decide_eq_false (fun ⟨h1, _⟩ => c1 h1))
        go_wp2
        go_ret
        exact ⟨by rw [F.out]; rfl, Fr.refl _ _⟩

set_option maxRecDepth 100000 in
set_option maxHeartbeats 4000000 in
theorem valid_ref (v : Value) (n : Nat) (x : Nat → Int) (w : World) (hn : n ≤ 100000) (h : IntsV w v n x) :
    Calls Tryz.prog 36 #[v] w fun e w' => e = .returned (.bool (decide (ValidI n x))) ∧ Fr w w' None := by
  obtain ⟨a, cap, rfl, hcap, hin⟩ := h
  have HI := Lib.hid hin
  clear hin
  by_cases c1 : n ≤ 2000
  · have c1' : (n : Int) ≤ 2000 := by omega
    rcases Nat.eq_zero_or_pos n with rfl | hp
    · have F : Hid (decide (ValidI 0 x) = true) := Lib.hid (decide_eq_true ⟨by omega, fun j hj => by omega, fun h => by omega⟩)
      go_enter Tryz.func36, Tryz.ntmps36
      go_wp2
      go_loop [3] (fun i => i = .int .i64 0) (fun i => 0)
      case atStart => rfl
      case round =>
        obtain rfl := hrel
        go_wp2
        go_ret
        exact ⟨by rw [F.out]; rfl, Fr.refl _ _⟩
    · obtain ⟨q, hq⟩ : ∃ q, n = q + 1 := ⟨n - 1, by omega⟩
      obtain ⟨b, off, rfl, hb, hc⟩ := HI.out q (by omega)
      by_cases z : x q = 0
      · have F : Hid (decide (ValidI n x) = false) := Lib.hid (decide_eq_false (fun ⟨_, _, h3⟩ => h3 hp (by rw [hq, Nat.add_sub_cancel]; exact z)))
        rw [z] at hc
        subst hq
        have p3 : (q : Int) + 1 ≤ 2000 := by omega
        clear c1'
        go_enter Tryz.func36, Tryz.ntmps36
        go_wp2
        go_ret
        exact ⟨by rw [F.out]; rfl, Fr.refl _ _⟩
      · have Z := Lib.hid z
        generalize hd : x q = d at hc z
        have z' : (d == 0) = false := beq_eq_false_iff_ne.2 z
        have i1 : (0 : Int) < (n : Int) := by omega
        have i2 : (q : Int) < (n : Int) := by omega
        have i3 : (n : Int) - 1 = (q : Int) := by omega
        have HQ := Lib.hid hq
        have HC := Lib.hid hc
        clear hd hq
        go_enter Tryz.func36, Tryz.ntmps36
        go_wp2
        clear hc z' i2 i3
        go_loop [3] (fun i => ∃ k : Nat, k ≤ n ∧ i = .int .i64 (k : Int) ∧ ∀ j, j < k → 0 ≤ x j ∧ x j < 1073741824) (fun i => n - (intOf i).toNat)
        case atStart => exact ⟨0, Nat.zero_le _, rfl, fun j hj => by omega⟩
        case round =>
          obtain ⟨k, hk, rfl, hx⟩ := hrel
          have HX := Lib.hid hx
          clear hx
          by_cases c : k < n
          · obtain ⟨b', off', e', hb', hc⟩ := HI.out k c
            cases e'
            have i0 : (k : Int) < (n : Int) := by omega
            generalize hd : x k = d at hc
            have HD := Lib.hid hd
            clear hd
            by_cases c1 : d < 0
            · have F : Hid (decide (ValidI n x) = false) := Lib.hid (decide_eq_false (fun ⟨_, h2, _⟩ => by have := h2 k c; rw [HD.out] at this; omega))
              go_wp2
              go_ret
              exact ⟨by rw [F.out]; rfl, Fr.refl _ _⟩
            · by_cases c2 : d < 1073741824
              · go_wp2
                go_round
                case rel =>
                  refine ⟨k + 1, c, by push_cast; rfl, fun j hj => ?_⟩
                  by_cases e : j = k
                  · subst e; rw [HD.out]; omega
                  · exact HX.out j (by omega)
                case measure => simp [intOf]; omega
              · have F : Hid (decide (ValidI n x) = false) := Lib.hid (decide_eq_false (fun ⟨_, h2, _⟩ => by have := h2 k c; rw [HD.out] at this; omega))
                have c3 : 1073741824 ≤ d := by omega
                go_wp2
                go_ret
                exact ⟨by rw [F.out]; rfl, Fr.refl _ _⟩
          · obtain rfl : k = n := by omega
            have F : Hid (decide (ValidI k x) = true) := Lib.hid (decide_eq_true ⟨by omega, HX.out, fun _ => by rw [HQ.out, Nat.add_sub_cancel]; exact Z.out⟩)
            go_wp2
            go_ret
            exact ⟨by rw [F.out]; rfl, Fr.refl _ _⟩
  · have c1' : ¬ ((n : Int) ≤ 2000) := by omega
    have c2' : (2000 : Int) < (n : Int) := by omega
    have F : Hid (decide (ValidI n x) = false) := Lib.hid (decide_eq_false (fun ⟨h1, _⟩ => c1 h1))
    go_enter Tryz.func36, Tryz.ntmps36
    go_wp2
    go_ret
    exact ⟨by rw [F.out]; rfl, Fr.refl _ _⟩
end Go.Proofs.YtgmebioogkmfgaaGreatDoor

namespace Go.Proofs.YtgmebioogkmfgaaGreatDoor
open Go.ChangeShapes Go.WideShapes Go.ChangeAt Go.RowKit Go.Pt Go.Mem Go.Deep

theorem cellsOfI : Tryz.prog.cellsOf 3 = 1 := by kernel_rfl
theorem addrAdd (b off j : Nat) : (⟨b, off, none⟩ : Addr).add j = ⟨b, off + j, none⟩ := by
  unfold Addr.add; split <;> simp_all

/-- The int that lies there. -/
def intOn (W : World) (a : Option Addr) (j : Nat) : Int :=
  match a with
  | some p => match W.cell? (p.add j) with
    | some (.int .i64 x) => x
    | _ => 0
  | none => 0

section
variable {H : Type} {enc : TypeId × Value → H}

set_option maxRecDepth 100000 in
theorem intsV_of {W : World} {n len cap : Nat} {a : Option Addr} {x : DataW H × List MemPlace} (h : DataW.trod enc Tryz.prog W 0 (fun _ => true) true n 22 [.slice a len cap] = some x) :
    IntsV W (.slice a len cap) len (intOn W a) := by
  rcases open_slice Tryz.underlying22 h with ⟨hcs, _⟩ | ⟨p, l, c, m, n', D, Pl, hcs, _, hl, _, hmm, _, hi⟩
  · simp at hcs
    obtain ⟨_, rfl, rfl⟩ := hcs
    exact ⟨_, _, rfl, Nat.le_refl _, fun j hj => by omega⟩
  · simp at hcs
    obtain ⟨rfl, rfl, rfl⟩ := hcs
    refine ⟨_, _, rfl, hl, fun j hj => ?_⟩
    have hm : m = cap := by simpa using hmm
    obtain ⟨cs', hc, ht⟩ := hi j (by omega)
    rw [cellsOfI, Nat.mul_one] at hc
    obtain ⟨_, hcl, hat⟩ := World.cells?_some hc
    obtain ⟨k, e0, _, w0⟩ := DataW.trod_int Tryz.underlying3 ht
    subst e0
    have q0 : W.cell? ((p.add j).add 0) = some (.int .i64 k) := hat 0 (by omega)
    obtain ⟨cs1, hc1, ht1⟩ := hi 0 (by omega)
    rw [cellsOfI] at hc1
    obtain ⟨_, hcl1, hat1⟩ := World.cells?_some hc1
    obtain ⟨k1, e1, _, _⟩ := DataW.trod_int Tryz.underlying3 ht1
    subst e1
    have q1 : W.cell? ((p.add (0 * 1)).add 0) = some (.int .i64 k1) := hat1 0 (by omega)
    obtain ⟨b, off, spot⟩ := p
    have hspot : spot = none := by simpa [Addr.add] using World.cell?_spot q1
    subst hspot
    rw [addrAdd, addrAdd, Nat.add_zero] at q0
    refine ⟨b, off, rfl, World.block_lt_of_cell? W _ q0, ?_⟩
    unfold intOn
    simp only [addrAdd, q0]

/-- A slice's value. -/
theorem slice_val {W : World} {v : Value} {d : DataW H} {ps : List MemPlace} (h : DataW.Trod enc Tryz.prog W 0 (fun _ => true) true 22 v d ps) (hone : v.cells.toList = [v]) :
    ∃ a n cap xs, v = .slice a n cap ∧ IntsV W (.slice a n cap) n xs := by
  obtain ⟨fuel, hf⟩ := h
  rw [hone] at hf
  have e1 : ∃ a n cap, v = .slice a n cap := by
    rcases open_slice Tryz.underlying22 hf with ⟨hc, _⟩ | ⟨p, l, c, _, _, _, _, hc, _⟩
    · simp at hc; exact ⟨_, _, _, hc⟩
    · simp at hc; exact ⟨_, _, _, hc⟩
  obtain ⟨a, n, cap, rfl⟩ := e1
  exact ⟨a, n, cap, _, rfl, intsV_of hf⟩
end
end Go.Proofs.YtgmebioogkmfgaaGreatDoor
