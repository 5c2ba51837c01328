/- The walk of DyadicMakes. Condition: it stands in each fact. -/
import Derived.Test.YtgmebioogkmfgaaDoorZT15
import Derived.Test.YtgmebioogkmfgaaDoorZM46
import Derived.ProofKit
import Derived.Deep.Slices
import Derived.Test.YtgmebioogkmfgaaDoorZV1
namespace Go.Proofs.YtgmebioogkmfgaaDoor
open Go.RowKit Go.Pt Go.Mem

set_option maxRecDepth 100000 in
set_option maxHeartbeats 8000000 in
theorem makes_ok (neg : Bool) (v : Value) (n : Nat) (x : Nat → Int) (e b : Int) (w : World) (hb : I64 b) (h : IntsV w v n x) (hT : Tab w) :
    Calls Tryd.prog 3 #[.bool neg, v, .int .i64 e, .int .i64 b] w fun en w' => en = .returned (.bool true) ∧ Fr w w' None := by
  have f0 := (Fr.refl w None).alloc (.cells #[.slice none 0 0, .slice none 0 0] 26)
  have k0 := At.alloc w #[.slice none 0 0, .slice none 0 0] 26
  have HAL := Lib.hid (alive_ok _ (hT.keep f0))
  have F0 := Lib.hid f0
  have K0 := Lib.hid k0
  have H := Lib.hid h
  have HT := Lib.hid hT
  have HB := Lib.hid hb
  obtain ⟨va, vc, rfl, hvc, _⟩ := h
  clear f0 k0 hT hb
  by_cases c : n ≤ 2100
  · have c' : ¬ ((2100 : Int) < (n : Int)) := by omega
    have C := Lib.hid c
    clear c
    go_enter Tryd.func3, Tryd.ntmps3
    go_wp2_with fail
    generalize w.alloc (.cells #[.slice none 0 0, .slice none 0 0] 26) = w0 at HAL F0 K0 ⊢
    refine (HAL.out).mono ?_
    rintro en w1 ⟨rfl, f1⟩
    have F1 := Lib.hid (F0.out.trans f1 (fun _ h => h) (fun _ _ h => h))
    have HM := Lib.hid (made_ok w.heap.size neg (.slice va n vc) n x e b w w1 C.out HB.out H.out F1.out (Nat.le_refl _) (K0.out.keep f1 (fun x => x)) HT.out)
    clear f1
    go_wp2_with fail
    refine (HM.out).mono ?_
    rintro en w2 ⟨rfl, ⟨m, top, hm, hk⟩, f2⟩
    have HA := Lib.hid (apart_ok w.heap.size m top w w2 (by omega) hk f2)
    clear hk f2
    go_wp2_with fail
    refine (HA.out).mono ?_
    rintro en w3 ⟨rfl, f3⟩
    have F3 := Lib.hid f3
    clear f3
    go_wp2_with fail
    go_ret
    exact ⟨rfl, F3.out⟩
  · have c' : (2100 : Int) < (n : Int) := by omega
    go_enter Tryd.func3, Tryd.ntmps3
    go_wp2_with fail
    generalize w.alloc (.cells #[.slice none 0 0, .slice none 0 0] 26) = w0 at HAL F0 K0 ⊢
    refine (HAL.out).mono ?_
    rintro en w1 ⟨rfl, f1⟩
    have F1 := Lib.hid (F0.out.trans f1 (fun _ h => h) (fun _ _ h => h))
    have HA := Lib.hid (apart_ok w.heap.size 0 0 w w1 (by omega) (KeepV.new (Nat.le_refl _) (K0.out.keep f1 (fun x => x)) 0) F1.out)
    clear f1
    go_wp2_with fail
    refine (HA.out).mono ?_
    rintro en w3 ⟨rfl, f3⟩
    have F3 := Lib.hid f3
    clear f3
    go_wp2_with fail
    go_ret
    exact ⟨rfl, F3.out⟩
end Go.Proofs.YtgmebioogkmfgaaDoor

namespace Go.Proofs.YtgmebioogkmfgaaDoor
open Go.ChangeShapes Go.WideShapes Go.ChangeAt Go.RowKit Go.Pt Go.Mem Go.Deep

theorem cellsOfI : Tryd.prog.cellsOf 3 = 1 := by kernel_rfl
theorem addrAdd (b off j : Nat) : (⟨b, off, none⟩ : Addr).add j = ⟨b, off + j, none⟩ := by
  unfold Addr.add; split <;> simp_all

/-- The int that lies there. -/
def intOn (W : World) (a : Option Addr) (j : Nat) : Int :=
  match a with
  | some p => match W.cell? (p.add j) with
    | some (.int .i64 x) => x
    | _ => 0
  | none => 0

section
variable {H : Type} {enc : TypeId × Value → H}

set_option maxRecDepth 100000 in
theorem intsV_of {W : World} {n len cap : Nat} {a : Option Addr} {x : DataW H × List MemPlace} (h : DataW.trod enc Tryd.prog W 0 (fun _ => true) true n 22 [.slice a len cap] = some x) :
    IntsV W (.slice a len cap) len (intOn W a) := by
  rcases open_slice Tryd.underlying22 h with ⟨hcs, _⟩ | ⟨p, l, c, m, n', D, Pl, hcs, _, hl, _, hmm, _, hi⟩
  · simp at hcs
    obtain ⟨_, rfl, rfl⟩ := hcs
    exact ⟨_, _, rfl, Nat.le_refl _, fun j hj => by omega⟩
  · simp at hcs
    obtain ⟨rfl, rfl, rfl⟩ := hcs
    refine ⟨_, _, rfl, hl, fun j hj => ?_⟩
    have hm : m = cap := by simpa using hmm
    obtain ⟨cs', hc, ht⟩ := hi j (by omega)
    rw [cellsOfI, Nat.mul_one] at hc
    obtain ⟨_, hcl, hat⟩ := World.cells?_some hc
    obtain ⟨k, e0, _, w0⟩ := DataW.trod_int Tryd.underlying3 ht
    subst e0
    have q0 : W.cell? ((p.add j).add 0) = some (.int .i64 k) := hat 0 (by omega)
    obtain ⟨cs1, hc1, ht1⟩ := hi 0 (by omega)
    rw [cellsOfI] at hc1
    obtain ⟨_, hcl1, hat1⟩ := World.cells?_some hc1
    obtain ⟨k1, e1, _, _⟩ := DataW.trod_int Tryd.underlying3 ht1
    subst e1
    have q1 : W.cell? ((p.add (0 * 1)).add 0) = some (.int .i64 k1) := hat1 0 (by omega)
    obtain ⟨b, off, spot⟩ := p
    have hspot : spot = none := by simpa [Addr.add] using World.cell?_spot q1
    subst hspot
    rw [addrAdd, addrAdd, Nat.add_zero] at q0
    refine ⟨b, off, rfl, World.block_lt_of_cell? W _ q0, ?_⟩
    unfold intOn
    simp only [addrAdd, q0]

/-- A slice's value. -/
theorem slice_val {W : World} {v : Value} {d : DataW H} {ps : List MemPlace} (h : DataW.Trod enc Tryd.prog W 0 (fun _ => true) true 22 v d ps) (hone : v.cells.toList = [v]) :
    ∃ a n cap xs, v = .slice a n cap ∧ IntsV W (.slice a n cap) n xs := by
  obtain ⟨fuel, hf⟩ := h
  rw [hone] at hf
  have e1 : ∃ a n cap, v = .slice a n cap := by
    rcases open_slice Tryd.underlying22 hf with ⟨hc, _⟩ | ⟨p, l, c, _, _, _, _, hc, _⟩
    · simp at hc; exact ⟨_, _, _, hc⟩
    · simp at hc; exact ⟨_, _, _, hc⟩
  obtain ⟨a, n, cap, rfl⟩ := e1
  exact ⟨a, n, cap, _, rfl, intsV_of hf⟩
end
end Go.Proofs.YtgmebioogkmfgaaDoor
