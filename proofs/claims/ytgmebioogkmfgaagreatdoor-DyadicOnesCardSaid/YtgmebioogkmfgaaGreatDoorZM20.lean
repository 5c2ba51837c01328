/- Whole numbers with a sign in memory. Condition: it stands in each fact. -/
import Derived.Test.YtgmebioogkmfgaaGreatDoorZM19
import Derived.Deep.RegionWith
namespace Go.Mem
open Go.RowKit

/-- Block p is a whole number's struct: its sign, and the slice v of its words. -/
def Shell (w : World) (p : Nat) (v : Value) (neg : Bool) : Prop := w.heap[p]? = some (.cells #[.bool neg, v] 81)

theorem Shell.lt {w : World} {p : Nat} {v : Value} {neg : Bool} (h : Shell w p v neg) : p < w.heap.size := (Array.getElem?_eq_some_iff.1 h).1
theorem Shell.c0 {w : World} {p : Nat} {v : Value} {neg : Bool} (h : Shell w p v neg) : w.cell? ⟨p, 0, none⟩ = some (.bool neg) := by
  unfold World.cell?
  rw [show w.heap[(⟨p, 0, none⟩ : Addr).block]? = w.heap[p]? from rfl, h]; rfl
theorem Shell.c1 {w : World} {p : Nat} {v : Value} {neg : Bool} (h : Shell w p v neg) : w.cell? ⟨p, 1, none⟩ = some v := by
  unfold World.cell?
  rw [show w.heap[(⟨p, 1, none⟩ : Addr).block]? = w.heap[p]? from rfl, h]; rfl
theorem Shell.free {w : World} {p : Nat} {v : Value} {neg : Bool} (h : Shell w p v neg) (i : Nat) : w.frozen? ⟨p, i, none⟩ = false := by
  unfold World.frozen?
  rw [show w.heap[(⟨p, i, none⟩ : Addr).block]? = w.heap[p]? from rfl, h]; simp
theorem Shell.keep {w w' : World} {p : Nat} {v : Value} {neg : Bool} {S : Nat → Prop} (h : Shell w p v neg) (f : Fr w w' S) (hp : ¬ S p) : Shell w' p v neg := by
  unfold Shell; rw [f.block p h.lt hp]; exact h
theorem Shell.setAbs {w : World} {p : Nat} {v : Value} {neg : Bool} (h : Shell w p v neg) (u : Value) : Shell (w.setCell ⟨p, 1, none⟩ u) p u neg := by
  unfold Shell World.setCell
  simp only [Array.getElem?_modify, if_true]
  rw [h]
  rfl
theorem Shell.setNeg {w : World} {p : Nat} {v : Value} {neg : Bool} (h : Shell w p v neg) (s : Bool) : Shell (w.setCell ⟨p, 0, none⟩ (.bool s)) p v s := by
  unfold Shell World.setCell
  simp only [Array.getElem?_modify, if_true]
  rw [h]
  rfl
theorem Shell.apart {w : World} {p b : Nat} {v : Value} {neg : Bool} {l : List Nat} (h : Shell w p v neg) (hr : Row w b l) : b ≠ p := by
  intro e
  subst e
  have := h.symm.trans hr.1
  injection this with this
  injection this with _ h2
  revert h2
  decide
theorem Shell.blk {w : World} {p M : Nat} {v u : Value} {neg : Bool} (h : Shell w p v neg) (k : NatV w u M) : ¬ Blk u p := by
  rintro ⟨l, c, rfl⟩
  rcases k with ⟨e, _⟩ | ⟨b, len, cap, l', e, hr, _⟩
  · cases e
  · cases e; exact h.apart hr rfl

/-- Block p is the whole number of sign neg and size N; v is the slice of its words. -/
def IntV (w : World) (p : Nat) (v : Value) (neg : Bool) (N : Nat) : Prop := Shell w p v neg ∧ NatV w v N

theorem IntV.blkLt {w : World} {p N b : Nat} {v : Value} {neg : Bool} (h : IntV w p v neg N) (hb : Blk v b) : b < w.heap.size := h.2.lt hb
theorem IntV.keep {w w' : World} {p N : Nat} {v : Value} {neg : Bool} {S : Nat → Prop} (h : IntV w p v neg N) (f : Fr w w' S) (hp : ¬ S p) (hn : ∀ b, Blk v b → ¬ S b) : IntV w' p v neg N :=
  ⟨h.1.keep f hp, h.2.keep f hn⟩
theorem NatV.slice {w : World} {v : Value} {N : Nat} (h : NatV w v N) : ∃ a l c, v = .slice a l c := by
  rcases h with ⟨rfl, _⟩ | ⟨b, len, cap, l, rfl, _⟩
  · exact ⟨_, _, _, rfl⟩
  · exact ⟨_, _, _, rfl⟩
theorem NatV.drewN {w : World} {N : Nat} {v : Value} (h : NatV w v N) (n : Nat) : NatV (w.drewN n) v N := h.keep ((Fr.refl w None).drewN n) (fun _ _ x => x)
theorem IntV.drewN {w : World} {p N : Nat} {v : Value} {neg : Bool} (h : IntV w p v neg N) (n : Nat) : IntV (w.drewN n) p v neg N := h.keep ((Fr.refl w None).drewN n) (fun x => x) (fun _ _ x => x)

/-- What an operation on whole numbers gives: the number z, turned. -/
def IntPost (z : Nat) (S : Nat → Prop) (neg : Bool) (N : Nat) (w : World) (e : Ending) (w' : World) : Prop :=
  e = .returned (.pointer (some ⟨z, 0, none⟩)) ∧ ∃ v, IntV w' z v neg N ∧ (∀ b, Blk v b → S b ∨ w.heap.size ≤ b) ∧ Fr w w' (fun b => b = z ∨ S b)

theorem NatV.set {w : World} {p M i : Nat} {u : Value} {v : Value} {neg : Bool} (k : NatV w u M) (h : Shell w p v neg) (x : Value) : NatV (w.setCell ⟨p, i, none⟩ x) u M :=
  k.keep (S := One p) ((Fr.refl w (One p)).setCell (p := ⟨p, i, none⟩) (Or.inl rfl) x) (fun b hb e => by cases e; exact h.blk k hb)
theorem IntV.setAbs {w : World} {p M : Nat} {v u : Value} {neg : Bool} (h : Shell w p v neg) (k : NatV w u M) : IntV (w.setCell ⟨p, 1, none⟩ u) p u neg M := ⟨h.setAbs u, k.set h u⟩
theorem IntV.setNeg {w : World} {p N : Nat} {v : Value} {neg : Bool} (h : IntV w p v neg N) (s : Bool) : IntV (w.setCell ⟨p, 0, none⟩ (.bool s)) p v s N := ⟨h.1.setNeg s, h.2.set h.1 _⟩

/-- The end of an operation: the slice laid in, then the sign. -/
theorem fin_post {w w1 : World} {z M N : Nat} {vz v : Value} {nz nx : Bool} (hz : IntV w z vz nz M) (v1 : NatV w1 v N) (v2 : ∀ b, Blk v b → Blk vz b ∨ w.heap.size ≤ b) (v3 : Fr w w1 (Blk vz)) :
    IntPost z (Blk vz) nx N w (.returned (.pointer (some ⟨z, 0, none⟩))) ((w1.setCell ⟨z, 1, none⟩ v).setCell ⟨z, 0, none⟩ (.bool nx)) := by
  have sh := hz.1.keep v3 (hz.1.blk hz.2)
  have i1 := IntV.setAbs sh v1
  have i2 := i1.setNeg nx
  refine ⟨rfl, v, i2, v2, ?_⟩
  have f1 : Fr w w1 (fun b => b = z ∨ Blk vz b) := v3.mono (fun x _ h => Or.inr h)
  exact (f1.setCell (p := ⟨z, 1, none⟩) (Or.inl (Or.inl rfl)) v).setCell (p := ⟨z, 0, none⟩) (Or.inl (Or.inl rfl)) _

/-- A sign that is read behind the slice's being laid in. -/
theorem sign_after {w w1 : World} {z x M N : Nat} {vz vx v : Value} {nz nx : Bool} (hz : IntV w z vz nz M) (hx : IntV w x vx nx N) (v3 : Fr w w1 (Blk vz)) :
    (w1.setCell ⟨z, 1, none⟩ v).cell? ⟨x, 0, none⟩ = some (.bool nx) := by
  rw [World.cell?_setCell_other _ _ _ _ (by intro e; have := congrArg Addr.off e; simp at this)]
  rw [v3.cell (p := ⟨x, 0, none⟩) hx.1.lt (hx.1.blk hz.2)]
  exact hx.1.c0

theorem Fr.undrew {a b : World} {S : Nat → Prop} (h : Fr a.drew b S) : Fr a b S := ⟨h.os, h.output, h.size, h.block⟩
end Go.Mem
namespace Go.Proofs.YtgmebioogkmfgaaGreatDoor
open Go.RowKit Go.Pt Go.Mem

set_option maxRecDepth 100000 in
set_option maxHeartbeats 2000000 in
theorem intLsh (z x : Nat) (vz vx : Value) (nz nx : Bool) (M N s K : Nat) (hs : 0 < s) (hs2 : s < 64) (hK : K ≤ 800000) (w : World) (hz : IntV w z vz nz M) (hx : IntV w x vx nx N) (hN : N < 2 ^ (64 * K)) :
    Calls Tryz.prog 50 #[.pointer (some ⟨z, 0, none⟩), .pointer (some ⟨x, 0, none⟩), .int .u64 (s : Int)] w (IntPost z (Blk vz) nx (N * 2 ^ s) w) := by
  have hl := lsh_any vz vx s K hs hs2 hK w.drew M N (hz.2.drewN 1) (hx.2.drewN 1) hN
  have z1 := hz.1.c1
  have x1 := hx.1.c1
  have HL := Lib.hid hl
  have HZ := Lib.hid hz
  have HX := Lib.hid hx
  clear hl hz hx
  go_enter Tryz.func50, Tryz.ntmps50
  go_wp2
  go_region_with (go_at_call 77; refine (HL.out).mono ?_; rintro e w1 ⟨v, rfl, v1, v2, v3⟩; obtain ⟨va, vn, vc, rfl⟩ := v1.slice; have sh := ((HZ.out).drewN 1).1.keep v3 (((HZ.out).drewN 1).1.blk ((HZ.out).drewN 1).2); have k1 := sh.c1; have k2 := sh.free 1; have V := Lib.hid (And.intro v1 (And.intro v2 (And.intro v3.undrew sh))); clear v1 v2 v3 sh)
  all_goals
    have q1 := sign_after (v := .slice va vn vc) HZ.out HX.out V.out.2.2.1
    have q2 := sign_after (v := .slice va vn vc) HZ.out HZ.out V.out.2.2.1
    have q3 := (V.out.2.2.2.setAbs (.slice va vn vc)).free 0
    have P : Hid (IntPost z (Blk vz) nx (N * 2 ^ s) w (.returned (.pointer (some ⟨z, 0, none⟩))) ((w1.setCell ⟨z, 1, none⟩ (.slice va vn vc)).setCell ⟨z, 0, none⟩ (.bool nx))) := fin_post HZ.out V.out.1 V.out.2.1 V.out.2.2.1
    generalize w1.setCell ⟨z, 1, none⟩ (.slice va vn vc) = w2 at q1 q2 q3 P ⊢
    go_wp2
    go_ret
    exact P.out
end Go.Proofs.YtgmebioogkmfgaaGreatDoor
