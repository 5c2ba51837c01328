/- Memory: a row of words, and what a call leaves as it was. No condition. -/
import Derived.Test.YtgmebioogkmfgaaGreatDoorGr
import Derived.Below
import Derived.Deep.QuietTactic
import Derived.BigQuiet
namespace Go.Mem
open Go.RowKit

/-- What was there is as it was, but for the blocks of S. -/
structure Fr (w w' : World) (S : Nat → Prop) : Prop where
  os : w'.os = w.os
  output : w'.output = w.output
  size : w.heap.size ≤ w'.heap.size
  block : ∀ k, k < w.heap.size → ¬ S k → w'.heap[k]? = w.heap[k]?

theorem Fr.refl (w : World) (S : Nat → Prop) : Fr w w S := ⟨rfl, rfl, Nat.le_refl _, fun _ _ _ => rfl⟩

theorem Fr.trans {a b c : World} {S T U : Nat → Prop} (h : Fr a b S) (k : Fr b c T) (h1 : ∀ x, S x → U x) (h2 : ∀ x, x < a.heap.size → T x → U x) : Fr a c U :=
  ⟨k.os.trans h.os, k.output.trans h.output, Nat.le_trans h.size k.size, fun i hi hn =>
    (k.block i (Nat.lt_of_lt_of_le hi h.size) (fun t => hn (h2 i hi t))).trans (h.block i hi (fun s => hn (h1 i s)))⟩

theorem Fr.mono {a b : World} {S U : Nat → Prop} (h : Fr a b S) (h1 : ∀ x, x < a.heap.size → S x → U x) : Fr a b U :=
  ⟨h.os, h.output, h.size, fun i hi hn => h.block i hi (fun s => hn (h1 i hi s))⟩

theorem Fr.drew {a b : World} {S : Nat → Prop} (h : Fr a b S) : Fr a b.drew S := ⟨h.os, h.output, h.size, h.block⟩
theorem Fr.drewN {a b : World} {S : Nat → Prop} (h : Fr a b S) (n : Nat) : Fr a (b.drewN n) S := by
  induction n with
  | zero => exact h
  | succ n ih => exact ih.drew

theorem Fr.alloc {a b : World} {S : Nat → Prop} (h : Fr a b S) (o : Obj) : Fr a (b.alloc o) S :=
  ⟨h.os, h.output, Nat.le_trans h.size (by simp), fun k hk hn => (Below.heap_alloc b o k (Nat.lt_of_lt_of_le hk h.size)).trans (h.block k hk hn)⟩

theorem Fr.setCell {a b : World} {S : Nat → Prop} (h : Fr a b S) {p : Addr} (hp : S p.block ∨ a.heap.size ≤ p.block) (v : Value) : Fr a (b.setCell p v) S :=
  ⟨h.os, h.output, Nat.le_trans h.size (by simp [World.setCell]), fun k hk hn => by
    rw [Below.heap_setCell b p v k (fun e => by subst e; rcases hp with hp | hp; exact hn hp; omega)]; exact h.block k hk hn⟩

theorem Fr.cell {a b : World} {S : Nat → Prop} (h : Fr a b S) {p : Addr} (hp : p.block < a.heap.size) (hn : ¬ S p.block) : b.cell? p = a.cell? p := World.cell?_of_block (h.block _ hp hn)

/-- Nothing that was there has turned. -/
def None (_ : Nat) : Prop := False
/-- One block. -/
def One (b : Nat) (k : Nat) : Prop := k = b

theorem Fr.grownFrame {w w' : World} (h : Fr w w' None) (may : MemPlace → Prop) : w.keptBut w' may := by
  refine ⟨h.os, h.output, fun i hi => ?_⟩
  rw [h.block i hi (fun x => x)]
  split <;> simp_all

theorem Fr.same {w w' : World} (h : Fr w w' None) {p : MemPlace} (hp : p.block < w.heap.size) : w.sameAt w' p := by
  cases p with
  | cell b o => exact World.cell?_of_block (w := w) (h.block b hp (fun x => x))
  | map b => exact h.block b hp (fun x => x)

/-- Block b is a row of words. -/
def Row (w : World) (b : Nat) (l : List Nat) : Prop := w.heap[b]? = some (.cells (l.map fun n : Nat => Value.int .u64 (n : Int)).toArray 99) ∧ ∀ j, l.getD j 0 < 18446744073709551616

theorem Row.lt {w : World} {b : Nat} {l : List Nat} (h : Row w b l) : b < w.heap.size := (Array.getElem?_eq_some_iff.1 h.1).1

theorem Row.cell {w : World} {b : Nat} {l : List Nat} (h : Row w b l) {i : Nat} (hi : i < l.length) : w.cell? ⟨b, i, none⟩ = some (.int .u64 ((l.getD i 0 : Nat) : Int)) := by
  unfold World.cell?
  rw [show w.heap[(⟨b, i, none⟩ : Addr).block]? = w.heap[b]? from rfl, h.1]
  simp [List.getElem?_eq_getElem hi, List.getD_eq_getElem?_getD]

theorem Row.free {w : World} {b : Nat} {l : List Nat} (h : Row w b l) (i : Nat) : w.frozen? ⟨b, i, none⟩ = false := by
  unfold World.frozen?
  rw [show w.heap[(⟨b, i, none⟩ : Addr).block]? = w.heap[b]? from rfl, h.1]
  simp

theorem getD_set_lt {l : List Nat} (h : ∀ j, l.getD j 0 < 18446744073709551616) (i n : Nat) (hn : n < 18446744073709551616) : ∀ j, (l.set i n).getD j 0 < 18446744073709551616 := by
  intro j
  have := h j
  simp only [List.getD_eq_getElem?_getD, List.getElem?_set] at *
  split
  · split
    · exact hn
    · simp
  · exact this

theorem Row.set {w : World} {b : Nat} {l : List Nat} (h : Row w b l) (i n : Nat) (hn : n < 18446744073709551616) : Row (w.setCell ⟨b, i, none⟩ (.int .u64 (n : Int))) b (l.set i n) := by
  refine ⟨?_, getD_set_lt h.2 i n hn⟩
  unfold World.setCell
  simp only [Array.getElem?_modify, if_true]
  rw [show w.heap[b]? = _ from h.1]
  simp [Array.setIfInBounds, List.map_set]
  intro hle
  rw [List.set_eq_of_length_le (by simpa using hle)]

theorem Row.keep {w w' : World} {b : Nat} {l : List Nat} {S : Nat → Prop} (h : Row w b l) (f : Fr w w' S) (hn : ¬ S b) : Row w' b l :=
  ⟨by rw [f.block b (Row.lt h) hn]; exact h.1, h.2⟩

theorem Row.drewN {w : World} {b : Nat} {l : List Nat} (h : Row w b l) (n : Nat) : Row (w.drewN n) b l := by
  induction n with
  | zero => exact h
  | succ n ih => exact ih
end Go.Mem
