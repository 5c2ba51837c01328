/- The script of BitsAll, read as data, is a row of asks. Condition: it reads. -/
import Derived.Test.YtdbeeclkknhjaaaA1
import Derived.ProofKit
import Derived.Deep.Slices
namespace Go.Proofs.Ytdbeeclkknhjaaa
open Go.ChangeShapes Go.WideShapes Go.ChangeAt Go.RowKit Go.Pt Go.Deep

theorem cells3 : Try.prog.cellsOf 3 = 1 := by kernel_rfl
theorem cells4 : Try.prog.cellsOf 4 = 1 := by kernel_rfl
theorem cells41 : Try.prog.cellsOf 41 = 4 := by kernel_rfl

theorem addr_add (b off j : Nat) : (⟨b, off, none⟩ : Addr).add j = ⟨b, off + j, none⟩ := by
  unfold Addr.add; split <;> simp_all

section
variable {H : Type} {enc : TypeId × Value → H}

/-- Four cells that read as an ask. -/
theorem ask_of {W : World} {n : Nat} {cs : List Value} {x : DataW H × List MemPlace} (hl : cs.length = 4) (h : DataW.trod enc Try.prog W 0 (fun _ => true) true n 41 cs = some x) :
    ∃ (k a b : Int) (g : Bool), I64 k ∧ I64 a ∧ I64 b ∧ cs = [.int .i64 k, .int .i64 a, .int .i64 b, .bool g] := by
  obtain ⟨ys, m, _, _, _, hyl, hf⟩ := DataW.trod_struct Try.underlying41 h
  match cs, hl with
  | [c0, c1, c2, c3], _ =>
    match ys, hyl with
    | [y0, y1, y2, y3], _ =>
      have f0 := hf 0 _ rfl
      have f1 := hf 1 _ rfl
      have f2 := hf 2 _ rfl
      have f3 := hf 3 _ rfl
      simp [cells3, cells4] at f0 f1 f2 f3
      obtain ⟨k, e0, _, w0⟩ := DataW.trod_int Try.underlying3 f0
      obtain ⟨a, e1, _, w1⟩ := DataW.trod_int Try.underlying3 f1
      obtain ⟨b, e2, _, w2⟩ := DataW.trod_int Try.underlying3 f2
      obtain ⟨g, e3, _⟩ := DataW.trod_bool Try.underlying4 f3
      simp at e0 e1 e2 e3
      subst e0 e1 e2 e3
      exact ⟨k, a, b, g, i64_of_wf w0, i64_of_wf w1, i64_of_wf w2, rfl⟩

/-- The argument: nil, or a row of asks. -/
theorem script_of {W : World} {n len cap : Nat} {a : Option Addr} {x : DataW H × List MemPlace} (h : DataW.trod enc Try.prog W 0 (fun _ => true) true n 39 [.slice a len cap] = some x) :
    (a = none ∧ len = 0 ∧ cap = 0) ∨ len = 0 ∧ a.isSome = true ∨ ∃ b off, a = some ⟨b, off, none⟩ ∧ b < W.heap.size ∧ Asks W b off len := by
  rcases open_slice Try.underlying39 h with ⟨hcs, _⟩ | ⟨p, l, c, m, n', D, Pl, hcs, _, hl, _, hmm, _, hi⟩
  · simp at hcs
    exact Or.inl hcs
  · simp at hcs
    obtain ⟨rfl, rfl, rfl⟩ := hcs
    right
    by_cases z : len = 0
    · exact Or.inl ⟨z, rfl⟩
    · right
      have hm : m = cap := by simpa using hmm
      have get : ∀ i, i < len → ∃ (k a b : Int) (g : Bool), I64 k ∧ I64 a ∧ I64 b ∧ W.cell? ((p.add (i * 4)).add 0) = some (.int .i64 k) ∧ W.cell? ((p.add (i * 4)).add 1) = some (.int .i64 a) ∧
          W.cell? ((p.add (i * 4)).add 2) = some (.int .i64 b) ∧ W.cell? ((p.add (i * 4)).add 3) = some (.bool g) := by
        intro i hil
        obtain ⟨cs', hc, ht⟩ := hi i (by omega)
        rw [cells41] at hc
        obtain ⟨_, hcl, hat⟩ := World.cells?_some hc
        obtain ⟨k, a, b, g, ik, ia, ib, rfl⟩ := ask_of hcl ht
        exact ⟨k, a, b, g, ik, ia, ib, hat 0 (by omega), hat 1 (by omega), hat 2 (by omega), hat 3 (by omega)⟩
      obtain ⟨_, _, _, _, _, _, _, q0, _⟩ := get 0 (by omega)
      obtain ⟨b, off, spot⟩ := p
      have hspot : spot = none := by simpa [Addr.add] using World.cell?_spot q0
      subst hspot
      refine ⟨b, off, rfl, ?_, ?_⟩
      · exact World.block_lt_of_cell? W _ q0
      · intro i hil
        obtain ⟨k, a, y, g, ik, ia, ib, q0, q1, q2, q3⟩ := get i hil
        rw [addr_add, addr_add] at q0 q1 q2 q3
        exact ⟨k, a, y, g, ik, ia, ib, q0, q1, q2, q3⟩
end
end Go.Proofs.Ytdbeeclkknhjaaa
