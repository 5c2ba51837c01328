/- Rows of ints: make, append where there is room. Condition: it stands in each fact. -/
import Derived.Test.YtehfnpbplkbdhaaDoorM26
import Derived.ArgAppend
namespace Go.Proofs.YtehfnpbplkbdhaaDoor
open Go.RowKit Go.Pt Go.Mem

theorem infoN : (Tryd.prog.info? 3).map (fun i => (i.zero, i.size, i.bytes)) = some (some (.int .i64 0), 1, 8) := by kernel_rfl

/-- A new row of ints. -/
def irow (c : Nat) : Obj := .cells (List.replicate c (Value.int .i64 0)).toArray 3

theorem run_mkI (n c : Nat) (hn : n ≤ c) (hc : c ≤ 1000000) (w : World) :
    (Instr.makeSlice 22 (.int .i64 (n : Int)) (.int .i64 (c : Int))).run Tryd.prog w = .ok (.slice (some ⟨w.heap.size, 0, none⟩) n c) (w.alloc (irow c)) := by
  obtain ⟨i0, hi, hz0, hz1, hz2⟩ := info_parts infoN
  have := run_make (P := Tryd.prog) w 22 3 i0 (.int .i64 0) Tryd.underlying22 hi hz0 .i64 .i64 n c (by omega) (by omega) (by rw [hz2]; omega) (by omega)
  rw [this, hz1, Nat.mul_one]
  simp only [Int.toNat_natCast]
  have e : madeCells (Value.int .i64 0).cells c = (List.replicate c (Value.int .i64 0)).toArray := by
    apply Array.toList_inj.1
    rw [show (Value.int .i64 0).cells = #[Value.int .i64 0] from rfl, toList_madeCells_one]
  rw [e]
  rfl

theorem run_appI (w : World) (db j C nb : Nat) (d : Int) (hj : j + 1 ≤ C) (hc : (w.cell? ⟨db, j, none⟩).isSome = true) (hf : w.frozen? ⟨db, j, none⟩ = false) (hn : w.cell? ⟨nb, 0, none⟩ = some (.int .i64 d)) (ty : Nat) :
    (Builtin.append_ #[22, 22] ty #[.slice (some ⟨db, 0, none⟩) j C, .slice (some ⟨nb, 0, none⟩) 1 1]).run Tryd.prog w = .ok (.slice (some ⟨db, 0, none⟩) (j + 1) C) (w.setCell ⟨db, j, none⟩ (.int .i64 d)) := by
  obtain ⟨i0, hi, hz0, hz1, hz2⟩ := info_parts infoN
  have h := run_append_room_cells (P := Tryd.prog) w 22 ty 3 i0 Tryd.underlying22 hi db 0 j C ⟨nb, 0, none⟩ 1 1 [.int .i64 d] (by rw [hz1]; rfl)
    (by
      intro k u hk
      rcases k with _ | k
      · cases hk; exact hn
      · cases hk)
    (by intro u hu; cases hu with | head => rfl | tail _ h => cases h)
    hj
    (by
      intro k hk
      have : k = 0 := by simp at hk; omega
      subst this
      rw [hz1, Nat.zero_add, Nat.mul_one, Nat.add_zero]; exact hc)
    (by
      intro k hk
      have : k = 0 := by simp at hk; omega
      subst this
      rw [hz1, Nat.zero_add, Nat.mul_one, Nat.add_zero]; exact hf)
  rw [h, hz1, Nat.zero_add, Nat.mul_one]
  rfl

theorem wpList_appI {ops : Array Oper} {rest : List Oper} {o : Oper} {a : Act} {Q : Exit → Act → World → Prop} (w w' : World)
    (hg : o.guard = none) (s x : Operand) (hop : o.op = Op.call { callee := Callee.builtin Builtin.append, args := #[s, x], argTypes := #[22, 22] })
    (u v r : Value) (hs : a.eval s = u) (hx : a.eval x = v) (hrun : (Builtin.append_ #[22, 22] o.type #[u, v]).run Tryd.prog w = .ok r w')
    (hK : wpList Tryd.prog ops Q rest (a.put o.dst r) w') : wpList Tryd.prog ops Q (o :: rest) a w := by
  refine wpList_plain hg fun K hK' => ?_
  unfold Oper.wp
  simp [execOp, hop, resolve, invoke, builtin, hs, hx, hrun, Result.andThen]
  exact hK' _ _ hK
end Go.Proofs.YtehfnpbplkbdhaaDoor
