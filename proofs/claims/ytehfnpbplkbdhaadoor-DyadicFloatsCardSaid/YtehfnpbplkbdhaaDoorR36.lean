/- caught of plumb/dyadic: what recovers. Condition: it stands in each fact. -/
import Derived.Test.YtehfnpbplkbdhaaDoorQ2
import Derived.Defers
import Derived.Recover
namespace Go.Proofs.YtehfnpbplkbdhaaDoor
open Go.RowKit Go.Pt Go.Mem

theorem caught_tmps {V : Type} (u a b : V) : #[a] ++ ((Array.replicate 19 u).setIfInBounds 4 b).setIfInBounds 1 b = #[a, u, b, u, u, b, u, u, u, u, u, u, u, u, u, u, u, u, u, u] := by
  apply Array.toList_inj.1
  simp [List.replicate, List.set]

theorem caught_idle (p : Addr) (w : World) :
    CallsD Tryd.prog 26 #[.pointer (some p)] .returning w fun e u' w' => e = .returned (.tuple #[]) ∧ u' = .returning ∧ w' = w := by
  refine callsD_of_wpS Tryd.func26 rfl fun c₀ cs hu => ?_
  apply wpS_seq
  apply wpS_region
  simp [wpOpsS, go_sem, recoverD, hu, Tryd.ntmps26, Exit.thenS]
  refine wpS_of_wp ?_
  rw [caught_tmps]
  go_wp2
  cases c₀
  simp_all [bodyPostS, results, Tryd.results26]

theorem run_giveup (k : Int) (t0 : TypeId) (w : World) : (Instr.typeAssert (.iface 59 (.agg #[.int .i64 k])) t0 59 true).run Tryd.prog w = .ok (.tuple #[.agg #[.int .i64 k], .bool true]) w := by kernel_rfl

set_option maxRecDepth 100000 in
set_option maxHeartbeats 1000000 in
theorem caught_panicking (R t : Nat) (x k : Int) (older : List PanicEntry) (w : World) (hR : At w R #[.int .i64 x] t) :
    CallsD Tryd.prog 26 #[.pointer (some ⟨R, 0, none⟩)] (.panicking ({ v := .iface 59 (.agg #[.int .i64 k]), recovered := false } :: older)) w fun e u' w' =>
      e = .returned (.tuple #[]) ∧ u' = .panicking ({ v := .iface 59 (.agg #[.int .i64 k]), recovered := true } :: older) ∧ w' = (w.alloc (.cells #[.int .i64 k] 59)).setCell ⟨R, 0, none⟩ (.int .i64 k) := by
  have h2 := hR.keep ((Fr.refl w None).alloc (.cells #[.int .i64 k] 59)) (fun x => x)
  have hc := h2.cell 0
  have hz := h2.free 0
  clear h2 hR
  have hta := fun t0 => run_giveup k t0 w
  refine callsD_of_wpS Tryd.func26 rfl fun c₀ cs hu => ?_
  apply wpS_seq
  apply wpS_region
  simp [wpOpsS, go_sem, recoverD, hu, Tryd.ntmps26, Exit.thenS]
  refine wpS_of_wp ?_
  rw [caught_tmps]
  go_wp2
  trace_state
  cases c₀
  simp_all [bodyPostS, results, Tryd.results26]
end Go.Proofs.YtehfnpbplkbdhaaDoor
