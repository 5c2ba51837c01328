/- make of math/big. Condition: it stands in each fact. -/
import Derived.Test.YtgmebioogkmfgaaGreatDoorZM3
import Derived.Laws.OwnMore
namespace Go.Proofs.YtgmebioogkmfgaaGreatDoor
open Go.RowKit Go.Pt Go.Mem

/-- A new row of zeros. -/
def zrow (c : Nat) : Obj := .cells ((List.replicate c 0).map fun n : Nat => Value.int .u64 (n : Int)).toArray 99

theorem infoW : (Tryz.prog.info? 99).map (fun i => (i.zero, i.size, i.bytes)) = some (some (.int .u64 0), 1, 8) := by kernel_rfl

theorem run_mk (n c : Nat) (hn : n ≤ c) (hc : c ≤ 1000000) (w : World) :
    (Instr.makeSlice 79 (.int .i64 (n : Int)) (.int .i64 (c : Int))).run Tryz.prog w = .ok (.slice (some ⟨w.heap.size, 0, none⟩) n c) (w.alloc (zrow c)) := by
  obtain ⟨i0, hi, hz0, hz1, hz2⟩ := info_parts infoW
  have := run_make (P := Tryz.prog) w 79 99 i0 (.int .u64 0) Tryz.underlying79 hi hz0 .i64 .i64 n c (by omega) (by omega) (by rw [hz2]; omega) (by omega)
  rw [this, hz1, Nat.mul_one]
  simp only [Int.toNat_natCast]
  have e : madeCells (Value.int .u64 0).cells c = ((List.replicate c 0).map fun n : Nat => Value.int .u64 (n : Int)).toArray := by
    apply Array.toList_inj.1
    rw [show (Value.int .u64 0).cells = #[Value.int .u64 0] from rfl, toList_madeCells_one]
    simp
  rw [e]
  rfl

theorem zrow_row (w : World) (c : Nat) : Row (w.alloc (zrow c)) w.heap.size (List.replicate c 0) := by
  refine ⟨(MapKept.heap_alloc w _).1, fun j => ?_⟩
  simp only [List.getD_eq_getElem?_getD, List.getElem?_replicate]
  split <;> simp

/-- What make gives: a row of n words, the old one or a new one. -/
def MkPost (S : Nat → Prop) (n : Nat) (w : World) (e : Ending) (w' : World) : Prop :=
  ∃ (b cap : Nat) (l : List Nat), e = .returned (.slice (some ⟨b, 0, none⟩) n cap) ∧ Row w' b l ∧ l.length = cap ∧ n ≤ cap ∧ cap ≤ 1000000 ∧ (S b ∨ w.heap.size ≤ b) ∧ Fr w w' None

set_option maxHeartbeats 1000000 in
theorem make_old (b len cap n : Nat) (hn : n ≤ cap) (w : World) :
    Calls Tryz.prog 88 #[.slice (some ⟨b, 0, none⟩) len cap, .int .i64 (n : Int)] w fun e w' => e = .returned (.slice (some ⟨b, 0, none⟩) n cap) ∧ w = w' := by
  go_enter Tryz.func88, Tryz.ntmps88
  go_wp2
  go_ret
  exact ⟨rfl, rfl⟩

set_option maxRecDepth 100000 in
set_option maxHeartbeats 1000000 in
theorem make_new (a : Option Addr) (len cap n : Nat) (hn : cap < n) (hn2 : n ≤ 900000) (w : World) :
    Calls Tryz.prog 88 #[.slice a len cap, .int .i64 (n : Int)] w (MkPost None n w) := by
  by_cases h1 : n = 1
  · subst h1
    have hm : (Instr.makeSlice 79 (.int .i64 1) (.int .i64 1)).run Tryz.prog w = .ok (.slice (some ⟨w.heap.size, 0, none⟩) 1 1) (w.alloc (zrow 1)) := run_mk 1 1 (by omega) (by omega) w
    have P : MkPost None 1 w (.returned (.slice (some ⟨w.heap.size, 0, none⟩) 1 1)) (w.alloc (zrow 1)) :=
      ⟨_, 1, _, rfl, zrow_row w 1, by simp, by omega, by omega, Or.inr (Nat.le_refl _), (Fr.refl w _).alloc _⟩
    have HP := Lib.hid P
    clear P
    have hcc : ¬ ((1 : Int) ≤ (cap : Int)) := by omega
    go_enter Tryz.func88, Tryz.ntmps88
    go_wp2
    go_ret
    exact HP.out
  · have h1' : ((n : Int) == 1) = false := beq_eq_false_iff_ne.2 (by omega)
    have hm := run_mk n (n + 4) (by omega) (by omega) w
    rw [show ((n + 4 : Nat) : Int) = (n : Int) + 4 by omega] at hm
    have P : MkPost None n w (.returned (.slice (some ⟨w.heap.size, 0, none⟩) n (n + 4))) (w.alloc (zrow (n + 4))) :=
      ⟨_, n + 4, _, rfl, zrow_row w _, by simp, by omega, by omega, Or.inr (Nat.le_refl _), (Fr.refl w _).alloc _⟩
    have HP := Lib.hid P
    clear P
    go_enter Tryz.func88, Tryz.ntmps88
    go_wp2
    go_ret
    exact HP.out

end Go.Proofs.YtgmebioogkmfgaaGreatDoor
