/- The shifts of natural numbers in memory. Condition: it stands in each fact. -/
import Derived.Test.YtgmebioogkmfgaaGreatDoorZM5
import Derived.Laws.Twins
namespace Go.Proofs.YtgmebioogkmfgaaGreatDoor
open Go.RowKit Go.Pt Go.Mem

@[go_sem] theorem tw_lsh (args : Array Value) (w : World) : (callFunc 100 args).run Tryz.prog w = .ok (.enter 55 args) w :=
  run_callFunc_twin (twin := "math/big.lshVU_g") Tryz.func100 (by kernel_rfl) (by kernel_rfl) (by kernel_rfl) (by kernel_rfl) Tryz.func55 (by kernel_rfl) (by kernel_rfl) (by kernel_rfl) args w
@[go_sem] theorem tw_rsh (args : Array Value) (w : World) : (callFunc 95 args).run Tryz.prog w = .ok (.enter 56 args) w :=
  run_callFunc_twin (twin := "math/big.rshVU_g") Tryz.func95 (by kernel_rfl) (by kernel_rfl) (by kernel_rfl) (by kernel_rfl) Tryz.func56 (by kernel_rfl) (by kernel_rfl) (by kernel_rfl) args w

theorem run_clear0 (a : Addr) (cap : Nat) (w : World) : (Builtin.clear_ #[79] 0 #[.slice (some a) 0 cap]).run Tryz.prog w = .ok (.tuple #[]) w := by
  simp [Builtin.clear_, run_underlying Tryz.underlying79]

/-- What an operation on numbers gives: a number in memory, in the old row or in a new one. -/
def NatPost (S : Nat → Prop) (N : Nat) (w : World) (e : Ending) (w' : World) : Prop :=
  ∃ v : Value, e = .returned v ∧ NatV w' v N ∧ (∀ b, Blk v b → S b ∨ w.heap.size ≤ b) ∧ Fr w w' S

set_option maxRecDepth 100000 in
set_option maxHeartbeats 1000000 in
theorem lsh_core (z : Value) (za : Option Addr) (zlen zcap : Nat) (S : Nat → Prop) (hzv : z = .slice za zlen zcap) (xb len cap s : Nat) (l : List Nat) (hs : 0 < s) (hs2 : s < 64) (h0 : 0 < len) (hm : len ≤ 800000) (hll : len ≤ l.length)
    (w : World) (hr : Row w xb l)
    (hmk : Calls Tryz.prog 88 #[z, .int .i64 ((len : Int) + 1)] w (MkPost S (len + 1) w)) :
    Calls Tryz.prog 77 #[z, .slice (some ⟨xb, 0, none⟩) len cap, .int .u64 (s : Int)] w (NatPost S (val (fun j => l.getD j 0) len * 2 ^ s) w) := by
  subst hzv
  have hcl := fun (a : Addr) (cap : Nat) (w : World) => run_clear0 a cap w
  have HR := Lib.hid hr
  have HB := Lib.hid hr.2
  have HM := Lib.hid hmk
  clear hr hmk
  have sz : ((s : Int) == 0) = false := beq_eq_false_iff_ne.2 (by omega)
  have lz : ((len : Int) == 0) = false := beq_eq_false_iff_ne.2 (by omega)
  have s1 : (s : Int) / 64 = 0 := by omega
  have s2 : (s : Int) % 64 = s := by omega
  go_enter Tryz.func77, Tryz.ntmps77
  go_wp2_with fail
  refine (HM.out).mono ?_
  rintro e w1 ⟨zb, zc, zl, rfl, m1, m2, m3, m4, m5, m6⟩
  have M1 := Lib.hid m1
  have M2 := Lib.hid m2
  have M5 := Lib.hid m5
  have M6 := Lib.hid m6
  have X1 : Hid (∀ j, j < len → w1.cell? ⟨xb, j, none⟩ = some (.int .u64 ((l.getD j 0 : Nat) : Int))) := by
    intro j hj
    rw [m6.cell (p := ⟨xb, j, none⟩) (HR.out).lt (fun x => x)]
    exact (HR.out).cell (by omega)
  clear m1 m2 m5 m6
  go_wp2_with fail
  refine (lshVU_row zb xb len s _ _ (fun j => l.getD j 0) zl hs hs2 h0 (by omega) (HB.out) (by rw [M2.out]; omega) _ (M1.out) (X1.out)).mono ?_
  rintro e w2 ⟨rfl, zl', n1, n2, n3, n4, n5⟩
  have c1 := n2.cell (i := len) (by rw [n1, M2.out]; omega)
  have c2 := n2.free len
  generalize hv : zl'.getD len 0 = v at c1
  generalize hq : l.getD (len - 1) 0 / 2 ^ (64 - s) = q
  have HV := Lib.hid hv
  have HQ := Lib.hid hq
  have N1 := Lib.hid n1
  have N2 := Lib.hid n2
  have N3 := Lib.hid n3
  have N5 := Lib.hid n5
  clear hv hq n1 n2 n3 n4 n5
  go_wp2_with fail
  have R3 : Row (w2.setCell ⟨zb, len, none⟩ (.int .u64 (q : Int))) zb (zl'.set len q) := N2.out.set len q (by rw [← HQ.out]; exact Nat.lt_of_le_of_lt (Nat.div_le_self _ _) (HB.out _))
  have F3 : Hid (Fr w1 (w2.setCell ⟨zb, len, none⟩ (.int .u64 (q : Int))) (One zb)) := (N5.out).setCell (p := ⟨zb, len, none⟩) (Or.inl rfl) _
  refine (norm_row zb (len + 1) zc (zl'.set len q) (by rw [List.length_set, N1.out, M2.out]) m3 m4 _ R3).mono ?_
  rintro e w4 ⟨k, rfl, hk, rfl⟩
  have HK := Lib.hid hk
  have R4 := Lib.hid R3
  clear hk R3
  go_wp2_with fail
  go_ret
  have lq : (zl'.set len q).length = zl.length := by rw [List.length_set, N1.out]
  have e1 : ∀ j, j < len → (zl'.set len q).getD j 0 = lshW s (fun j => l.getD j 0) j := by
    intro j hj
    rw [getD_set_ne _ _ _ _ (by omega)]
    exact N3.out j (by omega)
  have e2 : (zl'.set len q).getD len 0 = q := getD_set_self _ _ _ (by rw [N1.out, M2.out]; omega)
  have V : val (fun j => (zl'.set len q).getD j 0) (len + 1) = val (fun j => l.getD j 0) len * 2 ^ s := by
    obtain ⟨p, hp⟩ : ∃ p, len = p + 1 := ⟨len - 1, by omega⟩
    show val (fun j => (zl'.set len q).getD j 0) len + (zl'.set len q).getD len 0 * 2 ^ (64 * len) = _
    rw [val_congr len e1, e2, ← HQ.out, hp, Nat.add_sub_cancel]
    exact lsh_val hs2 (fun j => l.getD j 0) p
  obtain ⟨k1, k2, k3⟩ := HK.out
  refine ⟨_, rfl, Or.inr ⟨zb, k, zc, zl'.set len q, rfl, R4.out, by rw [lq, M2.out], by omega, m4, ?_, k3⟩, ?_, ?_⟩
  · rw [← V]; exact (val_zeros (x := fun j => (zl'.set len q).getD j 0) (len + 1) k1 k2).symm
  · rintro b ⟨_, _, hb⟩
    cases hb
    exact M5.out
  · exact (M6.out).trans F3.out (fun x hx => hx.elim) (fun x hx hb => by
      cases hb
      rcases M5.out with h | h
      · exact h
      · omega)
end Go.Proofs.YtgmebioogkmfgaaGreatDoor
