/- One word added, one word taken off. Condition: it stands in each fact. -/
import Derived.Test.YtgmebioogkmfgaaGreatDoorZM13
import Derived.LaidEqlPtr
namespace Go.Proofs.YtgmebioogkmfgaaGreatDoor
open Go.RowKit Go.Pt Go.Mem

@[go_sem] theorem tw_addVV (args : Array Value) (w : World) : (callFunc 96 args).run Tryz.prog w = .ok (.enter 53 args) w :=
  run_callFunc_twin (twin := "math/big.addVV_g") Tryz.func96 (by kernel_rfl) (by kernel_rfl) (by kernel_rfl) (by kernel_rfl) Tryz.func53 (by kernel_rfl) (by kernel_rfl) (by kernel_rfl) args w
@[go_sem] theorem tw_subVV (args : Array Value) (w : World) : (callFunc 89 args).run Tryz.prog w = .ok (.enter 54 args) w :=
  run_callFunc_twin (twin := "math/big.subVV_g") Tryz.func89 (by kernel_rfl) (by kernel_rfl) (by kernel_rfl) (by kernel_rfl) Tryz.func54 (by kernel_rfl) (by kernel_rfl) (by kernel_rfl) args w

/-- What a step on one word leaves: the row with a word turned. -/
def Put (zb zo v : Nat) (zl : List Nat) (w wr : World) : Prop := Row wr zb (zl.set zo v) ∧ Fr w wr (One zb)

def VvInv (zb zo v : Nat) (zl : List Nat) (w : World) (c i : Value) (wr : World) : Prop :=
  (c = .int .u64 0 ∧ i = .int .i64 0 ∧ w = wr) ∨ (c = .int .u64 0 ∧ i = .int .i64 1 ∧ Put zb zo v zl w wr)

set_option maxRecDepth 100000 in
set_option maxHeartbeats 1000000 in
theorem addVV_one (zb zo zc xb xo xc yb yo yc X Y : Nat) (zl : List Nat) (h : X + Y < 18446744073709551616) (w : World) (hz : Row w zb zl) (hzo : zo < zl.length)
    (hx : w.cell? ⟨xb, xo, none⟩ = some (.int .u64 (X : Int))) (hy : w.cell? ⟨yb, yo, none⟩ = some (.int .u64 (Y : Int))) :
    Calls Tryz.prog 53 #[.slice (some ⟨zb, zo, none⟩) 1 zc, .slice (some ⟨xb, xo, none⟩) 1 xc, .slice (some ⟨yb, yo, none⟩) 1 yc] w fun e w' => e = .returned (.int .u64 0) ∧ Put zb zo (X + Y) zl w w' := by
  have hadd : ∀ (n : Nat) (w : World), Calls Tryz.prog 98 #[.int .u64 (X : Int), .int .u64 (Y : Int), .int .u64 0] (w.drewN n) fun e w'' => e = .returned (.tuple #[.int .u64 ((X + Y : Nat) : Int), .int .u64 0]) ∧ ∃ m, w'' = w.drewN m := fun n w => Calls.quiet_of_same ((add_w X Y h _).mono fun e w' ⟨h1, h2⟩ => ⟨h1, h2.symm⟩)
  have z1 := hz.cell (i := zo) hzo
  have z2 := hz.free zo
  generalize zl.getD zo 0 = zv at z1
  have HZ := Lib.hid hz
  generalize hS : X + Y = S at hadd h ⊢
  have HA := Lib.hid hadd
  have HS := Lib.hid hS
  clear hz hadd hS
  go_enter Tryz.func53, Tryz.ntmps53
  go_wp2
  go_loopw [6, 25] (fun c i wr => VvInv zb zo S zl w c i wr) (fun _ i _ => 1 - (intOf i).toNat)
  case atStart => exact Or.inl ⟨rfl, rfl, rfl⟩
  case round =>
    rcases hrel with ⟨rfl, rfl, rfl⟩ | ⟨rfl, rfl, hp⟩
    · go_wp2
      go_quiet (exact HA.out _ _)
      have d1 : (w.drewN nq).cell? ⟨zb, zo, none⟩ = some (.int .u64 (zv : Int)) := by rw [← z1]; exact World.cell?_drewN _ _ _
      have d2 : (w.drewN nq).frozen? ⟨zb, zo, none⟩ = false := by rw [← z2]; exact World.frozen?_drewN _ _ _
      have D : Hid (Put zb zo S zl w ((w.drewN nq).setCell ⟨zb, zo, none⟩ (.int .u64 (S : Int)))) :=
        ⟨((HZ.out).drewN nq).set zo S h, ((Fr.refl w (One zb)).drewN nq).setCell (p := ⟨zb, zo, none⟩) (Or.inl rfl) _⟩
      generalize w.drewN nq = w2 at d1 d2 D ⊢
      go_wp2
      go_roundw
      case rel => exact Or.inr ⟨rfl, rfl, D.out⟩
      case measure => simp [intOf]
    · have HP := Lib.hid hp
      clear hp
      go_wp2
      go_ret
      exact ⟨rfl, HP.out⟩

set_option maxRecDepth 100000 in
set_option maxHeartbeats 1000000 in
theorem subVV_one (zb zo zc xb xo xc yb yo yc X Y : Nat) (zl : List Nat) (hle : Y ≤ X) (hX : X < 18446744073709551616) (w : World) (hz : Row w zb zl) (hzo : zo < zl.length)
    (hx : w.cell? ⟨xb, xo, none⟩ = some (.int .u64 (X : Int))) (hy : w.cell? ⟨yb, yo, none⟩ = some (.int .u64 (Y : Int))) :
    Calls Tryz.prog 54 #[.slice (some ⟨zb, zo, none⟩) 1 zc, .slice (some ⟨xb, xo, none⟩) 1 xc, .slice (some ⟨yb, yo, none⟩) 1 yc] w fun e w' => e = .returned (.int .u64 0) ∧ Put zb zo (X - Y) zl w w' := by
  have hadd : ∀ (n : Nat) (w : World), Calls Tryz.prog 92 #[.int .u64 (X : Int), .int .u64 (Y : Int), .int .u64 0] (w.drewN n) fun e w'' => e = .returned (.tuple #[.int .u64 ((X - Y : Nat) : Int), .int .u64 0]) ∧ ∃ m, w'' = w.drewN m := fun n w => Calls.quiet_of_same ((sub_w X Y hle hX _).mono fun e w' ⟨h1, h2⟩ => ⟨h1, h2.symm⟩)
  have h : X - Y < 18446744073709551616 := by omega
  have z1 := hz.cell (i := zo) hzo
  have z2 := hz.free zo
  generalize zl.getD zo 0 = zv at z1
  have HZ := Lib.hid hz
  generalize hS : X - Y = S at hadd h ⊢
  have HA := Lib.hid hadd
  have HS := Lib.hid hS
  clear hz hadd hS hle hX
  go_enter Tryz.func54, Tryz.ntmps54
  go_wp2
  go_loopw [6, 25] (fun c i wr => VvInv zb zo S zl w c i wr) (fun _ i _ => 1 - (intOf i).toNat)
  case atStart => exact Or.inl ⟨rfl, rfl, rfl⟩
  case round =>
    rcases hrel with ⟨rfl, rfl, rfl⟩ | ⟨rfl, rfl, hp⟩
    · go_wp2
      go_quiet (exact HA.out _ _)
      have d1 : (w.drewN nq).cell? ⟨zb, zo, none⟩ = some (.int .u64 (zv : Int)) := by rw [← z1]; exact World.cell?_drewN _ _ _
      have d2 : (w.drewN nq).frozen? ⟨zb, zo, none⟩ = false := by rw [← z2]; exact World.frozen?_drewN _ _ _
      have D : Hid (Put zb zo S zl w ((w.drewN nq).setCell ⟨zb, zo, none⟩ (.int .u64 (S : Int)))) :=
        ⟨((HZ.out).drewN nq).set zo S h, ((Fr.refl w (One zb)).drewN nq).setCell (p := ⟨zb, zo, none⟩) (Or.inl rfl) _⟩
      generalize w.drewN nq = w2 at d1 d2 D ⊢
      go_wp2
      go_roundw
      case rel => exact Or.inr ⟨rfl, rfl, D.out⟩
      case measure => simp [intOf]
    · have HP := Lib.hid hp
      clear hp
      go_wp2
      go_ret
      exact ⟨rfl, HP.out⟩

theorem run_neq_ptr (w : World) {tp te : TypeId} {j : TypeInfo} {a b : Addr} {ca cb : Array Value} {ta tb : TypeId} (hp : Tryz.prog.underlying tp = some (.pointer te)) (hte : Tryz.prog.info? te = some j) (hsz : j.size ≠ 0)
    (hne : a ≠ b) (ha : w.heap[a.block]? = some (.cells ca ta (0, 0))) (hb : w.heap[b.block]? = some (.cells cb tb (0, 0))) :
    (binOp .neq tp (.pointer (some a)) (.pointer (some b))).run Tryz.prog w = .ok (.bool true) w := by
  have h : ∀ d : Nat, (Op.equalIn (d + 1) tp (.pointer (some a)) (.pointer (some b))).run Tryz.prog w = .ok false w := fun d => by
    simp [Op.equalIn, run_underlying hp, sizeOf, typeInfo, hte, hsz, run_sameAddr_other w hne ha hb]
  simp only [binOp]
  simp [Op.equal, Op.maxDepth, h 9999]

theorem neq_words (w : World) {a b : Addr} {ca cb : Array Value} {ta tb : TypeId}
    (hne : a ≠ b) (ha : w.heap[a.block]? = some (.cells ca ta (0, 0))) (hb : w.heap[b.block]? = some (.cells cb tb (0, 0))) (n : Nat) :
    (binOp .neq 128 (.pointer (some a)) (.pointer (some b))).run Tryz.prog (w.drewN n) = .ok (.bool true) (w.drewN n) := by
  cases hq : Tryz.prog.info? 99 with
  | none => have := sizeW; simp [hq] at this
  | some i =>
    have hi : i.size = 1 := by have := sizeW; simpa [hq] using this
    have e : (w.drewN n).heap = w.heap := by
      induction n with
      | zero => rfl
      | succ n ih => exact ih
    exact run_neq_ptr _ Tryz.underlying128 hq (by omega) hne (by rw [e]; exact ha) (by rw [e]; exact hb)

theorem run_copyN (d a : Option Addr) (c1 c2 : Nat) (w : World) : (Builtin.copy_ #[78, 78] 3 #[.slice d 0 c1, .slice a 0 c2]).run Tryz.prog w = .ok (.int .i64 0) w :=
  run_copy_none (P := Tryz.prog) w 78 78 3 99 d a 0 c1 0 c2 Tryz.underlying78 sizeW (by simp)

set_option maxRecDepth 100000 in
set_option maxHeartbeats 1000000 in
theorem addVW_one (zb zo zc xb xo xc X : Nat) (zl : List Nat) (hX : X < 18446744073709551616) (hzc : 1 ≤ zc) (hxc : 1 ≤ xc) (hzx : zb ≠ xb) (w : World) (hz : Row w zb zl) (hzo : zo < zl.length)
    (hx : w.cell? ⟨xb, xo, none⟩ = some (.int .u64 (X : Int))) (xl : List Nat) (hxr : Row w xb xl) :
    Calls Tryz.prog 97 #[.slice (some ⟨zb, zo, none⟩) 1 zc, .slice (some ⟨xb, xo, none⟩) 1 xc, .int .u64 0] w fun e w' => e = .returned (.int .u64 0) ∧ Put zb zo X zl w w' := by
  have hadd := add_w X 0 (by omega)
  have z1 := hz.cell (i := zo) hzo
  have z2 := hz.free zo
  generalize zl.getD zo 0 = zv at z1
  have HZ := Lib.hid hz
  have HA := Lib.hid hadd
  have hcp := run_copyN
  have i1 : (1 : Int) ≤ (zc : Int) := by omega
  have i2 : (1 : Int) ≤ (xc : Int) := by omega
  clear hz hadd
  go_enter Tryz.func97, Tryz.ntmps97
  go_wp2_with fail
  refine (HA.out _).mono ?_
  rintro e w1 ⟨rfl, rfl⟩
  rw [Nat.add_zero]
  have D : Hid (Put zb zo X zl w (w.setCell ⟨zb, zo, none⟩ (.int .u64 (X : Int)))) := ⟨HZ.out.set zo X hX, (Fr.refl w (One zb)).setCell (p := ⟨zb, zo, none⟩) (Or.inl rfl) _⟩
  have hne := neq_words (w.setCell ⟨zb, zo, none⟩ (.int .u64 (X : Int))) (a := ⟨zb, zo, none⟩) (b := ⟨xb, xo, none⟩) (by intro e; exact hzx (congrArg Addr.block e)) D.out.1.1 (hxr.keep D.out.2 (fun e => hzx e.symm)).1
  clear hxr
  go_wp2
  generalize w.setCell ⟨zb, zo, none⟩ (.int .u64 (X : Int)) = w2 at D hne ⊢
  go_quiet (fail)
  have D2 : Hid (Put zb zo X zl w (w2.drewN nq).drew) := ⟨((D.out.1).drewN nq).drewN 1, ((D.out.2).drewN nq).drew⟩
  go_wp2
  go_still_tail 4, (by kernel_rfl)
  change wpList _ _ _ _ _ (w2.drewN nq).drew
  generalize (w2.drewN nq).drew = w3 at D2 ⊢
  clear hne
  go_wp2
  all_goals
    go_ret
    exact ⟨rfl, D2.out⟩

set_option maxRecDepth 100000 in
set_option maxHeartbeats 1000000 in
theorem subVW_one (zb zo zc xb xo xc X : Nat) (zl : List Nat) (hX : X < 18446744073709551616) (hzc : 1 ≤ zc) (hxc : 1 ≤ xc) (hzx : zb ≠ xb) (w : World) (hz : Row w zb zl) (hzo : zo < zl.length)
    (hx : w.cell? ⟨xb, xo, none⟩ = some (.int .u64 (X : Int))) (xl : List Nat) (hxr : Row w xb xl) :
    Calls Tryz.prog 90 #[.slice (some ⟨zb, zo, none⟩) 1 zc, .slice (some ⟨xb, xo, none⟩) 1 xc, .int .u64 0] w fun e w' => e = .returned (.int .u64 0) ∧ Put zb zo X zl w w' := by
  have hadd := sub_w X 0 (by omega) hX
  have z1 := hz.cell (i := zo) hzo
  have z2 := hz.free zo
  generalize zl.getD zo 0 = zv at z1
  have HZ := Lib.hid hz
  have HA := Lib.hid hadd
  have hcp := run_copyN
  have i1 : (1 : Int) ≤ (zc : Int) := by omega
  have i2 : (1 : Int) ≤ (xc : Int) := by omega
  clear hz hadd
  go_enter Tryz.func90, Tryz.ntmps90
  go_wp2_with fail
  refine (HA.out _).mono ?_
  rintro e w1 ⟨rfl, rfl⟩
  rw [Nat.sub_zero]
  have D : Hid (Put zb zo X zl w (w.setCell ⟨zb, zo, none⟩ (.int .u64 (X : Int)))) := ⟨HZ.out.set zo X hX, (Fr.refl w (One zb)).setCell (p := ⟨zb, zo, none⟩) (Or.inl rfl) _⟩
  have hne := neq_words (w.setCell ⟨zb, zo, none⟩ (.int .u64 (X : Int))) (a := ⟨zb, zo, none⟩) (b := ⟨xb, xo, none⟩) (by intro e; exact hzx (congrArg Addr.block e)) D.out.1.1 (hxr.keep D.out.2 (fun e => hzx e.symm)).1
  clear hxr
  go_wp2
  generalize w.setCell ⟨zb, zo, none⟩ (.int .u64 (X : Int)) = w2 at D hne ⊢
  go_quiet (fail)
  have D2 : Hid (Put zb zo X zl w (w2.drewN nq).drew) := ⟨((D.out.1).drewN nq).drewN 1, ((D.out.2).drewN nq).drew⟩
  go_wp2
  go_still_tail 4, (by kernel_rfl)
  change wpList _ _ _ _ _ (w2.drewN nq).drew
  generalize (w2.drewN nq).drew = w3 at D2 ⊢
  clear hne
  go_wp2
  all_goals
    go_ret
    exact ⟨rfl, D2.out⟩
end Go.Proofs.YtgmebioogkmfgaaGreatDoor
