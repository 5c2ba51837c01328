/- same, alias, set on nil. Condition: it stands in each fact. -/
import Derived.Test.YtgmebioogkmfgaaGreatDoorZM7
import Derived.Laws.CopyRow
import Derived.Laws.IdiomCopy
namespace Go.Proofs.YtgmebioogkmfgaaGreatDoor
open Go.RowKit Go.Pt Go.Mem

theorem same_nil (b len cap : Nat) (h : 0 < len) (w : World) :
    Calls Tryz.prog 93 #[.slice none 0 0, .slice (some ⟨b, 0, none⟩) len cap] w fun e w' => e = .returned (.bool false) ∧ Fr w w' None := by
  have h1 : ((0 : Int) == (len : Int)) = false := beq_eq_false_iff_ne.2 (by omega)
  go_enter Tryz.func93, Tryz.ntmps93
  go_wp2
  go_quiet (fail)
  go_wp2
  go_ret
  exact ⟨rfl, (Fr.refl w None).drewN _⟩

theorem alias_nil (b len cap : Nat) (w : World) :
    Calls Tryz.prog 94 #[.slice none 0 0, .slice (some ⟨b, 0, none⟩) len cap] w fun e w' => e = .returned (.bool false) ∧ Fr w w' None := by
  go_enter Tryz.func94, Tryz.ntmps94
  go_wp2
  go_quiet (fail)
  go_wp2
  go_ret
  exact ⟨rfl, (Fr.refl w None).drewN _⟩

theorem sizeW : (Tryz.prog.info? 99).map (·.size) = some 1 := by kernel_rfl

/-- Words copied to the front of a row. -/
theorem run_copyW (w : World) (zb zcap xb o xcap n : Nat) (zl : List Nat) (x : Nat → Nat) (hz : Row w zb zl) (hx : ∀ j, j < n → w.cell? ⟨xb, o + j, none⟩ = some (.int .u64 ((x j : Nat) : Int))) (hlt : ∀ j, x j < 18446744073709551616) (hn : n ≤ zl.length) (ty : Nat) :
    ∃ w' zl', (Builtin.copy_ #[79, 79] ty #[.slice (some ⟨zb, 0, none⟩) n zcap, .slice (some ⟨xb, o, none⟩) n xcap]).run Tryz.prog w = .ok (.int .i64 (n : Int)) w' ∧
      Row w' zb zl' ∧ zl'.length = zl.length ∧ (∀ j, j < n → zl'.getD j 0 = x j) ∧ (∀ j, n ≤ j → zl'.getD j 0 = zl.getD j 0) ∧ Fr w w' (One zb) := by
  have h := run_copy_row (P := Tryz.prog) w 79 79 ty 99 zb 0 n zcap ⟨xb, o, none⟩ n xcap _ 99 ((List.range n).map fun j => Value.int .u64 ((x j : Nat) : Int)) Tryz.underlying79 sizeW hz.1 (by simp)
    (by
      intro j v hj
      have hjn : j < n := by
        have := (List.getElem?_eq_some_iff.1 hj).1
        simpa using this
      rw [show (⟨xb, o, none⟩ : Addr).add j = ⟨xb, o + j, none⟩ by simp [Addr.add], hx j hjn]
      simpa [hjn] using hj)
    (by simpa using hn)
    (by intro v hv; simp at hv; obtain ⟨_, _, rfl⟩ := hv; rfl)
  have e : ((zl.map fun n : Nat => Value.int .u64 (n : Int)).toArray.toList.take 0 ++ ((List.range n).map fun j => Value.int .u64 ((x j : Nat) : Int)) ++ (zl.map fun n : Nat => Value.int .u64 (n : Int)).toArray.toList.drop (0 + ((List.range n).map fun j => Value.int .u64 ((x j : Nat) : Int)).length)).toArray
      = (((List.range n).map x ++ zl.drop n).map fun n : Nat => Value.int .u64 (n : Int)).toArray := by
    simp
  rw [e, List.length_map, List.length_range] at h
  refine ⟨_, (List.range n).map x ++ zl.drop n, h, ⟨?_, ?_⟩, ?_, ?_, ?_, ?_⟩
  · simp [setRow_heap w zb _ _ _ _ hz.1]
  · intro j
    have := hz.2 j
    by_cases c : j < n
    · simp [List.getD_eq_getElem?_getD, List.getElem?_append, c, hlt]
    · simp [List.getD_eq_getElem?_getD, List.getElem?_append, c]
      rw [show n + (j - n) = j by omega]
      simpa [List.getD_eq_getElem?_getD] using this
  · simp; omega
  · intro j hj
    simp [List.getD_eq_getElem?_getD, List.getElem?_append, hj]
  · intro j hj
    simp [List.getD_eq_getElem?_getD, List.getElem?_append, show ¬ j < n by omega]
    rw [show n + (j - n) = j by omega]
  · refine ⟨rfl, rfl, by simp [World.setRow], fun k hk hne => ?_⟩
    simp only [World.setRow, Array.getElem?_modify]
    rw [if_neg (fun e => hne e.symm)]
    
theorem set_nil (x : Value) (K : Nat) (hK : K ≤ 800000) (w : World) (N : Nat) (h0 : 0 < N) (hx : NatV w x N) (hN : N < 2 ^ (64 * K)) :
    Calls Tryz.prog 79 #[.slice none 0 0, x] w (NatPost None N w) := by
  have hlen := fun b len cap (e : x = .slice (some ⟨b, 0, none⟩) len cap) => NatV.len (w := w) (N := N) (b := b) (cap := cap) (by rw [← e]; exact hx) hN
  obtain ⟨b, len, cap, l, rfl, hr, h1, h2, h3, h4, h5, h6⟩ := hx.pos h0
  have hl := hlen b len cap rfl
  have hm := make_new none 0 0 len h5 (by omega) w
  have HM := Lib.hid hm
  have HR := Lib.hid hr
  have H4 := Lib.hid h4
  have H6 := Lib.hid h6
  have H1 := Lib.hid h1
  clear hm hr hlen h4 h6 h1 hx
  go_enter Tryz.func79, Tryz.ntmps79
  go_wp2_with fail
  refine (HM.out).mono ?_
  rintro e w1 ⟨zb, zc, zl, rfl, m1, m2, m3, m4, m5, m6⟩
  have X1 : ∀ j, j < len → w1.cell? ⟨b, 0 + j, none⟩ = some (.int .u64 ((l.getD j 0 : Nat) : Int)) := by
    intro j hj
    rw [Nat.zero_add, m6.cell (p := ⟨b, j, none⟩) (HR.out).lt (fun x => x)]
    have := H1.out
    exact (HR.out).cell (by omega)
  obtain ⟨w2, zl', c1, c2, c3, c4, c5, c6⟩ := run_copyW w1 zb zc b 0 cap len zl (fun j => l.getD j 0) m1 X1 (HR.out).2 (by omega) 3
  have C := Lib.hid (And.intro c2 (And.intro c3 (And.intro c4 (And.intro c5 c6))))
  have M := Lib.hid (And.intro m1 (And.intro m2 (And.intro m5 m6)))
  clear c2 c3 c4 c5 c6 m1 m2 m5 m6 X1
  go_wp2_with fail
  go_ret
  obtain ⟨c2, c3, c4, c5, c6⟩ := C.out
  obtain ⟨m1, m2, m5, m6⟩ := M.out
  refine ⟨_, rfl, Or.inr ⟨zb, len, zc, zl', rfl, c2, by omega, m3, m4, ?_, fun _ => ?_⟩, ?_, ?_⟩
  · rw [← H4.out]; exact val_congr len c4
  · rw [c4 (len - 1) (by omega)]; exact H6.out
  · rintro b' ⟨_, _, hb⟩
    cases hb
    exact m5
  · exact m6.trans c6 (fun x hx => hx) (fun x hx hb => by cases hb; rcases m5 with h | h; exact h; omega)
end Go.Proofs.YtgmebioogkmfgaaGreatDoor
