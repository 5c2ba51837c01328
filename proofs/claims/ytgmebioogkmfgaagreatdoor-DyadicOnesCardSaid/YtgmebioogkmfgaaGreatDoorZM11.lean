/- or with a small number. Condition: it stands in each fact. -/
import Derived.Test.YtgmebioogkmfgaaGreatDoorZM10
namespace Go.Proofs.YtgmebioogkmfgaaGreatDoor
open Go.RowKit Go.Pt Go.Mem

theorem seg_self (L : List Value) (o n m : Nat) (h : m = n) : L.take o ++ (L.drop o).take n ++ L.drop (o + m) = L := by
  rw [h, List.append_assoc, ← List.drop_drop, List.take_append_drop, List.take_append_drop]

/-- A row copied onto itself. -/
theorem run_copy_self (w : World) (b o n c1 c2 : Nat) (l : List Nat) (hr : Row w b l) (h : o + n ≤ l.length) (ty : Nat) :
    (Builtin.copy_ #[79, 79] ty #[.slice (some ⟨b, o, none⟩) n c1, .slice (some ⟨b, o, none⟩) n c2]).run Tryz.prog w = .ok (.int .i64 (n : Int)) w := by
  generalize hL : (l.map fun n : Nat => Value.int .u64 (n : Int)) = L
  have hg : w.heap[b]? = some (.cells L.toArray 99) := by rw [← hL]; exact hr.1
  have hlen : L.length = l.length := by rw [← hL, List.length_map]
  have hcl : ((L.drop o).take n).length = n := by rw [List.length_take, List.length_drop]; omega
  have k := run_copy_row (P := Tryz.prog) w 79 79 ty 99 b o n c1 ⟨b, o, none⟩ n c2 L.toArray 99 ((L.drop o).take n) Tryz.underlying79 sizeW hg (by rw [hcl]; simp)
    (by
      intro j v hj
      have hjn : j < n := by
        have := (List.getElem?_eq_some_iff.1 hj).1
        omega
      rw [show (⟨b, o, none⟩ : Addr).add j = ⟨b, o + j, none⟩ by simp [Addr.add], ← hj]
      unfold World.cell?
      rw [show w.heap[(⟨b, o + j, none⟩ : Addr).block]? = w.heap[b]? from rfl, hg]
      simp [hjn])
    (by rw [hcl]; simp; omega)
    (by
      intro v hv
      have hv2 : v ∈ L := List.mem_of_mem_drop (List.mem_of_mem_take hv)
      rw [← hL] at hv2
      obtain ⟨a, _, rfl⟩ := List.mem_map.1 hv2
      rfl)
  have e : (L.toArray.toList.take o ++ ((L.drop o).take n) ++ L.toArray.toList.drop (o + ((L.drop o).take n).length)).toArray = L.toArray := by
    rw [List.toList_toArray, seg_self L o n _ hcl]
  rw [e, setRow_self w b _ _ _ hg, hcl] at k
  exact k

theorem val_set0 (l : List Nat) (d : Nat) {n : Nat} (h : 0 < n) (hl : 0 < l.length) : val (fun j => (l.set 0 (l.getD 0 0 + d)).getD j 0) n = val (fun j => l.getD j 0) n + d := by
  obtain ⟨q, rfl⟩ : ∃ q, n = 1 + q := ⟨n - 1, by omega⟩
  rw [val_split, val_split (fun j => l.getD j 0), val_congr (x := fun j => (l.set 0 (l.getD 0 0 + d)).getD (1 + j) 0) (y := fun j => l.getD (1 + j) 0) q (fun j _ => getD_set_ne _ _ _ _ (by omega))]
  have := getD_set_self l 0 (l.getD 0 0 + d) hl
  simp only [val]
  rw [this]
  omega

/-- What the loop of or has done. -/
def OrInv (b : Nat) (l : List Nat) (v : Nat) (w : World) (i : Value) (wr : World) : Prop :=
  (i = .int .i64 0 ∧ w = wr) ∨ (i = .int .i64 1 ∧ Row wr b (l.set 0 v) ∧ Fr w wr (One b))

theorem or_post {w wr : World} {b len cap N k : Nat} {l : List Nat} (h1 : l.length = cap) (h2 : len ≤ cap) (h3 : cap ≤ 1000000) (hv : val (fun j => l.getD j 0) len = N)
    (r1 : Row wr b l) (r2 : Fr w wr (One b)) (hk : NormOf l len k) (S : Nat → Prop) (hS : S b) : NatPost S N w (.returned (.slice (some ⟨b, 0, none⟩) k cap)) wr := by
  obtain ⟨k1, k2, k3⟩ := hk
  refine ⟨_, rfl, Or.inr ⟨b, k, cap, l, rfl, r1, h1, by omega, h3, ?_, k3⟩, ?_, ?_⟩
  · rw [← hv]; exact (val_zeros (x := fun j => l.getD j 0) len k1 k2).symm
  · rintro b' ⟨_, _, hb⟩
    cases hb
    exact Or.inl hS
  · exact r2.mono (fun x _ hx => by cases hx; exact hS)

set_option maxRecDepth 100000 in
set_option maxHeartbeats 2000000 in
theorem or_none (b len cap : Nat) (l : List Nat) (N : Nat) (ya : Option Addr) (yc : Nat) (w : World) (hr : Row w b l) (h1 : l.length = cap) (h2 : len ≤ cap) (h3 : cap ≤ 1000000) (hv : val (fun j => l.getD j 0) len = N) :
    Calls Tryz.prog 73 #[.slice (some ⟨b, 0, none⟩) len cap, .slice (some ⟨b, 0, none⟩) len cap, .slice ya 0 yc] w (NatPost (Blk (.slice (some ⟨b, 0, none⟩) len cap)) N w) := by
  have hc := run_copy_self w.drew b 0 len cap cap l (hr.drewN 1) (by omega) 3
  have H := Lib.hid (And.intro hr (And.intro h1 hv))
  clear hr h1 hv
  have i1 : ¬ ((len : Int) < 0) := by omega
  go_enter Tryz.func73, Tryz.ntmps73
  go_wp2_with fail
  refine (make_old b len cap len h2 w).mono ?_
  rintro e w1 ⟨rfl, rfl⟩
  go_wp2_with fail
  go_loopw [10] (fun i wr => i = .int .i64 0 ∧ w = wr) (fun i _ => 1 - (intOf i).toNat)
  case atStart => exact ⟨rfl, rfl⟩
  case round =>
    obtain ⟨rfl, rfl⟩ := hrel
    go_wp2_with fail
    go_still_tail 8, (by kernel_rfl)
    change wpList _ _ _ _ _ w.drew
    have D : Hid (Row w.drew b l ∧ Fr w w.drew (One b)) := ⟨(H.out.1).drewN 1, (Fr.refl w (One b)).drew⟩
    generalize w.drew = w2 at hc D ⊢
    go_wp2_with fail
    refine (norm_row b len cap l H.out.2.1 h2 h3 _ D.out.1).mono ?_
    rintro e w4 ⟨k, rfl, hk, rfl⟩
    have HK := Lib.hid hk
    clear hk
    go_wp2_with fail
    go_ret
    exact or_post H.out.2.1 h2 h3 H.out.2.2 D.out.1 D.out.2 HK.out _ ⟨_, _, rfl⟩
end Go.Proofs.YtgmebioogkmfgaaGreatDoor
