/- whole of plumb/dyadic; rows of ints; told of plumb/dyadic. Condition: it stands in each fact. -/
import Derived.Test.YtgmebioogkmfgaaGreatDoorZM24
import Derived.ArgAppend
import Derived.Handy
import Derived.Laws.Rows
namespace Go.Mem
open Go.RowKit

/-- The number of n digits of 30 bits. -/
def dv (x : Nat → Nat) : Nat → Nat
  | 0 => 0
  | n + 1 => dv x n + x n * 2 ^ (30 * n)
/-- The number of the k highest of n digits. -/
def tp (x : Nat → Nat) (n : Nat) : Nat → Nat
  | 0 => 0
  | k + 1 => tp x n k * 1073741824 + x (n - 1 - k)
theorem tp_dv (x : Nat → Nat) (n : Nat) : ∀ k, k ≤ n → dv x n = tp x n k * 2 ^ (30 * (n - k)) + dv x (n - k)
  | 0, _ => by simp [tp]
  | k + 1, h => by
    rw [tp_dv x n k (by omega)]
    obtain ⟨q, hq⟩ : ∃ q, n - k = q + 1 := ⟨n - k - 1, by omega⟩
    rw [hq, show n - (k + 1) = q by omega]
    show tp x n k * 2 ^ (30 * (q + 1)) + (dv x q + x q * 2 ^ (30 * q)) = (tp x n k * 1073741824 + x (n - 1 - k)) * 2 ^ (30 * q) + dv x q
    rw [show n - 1 - k = q by omega, show 30 * (q + 1) = 30 + 30 * q by omega, Nat.pow_add, Nat.add_mul, Nat.mul_assoc, show (2 : Nat) ^ 30 = 1073741824 from rfl]
    omega
theorem tp_all (x : Nat → Nat) (n : Nat) : tp x n n = dv x n := by
  have := tp_dv x n n (Nat.le_refl _)
  simp [dv] at this
  omega
theorem dv_lt {x : Nat → Nat} (h : ∀ j, x j < 1073741824) : ∀ n, dv x n < 2 ^ (30 * n)
  | 0 => by simp [dv]
  | n + 1 => by
    have h1 := dv_lt h n
    have h2 := h n
    unfold dv
    rw [show 30 * (n + 1) = 30 * n + 30 by omega, Nat.pow_add]
    have h3 : x n * 2 ^ (30 * n) ≤ 1073741823 * 2 ^ (30 * n) := Nat.mul_le_mul_right _ (by omega)
    have h4 : 2 ^ (30 * n) * 2 ^ 30 = 1073741824 * 2 ^ (30 * n) := by rw [Nat.mul_comm]
    omega
theorem tp_lt {x : Nat → Nat} (h : ∀ j, x j < 1073741824) (n : Nat) : ∀ k, tp x n k < 2 ^ (30 * k)
  | 0 => by simp [tp]
  | k + 1 => by
    have h1 := tp_lt h n k
    have h2 := h (n - 1 - k)
    unfold tp
    rw [show 30 * (k + 1) = 30 * k + 30 by omega, Nat.pow_add]
    have h3 : (tp x n k + 1) * 1073741824 ≤ 2 ^ (30 * k) * 1073741824 := Nat.mul_le_mul_right _ h1
    omega
theorem tp_pos {x : Nat → Nat} {n : Nat} (h : x (n - 1) ≠ 0) : ∀ k, 0 < tp x n (k + 1)
  | 0 => by simp [tp]; omega
  | k + 1 => by
    have := tp_pos h k
    show 0 < tp x n (k + 1) * 1073741824 + _
    omega

/-- A value is a slice of digits. -/
def DigV (w : World) (v : Value) (n : Nat) (x : Nat → Nat) : Prop :=
  (v = .slice none 0 0 ∧ n = 0) ∨ ∃ b cap, v = .slice (some ⟨b, 0, none⟩) n cap ∧ n ≤ cap ∧ b < w.heap.size ∧ ∀ j, j < n → w.cell? ⟨b, j, none⟩ = some (.int .i64 ((x j : Nat) : Int))
/-- The digits are a number's: each of 30 bits, none of them 0 on top. -/
def Digs (n : Nat) (x : Nat → Nat) : Prop := (∀ j, x j < 1073741824) ∧ (0 < n → x (n - 1) ≠ 0) ∧ n ≤ 2000
theorem DigV.keep {w w' : World} {v : Value} {n : Nat} {x : Nat → Nat} {S : Nat → Prop} (h : DigV w v n x) (f : Fr w w' S) (hn : ∀ b, Blk v b → ¬ S b) : DigV w' v n x := by
  rcases h with h | ⟨b, cap, rfl, h1, h2, h3⟩
  · exact Or.inl h
  · exact Or.inr ⟨b, cap, rfl, h1, Nat.lt_of_lt_of_le h2 f.size, fun j hj => by rw [f.cell (p := ⟨b, j, none⟩) h2 (hn b ⟨_, _, rfl⟩)]; exact h3 j hj⟩
end Go.Mem
namespace Go.Proofs.YtgmebioogkmfgaaGreatDoor
open Go.RowKit Go.Pt Go.Mem

/-- What the loop of whole has done after k rounds. -/
def WhInv (m : Nat) (n : Nat) (x : Nat → Nat) (w : World) (i : Value) (wr : World) : Prop :=
  ∃ k v, k ≤ n ∧ i = .int .i64 (k : Int) ∧ IntV wr m v false (tp x n k) ∧ (∀ b, Blk v b → w.heap.size ≤ b) ∧ Fr w wr None

set_option maxRecDepth 100000 in
set_option maxHeartbeats 4000000 in
theorem whole_pos (b cap n : Nat) (x : Nat → Nat) (neg : Bool) (w : World) (hn : 0 < n) (hD : Digs n x) (hcap : n ≤ cap) (hb : b < w.heap.size) (hx : ∀ j, j < n → w.cell? ⟨b, j, none⟩ = some (.int .i64 ((x j : Nat) : Int))) :
    Calls Tryz.prog 30 #[.bool neg, .slice (some ⟨b, 0, none⟩) n cap] w (NewPost neg (dv x n) w) := by
  have h0 : IntV (w.alloc (.cells #[.bool false, .slice none 0 0] 81)) w.heap.size (.slice none 0 0) false 0 := ⟨alloc_shell w false _, Or.inl ⟨rfl, rfl⟩⟩
  have f0 : Fr w (w.alloc (.cells #[.bool false, .slice none 0 0] 81)) None := (Fr.refl w None).alloc _
  have I : Hid (WhInv w.heap.size n x w (.int .i64 0) (w.alloc (.cells #[.bool false, .slice none 0 0] 81))) :=
    ⟨0, _, Nat.zero_le _, rfl, h0, (fun b h => by obtain ⟨_, _, h⟩ := h; cases h), f0⟩
  have HD := Lib.hid hD
  have HX := Lib.hid (And.intro hb hx)
  clear h0 f0 hD hb hx
  have hn2 : n ≤ 2000 := HD.out.2.2
  go_enter Tryz.func30, Tryz.ntmps30
  go_wp2
  generalize w.alloc (.cells #[.bool false, .slice none 0 0] 81) = w0 at I ⊢
  go_loopw [10] (fun i wr => WhInv w.heap.size n x w i wr) (fun i _ => n - (intOf i).toNat)
  case atStart => exact I.out
  case round =>
    obtain ⟨k, v, hk, rfl, hi, hv, hf⟩ := hrel
    have HI := Lib.hid hi
    have HV := Lib.hid hv
    have HF := Lib.hid hf
    clear hi hv hf
    by_cases c : k < n
    · have i0 : (k : Int) < (n : Int) := by omega
      have i3 : (0 : Int) ≤ (n : Int) - 1 - (k : Int) := by omega
      have i4 : (n : Int) - 1 - (k : Int) < (n : Int) := by omega
      have i5 : ((n : Int) - 1 - (k : Int)).toNat = n - 1 - k := by omega
      go_wp2_with fail
      refine (intLsh w.heap.size w.heap.size v v false false (tp x n k) (tp x n k) 30 n (by omega) (by omega) (by omega) wr HI.out HI.out
        (Nat.lt_of_lt_of_le (tp_lt HD.out.1 n k) (Nat.pow_le_pow_right (by omega) (by omega)))).mono ?_
      rintro e w1 ⟨rfl, v1, a1, a2, a3⟩
      have f1 : Fr w w1 None := HF.out.trans a3 (fun _ h => h) (fun q hq hs => by
        rcases hs with rfl | hs
        · omega
        · have := HV.out q hs; omega)
      have c1 : w1.cell? ⟨b, n - 1 - k, none⟩ = some (.int .i64 ((x (n - 1 - k) : Nat) : Int)) := by
        rw [f1.cell (p := ⟨b, n - 1 - k, none⟩) HX.out.1 (fun x => x)]
        exact HX.out.2 _ (by omega)
      have hd := HD.out.1 (n - 1 - k)
      have hpos : 0 < tp x n k * 1073741824 + x (n - 1 - k) := by
        have := tp_pos (HD.out.2.1 hn) k
        exact this
      have htp : tp x n (k + 1) = tp x n k * 1073741824 + x (n - 1 - k) := rfl
      generalize x (n - 1 - k) = d at c1 hd hpos htp
      have hnew := newInt (d : Int) (by unfold I64; omega) w1
      rw [decide_eq_false (by omega), Int.natAbs_natCast] at hnew
      have HNEW := Lib.hid hnew
      have A := Lib.hid (And.intro a1 (And.intro a2 (And.intro f1 (And.intro hd (And.intro hpos htp)))))
      have SZ : Hid (wr.heap.size ≤ w1.heap.size) := a3.size
      clear hnew a1 a2 a3 f1 hd hpos htp
      go_wp2_with fail
      refine (HNEW.out).mono ?_
      rintro e w2 ⟨p, pv, rfl, b1, b2, b3, b4⟩
      have B := Lib.hid (And.intro b1 (And.intro b2 (And.intro b3 b4)))
      clear b1 b2 b3 b4
      go_wp2_with fail
      obtain ⟨a1, a2, f1, hd, hpos, htp⟩ := A.out
      refine (intOr w.heap.size p v1 pv (tp x n k * 2 ^ 30) d w2 (Nat.mul_mod_left _ _) hd hpos (a1.keep B.out.2.2.2 (fun x => x) (fun _ _ x => x)) B.out.1).mono ?_
      rintro e w3 ⟨rfl, v3, d1, d2, d3⟩
      have fv1 : ∀ q, Blk v1 q → w.heap.size ≤ q := fun q hq => by
        rcases a2 q hq with h | h
        · exact HV.out q h
        · exact Nat.le_trans HF.out.size h
      have R : Hid (WhInv w.heap.size n x w (.int .i64 ((k : Int) + 1)) w3) := by
        refine ⟨k + 1, v3, by omega, rfl, by rw [htp]; exact d1, fun q hq => ?_, ?_⟩
        · rcases d2 q hq with h | h
          · exact fv1 q h
          · exact Nat.le_trans (Nat.le_trans f1.size B.out.2.2.2.size) h
        · exact (f1.trans B.out.2.2.2 (fun _ h => h) (fun _ _ h => h)).trans d3 (fun _ h => h) (fun q hq hs => by
            rcases hs with rfl | hs
            · omega
            · have := fv1 q hs; omega)
      clear a1 a2 f1 hd hpos htp d1 d2 d3 fv1
      go_wp2_with fail
      go_roundw
      case rel => exact R.out
      case measure => simp [intOf]; omega
    · obtain rfl : k = n := by omega
      have e := tp_all x k
      cases neg
      · go_wp2
        go_ret
        exact ⟨_, v, rfl, by rw [← e]; exact HI.out, Nat.le_refl _, HV.out, HF.out⟩
      · have hp : 0 < tp x k k := by
          obtain ⟨q, rfl⟩ : ∃ q, k = q + 1 := ⟨k - 1, by omega⟩
          exact tp_pos (HD.out.2.1 hn) q
        go_wp2_with fail
        refine (intNeg w.heap.size v false _ wr hp HI.out).mono ?_
        rintro e' w1 ⟨rfl, g1, g2⟩
        have P : Hid (NewPost true (dv x k) w (.returned (.pointer (some ⟨w.heap.size, 0, none⟩))) w1) :=
          ⟨_, v, rfl, by rw [← e]; exact g1, Nat.le_refl _, HV.out, HF.out.trans g2 (fun _ h => h) (fun q hq hs => by cases hs; omega)⟩
        clear g1 g2
        go_wp2_with fail
        go_ret
        exact P.out
end Go.Proofs.YtgmebioogkmfgaaGreatDoor

namespace Go.Proofs.YtgmebioogkmfgaaGreatDoor
open Go.RowKit Go.Pt Go.Mem

theorem infoN : (Tryz.prog.info? 3).map (fun i => (i.zero, i.size, i.bytes)) = some (some (.int .i64 0), 1, 8) := by kernel_rfl

/-- A new row of ints. -/
def irow (c : Nat) : Obj := .cells (List.replicate c (Value.int .i64 0)).toArray 3

theorem run_mkI (n c : Nat) (hn : n ≤ c) (hc : c ≤ 1000000) (w : World) :
    (Instr.makeSlice 22 (.int .i64 (n : Int)) (.int .i64 (c : Int))).run Tryz.prog w = .ok (.slice (some ⟨w.heap.size, 0, none⟩) n c) (w.alloc (irow c)) := by
  obtain ⟨i0, hi, hz0, hz1, hz2⟩ := info_parts infoN
  have := run_make (P := Tryz.prog) w 22 3 i0 (.int .i64 0) Tryz.underlying22 hi hz0 .i64 .i64 n c (by omega) (by omega) (by rw [hz2]; omega) (by omega)
  rw [this, hz1, Nat.mul_one]
  simp only [Int.toNat_natCast]
  have e : madeCells (Value.int .i64 0).cells c = (List.replicate c (Value.int .i64 0)).toArray := by
    apply Array.toList_inj.1
    rw [show (Value.int .i64 0).cells = #[Value.int .i64 0] from rfl, toList_madeCells_one]
  rw [e]
  rfl

theorem run_appI (w : World) (db j C nb : Nat) (d : Int) (hj : j + 1 ≤ C) (hc : (w.cell? ⟨db, j, none⟩).isSome = true) (hf : w.frozen? ⟨db, j, none⟩ = false) (hn : w.cell? ⟨nb, 0, none⟩ = some (.int .i64 d)) (ty : Nat) :
    (Builtin.append_ #[22, 22] ty #[.slice (some ⟨db, 0, none⟩) j C, .slice (some ⟨nb, 0, none⟩) 1 1]).run Tryz.prog w = .ok (.slice (some ⟨db, 0, none⟩) (j + 1) C) (w.setCell ⟨db, j, none⟩ (.int .i64 d)) := by
  obtain ⟨i0, hi, hz0, hz1, hz2⟩ := info_parts infoN
  have h := run_append_room_cells (P := Tryz.prog) w 22 ty 3 i0 Tryz.underlying22 hi db 0 j C ⟨nb, 0, none⟩ 1 1 [.int .i64 d] (by rw [hz1]; rfl)
    (by
      intro k u hk
      rcases k with _ | k
      · cases hk; exact hn
      · cases hk)
    (by intro u hu; cases hu with | head => rfl | tail _ h => cases h)
    hj
    (by
      intro k hk
      have : k = 0 := by simp at hk; omega
      subst this
      rw [hz1, Nat.zero_add, Nat.mul_one, Nat.add_zero]; exact hc)
    (by
      intro k hk
      have : k = 0 := by simp at hk; omega
      subst this
      rw [hz1, Nat.zero_add, Nat.mul_one, Nat.add_zero]; exact hf)
  rw [h, hz1, Nat.zero_add, Nat.mul_one]
  rfl

theorem wpList_appI {ops : Array Oper} {rest : List Oper} {o : Oper} {a : Act} {Q : Exit → Act → World → Prop} (w w' : World)
    (hg : o.guard = none) (s x : Operand) (hop : o.op = Op.call { callee := Callee.builtin Builtin.append, args := #[s, x], argTypes := #[22, 22] })
    (u v r : Value) (hs : a.eval s = u) (hx : a.eval x = v) (hrun : (Builtin.append_ #[22, 22] o.type #[u, v]).run Tryz.prog w = .ok r w')
    (hK : wpList Tryz.prog ops Q rest (a.put o.dst r) w') : wpList Tryz.prog ops Q (o :: rest) a w := by
  refine wpList_plain hg fun K hK' => ?_
  unfold Oper.wp
  simp [execOp, hop, resolve, invoke, builtin, hs, hx, hrun, Result.andThen]
  exact hK' _ _ hK
end Go.Proofs.YtgmebioogkmfgaaGreatDoor

namespace Go.Mem
open Go.RowKit

/-- Digit j of A. -/
def dgt (A j : Nat) : Nat := A / 2 ^ (30 * j) % 1073741824
theorem two_mono (a b : Nat) (h : a ≤ b) : 2 ^ a ≤ 2 ^ b := Nat.pow_le_pow_right (by omega) h
theorem dgt_lt (A j : Nat) : dgt A j < 1073741824 := Nat.mod_lt _ (by omega)
theorem dv_dgt (A : Nat) : ∀ n, dv (dgt A) n = A % 2 ^ (30 * n)
  | 0 => by simp [dv, Nat.mod_one]
  | n + 1 => by
    show dv (dgt A) n + dgt A n * 2 ^ (30 * n) = _
    rw [dv_dgt A n, show 30 * (n + 1) = 30 * n + 30 by omega, Nat.pow_add, Nat.mod_mul, show (2 : Nat) ^ 30 = 1073741824 from rfl]
    unfold dgt
    rw [Nat.mul_comm (A / 2 ^ (30 * n) % 1073741824)]

/-- Block b holds the cells cs. -/
def At (w : World) (b : Nat) (cs : Array Value) (t : Nat) : Prop := w.heap[b]? = some (.cells cs t)
theorem At.lt {w : World} {b t : Nat} {cs : Array Value} (h : At w b cs t) : b < w.heap.size := (Array.getElem?_eq_some_iff.1 h).1
theorem At.cell {w : World} {b t : Nat} {cs : Array Value} (h : At w b cs t) (i : Nat) : w.cell? ⟨b, i, none⟩ = cs[i]? := by
  unfold World.cell?
  rw [show w.heap[(⟨b, i, none⟩ : Addr).block]? = w.heap[b]? from rfl, h]
  rfl
theorem At.free {w : World} {b t : Nat} {cs : Array Value} (h : At w b cs t) (i : Nat) : w.frozen? ⟨b, i, none⟩ = false := by
  unfold World.frozen?
  rw [show w.heap[(⟨b, i, none⟩ : Addr).block]? = w.heap[b]? from rfl, h]
  simp
theorem At.keep {w w' : World} {b t : Nat} {cs : Array Value} {S : Nat → Prop} (h : At w b cs t) (f : Fr w w' S) (hn : ¬ S b) : At w' b cs t := by
  unfold At; rw [f.block b h.lt hn]; exact h
theorem At.put {w : World} {b t : Nat} {cs : Array Value} (h : At w b cs t) (i : Nat) (v : Value) : At (w.setCell ⟨b, i, none⟩ v) b (cs.setIfInBounds i v) t := by
  unfold At World.setCell
  simp only [Array.getElem?_modify, if_true]
  rw [show w.heap[b]? = _ from h]
  rfl
theorem At.alloc (w : World) (cs : Array Value) (t : Nat) : At (w.alloc (.cells cs t)) w.heap.size cs t := (MapKept.heap_alloc w _).1

end Go.Mem
namespace Go.Proofs.YtgmebioogkmfgaaGreatDoor
open Go.RowKit Go.Pt Go.Mem

theorem Tab.keep {w w' : World} (h : Tab w) (f : Fr w w' None) : Tab w' := by
  intro j hj
  have hc := h j hj
  have hlt : 3 < w.heap.size := by
    unfold World.cell? at hc
    rcases Nat.lt_or_ge 3 w.heap.size with h | h
    · exact h
    · rw [show w.heap[(⟨3, j, none⟩ : Addr).block]? = w.heap[(3 : Nat)]? from rfl, Array.getElem?_eq_none h] at hc
      cases hc
  rw [f.cell (p := ⟨3, j, none⟩) hlt (fun x => x)]
  exact hc

theorem rsh_small (x : Value) (K k : Nat) (hk : k < 64) (hK : K ≤ 800000) (w : World) (N : Nat) (h0 : 0 < N) (hx : NatV w x N) (hN : N < 2 ^ (64 * K)) :
    Calls Tryz.prog 70 #[.slice none 0 0, x, .int .u64 (k : Int)] w (NatPost (Blk (.slice none 0 0)) (N / 2 ^ k) w) := by
  rcases Nat.eq_zero_or_pos k with rfl | hk0
  · rw [Nat.pow_zero, Nat.div_one]
    refine (rsh_zero x K hK w N h0 hx hN).mono ?_
    rintro e w' ⟨v, h1, h2, h3, h4⟩
    exact ⟨v, h1, h2, fun b hb => (h3 b hb).imp (fun h => h.elim) id, h4.mono (fun _ _ h => h.elim)⟩
  · have := rsh_any (.slice none 0 0) x 0 k K hk0 hk hK w 0 N (Or.inl ⟨rfl, rfl⟩) hx hN (by rw [Nat.mul_zero, Nat.pow_zero]; exact h0)
    rw [Nat.mul_zero, Nat.zero_add] at this
    exact this

theorem ctz_le {X k : Nat} (h : X ≠ 0) (hX : X < 18446744073709551616) (e : Lib.ctz 64 X = k) : 2 ^ k ≤ X := by
  obtain ⟨m, hm, _⟩ := Lib.ctzFrom_spec 64 X (by omega) hX
  unfold Lib.ctz at e
  rw [if_neg h] at e
  rw [e] at hm
  rw [hm]
  exact Nat.le_mul_of_pos_right _ (by omega)

theorem cap_room {A r : Nat} (h : A < 2 ^ r) (j : Nat) (hj : A / 2 ^ (30 * j) ≠ 0) : j + 1 ≤ r / 30 + 1 := by
  by_cases c : j + 1 ≤ r / 30 + 1
  · exact c
  · have h1 : 2 ^ r ≤ 2 ^ (30 * j) := Nat.pow_le_pow_right (by omega) (by omega)
    exact absurd (Nat.div_eq_of_lt (Nat.lt_of_lt_of_le h h1)) hj

/-- A number told: its sign, its digits, its exponent. -/
def NumPost (neg : Bool) (A : Nat) (E : Int) (w : World) (en : Ending) (w' : World) : Prop :=
  ∃ v n, en = .returned (.agg #[.bool neg, v, .int .i64 E]) ∧ DigV w' v n (dgt A) ∧ Digs n (dgt A) ∧ dv (dgt A) n = A ∧ (∀ b, Blk v b → w.heap.size ≤ b) ∧ Fr w w' None

def lenS : Value → Nat
  | .slice _ n _ => n
  | _ => 0

/-- What the loop of told has done after j rounds. -/
def TdInv (w0 : World) (p1 db mb : Nat) (mv : Value) (A C : Nat) (i : Value) (wr : World) : Prop :=
  ∃ (j : Nat) (v : Value) (cs : Array Value), i = .slice (some ⟨db, 0, none⟩) j C ∧ j ≤ C ∧ IntV wr p1 v false (A / 2 ^ (30 * j)) ∧ (∀ b, Blk v b → w0.heap.size ≤ b ∧ b ≠ db ∧ b ≠ mb ∧ ¬ Blk mv b) ∧
    IntV wr mb mv false 1073741823 ∧ At wr db cs 3 ∧ cs.size = C ∧ (∀ q, q < j → cs[q]? = some (.int .i64 ((dgt A q : Nat) : Int))) ∧ (0 < j → A / 2 ^ (30 * (j - 1)) ≠ 0) ∧ Fr w0 wr None

set_option maxRecDepth 100000 in
set_option maxHeartbeats 8000000 in
theorem told_ok (m : Nat) (v : Value) (neg : Bool) (N k : Nat) (e : Int) (w : World) (h0 : 0 < N) (hN : N < 2 ^ (64 * 30)) (hk : k < 64) (hkN : Lib.ctz 64 (N % 18446744073709551616) = k) (hlow : N % 18446744073709551616 ≠ 0)
    (he0 : -1048576 ≤ e) (he1 : e ≤ 1000000) (hm : IntV w m v neg N) (hT : Tab w) :
    Calls Tryz.prog 29 #[.agg #[.pointer (some ⟨m, 0, none⟩), .int .i64 e]] w (NumPost neg (N / 2 ^ k) (e + k) w) := by
  obtain ⟨sg, hsg, hs0, hsn⟩ : ∃ sg : Int, (if neg then (-1 : Int) else 1) = sg ∧ (sg == 0) = false ∧ decide (sg < 0) = neg := by
    cases neg
    · exact ⟨1, rfl, rfl, rfl⟩
    · exact ⟨-1, rfl, rfl, rfl⟩
  have f0 : Fr w ((w.alloc (.cells #[.pointer (some ⟨m, 0, none⟩), .int .i64 e] 62)).alloc (.cells #[.bool false, .slice none 0 0, .int .i64 0] 24)) None := ((Fr.refl w None).alloc _).alloc _
  have t0 : At ((w.alloc (.cells #[.pointer (some ⟨m, 0, none⟩), .int .i64 e] 62)).alloc (.cells #[.bool false, .slice none 0 0, .int .i64 0] 24)) w.heap.size #[.pointer (some ⟨m, 0, none⟩), .int .i64 e] 62 :=
    (At.alloc w _ _).keep ((Fr.refl _ None).alloc _) (fun x => x)
  have r0 : At ((w.alloc (.cells #[.pointer (some ⟨m, 0, none⟩), .int .i64 e] 62)).alloc (.cells #[.bool false, .slice none 0 0, .int .i64 0] 24)) (w.heap.size + 1) #[.bool false, .slice none 0 0, .int .i64 0] 24 := by
    have := At.alloc (w.alloc (.cells #[.pointer (some ⟨m, 0, none⟩), .int .i64 e] 62)) #[.bool false, .slice none 0 0, .int .i64 0] 24
    simpa using this
  have HM := Lib.hid (hm.keep f0 (fun x => x) (fun _ _ x => x))
  have HT := Lib.hid (hT.keep f0)
  have HN := Lib.hid (And.intro h0 (And.intro hN (And.intro hkN hlow)))
  have F0 := Lib.hid f0
  have T0 := Lib.hid t0
  have R0 := Lib.hid r0
  have HSG := Lib.hid hsg
  clear hm hT h0 hN hkN hlow f0 t0 r0 hsg
  go_enter Tryz.func29, Tryz.ntmps29
  go_wp2_with fail
  generalize (w.alloc (.cells #[.pointer (some ⟨m, 0, none⟩), .int .i64 e] 62)).alloc (.cells #[.bool false, .slice none 0 0, .int .i64 0] 24) = w0 at HM HT F0 T0 R0 ⊢
  have hs := intSign_pos m v neg N w0 HN.out.1 HM.out
  rw [HSG.out] at hs
  refine hs.mono ?_
  clear hs
  rintro en w1 ⟨rfl, rfl⟩
  have c0 := (T0.out).cell 0
  have c1 := (T0.out).cell 1
  go_wp2_with fail
  have hz := intTzb m v neg N w0 HN.out.2.2.2 HM.out HT.out
  rw [HN.out.2.2.1] at hz
  refine hz.mono ?_
  clear hz
  rintro en w1 ⟨rfl, rfl⟩
  have f1 : Fr w0 (w0.alloc (.cells #[.bool false, .slice none 0 0] 81)) None := (Fr.refl w0 None).alloc _
  have f2 : Fr w0 ((w0.alloc (.cells #[.bool false, .slice none 0 0] 81)).alloc (.cells #[.bool false, .slice none 0 0] 81)) None := f1.alloc _
  have g1 : IntV ((w0.alloc (.cells #[.bool false, .slice none 0 0] 81)).alloc (.cells #[.bool false, .slice none 0 0] 81)) w0.heap.size (.slice none 0 0) false 0 :=
    ⟨(alloc_shell w0 false (.slice none 0 0)).keep ((Fr.refl _ None).alloc _) (fun x => x), Or.inl ⟨rfl, rfl⟩⟩
  have g2 : IntV ((w0.alloc (.cells #[.bool false, .slice none 0 0] 81)).alloc (.cells #[.bool false, .slice none 0 0] 81)) (w0.heap.size + 1) (.slice none 0 0) false 0 := by
    have := alloc_shell (w0.alloc (.cells #[.bool false, .slice none 0 0] 81)) false (.slice none 0 0)
    exact ⟨by simpa using this, Or.inl ⟨rfl, rfl⟩⟩
  have G := Lib.hid (And.intro f2 (And.intro g1 g2))
  have d0 := (T0.out.keep f2 (fun x => x)).cell 0
  clear f1 f2 g1 g2
  go_wp2_with fail
  generalize (w0.alloc (.cells #[.bool false, .slice none 0 0] 81)).alloc (.cells #[.bool false, .slice none 0 0] 81) = w1 at G d0 ⊢
  have mlt := HM.out.1.lt
  refine (intAbs (w0.heap.size + 1) m v false neg N 30 (by omega) (by omega) w1 HN.out.1 HN.out.2.1 G.out.2.2 ((HM.out).keep G.out.1 (fun x => x) (fun _ _ x => x))).mono ?_
  rintro en w2 ⟨rfl, v2, a1, a2, a3⟩
  have nb : ∀ b, ¬ Blk (.slice none 0 0) b := fun b h => by obtain ⟨_, _, h⟩ := h; cases h
  have p1 : IntV w2 w0.heap.size (.slice none 0 0) false 0 := G.out.2.1.keep a3 (fun h => h.elim (fun h => by omega) (nb _)) (fun b h => (nb b h).elim)
  have f2 : Fr w0 w2 None := G.out.1.trans a3 (fun _ h => h) (fun x hx h => h.elim (fun h => by omega) (fun h => (nb x h).elim))
  have hr := intRsh w0.heap.size (w0.heap.size + 1) (.slice none 0 0) v2 false 0 N (N / 2 ^ k) (k : Int) w2 p1 a1 (rsh_small v2 30 k hk (by omega) w2.drew N HN.out.1 (a1.2.drewN 1) HN.out.2.1)
  have HR := Lib.hid hr
  have F2 := Lib.hid f2
  have NB := Lib.hid nb
  have S2 : Hid (w0.heap.size ≤ w2.heap.size) := f2.size
  clear hr a1 a2 a3 p1 f2 nb d0
  go_wp2_with fail
  refine (HR.out).mono ?_
  rintro en w3 ⟨rfl, v1, b1, b2, b3⟩
  have f3 : Fr w0 w3 None := F2.out.trans b3 (fun _ h => h) (fun x hx h => h.elim (fun h => by omega) (fun h => (NB.out x h).elim))
  have c3 := (T0.out.keep f3 (fun x => x)).cell 1
  have F3 := Lib.hid f3
  have B1 := Lib.hid b1
  have B2 : Hid (∀ b, Blk v1 b → w0.heap.size ≤ b) := fun b hb => (b2 b hb).elim (fun h => (NB.out b h).elim) (fun h => Nat.le_trans S2.out h)
  have hA : 0 < N / 2 ^ k := by
    have h1 := ctz_le HN.out.2.2.2 (Nat.mod_lt _ (by omega)) HN.out.2.2.1
    exact Nat.div_pos (Nat.le_trans h1 (Nat.mod_le _ _)) (Nat.two_pow_pos k)
  have hA2 : N / 2 ^ k < 2 ^ (64 * 30) := Nat.lt_of_le_of_lt (Nat.div_le_self _ _) HN.out.2.1
  have HA := Lib.hid (And.intro hA hA2)
  clear f3 b1 b2 b3 hA hA2 HR F2
  generalize hAe : N / 2 ^ k = A at B1 HA
  have HAE := Lib.hid hAe
  clear hAe
  go_wp2_with fail
  refine (intBitLen w0.heap.size v1 false A 30 w3 HA.out.1 (by omega) HA.out.2 B1.out).mono ?_
  rintro en w4 ⟨r, rfl, r1, r2, rfl⟩
  clear r2
  have j1 : (r : Int) ≤ 60000 := by omega
  have j2 : -1048576 ≤ e + (k : Int) := by omega
  have j3 : e + (k : Int) ≤ 1048576 := by omega
  go_wp2_with fail
  refine (intBitLen w0.heap.size v1 false A 30 w3 HA.out.1 (by omega) HA.out.2 B1.out).mono ?_
  rintro en w4 ⟨r', rfl, r3, r4, rfl⟩
  have R4 := Lib.hid r4
  clear r4
  have hC : ((r' / 30 + 1 : Nat) : Int) = (r' : Int) / 30 + 1 := by omega
  have hmk0 := run_mkI 0 (r' / 30 + 1) (by omega) (by omega) w3
  rw [hC] at hmk0
  have hmk : (Instr.makeSlice 22 (.int .i64 0) (.int .i64 ((r' : Int) / 30 + 1))).run Tryz.prog w3 = .ok (.slice (some ⟨w3.heap.size, 0, none⟩) 0 (r' / 30 + 1)) (w3.alloc (irow (r' / 30 + 1))) := hmk0
  clear hmk0 hC
  go_wp2_with fail
  have hcr := cap_room (A := A) (r := r') R4.out
  generalize r' / 30 + 1 = C at hcr hmk ⊢
  have hD0 : At (w3.alloc (irow C)) w3.heap.size (List.replicate C (Value.int .i64 0)).toArray 3 := At.alloc w3 _ _
  have f4 : Fr w0 (w3.alloc (irow C)) None := F3.out.alloc _
  have b4 : IntV (w3.alloc (irow C)) w0.heap.size v1 false A := (B1.out).keep ((Fr.refl w3 None).alloc _) (fun x => x) (fun _ _ x => x)
  have hdb : w0.heap.size < w3.heap.size := B1.out.1.lt
  have HCR := Lib.hid hcr
  have Q4 := Lib.hid (And.intro hD0 (And.intro f4 (And.intro b4 hdb)))
  have hsz : (w3.alloc (irow C)).heap.size = w3.heap.size + 1 := by simp
  clear hmk hD0 f4 b4 hdb hcr R4 r1 r3 j1
  generalize hdbe : w3.heap.size = db at Q4 hsz ⊢
  generalize w3.alloc (irow C) = w4 at Q4 hsz ⊢
  have hnew := newInt 1073741823 (by unfold I64; omega) w4
  rw [show decide ((1073741823 : Int) < 0) = false from rfl, show (1073741823 : Int).natAbs = 1073741823 from rfl] at hnew
  refine hnew.mono ?_
  clear hnew
  rintro en w5 ⟨mb, mv, rfl, m1, m2, m3, m4⟩
  have I : Hid (TdInv w0 w0.heap.size db mb mv A C (.slice (some ⟨db, 0, none⟩) 0 C) w5) := by
    refine ⟨0, v1, _, rfl, Nat.zero_le _, by simpa using Q4.out.2.2.1.keep m4 (fun x => x) (fun _ _ x => x), fun b hb => ⟨B2.out b hb, ?_⟩, m1, Q4.out.1.keep m4 (fun x => x), by simp, fun q hq => by omega, fun h => by omega, Q4.out.2.1.trans m4 (fun _ h => h) (fun _ _ h => h)⟩
    have hlt : b < w3.heap.size := B1.out.blkLt hb
    rw [hdbe] at hlt
    exact ⟨by omega, by omega, fun h => by have := m3 b h; omega⟩
  have Q5 := Lib.hid (And.intro Q4.out.2.2.2 (And.intro m2 (And.intro m3 hsz)))
  clear m1 m2 m3 m4 hsz Q4 B1 B2 hdbe
  go_wp2_with fail
  go_loopw [6] (fun i wr => TdInv w0 w0.heap.size db mb mv A C i wr) (fun i _ => C - lenS i)
  case atStart => exact I.out
  case round =>
    obtain ⟨j, vj, cs, rfl, hjC, q1, q2, q3, q4, q5, q6, q7, q8⟩ := hrel
    have U1 := Lib.hid q1
    have U := Lib.hid (And.intro q2 (And.intro q3 (And.intro q4 (And.intro q5 (And.intro q6 (And.intro q7 q8))))))
    clear q1 q2 q3 q4 q5 q6 q7 q8
    by_cases c : A / 2 ^ (30 * j) = 0
    · rw [c] at U1
      go_wp2_with fail
      refine (intSign_zero w0.heap.size vj false wr U1.out).mono ?_
      rintro en w6 ⟨rfl, rfl⟩
      have fr : Fr w0 wr None := U.out.2.2.2.2.2.2
      have c5 := (T0.out.keep fr (fun x => x)).cell 0
      have hm5 := (HM.out).keep fr (fun x => x) (fun _ _ x => x)
      have hs5 := intSign_pos m v neg N wr HN.out.1 hm5
      rw [HSG.out] at hs5
      have HS5 := Lib.hid hs5
      have rr := R0.out.keep fr (fun x => x)
      have rc0 := rr.cell 0
      have rc1 := rr.cell 1
      have rc2 := rr.cell 2
      have rf0 := rr.free 0
      have rf1 := rr.free 1
      have rf2 := rr.free 2
      clear hs5 fr hm5 rr
      go_wp2_with fail
      refine (HS5.out).mono ?_
      rintro en w7 ⟨rfl, rfl⟩
      go_wp2_with fail
      have at0 := ((((R0.out).keep U.out.2.2.2.2.2.2 (fun x => x)).put 0 (.bool neg)).put 1 (.slice (some ⟨db, 0, none⟩) j C)).put 2 (.int .i64 (e + (k : Int)))
      have fz0 : Fr wr (((wr.setCell ⟨w.heap.size + 1, 0, none⟩ (.bool neg)).setCell ⟨w.heap.size + 1, 1, none⟩ (.slice (some ⟨db, 0, none⟩) j C)).setCell ⟨w.heap.size + 1, 2, none⟩ (.int .i64 (e + (k : Int)))) (One (w.heap.size + 1)) :=
        (((Fr.refl wr (One (w.heap.size + 1))).setCell (p := ⟨w.heap.size + 1, 0, none⟩) (Or.inl rfl) _).setCell (p := ⟨w.heap.size + 1, 1, none⟩) (Or.inl rfl) _).setCell (p := ⟨w.heap.size + 1, 2, none⟩) (Or.inl rfl) _
      generalize ((wr.setCell ⟨w.heap.size + 1, 0, none⟩ (.bool neg)).setCell ⟨w.heap.size + 1, 1, none⟩ (.slice (some ⟨db, 0, none⟩) j C)).setCell ⟨w.heap.size + 1, 2, none⟩ (.int .i64 (e + (k : Int))) = wz at at0 fz0 ⊢
      have at1 : At wz (w.heap.size + 1) #[.bool neg, .slice (some ⟨db, 0, none⟩) j C, .int .i64 (e + (k : Int))] 24 := at0
      have rlt := (R0.out).lt
      refine bodyPost_ret (results_cell_row rfl _ _ _ _ _ _ _ rfl at1 Tryz.underlying24 rfl (by kernel_rfl)) rfl ?_
      obtain ⟨q2, q3, q4, q5, q6, q7, q8⟩ := U.out
      obtain ⟨g1, g2, g3, g4⟩ := Q5.out
      have s0 := F0.out.size
      have row : At wz db cs 3 := q4.keep fz0 (fun e => by unfold Mem.One at e; omega)
      have fall : Fr w wz None := (F0.out.trans q8 (fun _ h => h) (fun _ _ h => h)).trans fz0 (fun _ h => h) (fun x hx h => by unfold Mem.One at h; omega)
      have hlt : A < 2 ^ (30 * j) := by
        rcases Nat.div_eq_zero_iff.1 c with h | h
        · exact absurd h (Nat.ne_of_gt (Nat.two_pow_pos _))
        · exact h
      have hj64 : j ≤ 64 := by
        rcases Nat.lt_or_ge 64 j with h | h
        · have h2 := two_mono (64 * 30) (30 * (j - 1)) (by omega)
          exact absurd (Nat.div_eq_of_lt (Nat.lt_of_lt_of_le HA.out.2 h2)) (q7 (by omega))
        · exact h
      rw [HAE.out]
      refine ⟨_, j, rfl, Or.inr ⟨db, C, rfl, hjC, row.lt, fun q hq => by rw [row.cell]; exact q6 q hq⟩, ⟨dgt_lt A, fun hj0 => ?_, by omega⟩, by rw [dv_dgt, Nat.mod_eq_of_lt hlt], fun b hb => ?_, fall⟩
      · unfold dgt
        rw [Nat.mod_eq_of_lt ?_]
        · exact q7 hj0
        · refine Nat.div_lt_of_lt_mul ?_
          rw [show (1073741824 : Nat) = 2 ^ 30 from rfl, ← Nat.pow_add, show 30 * (j - 1) + 30 = 30 * j by omega]
          exact hlt
      · obtain ⟨_, _, hb⟩ := hb
        cases hb
        omega
    · have c' : 0 < A / 2 ^ (30 * j) := Nat.pos_of_ne_zero c
      go_wp2_with fail
      refine (intSign_pos w0.heap.size vj false _ wr c' U1.out).mono ?_
      rintro en w6 ⟨rfl, rfl⟩
      have ha : A / 2 ^ (30 * j) < 2 ^ (64 * 30) := Nat.lt_of_le_of_lt (Nat.div_le_self _ _) HA.out.2
      have hd : dgt A j = A / 2 ^ (30 * j) % 1073741824 := rfl
      have hnext : A / 2 ^ (30 * (j + 1)) = A / 2 ^ (30 * j) / 2 ^ 30 := by rw [show 30 * (j + 1) = 30 * j + 30 by omega, Nat.pow_add, Nat.div_div_eq_div_mul]
      have hj1 := HCR.out j c
      have D := Lib.hid (And.intro c' (And.intro ha (And.intro hd (And.intro hnext c))))
      clear c' ha hd hnext c
      generalize hBe : A / 2 ^ (30 * j) = B at U1 D
      have HBE := Lib.hid hBe
      clear hBe
      have f1 : Fr wr (wr.alloc (.cells #[.bool false, .slice none 0 0] 81)) None := (Fr.refl wr None).alloc _
      have z1 : IntV (wr.alloc (.cells #[.bool false, .slice none 0 0] 81)) wr.heap.size (.slice none 0 0) false 0 := ⟨alloc_shell wr false _, Or.inl ⟨rfl, rfl⟩⟩
      have Z := Lib.hid (And.intro f1 z1)
      clear f1 z1
      go_wp2_with fail
      generalize wr.alloc (.cells #[.bool false, .slice none 0 0] 81) = wa at Z ⊢
      refine (intAnd wr.heap.size w0.heap.size mb vj mv false B wa D.out.1 Z.out.2 (U1.out.keep Z.out.1 (fun x => x) (fun _ _ x => x)) (U.out.2.1.keep Z.out.1 (fun x => x) (fun _ _ x => x))).mono ?_
      rintro en wb ⟨rfl, vz, a1, a2, a3⟩
      have f2 : Fr wr wb None := Z.out.1.trans a3 (fun _ h => h) (fun x hx h => h.elim (fun h => by omega) (fun h => (NB.out x h).elim))
      rw [← D.out.2.2.1] at a1
      have hdl := dgt_lt A j
      generalize hde : dgt A j = d at a1 hdl
      have HDE := Lib.hid hde
      clear hde
      have F2 := Lib.hid f2
      clear f2 a2 a3
      go_wp2_with fail
      refine (int64_any wr.heap.size vz d (by omega) wb a1).mono ?_
      rintro en wc ⟨rfl, rfl⟩
      clear a1
      have fd : Fr wr (wb.alloc (.cells #[.int .i64 (d : Int)] 3)) None := F2.out.alloc _
      have n1 := (At.alloc wb #[.int .i64 (d : Int)] 3).cell 0
      have r1 := U.out.2.2.1.keep fd (fun x => x)
      have hcs : j < cs.size := by rw [U.out.2.2.2.1]; omega
      have happ := run_appI (wb.alloc (.cells #[.int .i64 (d : Int)] 3)) db j C wb.heap.size d hj1 (by rw [r1.cell, Array.getElem?_eq_getElem hcs]; rfl) (r1.free j) n1 22
      have FD := Lib.hid fd
      have R1 := Lib.hid (And.intro r1 hcs)
      clear fd n1 r1 hcs
      go_wp2_with (refine wpList_appI _ _ rfl _ _ rfl _ _ _ rfl rfl happ ?_)
      obtain ⟨r1, hcs⟩ := R1.out
      obtain ⟨g1, g2, g3, g4⟩ := Q5.out
      obtain ⟨q2, q3, q4, q5, q6, q7, q8⟩ := U.out
      have sdb : Fr (wb.alloc (.cells #[.int .i64 (d : Int)] 3)) ((wb.alloc (.cells #[.int .i64 (d : Int)] 3)).setCell ⟨db, j, none⟩ (.int .i64 (d : Int))) (One db) := (Fr.refl _ (One db)).setCell (p := ⟨db, j, none⟩) (Or.inl rfl) _
      have fe : Fr wr ((wb.alloc (.cells #[.int .i64 (d : Int)] 3)).setCell ⟨db, j, none⟩ (.int .i64 (d : Int))) (One db) := FD.out.trans sdb (fun _ h => h.elim) (fun _ _ h => h)
      have row : At ((wb.alloc (.cells #[.int .i64 (d : Int)] 3)).setCell ⟨db, j, none⟩ (.int .i64 (d : Int))) db (cs.setIfInBounds j (.int .i64 (d : Int))) 3 := r1.put j _
      have m5 : IntV ((wb.alloc (.cells #[.int .i64 (d : Int)] 3)).setCell ⟨db, j, none⟩ (.int .i64 (d : Int))) mb mv false 1073741823 := q3.keep fe (fun e => by cases e; omega) (fun b hb e => by cases e; have := g3 _ hb; omega)
      have x5 : IntV ((wb.alloc (.cells #[.int .i64 (d : Int)] 3)).setCell ⟨db, j, none⟩ (.int .i64 (d : Int))) w0.heap.size vj false B := U1.out.keep fe (fun e => by cases e; omega) (fun b hb e => (q2 b hb).2.1 e)
      have E5 := Lib.hid (And.intro fe (And.intro row (And.intro m5 x5)))
      clear r1 hcs g1 g2 g3 g4 q2 q3 q4 q5 q6 q7 q8 sdb fe row m5 x5 happ
      generalize (wb.alloc (.cells #[.int .i64 (d : Int)] 3)).setCell ⟨db, j, none⟩ (.int .i64 (d : Int)) = we at E5 ⊢
      have hl : Calls Tryz.prog 70 #[vj, vj, .int .u64 30] we.drew (NatPost (Blk vj) (B / 2 ^ 30) we.drew) :=
        rsh_any vj vj 0 30 30 (by omega) (by omega) (by omega) we.drew B B (E5.out.2.2.2.2.drewN 1) (E5.out.2.2.2.2.drewN 1) D.out.2.1 (by rw [Nat.mul_zero, Nat.pow_zero]; exact D.out.1)
      refine (intRsh w0.heap.size w0.heap.size vj vj false B B (B / 2 ^ 30) 30 we E5.out.2.2.2 E5.out.2.2.2 hl).mono ?_
      clear hl
      rintro en wf ⟨rfl, v', b1, b2, b3⟩
      have R : Hid (TdInv w0 w0.heap.size db mb mv A C (.slice (some ⟨db, 0, none⟩) (j + 1) C) wf) := by
        obtain ⟨fe, row, m5, x5⟩ := E5.out
        obtain ⟨g1, g2, g3, g4⟩ := Q5.out
        obtain ⟨q2, q3, q4, q5, q6, q7, q8⟩ := U.out
        have mlt := m5.1.lt
        have dlt := row.lt
        refine ⟨j + 1, v', _, rfl, hj1, by rw [D.out.2.2.2.1]; exact b1, fun b hb => ?_, m5.keep b3 (fun h => h.elim (fun h => by omega) (fun h => (q2 _ h).2.2.1 rfl)) (fun b hb h => h.elim (fun h => by have := g3 b hb; omega) (fun h => (q2 b h).2.2.2 hb)),
          row.keep b3 (fun h => h.elim (fun h => by omega) (fun h => (q2 _ h).2.1 rfl)), by rw [Array.size_setIfInBounds]; exact q5, fun q hq => ?_, fun _ => by rw [Nat.add_sub_cancel, HBE.out]; exact D.out.2.2.2.2,
          (q8.trans fe (fun _ h => h) (fun x hx h => by cases h; omega)).trans b3 (fun _ h => h) (fun x hx h => h.elim (fun h => by omega) (fun h => by have := (q2 x h).1; omega))⟩
        · rcases b2 b hb with h | h
          · exact q2 b h
          · have hs := (q8.trans fe (U := fun _ => True) (fun _ _ => trivial) (fun _ _ _ => trivial)).size
            exact ⟨by omega, by omega, by omega, fun k => by have := m5.blkLt k; omega⟩
        · by_cases e' : q = j
          · subst e'
            rw [HDE.out]
            simp [R1.out.2]
          · rw [Array.getElem?_setIfInBounds, if_neg (fun h => e' h.symm)]
            exact q6 q (by omega)
      clear b1 b2 b3
      go_wp2_with fail
      go_roundw
      case rel => exact R.out
      case measure => simp [lenS]; omega
end Go.Proofs.YtgmebioogkmfgaaGreatDoor
