/- Rows of values; Lent, Back, Same of the statements. Condition: it stands in each fact. -/
import Derived.Test.YtgmebioogkmfgaaGreatDoorQ8
import Derived.Lib.AppendZerosOnto
namespace Go.Mem
open Go.RowKit

theorem At.setCells {t b : Nat} : ∀ (l : List Value) (o : Nat) {w : World} {cs : Array Value}, At w b cs t →
    ∃ cs' : Array Value, At (w.setCells b o l) b cs' t ∧ cs'.size = cs.size ∧ (∀ j, j < o → cs'[j]? = cs[j]?) ∧ (∀ j, j < l.length → o + j < cs.size → cs'[o + j]? = l[j]?) ∧ Fr w (w.setCells b o l) (One b)
  | [], o, w, cs, h => ⟨cs, h, rfl, fun _ _ => rfl, fun j hj => by simp at hj, Fr.refl _ _⟩
  | v :: r, o, w, cs, h => by
    obtain ⟨cs', h1, h2, h3, h4, h5⟩ := At.setCells r (o + 1) (h.put o v)
    rw [Array.size_setIfInBounds] at h2 h4
    refine ⟨cs', h1, h2, fun j hj => ?_, fun j hj hlt => ?_, ?_⟩
    · rw [h3 j (by omega), Array.getElem?_setIfInBounds, if_neg (by omega)]
    · rcases j with _ | j
      · rw [Nat.add_zero, h3 o (by omega), Array.getElem?_setIfInBounds, if_pos rfl, if_pos (by omega)]; rfl
      · have := h4 j (by simpa using hj) (by omega)
        rw [show o + (j + 1) = o + 1 + j by omega, this]; rfl
    · exact ((Fr.refl w (One b)).setCell (p := ⟨b, o, none⟩) (Or.inl rfl) v).trans h5 (fun _ h => h) (fun _ _ h => h)

/-- v is a slice of n values of type t in memory that was made since (nil, or a block from base on). -/
def VRow (w : World) (v : Value) (n : Nat) (X : Nat → Value) (t base : Nat) : Prop :=
  (v = .slice none 0 0 ∧ n = 0) ∨ ∃ b cap cs, v = .slice (some ⟨b, 0, none⟩) n cap ∧ n ≤ cap ∧ base ≤ b ∧ At w b cs t ∧ cs.size = cap ∧ ∀ j, j < n → cs[j]? = some (X j)
theorem VRow.nil (w : World) (X : Nat → Value) (t base : Nat) : VRow w (.slice none 0 0) 0 X t base := Or.inl ⟨rfl, rfl⟩
theorem VRow.keepS {w w' : World} {v : Value} {n t base : Nat} {X : Nat → Value} {S : Nat → Prop} (h : VRow w v n X t base) (f : Fr w w' S) (hn : ∀ b, Blk v b → ¬ S b) : VRow w' v n X t base := by
  rcases h with h | ⟨b, cap, cs, rfl, h1, h2, h3, h4⟩
  · exact Or.inl h
  · exact Or.inr ⟨b, cap, cs, rfl, h1, h2, h3.keep f (hn b ⟨_, _, rfl⟩), h4⟩
theorem VRow.keep {w w' : World} {v : Value} {n t base : Nat} {X : Nat → Value} (h : VRow w v n X t base) (f : Fr w w' None) : VRow w' v n X t base := h.keepS f (fun _ _ x => x)
theorem VRow.congr {w : World} {v : Value} {n t base : Nat} {X Y : Nat → Value} (h : VRow w v n X t base) (e : ∀ j, j < n → X j = Y j) : VRow w v n Y t base := by
  rcases h with h | ⟨b, cap, cs, rfl, h1, h2, h3, h4, h5⟩
  · exact Or.inl h
  · exact Or.inr ⟨b, cap, cs, rfl, h1, h2, h3, h4, fun j hj => by rw [← e j hj]; exact h5 j hj⟩
theorem VRow.shape {w : World} {v : Value} {n t base : Nat} {X : Nat → Value} (h : VRow w v n X t base) : ∃ a c, v = .slice a n c := by
  rcases h with ⟨rfl, rfl⟩ | ⟨b, cap, cs, rfl, _⟩
  · exact ⟨_, _, rfl⟩
  · exact ⟨_, _, rfl⟩
theorem VRow.lt {w : World} {v : Value} {n t base b : Nat} {X : Nat → Value} (h : VRow w v n X t base) (hb : Blk v b) : b < w.heap.size ∧ base ≤ b := by
  obtain ⟨l, c, rfl⟩ := hb
  rcases h with ⟨h, _⟩ | ⟨b', cap, cs, e, h1, h2, h3, h4, h5⟩
  · cases h
  · cases e; exact ⟨h3.lt, h2⟩
/-- A row of another type lies elsewhere. -/
theorem VRow.apart {w : World} {v : Value} {n t base b t' : Nat} {X : Nat → Value} {cs' : Array Value} (h : VRow w v n X t base) (ht : t ≠ t') (k : At w b cs' t') : ¬ Blk v b := by
  rintro ⟨l, c, rfl⟩
  rcases h with ⟨h, _⟩ | ⟨b', cap, cs, e, h1, h2, h3, h4, h5⟩
  · cases h
  · cases e
    have := h3.symm.trans k
    injection this with this
    injection this with _ h6
    exact ht h6

/-- The one behind the other. -/
def cat (X : Nat → Value) (n : Nat) (Y : Nat → Value) (j : Nat) : Value := if j < n then X j else Y (j - n)
end Go.Mem
namespace Go.Proofs.YtgmebioogkmfgaaGreatDoor
open Go.RowKit Go.Pt Go.Mem

theorem mul_small {m bs : Nat} (h : m ≤ 200000) (hb : bs ≤ 64) : m * bs ≤ 12800000 := Nat.mul_le_mul h hb

/-- What an append leaves. -/
def AppPost (w0 w : World) (v : Value) (n m : Nat) (X Z : Nat → Value) (t : Nat) (v' : Value) (w' : World) : Prop :=
  ∃ b' c', v' = .slice (some ⟨b', 0, none⟩) (n + m) c' ∧ VRow w' v' (n + m) Z t w0.heap.size ∧ VRow w' v n X t w0.heap.size ∧ Fr w0 w' None ∧ Fr w w' (Blk v) ∧ (Blk v b' ∨ w.heap.size ≤ b')

theorem app_room {w w0 : World} {b n m cap t : Nat} {X Z : Nat → Value} {cs : Array Value} (hb : w0.heap.size ≤ b) (hat : At w b cs t) (hsz : cs.size = cap) (hx : ∀ j, j < n → cs[j]? = some (X j)) (hf : Fr w0 w None) (hroom : n + m ≤ cap) (news : List Value) (hl : news.length = m)
    (hz : ∀ j, j < n + m → some (Z j) = if j < n then some (X j) else news[j - n]?) :
    AppPost w0 w (.slice (some ⟨b, 0, none⟩) n cap) n m X Z t (.slice (some ⟨b, 0, none⟩) (n + m) cap) (w.setCells b n news) := by
  obtain ⟨cs', k1, k2, k3, k4, k5⟩ := hat.setCells news n
  refine ⟨b, cap, rfl, Or.inr ⟨b, cap, cs', rfl, hroom, hb, k1, by omega, fun j hj => ?_⟩, Or.inr ⟨b, cap, cs', rfl, by omega, hb, k1, by omega, fun j hj => by rw [k3 j hj]; exact hx j hj⟩,
    hf.trans k5 (fun _ h => h) (fun x hx h => by unfold Mem.One at h; omega), k5.mono (fun x _ h => by unfold Mem.One at h; subst h; exact ⟨_, _, rfl⟩), Or.inl ⟨_, _, rfl⟩⟩
  rw [hz j hj]
  split
  · rename_i c; rw [k3 j c]; exact hx j c
  · have := k4 (j - n) (by omega) (by omega)
    rw [show n + (j - n) = j by omega] at this
    exact this

theorem app_grow {w w0 : World} {v : Value} {n m t c' : Nat} {X Z : Nat → Value} {cs : Array Value} (h : VRow w v n X t w0.heap.size) (hf : Fr w0 w None) (hc : n + m ≤ c') (hsz : cs.size = c') (hz : ∀ j, j < n + m → cs[j]? = some (Z j)) :
    AppPost w0 w v n m X Z t (.slice (some ⟨w.heap.size, 0, none⟩) (n + m) c') (w.drew.alloc (.cells cs t)) := by
  have f1 : Fr w (w.drew.alloc (.cells cs t)) None := (Fr.refl w None).drew.alloc _
  exact ⟨w.heap.size, c', rfl, Or.inr ⟨w.heap.size, c', cs, rfl, hc, hf.size, At.alloc w.drew _ _, hsz, hz⟩, h.keep f1, hf.trans f1 (fun _ h => h) (fun _ _ h => h), f1.mono (fun _ _ h => h.elim), Or.inr (Nat.le_refl _)⟩

theorem app_vals {ts t bs : Nat} {z : Value} (hu : Tryz.prog.underlying ts = some (.slice t)) (hinfo : (Tryz.prog.info? t).map (fun i => (i.zero, i.size, i.bytes)) = some (some z, 1, bs)) (hbs : bs ≤ 64) (hzc : z.cells.size = 1)
    {w w0 : World} {v : Value} {n m c : Nat} {X Y : Nat → Value} {p : Addr} (h : VRow w v n X t w0.heap.size) (hf : Fr w0 w None) (hm : 0 < m) (hy : ∀ j, j < m → w.cell? (p.add j) = some (Y j)) (h1 : ∀ j, (Y j).oneCell' = true) (hlen : n + m ≤ 200000) (ty : Nat) :
    ∃ v' w', (Builtin.append_ #[ts, ts] ty #[v, .slice (some p) m c]).run Tryz.prog w = .ok v' w' ∧ AppPost w0 w v n m X (cat X n Y) t v' w' := by
  obtain ⟨i0, hi, hz0, hz1, hz2⟩ := info_parts hinfo
  have hnews : ∀ j u, ((List.range m).map Y)[j]? = some u → w.cell? (p.add j) = some u := by
    intro j u hu
    have hj : j < m := by
      have := (List.getElem?_eq_some_iff.1 hu).1
      simpa using this
    rw [hy j hj]
    simpa [hj] using hu
  have hl : ((List.range m).map Y).length = m * i0.size := by rw [hz1]; simp
  have hget : ∀ j, j < m → ((List.range m).map Y)[j]? = some (Y j) := fun j hj => by simp [hj]
  have h' := h
  rcases h with ⟨rfl, rfl⟩ | ⟨b, cap, cs, rfl, g1, g2, g3, g4, g5⟩
  · have hr := run_append_nil (P := Tryz.prog) w ts ty t i0 z hu hi hz0 p m c _ hl hnews hm (by omega) (by rw [hz2]; have := mul_small (m := m) (by omega) hbs; omega)
    have hge := grownCap_ge w m 0 t
    refine ⟨_, _, hr, ?_⟩
    have := app_grow (m := m) (c' := grownCap w m 0 t) (cs := ((List.range m).map Y).toArray ++ Builtin.zeroCells z.cells (grownCap w m 0 t - m)) (Z := cat X 0 Y) h' hf (by omega)
      (by rw [Array.size_append, size_zeroCells, hzc]; simp; omega)
      (fun j hj => by
        rw [Array.getElem?_append_left (by simp; omega)]
        unfold cat
        rw [if_neg (by omega)]
        simpa using hget j (by omega))
    rw [Nat.zero_add] at this
    exact this
  · by_cases hroom : n + m ≤ cap
    · have hr := run_append_room_cells (P := Tryz.prog) w ts ty t i0 hu hi b 0 n cap p m c _ hl hnews (by intro u hu; simp at hu; obtain ⟨j, _, rfl⟩ := hu; exact h1 j) hroom
        (by
          intro j hj
          rw [hz1, Nat.zero_add, Nat.mul_one, g3.cell, Array.getElem?_eq_getElem (by simp at hj; omega)]
          rfl)
        (fun j _ => g3.free _)
      rw [hz1, Nat.zero_add, Nat.mul_one] at hr
      exact ⟨_, _, hr, app_room g2 g3 g4 g5 hf hroom _ (by simp) (fun j hj => by
        unfold cat
        split
        · rfl
        · rw [hget (j - n) (by omega)])⟩
    · have hr := run_append_grow (P := Tryz.prog) w ts ty t i0 z hu hi hz0 ⟨b, 0, none⟩ n cap (cs.toList.take n) (by rw [hz1, List.length_take, Array.length_toList]; omega)
        (fun j u hj => by
          have hjn : j < n := by
            have := (List.getElem?_eq_some_iff.1 hj).1
            rw [List.length_take] at this
            omega
          have hadd : (⟨b, 0, none⟩ : Addr).add j = ⟨b, j, none⟩ := by unfold Addr.add; split <;> simp_all
          rw [hadd, g3.cell]
          rw [List.getElem?_take, if_pos hjn] at hj
          simpa using hj)
        p m c _ hl hnews (by omega) (by omega) (growslice_fits (by omega) (by rw [hz2]; have := mul_small (m := n + m) (by omega) hbs; omega))
      have hge := grownCap_ge w (n + m) cap t
      refine ⟨_, _, hr, app_grow h' hf hge ?_ fun j hj => ?_⟩
      · rw [Array.size_append, Array.size_append, size_zeroCells, hzc]
        simp
        omega
      · rw [Array.getElem?_append_left (by simp; omega)]
        unfold cat
        split
        · rename_i c9
          rw [Array.getElem?_append_left (by simp; omega)]
          have := g5 j c9
          simp [c9]
          simpa using this
        · rename_i c9
          rw [Array.getElem?_append_right (by simp; omega)]
          have := hget (j - n) (by omega)
          simp only [List.size_toArray, List.length_take, Array.length_toList]
          rw [show min n cs.size = n by omega]
          simpa using this

/-- append of as many zeros as a number says. -/
theorem app_zeros {w w0 : World} {v : Value} {n g : Nat} {X : Nat → Value} (h : VRow w v n X 3 w0.heap.size) (hf : Fr w0 w None) (hg : 0 < g) (hlen : n + g ≤ 200000) (ty : Nat) :
    ∃ v' w', (Builtin.append_ #[22, 3] ty #[v, .int .i64 (g : Int)]).run Tryz.prog w = .ok v' w' ∧ AppPost w0 w v n g X (cat X n fun _ => .int .i64 0) 3 v' w' := by
  obtain ⟨i0, hi, hz0, hz1, hz2⟩ := info_parts infoN
  have hzero : ∀ k, Builtin.zeroCells (Value.int .i64 0).cells k = (List.replicate k (Value.int .i64 0)).toArray := fun k => by
    rw [show (Value.int .i64 0).cells = #[Value.int .i64 0] from rfl]
    apply Array.ext
    · simp [Builtin.zeroCells]
    · intro j h1 h2
      simp [Builtin.zeroCells, Nat.mod_one]
  have hget : ∀ j k, j < k → (List.replicate k (Value.int .i64 0))[j]? = some (.int .i64 0) := fun j k hj => by simp [hj]
  have hgetA : ∀ j k, j < k → (Array.replicate k (Value.int .i64 0))[j]? = some (.int .i64 0) := fun j k hj => by simp [hj]
  have h' := h
  rcases h with ⟨rfl, rfl⟩ | ⟨b, cap, cs, rfl, g1, g2, g3, g4, g5⟩
  · have hr := Lib.run_append_nil_zeros (P := Tryz.prog) (ty := ty) w 22 3 3 i0 (.int .i64 0) .i64 .i64 Tryz.underlying22 Tryz.underlying3 hi hz0 g hg (by rw [hz1]; omega) (by omega) (by rw [hz2]; omega)
    have hge := grownCap_ge w g 0 3
    refine ⟨_, _, hr, ?_⟩
    rw [hzero, hzero]
    have := app_grow (m := g) (c' := grownCap w g 0 3) (cs := (List.replicate g (Value.int .i64 0)).toArray ++ (List.replicate (grownCap w g 0 3 - g) (Value.int .i64 0)).toArray) (Z := cat X 0 fun _ => .int .i64 0) h' hf (by omega)
      (by rw [Array.size_append]; simp; omega)
      (fun j hj => by
        rw [Array.getElem?_append_left (by simp; omega)]
        unfold cat
        rw [if_neg (by omega)]
        simpa using hgetA j g (by omega))
    rw [Nat.zero_add] at this
    exact this
  · by_cases hroom : n + g ≤ cap
    · have hst := run_storeCells_cells (P := Tryz.prog) b n (List.replicate g (Value.int .i64 0)) 0 w
        (by intro j hj; rw [Nat.add_zero, g3.cell, Array.getElem?_eq_getElem (by simp at hj; omega)]; rfl) (by intro j _; exact g3.free _) (by intro u hu; simp at hu; obtain ⟨_, rfl⟩ := hu; rfl)
      have hr : (Builtin.append_ #[22, 3] ty #[.slice (some ⟨b, 0, none⟩) n cap, .int .i64 (g : Int)]).run Tryz.prog w = .ok (.slice (some ⟨b, 0, none⟩) (n + g) cap) (w.setCells b n (List.replicate g (Value.int .i64 0))) := by
        have hw : IntKind.i64.wrap (g : Int) = g := by rw [IntKind.wrap_i64]; omega
        have hneg : ¬ ((g : Int) < 0) := by omega
        have h48i : ¬ (281474976710656 < (g : Int) * 8) := by omega
        have hk : g ≠ 0 := by omega
        simp only [Nat.add_zero] at hst
        simp [Builtin.append_, run_underlying Tryz.underlying22, run_underlying Tryz.underlying3, sizeOf, typeInfo, zeroValue, hi, hz0, hz1, hz2, asInt, asIntOf, hw, hneg, h48i, hk, hroom, hzero, Addr.add_lit, hst]
      exact ⟨_, _, hr, app_room g2 g3 g4 g5 hf hroom _ (by simp) (fun j hj => by
        unfold cat
        split
        · rfl
        · rw [hget (j - n) g (by omega)])⟩
    · have hfo := run_firstCells_some (P := Tryz.prog) w.drew 1 n ⟨b, 0, none⟩ n cap (cs.toList.take n) (by rw [List.length_take, Array.length_toList]; omega)
        (fun j u hj => by
          have hjn : j < n := by
            have := (List.getElem?_eq_some_iff.1 hj).1
            rw [List.length_take] at this
            omega
          have hadd : (⟨b, 0, none⟩ : Addr).add j = ⟨b, j, none⟩ := by unfold Addr.add; split <;> simp_all
          rw [hadd, World.cell?_drew, g3.cell]
          rw [List.getElem?_take, if_pos hjn] at hj
          simpa using hj)
      have hr := Lib.run_append_grow_zeros (P := Tryz.prog) (ty := ty) w 22 3 3 i0 (.int .i64 0) .i64 .i64 Tryz.underlying22 Tryz.underlying3 hi hz0 (some ⟨b, 0, none⟩) n cap (cs.toList.take n) (by rw [hz1]; exact hfo) g hg (by rw [hz1]; omega) (by omega) (by omega) (by rw [hz2]; omega)
        (growslice_fits (by omega) (by rw [hz2]; omega))
      have hge := grownCap_ge w (n + g) cap 3
      rw [hzero, hzero] at hr
      refine ⟨_, _, hr, app_grow h' hf hge ?_ fun j hj => ?_⟩
      · rw [Array.size_append, Array.size_append]
        simp
        omega
      · rw [Array.getElem?_append_left (by simp; omega)]
        unfold cat
        split
        · rename_i c9
          rw [Array.getElem?_append_left (by simp; omega)]
          have := g5 j c9
          simp [c9]
          simpa using this
        · rename_i c9
          rw [Array.getElem?_append_right (by simp; omega)]
          have := hgetA (j - n) g (by omega)
          simp only [List.size_toArray, List.length_take, Array.length_toList]
          rw [show min n cs.size = n by omega]
          simpa using this

/-- Nothing appended to nil. -/
theorem app_none (a : Option Addr) (c : Nat) (w : World) (ty : Nat) : (Builtin.append_ #[22, 22] ty #[.slice none 0 0, .slice a 0 c]).run Tryz.prog w = .ok (.slice none 0 0) w := by
  obtain ⟨i0, hi, hz0, hz1, hz2⟩ := info_parts infoN
  cases a <;> simp [Builtin.append_, run_underlying Tryz.underlying22, sizeOf, typeInfo, hi, Builtin.lenOf, Builtin.firstCells, loadCells, loadCellsFrom]
end Go.Proofs.YtgmebioogkmfgaaGreatDoor

namespace Go.Proofs.YtgmebioogkmfgaaGreatDoor
open Go.RowKit Go.Pt Go.Mem

/-- A slice of ints that was handed in. -/
def InV (w : World) (v : Value) (n : Nat) (x : Nat → Int) : Prop :=
  ∃ a cap, v = .slice a n cap ∧ ∀ j, j < n → ∃ b off, a = some ⟨b, off, none⟩ ∧ b < w.heap.size ∧ w.cell? ⟨b, off + j, none⟩ = some (.int .i64 (x j))
theorem InV.keep {w w' : World} {v : Value} {n : Nat} {x : Nat → Int} (h : InV w v n x) (f : Fr w w' None) : InV w' v n x := by
  obtain ⟨a, cap, rfl, h⟩ := h
  refine ⟨a, cap, rfl, fun j hj => ?_⟩
  obtain ⟨b, off, rfl, h1, h2⟩ := h j hj
  exact ⟨b, off, rfl, Nat.lt_of_lt_of_le h1 f.size, by rw [f.cell (p := ⟨b, off + j, none⟩) h1 (fun x => x)]; exact h2⟩

/-- The low 30 bits. -/
def low30 (x : Nat → Int) (j : Nat) : Nat := (x j % 1073741824).toNat
theorem low30_lt (x : Nat → Int) (j : Nat) : low30 x j < 1073741824 := by unfold low30; omega
theorem and_30i (x : Nat → Int) (j : Nat) : bits .and .i64 (x j) 1073741823 = ((low30 x j : Nat) : Int) := by
  rw [show (1073741823 : Int) = ((2 ^ 30 - 1 : Nat) : Int) from rfl, and_mask_aux _ 30 (by omega)]
  unfold low30
  omega

/-- A number of at most 900 bits. -/
def Small (A : Nat) : Prop := ∃ b, b ≤ 900 ∧ A < 2 ^ b
def AnyNum (w : World) (en : Ending) (w' : World) : Prop :=
  ∃ x ng A E, en = .returned x ∧ NumV w' x ng A E ∧ Small A ∧ -3000 ≤ E ∧ E ≤ 3900 ∧ Fr w w' None

theorem tmod_3000 (e : Int) : -3000 ≤ Int.tmod e 3000 ∧ Int.tmod e 3000 ≤ 3000 := by
  have h := Int.natAbs_tmod e 3000
  have h2 : (3000 : Int).natAbs = 3000 := rfl
  rw [h2] at h
  have h3 := Nat.mod_lt e.natAbs (show 0 < 3000 by omega)
  omega

end Go.Proofs.YtgmebioogkmfgaaGreatDoor

namespace Go.Proofs.YtgmebioogkmfgaaGreatDoor
open Go.RowKit Go.Pt Go.Mem

theorem _root_.Go.Mem.VRow.inV {w : World} {v : Value} {n base : Nat} {x : Nat → Int} (h : VRow w v n (fun j => .int .i64 (x j)) 3 base) : InV w v n x := by
  rcases h with ⟨rfl, rfl⟩ | ⟨b, cap, cs, rfl, h1, h2, h3, h4, h5⟩
  · exact ⟨_, _, rfl, fun j hj => by omega⟩
  · exact ⟨_, _, rfl, fun j hj => ⟨b, 0, rfl, h3.lt, by rw [Nat.zero_add, h3.cell]; exact h5 j hj⟩⟩
theorem IRow.vrow {w : World} {v : Value} {n base : Nat} {x : Nat → Nat} (h : IRow w v n x base) : VRow w v n (fun j => .int .i64 ((x j : Nat) : Int)) 3 base := h
theorem InV.congr {w : World} {v : Value} {n : Nat} {x y : Nat → Int} (h : InV w v n x) (e : ∀ j, j < n → x j = y j) : InV w v n y := by
  obtain ⟨a, cap, rfl, h⟩ := h
  exact ⟨a, cap, rfl, fun j hj => by rw [← e j hj]; exact h j hj⟩

set_option maxRecDepth 100000 in
set_option maxHeartbeats 4000000 in
theorem same_drawn (v u : Value) (n : Nat) (x : Nat → Int) (w : World) (hn : n ≤ 100000) (hv : InV w v n x) (hu : InV w u n x) :
    Calls Tryz.prog 26 #[v, u] w fun e w' => e = .returned (.bool true) ∧ ∃ q, w' = w.drewN q := by
  obtain ⟨va, vc, rfl, hva⟩ := hv
  obtain ⟨ua, uc, rfl, hua⟩ := hu
  have HV := Lib.hid (And.intro hva hua)
  clear hva hua
  go_enter Tryz.func26, Tryz.ntmps26
  go_wp2
  go_loopw [5] (fun i wr => ∃ k : Nat, k ≤ n ∧ i = .int .i64 (k : Int) ∧ ∃ q, wr = w.drewN q) (fun i _ => n - (intOf i).toNat)
  case atStart => exact ⟨0, Nat.zero_le _, rfl, 0, rfl⟩
  case round =>
    obtain ⟨k, hk, rfl, q, rfl⟩ := hrel
    by_cases c : k < n
    · obtain ⟨b1, o1, rfl, b2, b3⟩ := HV.out.1 k c
      obtain ⟨d1, o2, rfl, d2, d3⟩ := HV.out.2 k c
      generalize x k = d at b3 d3
      have i0 : (k : Int) < (n : Int) := by omega
      have i9 : (k : Int) < 100000 := by omega
      go_wp2_with fail
      go_quiet (fail)
      go_wp2_with fail
      go_roundw
      case rel => exact ⟨k + 1, by omega, by push_cast; rfl, _, rfl⟩
      case measure => simp [intOf]; omega
    · obtain rfl : k = n := by omega
      go_wp2_with fail
      go_ret
      exact ⟨rfl, q, rfl⟩
theorem same_ints (v u : Value) (n : Nat) (x : Nat → Int) (w : World) (hn : n ≤ 100000) (hv : InV w v n x) (hu : InV w u n x) :
    Calls Tryz.prog 26 #[v, u] w fun e w' => e = .returned (.bool true) ∧ Fr w w' None :=
  (same_drawn v u n x w hn hv hu).mono fun _ _ ⟨h, q, hq⟩ => ⟨h, by rw [hq]; exact (Fr.refl w None).drewN q⟩

set_option maxRecDepth 100000 in
set_option maxHeartbeats 4000000 in
theorem same_agg (v u : Value) (neg : Bool) (n : Nat) (x : Nat → Int) (E : Int) (w : World) (hn : n ≤ 100000) (hv : InV w v n x) (hu : InV w u n x) :
    Calls Tryz.prog 10 #[.agg #[.bool neg, v, .int .i64 E], .agg #[.bool neg, u, .int .i64 E]] w fun e w' => e = .returned (.bool true) ∧ Fr w w' None := by
  have f0 := ((Fr.refl w None).alloc (.cells #[.bool neg, v, .int .i64 E] 24)).alloc (.cells #[.bool neg, u, .int .i64 E] 24)
  have hs := same_ints v u n x _ hn (hv.keep f0) (hu.keep f0)
  have HS := Lib.hid hs
  have F0 := Lib.hid f0
  obtain ⟨va, vc, rfl, _⟩ := hv
  obtain ⟨ua, uc, rfl, _⟩ := hu
  clear hs f0
  go_enter Tryz.func10, Tryz.ntmps10
  cases neg
  · go_wp2_with fail
    refine (HS.out).mono ?_
    rintro e w1 ⟨rfl, f1⟩
    have F1 := Lib.hid (F0.out.trans f1 (fun _ h => h) (fun _ _ h => h))
    clear f1
    go_wp2_with fail
    go_ret
    exact ⟨rfl, F1.out⟩
  · go_wp2_with fail
    refine (HS.out).mono ?_
    rintro e w1 ⟨rfl, f1⟩
    have F1 := Lib.hid (F0.out.trans f1 (fun _ h => h) (fun _ _ h => h))
    clear f1
    go_wp2_with fail
    go_ret
    exact ⟨rfl, F1.out⟩

/-- A list of n ints and three marks behind it. -/
def marked (x : Nat → Int) (n j : Nat) : Int := if j < n then x j else -71 - ((j - n : Nat) : Int)

/-- What Lent gives. -/
def LentPost (n : Nat) (x : Nat → Int) (w : World) (e : Ending) (w' : World) : Prop :=
  ∃ b cap, e = .returned (.slice (some ⟨b, 0, none⟩) (n + 3) cap) ∧ VRow w' (.slice (some ⟨b, 0, none⟩) (n + 3) cap) (n + 3) (fun j => .int .i64 (marked x n j)) 3 w.heap.size ∧ n + 3 ≤ cap ∧ w.heap.size ≤ b ∧ Fr w w' None

theorem app_arg {w : World} {a : Option Addr} {n c : Nat} {x : Nat → Int} (h : InV w (.slice a n c) n x) (hn : n ≤ 100000) (ty : Nat) :
    ∃ v' w', (Builtin.append_ #[22, 22] ty #[.slice none 0 0, .slice a n c]).run Tryz.prog w = .ok v' w' ∧ VRow w' v' n (fun j => .int .i64 (x j)) 3 w.heap.size ∧ Fr w w' None := by
  rcases Nat.eq_zero_or_pos n with rfl | hp
  · exact ⟨_, _, app_none a c w ty, VRow.nil _ _ _ _, Fr.refl _ _⟩
  · obtain ⟨a', c', e, hin⟩ := h
    cases e
    obtain ⟨b, off, rfl, hb, _⟩ := hin 0 hp
    obtain ⟨v', w', hr, b', c2, rfl, h1, h2, h3, h4, h5⟩ := app_vals (c := c) Tryz.underlying22 infoN (by omega) rfl (w := w) (w0 := w) (v := .slice none 0 0) (n := 0) (m := n) (X := fun _ => .int .i64 0) (Y := fun j => .int .i64 (x j)) (p := ⟨b, off, none⟩) (VRow.nil _ _ _ _) (Fr.refl _ _) hp
      (fun j hj => by
        obtain ⟨b2, off2, e2, _, h2⟩ := hin j hj
        cases e2
        rw [Addr.add_lit]
        exact h2) (fun _ => rfl) (by omega) ty
    rw [Nat.zero_add] at h1 hr
    exact ⟨_, _, hr, h1.congr (fun j _ => by unfold cat; rw [if_neg (by omega), Nat.sub_zero]), h3⟩

set_option maxRecDepth 100000 in
set_option maxHeartbeats 4000000 in
theorem lent_ok (v : Value) (n : Nat) (x : Nat → Int) (w : World) (hn : n ≤ 100000) (h : InV w v n x) :
    Calls Tryz.prog 35 #[v] w (LentPost n x w) := by
  have h0 := h
  obtain ⟨a, c, rfl, hin⟩ := h
  obtain ⟨v1, w1, hr1, k1, k2⟩ := app_arg h0 hn 22
  have f2 : Fr w (w1.alloc (.cells #[.int .i64 (-71), .int .i64 (-72), .int .i64 (-73)] 3)) None := k2.alloc _
  have hat := At.alloc w1 #[.int .i64 (-71), .int .i64 (-72), .int .i64 (-73)] 3
  obtain ⟨v2, w2, hr2, b', c2, rfl, h1, _, h3, _, h5⟩ := app_vals (c := 3) Tryz.underlying22 infoN (by omega) rfl (w := w1.alloc (.cells #[.int .i64 (-71), .int .i64 (-72), .int .i64 (-73)] 3)) (w0 := w) (v := v1) (n := n) (m := 3) (X := fun j => .int .i64 (x j)) (Y := fun j => .int .i64 (-71 - ((j : Nat) : Int))) (p := ⟨w1.heap.size, 0, none⟩) (k1.keep ((Fr.refl w1 None).alloc _)) f2 (by omega)
    (fun j hj => by
      rw [Addr.add_lit, Nat.zero_add, hat.cell]
      rcases j with _ | _ | _ | j
      · rfl
      · rfl
      · rfl
      · omega) (fun _ => rfl) (by omega) 22
  have hcap : n + 3 ≤ c2 := by
    rcases h1 with ⟨e, _⟩ | ⟨_, _, _, e, g, _⟩
    · cases e
    · cases e; exact g
  have hb := (h1.lt ⟨_, _, rfl⟩).2
  have P : Hid (LentPost n x w (.returned (.slice (some ⟨b', 0, none⟩) (n + 3) c2)) w2) :=
    Lib.hid ⟨b', c2, rfl, h1.congr (fun j _ => by unfold cat marked; split <;> rfl), hcap, hb, h3⟩
  clear h1 h3 h5 hb hcap hat f2 k1 k2 hin h0
  go_enter Tryz.func35, Tryz.ntmps35
  go_wp2_with (first | refine wpList_appI _ _ rfl _ _ rfl _ _ _ rfl rfl hr1 ?_ | refine wpList_appI _ _ rfl _ _ rfl _ _ _ rfl rfl hr2 ?_)
  go_ret
  exact P.out

set_option maxRecDepth 100000 in
set_option maxHeartbeats 4000000 in
theorem back_ok (b cap n base : Nat) (u : Value) (x : Nat → Int) (w : World) (hn : n ≤ 100000) (hcap : n + 3 ≤ cap) (hc : VRow w (.slice (some ⟨b, 0, none⟩) (n + 3) cap) (n + 3) (fun j => .int .i64 (marked x n j)) 3 base) (hu : InV w u n x) :
    Calls Tryz.prog 19 #[.slice (some ⟨b, 0, none⟩) (n + 3) cap, u] w fun e w' => e = .returned (.bool true) ∧ Fr w w' (One b) := by
  obtain ⟨cs, hat, hsz, hcs⟩ : ∃ cs, At w b cs 3 ∧ cs.size = cap ∧ ∀ j, j < n + 3 → cs[j]? = some (.int .i64 (marked x n j)) := by
    rcases hc with ⟨e, _⟩ | ⟨b', cap', cs, e, _, _, h3, h4, h5⟩
    · cases e
    · cases e; exact ⟨cs, h3, h4, h5⟩
  have hs := same_ints (.slice (some ⟨b, 0, none⟩) n cap) u n x w hn ⟨_, _, rfl, fun j hj => ⟨b, 0, rfl, hat.lt, by rw [Nat.zero_add, hat.cell, hcs j (by omega)]; unfold marked; rw [if_pos hj]⟩⟩ hu
  obtain ⟨ua, uc, rfl, _⟩ := hu
  have m0 : cs[n]? = some (.int .i64 (-71)) := by rw [hcs n (by omega)]; unfold marked; rw [if_neg (by omega), Nat.sub_self]; rfl
  have m1 : cs[n + 1]? = some (.int .i64 (-72)) := by rw [hcs (n + 1) (by omega)]; unfold marked; rw [if_neg (by omega), show n + 1 - n = 1 by omega]; rfl
  have m2 : cs[n + 2]? = some (.int .i64 (-73)) := by rw [hcs (n + 2) (by omega)]; unfold marked; rw [if_neg (by omega), show n + 2 - n = 2 by omega]; rfl
  have HA := Lib.hid (And.intro hat (And.intro hsz (And.intro m0 (And.intro m1 m2))))
  have HS := Lib.hid hs
  have i1 : (n : Int) ≤ (cap : Int) := by omega
  have i2 : (0 : Int) ≤ (n : Int) := by omega
  have i3 : (n : Int) < (n : Int) + 3 := by omega
  have i4 : (n : Int) + 1 < (n : Int) + 3 := by omega
  have i5 : (n : Int) + 2 < (n : Int) + 3 := by omega
  have i6 : (n : Int) ≤ 100000 := by omega
  clear hc hat hsz hcs m0 m1 m2 hs
  go_enter Tryz.func19, Tryz.ntmps19
  go_wp2_with fail
  refine (HS.out).mono ?_
  rintro e w1 ⟨rfl, f1⟩
  have hat := HA.out.1.keep f1 (fun x => x)
  have c0 : w1.cell? ⟨b, n, none⟩ = some (.int .i64 (-71)) := by rw [hat.cell]; exact HA.out.2.2.1
  have c1 : w1.cell? ⟨b, n + 1, none⟩ = some (.int .i64 (-72)) := by rw [hat.cell]; exact HA.out.2.2.2.1
  have c2 : w1.cell? ⟨b, n + 2, none⟩ = some (.int .i64 (-73)) := by rw [hat.cell]; exact HA.out.2.2.2.2
  have T1 := Lib.hid hat
  have F1 := Lib.hid f1
  clear hat f1
  go_wp2_with fail
  clear c0 c1 c2
  go_loopw [7] (fun i wr => ∃ k : Nat, k ≤ n + 3 ∧ i = .int .i64 (k : Int) ∧ (∃ cs, At wr b cs 3 ∧ cs.size = cap) ∧ Fr w wr (One b)) (fun i _ => n + 3 - (intOf i).toNat)
  case atStart => exact ⟨0, Nat.zero_le _, rfl, ⟨_, T1.out, HA.out.2.1⟩, F1.out.mono (fun _ _ h => h.elim)⟩
  case round =>
    obtain ⟨k, hk, rfl, ⟨cs', a1, a2⟩, hf⟩ := hrel
    by_cases c : k < n + 3
    · have j1 : (k : Int) < (n : Int) + 3 := by omega
      have d0 : wr.cell? ⟨b, k, none⟩ = some (cs'[k]'(by omega)) := by rw [a1.cell]; exact Array.getElem?_eq_getElem _
      have d1 := a1.free k
      generalize cs'[k]'(by omega) = old at d0
      have R : Hid (∃ q : Nat, q ≤ n + 3 ∧ Value.int .i64 ((k : Int) + 1) = .int .i64 (q : Int) ∧ (∃ cs, At (wr.setCell ⟨b, k, none⟩ (.int .i64 (-9))) b cs 3 ∧ cs.size = cap) ∧ Fr w (wr.setCell ⟨b, k, none⟩ (.int .i64 (-9))) (One b)) :=
        Lib.hid ⟨k + 1, by omega, by push_cast; rfl, ⟨_, a1.put k _, by rw [Array.size_setIfInBounds]; exact a2⟩, hf.setCell (p := ⟨b, k, none⟩) (Or.inl rfl) _⟩
      clear a1 hf
      go_wp2_with fail
      go_roundw
      case rel => exact R.out
      case measure => simp [intOf]; omega
    · obtain rfl : k = n + 3 := by omega
      have HF := Lib.hid hf
      clear hf
      go_wp2_with fail
      go_ret
      exact ⟨rfl, HF.out⟩
end Go.Proofs.YtgmebioogkmfgaaGreatDoor
