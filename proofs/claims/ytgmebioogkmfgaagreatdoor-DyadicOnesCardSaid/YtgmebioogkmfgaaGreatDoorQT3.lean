/- Keep of the statements. Condition: it stands in each fact. -/
import Derived.Test.YtgmebioogkmfgaaGreatDoorQT2
import Derived.Deep.RegionLaw
namespace Go.Mem
open Go.RowKit

/-- An append whose run is known, as one step of a region that draws. -/
theorem step_run {P : Program} {ops : Array Oper} {o : Oper} {a : Act} {w w' : World} {v' : Value} {K : Act → World → Prop} {Q : Exit → Act → World → Prop} {E : Prop}
    (hg : o.guard = none) (s x : Operand) (t tx : TypeId) (hop : o.op = Op.call { callee := Callee.builtin Builtin.append, args := #[s, x], argTypes := #[t, tx] }) (vs vx : Value) (hs : a.eval s = vs) (hx : a.eval x = vx)
    (hrun : (Builtin.append_ #[t, tx] o.type #[vs, vx]).run P w = .ok v' w') (hK : K (a.put o.dst v') w') :
    if Region.wanted o (yielded ops a.tmps) = true then Oper.wp P o a w K Q else E := by
  have hw : Region.wanted o (yielded ops a.tmps) = true := by simp [Region.wanted, hg]
  rw [if_pos hw]
  unfold Oper.wp
  simp [execOp, hop, resolve, invoke, builtin, hs, hx, hrun, Result.andThen]
  exact hK
end Go.Mem
namespace Go.Proofs.YtgmebioogkmfgaaGreatDoor
open Go.RowKit Go.Pt Go.Mem

theorem infoS : (Tryz.prog.info? 22).map (fun i => (i.zero, i.size, i.bytes)) = some (some (.slice none 0 0), 1, 24) := by kernel_rfl

/-- The lists that were answered, and what they were: m of each. -/
def KeepL (w : World) (m : Nat) (L Wv : Nat → Value) (N : Nat → Nat) (X : Nat → Nat → Int) (base top : Nat) : Prop :=
  (∀ i, i < m → VRow w (L i) (N i) (fun j => .int .i64 (X i j)) 3 base ∧ N i ≤ 2000) ∧ (∀ i, i < m → VRow w (Wv i) (N i) (fun j => .int .i64 (X i j)) 3 base) ∧
    (∀ i j b, i < j → j < m → Blk (L i) b → ¬ Blk (L j) b) ∧ (∀ i b, i < m → Blk (L i) b → b < top)
/-- Block kb is the Keep. -/
def KeepV (w : World) (kb m base top : Nat) : Prop :=
  base ≤ kb ∧ ∃ (vL vW : Value) (L Wv : Nat → Value) (N : Nat → Nat) (X : Nat → Nat → Int), At w kb #[vL, vW] 28 ∧ VRow w vL m L 22 base ∧ VRow w vW m Wv 22 base ∧ (∀ b, Blk vL b → ¬ Blk vW b) ∧ KeepL w m L Wv N X base top

/-- The rows of ints are as they were. -/
def IntK (w w' : World) (base : Nat) : Prop := ∀ v n X, VRow w v n X 3 base → VRow w' v n X 3 base
theorem IntK.of {w w' : World} (f : Fr w w' None) (base : Nat) : IntK w w' base := fun _ _ _ h => h.keep f
theorem IntK.trans {a b c : World} {base : Nat} (h : IntK a b base) (k : IntK b c base) : IntK a c base := fun v n X g => k v n X (h v n X g)
theorem IntK.app {w w' : World} {base n t : Nat} {v : Value} {X : Nat → Value} (hv : VRow w v n X t base) (ht : 3 ≠ t) (f : Fr w w' (Blk v)) : IntK w w' base := fun u k Y h => h.keepS f (fun q hq hb => by
  obtain ⟨l, c, rfl⟩ := hb
  rcases hv with ⟨e, _⟩ | ⟨b, cap, cs, e, _, _, h3, _, _⟩
  · cases e
  · cases e; exact h.apart ht h3 hq)
theorem IntK.store {w w' : World} {base kb t : Nat} {cs : Array Value} (hk : At w kb cs t) (ht : 3 ≠ t) (f : Fr w w' (One kb)) : IntK w w' base := fun u k Y h => h.keepS f (fun q hq e => by unfold Mem.One at e; subst e; exact h.apart ht hk hq)

theorem KeepL.keep {w w' : World} {m base top : Nat} {L Wv : Nat → Value} {N : Nat → Nat} {X : Nat → Nat → Int} (h : KeepL w m L Wv N X base top) (f : IntK w w' base) : KeepL w' m L Wv N X base top :=
  ⟨fun i hi => ⟨f _ _ _ (h.1 i hi).1, (h.1 i hi).2⟩, fun i hi => f _ _ _ (h.2.1 i hi), h.2.2.1, h.2.2.2⟩
theorem KeepV.keep {w w' : World} {kb m base top : Nat} (h : KeepV w kb m base top) (f : Fr w w' None) : KeepV w' kb m base top := by
  obtain ⟨h0, vL, vW, L, Wv, N, X, h1, h2, h3, h5, h4⟩ := h
  exact ⟨h0, vL, vW, L, Wv, N, X, h1.keep f (fun x => x), h2.keep f, h3.keep f, h5, h4.keep (IntK.of f _)⟩
theorem KeepV.mono {w : World} {kb m base top top' : Nat} (h : KeepV w kb m base top) (ht : top ≤ top') : KeepV w kb m base top' := by
  obtain ⟨h0, vL, vW, L, Wv, N, X, h1, h2, h3, h5, g1, g2, g3, g4⟩ := h
  exact ⟨h0, vL, vW, L, Wv, N, X, h1, h2, h3, h5, g1, g2, g3, fun i b hi hb => Nat.lt_of_lt_of_le (g4 i b hi hb) ht⟩
/-- A new Keep. -/
theorem KeepV.new {w : World} {kb base : Nat} (hb : base ≤ kb) (h : At w kb #[.slice none 0 0, .slice none 0 0] 28) (top : Nat) : KeepV w kb 0 base top :=
  ⟨hb, _, _, fun _ => .slice none 0 0, fun _ => .slice none 0 0, fun _ => 0, fun _ _ => 0, h, VRow.nil _ _ _ _, VRow.nil _ _ _ _, (fun b ⟨_, _, h⟩ => by cases h), fun i hi => by omega, fun i hi => by omega, fun i j b _ hj => by omega, fun i b hi => by omega⟩

/-- One more of each. -/
theorem KeepL.snoc {w : World} {m n base top top' : Nat} {L Wv : Nat → Value} {N : Nat → Nat} {X : Nat → Nat → Int} {x : Nat → Int} {l v : Value} (h : KeepL w m L Wv N X base top) (hn : n ≤ 2000) (hl : VRow w l n (fun j => .int .i64 (x j)) 3 base) (hv : VRow w v n (fun j => .int .i64 (x j)) 3 base)
    (ht : top ≤ top') (h0 : ∀ b, Blk l b → top ≤ b) (h1 : ∀ b, Blk l b → b < top') :
    KeepL w (m + 1) (cat L m fun _ => l) (cat Wv m fun _ => v) (fun i => if i < m then N i else n) (fun i => if i < m then X i else x) base top' := by
  obtain ⟨g1, g2, g3, g4⟩ := h
  refine ⟨fun i hi => ?_, fun i hi => ?_, fun i j b hij hj => ?_, fun i b hi => ?_⟩
  · unfold cat
    by_cases c : i < m
    · simp only [c, if_true]; exact g1 i c
    · simp only [c, if_false]; exact ⟨hl, hn⟩
  · unfold cat
    by_cases c : i < m
    · simp only [c, if_true]; exact g2 i c
    · simp only [c, if_false]; exact hv
  · unfold cat
    have ci : i < m := by omega
    simp only [ci, if_true]
    by_cases c : j < m
    · simp only [c, if_true]; exact g3 i j b hij c
    · simp only [c, if_false]
      intro k1 k2
      have := g4 i b ci k1
      have := h0 b k2
      omega
  · unfold cat
    by_cases c : i < m
    · simp only [c, if_true]
      intro k1
      exact Nat.lt_of_lt_of_le (g4 i b c k1) ht
    · simp only [c, if_false]
      exact h1 b

theorem _root_.Go.Mem.VRow.low {w : World} {v : Value} {n t base base' : Nat} {X : Nat → Value} (h : VRow w v n X t base) (hb : base' ≤ base) : VRow w v n X t base' := by
  rcases h with h | ⟨b, cap, cs, rfl, h1, h2, h3⟩
  · exact Or.inl h
  · exact Or.inr ⟨b, cap, cs, rfl, h1, Nat.le_trans hb h2, h3⟩

/-- What an Add may write: the Keep, and rows of slices. -/
def KeepS (w : World) (kb q : Nat) : Prop := q = kb ∨ ∃ cs, At w q cs 22
def AddPost (kb m base top' : Nat) (w0 w : World) (e : Ending) (w' : World) : Prop := e = .returned (.bool true) ∧ KeepV w' kb (m + 1) base top' ∧ Fr w0 w' None ∧ Fr w w' (KeepS w kb)
theorem VRow.blkAt {w : World} {v : Value} {n t base q : Nat} {X : Nat → Value} (h : VRow w v n X t base) (hq : Blk v q) : ∃ cs, At w q cs t := by
  obtain ⟨l, c, rfl⟩ := hq
  rcases h with ⟨e, _⟩ | ⟨b, cap, cs, e, _, _, h3, _⟩
  · cases e
  · cases e; exact ⟨cs, h3⟩

/-- A store into the Keep. -/
theorem keep_store {w w' : World} {kb : Nat} (f : Fr w w' (One kb)) {a b : Value} (hk : At w kb #[a, b] 28) {v : Value} {n t base : Nat} {X : Nat → Value} (ht : t ≠ 28) (h : VRow w v n X t base) : VRow w' v n X t base :=
  h.keepS f (fun q hq e => by unfold Mem.One at e; subst e; exact h.apart ht hk hq)

/-- A list to be held against: handed in, or made since. -/
def SrcV (w0 w : World) (u : Value) (n : Nat) (x : Nat → Int) : Prop := InV w0 u n x ∨ VRow w u n (fun j => .int .i64 (x j)) 3 w0.heap.size
theorem SrcV.inV {w0 w : World} {u : Value} {n : Nat} {x : Nat → Int} (h : SrcV w0 w u n x) (f : Fr w0 w None) : InV w u n x := h.elim (fun h => h.keep f) (fun h => VRow.inV h)
theorem SrcV.keep {w0 w w' : World} {u : Value} {n : Nat} {x : Nat → Int} (h : SrcV w0 w u n x) (f : IntK w w' w0.heap.size) : SrcV w0 w' u n x := h.imp id (fun h => f _ _ _ h)
theorem SrcV.shape {w0 w : World} {u : Value} {n : Nat} {x : Nat → Int} (h : SrcV w0 w u n x) : ∃ a c, u = .slice a n c := by
  rcases h with ⟨a, c, rfl, _⟩ | h
  · exact ⟨_, _, rfl⟩
  · exact h.shape

set_option maxRecDepth 100000 in
set_option maxHeartbeats 8000000 in
theorem keepAdd_ok (kb m n top top' : Nat) (l u : Value) (x : Nat → Int) (w0 w : World) (hm : m ≤ 100) (hn : n ≤ 2000) (hk : KeepV w kb m w0.heap.size top) (hl : VRow w l n (fun j => .int .i64 (x j)) 3 w0.heap.size) (hu : SrcV w0 w u n x) (hf : Fr w0 w None)
    (ht : top ≤ top') (h0 : ∀ b, Blk l b → top ≤ b) (h1 : ∀ b, Blk l b → b < top') :
    Calls Tryz.prog 25 #[.pointer (some ⟨kb, 0, none⟩), l, u] w (AddPost kb m w0.heap.size top' w0 w) := by
  obtain ⟨hkb, vL, vW, L, Wv, N, X, k1, k2, k3, k5, k4⟩ := hk
  have kt1 : 22 ≠ 28 := by decide
  have kt2 : 3 ≠ 28 := by decide
  have kt3 : 3 ≠ 22 := by decide
  obtain ⟨la, lc, rfl⟩ := hl.shape
  obtain ⟨ua, uc, rfl⟩ := hu.shape
  obtain ⟨va, vc, rfl⟩ := k2.shape
  obtain ⟨wa', wc', rfl⟩ := k3.shape
  have c0 := k1.cell 0
  have d0 := k1.free 0
  -- the first list
  have fa : Fr w (w.alloc (.cells #[.slice la n lc] 22)) None := (Fr.refl w None).alloc _
  have ka := k2.keep fa
  obtain ⟨vL', w1, hr1, b1, c1, rfl, a1, a2, a3, a4, a5⟩ := app_vals (c := 1) Tryz.underlying26 infoS (by omega) rfl (w := w.alloc (.cells #[.slice la n lc] 22)) (w0 := w0) (v := .slice va m vc) (n := m) (m := 1) (X := L) (Y := fun _ => .slice la n lc) (p := ⟨w.heap.size, 0, none⟩) ka (hf.trans fa (fun _ h => h) (fun _ _ h => h)) (by omega)
    (fun j hj => by rw [Addr.add_lit, show 0 + j = 0 by omega, (At.alloc w _ _).cell]; rfl) (fun _ => rfl) (by omega) 26
  have nL : ∀ q, Blk (.slice va m vc) q → q ≠ kb := fun q hq e => by subst e; exact k2.apart kt1 k1 hq
  have kat1 : At w1 kb #[.slice va m vc, .slice wa' m wc'] 28 := (k1.keep fa (fun x => x)).keep a4 (fun h => nL _ h rfl)
  have i1 : IntK w w1 w0.heap.size := (IntK.of fa _).trans (IntK.app ka kt3 a4)
  have w1W : VRow w1 (.slice wa' m wc') m Wv 22 w0.heap.size := (k3.keep fa).keepS a4 (fun q hq h => k5 q h hq)
  have x0 := kat1.cell 0
  have x9 := kat1.free 0
  -- the store
  have f2 : Fr w1 (w1.setCell ⟨kb, 0, none⟩ (.slice (some ⟨b1, 0, none⟩) (m + 1) c1)) (One kb) := (Fr.refl w1 (One kb)).setCell (p := ⟨kb, 0, none⟩) (Or.inl rfl) _
  have kat2 : At (w1.setCell ⟨kb, 0, none⟩ (.slice (some ⟨b1, 0, none⟩) (m + 1) c1)) kb #[.slice (some ⟨b1, 0, none⟩) (m + 1) c1, .slice wa' m wc'] 28 := kat1.put 0 _
  have r2L := keep_store f2 kat1 kt1 a1
  have r2W := keep_store f2 kat1 kt1 w1W
  have i2 := i1.trans (IntK.store kat1 kt2 f2)
  have g2 : Fr w0 (w1.setCell ⟨kb, 0, none⟩ (.slice (some ⟨b1, 0, none⟩) (m + 1) c1)) None := a3.trans f2 (fun _ h => h) (fun q hq h => by unfold Mem.One at h; omega)
  have dis : ∀ b, Blk (.slice (some ⟨b1, 0, none⟩) (m + 1) c1) b → ¬ Blk (.slice wa' m wc') b := by
    rintro b ⟨_, _, hb⟩ hw
    cases hb
    rcases a5 with h | h
    · exact k5 _ h hw
    · have := (k3.lt hw).1
      have h9 := fa.size
      omega
  have SZ : Hid (Fr w (w1.setCell ⟨kb, 0, none⟩ (.slice (some ⟨b1, 0, none⟩) (m + 1) c1)) (KeepS w kb)) :=
    Lib.hid ((fa.trans a4 (U := KeepS w kb) (fun _ h => h.elim) (fun q _ h => Or.inr (VRow.blkAt k2 h))).trans f2 (fun _ h => h) (fun q _ h => Or.inl h))
  have WB := Lib.hid (fun q h => VRow.blkAt (q := q) k3 h)
  have S2 := Lib.hid (And.intro kat2 (And.intro r2L (And.intro r2W (And.intro i2 (And.intro g2 dis)))))
  have HL := Lib.hid (And.intro hl (And.intro hu k4))
  clear k1 k2 k3 k4 k5 hl hu a1 a2 a3 a4 a5 ka fa nL kat1 i1 w1W f2 kat2 r2L r2W i2 g2 dis
  go_enter Tryz.func25, Tryz.ntmps25
  go_wp2_with (refine Lib.wpList_append_run _ rfl _ _ _ _ rfl _ _ rfl rfl _ _ hr1 ?_)
  generalize w1.setCell ⟨kb, 0, none⟩ (.slice (some ⟨b1, 0, none⟩) (m + 1) c1) = w2 at S2 SZ ⊢
  clear c0 d0 x0 x9 hr1
  -- what it is to be
  obtain ⟨kat2, r2L, r2W, i2, g2, dis⟩ := S2.out
  have fd : Fr w2 w2.drew None := (Fr.refl w2 None).drew
  obtain ⟨v1, W1, hrA, b1', f1⟩ := app_arg (w := w2.drew) (((HL.out.2.1.keep i2).inV g2).keep fd) (by omega) 22
  have q1 : VRow W1 v1 n (fun j => .int .i64 (x j)) 3 w0.heap.size := b1'.low (Nat.le_trans g2.size fd.size)
  obtain ⟨y1, y2, rfl⟩ := q1.shape
  have fA : Fr w2 W1 None := fd.trans f1 (fun _ h => h) (fun _ _ h => h)
  have fb : Fr W1 (W1.alloc (.cells #[.slice y1 n y2] 22)) None := (Fr.refl W1 None).alloc _
  have fB := fA.trans fb (fun _ h => h) (fun _ _ h => h)
  have kb2 := r2W.keep fB
  obtain ⟨vW', W2, hrB, b2, c2, rfl, e1, e2, e3, e4, e5⟩ := app_vals (c := 1) Tryz.underlying26 infoS (by omega) rfl (w := W1.alloc (.cells #[.slice y1 n y2] 22)) (w0 := w0) (v := .slice wa' m wc') (n := m) (m := 1) (X := Wv) (Y := fun _ => .slice y1 n y2) (p := ⟨W1.heap.size, 0, none⟩) kb2 (g2.trans fB (fun _ h => h) (fun _ _ h => h)) (by omega)
    (fun j hj => by rw [Addr.add_lit, show 0 + j = 0 by omega, (At.alloc W1 _ _).cell]; rfl) (fun _ => rfl) (by omega) 26
  have nW : ∀ q, Blk (.slice wa' m wc') q → q ≠ kb := fun q hq e => by subst e; exact r2W.apart kt1 kat2 hq
  have katB := kat2.keep fB (fun x => x)
  have kat3 : At W2 kb #[.slice (some ⟨b1, 0, none⟩) (m + 1) c1, .slice wa' m wc'] 28 := katB.keep e4 (fun h => nW _ h rfl)
  have i3 : IntK w2 W2 w0.heap.size := (IntK.of fB _).trans (IntK.app kb2 kt3 e4)
  have r3L : VRow W2 (.slice (some ⟨b1, 0, none⟩) (m + 1) c1) (m + 1) _ 22 w0.heap.size := (r2L.keep fB).keepS e4 (fun q hq h => dis q hq h)
  have q2 := (IntK.app kb2 kt3 e4) _ _ _ (q1.keep fb)
  have z0 := kat2.cell 1
  have z1 := (kat2.keep fA (fun x => x)).cell 1
  have z2 := katB.cell 1
  have z3 := kat3.cell 1
  have z4 := kat3.free 1
  -- the end
  have f4 : Fr W2 (W2.setCell ⟨kb, 1, none⟩ (.slice (some ⟨b2, 0, none⟩) (m + 1) c2)) (One kb) := (Fr.refl W2 (One kb)).setCell (p := ⟨kb, 1, none⟩) (Or.inl rfl) _
  have i4 := (i2.trans i3).trans (IntK.store kat3 kt2 f4)
  have g4 : Fr w0 (W2.setCell ⟨kb, 1, none⟩ (.slice (some ⟨b2, 0, none⟩) (m + 1) c2)) None := e3.trans f4 (fun _ h => h) (fun q hq h => by unfold Mem.One at h; omega)
  have dis4 : ∀ b, Blk (.slice (some ⟨b1, 0, none⟩) (m + 1) c1) b → ¬ Blk (.slice (some ⟨b2, 0, none⟩) (m + 1) c2) b := by
    rintro b hb ⟨_, _, hw⟩
    cases hw
    rcases e5 with h | h
    · exact dis _ hb h
    · have := (r2L.lt hb).1
      have := fB.size
      omega
  have KV : KeepV (W2.setCell ⟨kb, 1, none⟩ (.slice (some ⟨b2, 0, none⟩) (m + 1) c2)) kb (m + 1) w0.heap.size top' :=
    ⟨hkb, _, _, _, _, _, _, kat3.put 1 _, keep_store f4 kat3 kt1 r3L, keep_store f4 kat3 kt1 e1, dis4, (HL.out.2.2.keep i4).snoc hn (i4 _ _ _ HL.out.1) (keep_store f4 kat3 kt2 q2) ht h0 h1⟩
  have HS := Lib.hid (same_ints _ _ n x _ (by omega) ((i4 _ _ _ HL.out.1).inV) ((HL.out.2.1.keep i4).inV g4))
  have FE : Fr w (W2.setCell ⟨kb, 1, none⟩ (.slice (some ⟨b2, 0, none⟩) (m + 1) c2)) (KeepS w kb) :=
    ((SZ.out.trans fB (fun _ h => h) (fun _ _ h => h.elim)).trans e4 (fun _ h => h) (fun q _ h => Or.inr (WB.out q h))).trans f4 (fun _ h => h) (fun q _ h => Or.inl h)
  have E := Lib.hid (And.intro KV (And.intro g4 FE))
  clear kat2 r2L r2W i2 g2 dis fd b1' f1 q1 fA fb fB kb2 e1 e2 e3 e4 e5 nW katB kat3 i3 r3L q2 f4 i4 g4 dis4 KV FE
  go_region_law (first | refine step_run rfl _ _ _ _ rfl _ _ rfl rfl hrA ?_ | refine step_run rfl _ _ _ _ rfl _ _ rfl rfl hrB ?_)
  all_goals
    clear z0 z1 z2 z3 z4 hrA hrB
    generalize W2.setCell ⟨kb, 1, none⟩ (.slice (some ⟨b2, 0, none⟩) (m + 1) c2) = wz at HS E ⊢
    go_wp2_with fail
    refine (HS.out).mono ?_
    rintro en w9 ⟨rfl, f9⟩
    go_wp2_with fail
    go_ret
    exact ⟨rfl, E.out.1.keep f9, E.out.2.1.trans f9 (fun _ h => h) (fun _ _ h => h), E.out.2.2.trans f9 (fun _ h => h) (fun _ _ h => h.elim)⟩
end Go.Proofs.YtgmebioogkmfgaaGreatDoor

namespace Go.Mem
open Go.RowKit

/-- What is put into a row behind its end leaves it as it was. -/
theorem VRow.put_far {w : World} {v : Value} {n t base b j : Nat} {X : Nat → Value} {u : Value} (h : VRow w v n X t base) (hj : Blk v b → n ≤ j) : VRow (w.setCell ⟨b, j, none⟩ u) v n X t base := by
  rcases h with h | ⟨b', cap, cs, rfl, h1, h2, h3, h4, h5⟩
  · exact Or.inl h
  · by_cases e : b = b'
    · subst e
      refine Or.inr ⟨b, cap, _, rfl, h1, h2, h3.put j u, by rw [Array.size_setIfInBounds]; exact h4, fun q hq => ?_⟩
      have := hj ⟨_, _, rfl⟩
      rw [Array.getElem?_setIfInBounds, if_neg (by omega)]
      exact h5 q hq
    · have f : Fr w (w.setCell ⟨b, j, none⟩ u) (One b) := (Fr.refl w (One b)).setCell (p := ⟨b, j, none⟩) (Or.inl rfl) u
      exact Or.inr ⟨b', cap, cs, rfl, h1, h2, h3.keep f (fun k => e (by unfold Mem.One at k; exact k.symm)), h4, h5⟩
/-- What is put into a row. -/
theorem VRow.put_in {w : World} {b n c t base j : Nat} {X : Nat → Value} (u : Value) (h : VRow w (.slice (some ⟨b, 0, none⟩) n c) n X t base) (hj : j < n) : VRow (w.setCell ⟨b, j, none⟩ u) (.slice (some ⟨b, 0, none⟩) n c) n (fun q => if q = j then u else X q) t base := by
  rcases h with ⟨h, _⟩ | ⟨b', cap, cs, e, h1, h2, h3, h4, h5⟩
  · cases h
  · cases e
    refine Or.inr ⟨b, c, _, rfl, h1, h2, h3.put j u, by rw [Array.size_setIfInBounds]; exact h4, fun q hq => ?_⟩
    rw [Array.getElem?_setIfInBounds]
    by_cases e : j = q
    · subst e; rw [if_pos rfl, if_pos (by omega)]; simp
    · have e' : q ≠ j := fun k => e k.symm
      rw [if_neg e, h5 q hq]; simp [e']
theorem VRow.at {w : World} {b n c t base : Nat} {X : Nat → Value} (h : VRow w (.slice (some ⟨b, 0, none⟩) n c) n X t base) : ∃ cs, At w b cs t ∧ cs.size = c ∧ n ≤ c ∧ base ≤ b ∧ ∀ j, j < n → cs[j]? = some (X j) := by
  rcases h with ⟨h, _⟩ | ⟨b', cap, cs, e, h1, h2, h3, h4, h5⟩
  · cases h
  · cases e; exact ⟨cs, h3, h4, h1, h2, h5⟩
theorem VRow.block {w : World} {v : Value} {n t base j : Nat} {X : Nat → Value} (h : VRow w v n X t base) (hj : j < n) : ∃ b c, v = .slice (some ⟨b, 0, none⟩) n c ∧ w.cell? ⟨b, j, none⟩ = some (X j) ∧ w.frozen? ⟨b, j, none⟩ = false := by
  rcases h with ⟨_, rfl⟩ | ⟨b, cap, cs, rfl, h1, h2, h3, h4, h5⟩
  · omega
  · exact ⟨b, cap, rfl, by rw [h3.cell]; exact h5 j hj, h3.free j⟩
end Go.Mem
namespace Go.Proofs.YtgmebioogkmfgaaGreatDoor
open Go.RowKit Go.Pt Go.Mem

/-- What Apart has done: the lists below i are marked, and j of the one at i. -/
def ApI (w0 : World) (kb m : Nat) (vL vW : Value) (L : Nat → Value) (N : Nat → Nat) (i j : Nat) (wr : World) : Prop :=
  At wr kb #[vL, vW] 28 ∧ VRow wr vL m L 22 w0.heap.size ∧ Fr w0 wr None ∧ ∃ Z : Nat → Nat → Value, (∀ q, q < m → VRow wr (L q) (N q) (Z q) 3 w0.heap.size) ∧
    (∀ q p, q < m → p < N q → q < i ∨ (q = i ∧ p < j) → Z q p = .int .i64 (-2 - (q : Int))) ∧ ∀ q p, q < m → p < N q → ∃ d, Z q p = .int .i64 d

def Apartly (m : Nat) (L : Nat → Value) : Prop := ∀ i j b, i < j → j < m → Blk (L i) b → ¬ Blk (L j) b
theorem Apartly.ne {m : Nat} {L : Nat → Value} (h : Apartly m L) {i j b : Nat} (hi : i < m) (hj : j < m) (hne : i ≠ j) (h1 : Blk (L i) b) : ¬ Blk (L j) b := by
  rcases Nat.lt_or_gt_of_ne hne with c | c
  · exact h i j b c hj h1
  · exact fun h2 => h j i b c hi h2 h1

theorem ApI.next {w0 wr : World} {kb m i : Nat} {vL vW : Value} {L : Nat → Value} {N : Nat → Nat} (h : ApI w0 kb m vL vW L N i (N i) wr) : ApI w0 kb m vL vW L N (i + 1) 0 wr := by
  obtain ⟨h1, h2, h3, Z, h4, h5, h6⟩ := h
  refine ⟨h1, h2, h3, Z, h4, fun q p hq hp hc => h5 q p hq hp ?_, h6⟩
  rcases hc with c | ⟨_, c⟩
  · by_cases e : q = i
    · subst e; exact Or.inr ⟨rfl, hp⟩
    · exact Or.inl (by omega)
  · omega
theorem ApI.drewN {w0 wr : World} {kb m i j : Nat} {vL vW : Value} {L : Nat → Value} {N : Nat → Nat} (h : ApI w0 kb m vL vW L N i j wr) (k : Nat) : ApI w0 kb m vL vW L N i j (wr.drewN k) := by
  obtain ⟨h1, h2, h3, Z, h4, h5, h6⟩ := h
  have f := (Fr.refl wr None).drewN k
  exact ⟨h1.keep f (fun x => x), h2.keep f, h3.trans f (fun _ h => h) (fun _ _ h => h), Z, fun q hq => (h4 q hq).keep f, h5, h6⟩

/-- The list at i. -/
theorem ApI.list {w0 wr : World} {kb m i j q : Nat} {vL vW : Value} {L : Nat → Value} {N : Nat → Nat} (h : ApI w0 kb m vL vW L N i j wr) (hq : q < m) :
    ∃ vb vc la lc, vL = .slice (some ⟨vb, 0, none⟩) m vc ∧ L q = .slice la (N q) lc ∧ wr.cell? ⟨kb, 0, none⟩ = some (.slice (some ⟨vb, 0, none⟩) m vc) ∧ wr.cell? ⟨vb, q, none⟩ = some (.slice la (N q) lc) := by
  obtain ⟨h1, h2, h3, Z, h4, h5, h6⟩ := h
  obtain ⟨vb, vc, rfl, g1, _⟩ := h2.block hq
  obtain ⟨la, lc, hl⟩ := (h4 q hq).shape
  exact ⟨vb, vc, la, lc, rfl, hl, h1.cell 0, by rw [g1, hl]⟩
/-- A cell of the list at q. -/
theorem ApI.cellOf {w0 wr : World} {kb m i j q p : Nat} {vL vW : Value} {L : Nat → Value} {N : Nat → Nat} (h : ApI w0 kb m vL vW L N i j wr) (hq : q < m) (hp : p < N q) :
    ∃ b c d, L q = .slice (some ⟨b, 0, none⟩) (N q) c ∧ wr.cell? ⟨b, p, none⟩ = some (.int .i64 d) ∧ wr.frozen? ⟨b, p, none⟩ = false ∧ (q < i ∨ (q = i ∧ p < j) → d = -2 - (q : Int)) := by
  obtain ⟨h1, h2, h3, Z, h4, h5, h6⟩ := h
  obtain ⟨b, c, hl, g1, g2⟩ := (h4 q hq).block hp
  obtain ⟨d, hd⟩ := h6 q p hq hp
  refine ⟨b, c, d, hl, by rw [g1, hd], g2, fun k => ?_⟩
  have := h5 q p hq hp k
  rw [hd] at this
  injection this with _ this

/-- A mark. -/
theorem ApI.put {w0 wr : World} {kb m i j b c : Nat} {vL vW : Value} {L : Nat → Value} {N : Nat → Nat} (h : ApI w0 kb m vL vW L N i j wr) (ha : Apartly m L) (hi : i < m) (hj : j < N i) (hl : L i = .slice (some ⟨b, 0, none⟩) (N i) c) :
    ApI w0 kb m vL vW L N i (j + 1) (wr.setCell ⟨b, j, none⟩ (.int .i64 (-2 - (i : Int)))) := by
  obtain ⟨h1, h2, h3, Z, h4, h5, h6⟩ := h
  have hrow := h4 i hi
  rw [hl] at hrow
  obtain ⟨cs, k1, k2, k3, k4, k5⟩ := hrow.at
  have f : Fr wr (wr.setCell ⟨b, j, none⟩ (.int .i64 (-2 - (i : Int)))) (One b) := (Fr.refl wr (One b)).setCell (p := ⟨b, j, none⟩) (Or.inl rfl) _
  refine ⟨h1.keep f (fun e => ?_), h2.keepS f (fun q hq e => ?_), h3.trans f (fun _ h => h) (fun q hq e => by unfold Mem.One at e; omega), fun q p => if q = i ∧ p = j then .int .i64 (-2 - (i : Int)) else Z q p, fun q hq => ?_, fun q p hq hp hc => ?_, fun q p hq hp => ?_⟩
  · unfold Mem.One at e
    subst e
    have := h1.symm.trans k1
    injection this with this
    injection this with _ h6
    revert h6
    decide
  · unfold Mem.One at e
    subst e
    exact h2.apart (by decide) k1 hq
  · by_cases e : q = i
    · subst e
      rw [hl]
      exact (hrow.put_in _ hj).congr (fun p hp => by by_cases e : p = j <;> simp [e])
    · exact ((h4 q hq).keepS f (fun x hx e' => by unfold Mem.One at e'; subst e'; exact ha.ne hi hq (fun k => e k.symm) (by rw [hl]; exact ⟨_, _, rfl⟩) hx)).congr (fun p hp => by simp [e])
  · by_cases e : q = i ∧ p = j
    · simp only [e, and_self, if_true]
    · simp only [e, if_false]
      exact h5 q p hq hp (by omega)
  · by_cases e : q = i ∧ p = j
    · simp only [e, and_self, if_true]; exact ⟨_, rfl⟩
    · simp only [e, if_false]; exact h6 q p hq hp

/-- A list that was grown, and whose end was written. -/
theorem ApI.grow {w0 wr : World} {kb m i g : Nat} {vL vW : Value} {L : Nat → Value} {N : Nat → Nat} (h : ApI w0 kb m vL vW L N m 0 wr) (ha : Apartly m L) (hi : i < m) (hg : 0 < g) (hN : N i + g ≤ 200000) (ty : Nat) :
    ∃ b' c' w' y, (Builtin.append_ #[22, 3] ty #[L i, .int .i64 (g : Int)]).run Tryz.prog wr = .ok (.slice (some ⟨b', 0, none⟩) (N i + g) c') w' ∧ w'.cell? ⟨b', N i + g - 1, none⟩ = some y ∧ w'.frozen? ⟨b', N i + g - 1, none⟩ = false ∧
      ∀ u, ApI w0 kb m vL vW L N m 0 (w'.setCell ⟨b', N i + g - 1, none⟩ u) := by
  obtain ⟨h1, h2, h3, Z, h4, h5, h6⟩ := h
  obtain ⟨v', w', hr, b', c', rfl, g1, g2, g3, g4, g5⟩ := app_zeros (h4 i hi) h3 hg hN ty
  obtain ⟨cs, k1, k2, k3, k4, k5⟩ := g1.at
  refine ⟨b', c', w', cs[N i + g - 1]'(by omega), hr, by rw [k1.cell]; exact Array.getElem?_eq_getElem _, k1.free _, fun u => ?_⟩
  have f : Fr w' (w'.setCell ⟨b', N i + g - 1, none⟩ u) (One b') := (Fr.refl w' (One b')).setCell (p := ⟨b', N i + g - 1, none⟩) (Or.inl rfl) _
  have hty : ∀ q, Blk (L i) q → ∃ cs, At wr q cs 3 := fun q hq => by
    have hrow := h4 i hi
    obtain ⟨l, c, hq⟩ := hq
    rcases hrow with ⟨e, _⟩ | ⟨b, cap, cs, e, _, _, h3, _⟩
    · rw [e] at hq; cases hq
    · rw [e] at hq; cases hq; exact ⟨cs, h3⟩
  have a1 := h1.keep g4 (fun k => by
    obtain ⟨cs', hc⟩ := hty _ k
    have := h1.symm.trans hc
    injection this with this
    injection this with _ h6
    revert h6
    decide)
  have a2 := h2.keepS g4 (fun q hq k => by
    obtain ⟨cs', hc⟩ := hty _ k
    exact h2.apart (by decide) hc hq)
  refine ⟨a1.keep f (fun e => ?_), a2.keepS f (fun q hq e => ?_), g3.trans f (fun _ h => h) (fun q hq e => by unfold Mem.One at e; omega), Z, fun q hq => ?_, h5, h6⟩
  · unfold Mem.One at e
    subst e
    have := a1.symm.trans k1
    injection this with this
    injection this with _ h6
    revert h6
    decide
  · unfold Mem.One at e
    subst e
    exact a2.apart (by decide) k1 hq
  · by_cases e : q = i
    · subst e
      exact g2.put_far (fun _ => by omega)
    · have a3 := (h4 q hq).keepS g4 (fun x hx k => ha.ne hi hq (fun k => e k.symm) k hx)
      refine a3.put_far (fun k => ?_)
      exfalso
      rcases g5 with h | h
      · exact ha.ne hi hq (fun k => e k.symm) h k
      · have := ((h4 q hq).lt k).1
        omega
end Go.Proofs.YtgmebioogkmfgaaGreatDoor

namespace Go.Proofs.YtgmebioogkmfgaaGreatDoor
open Go.RowKit Go.Pt Go.Mem

set_option maxRecDepth 100000 in
set_option maxHeartbeats 8000000 in
theorem apart_ok (kb m top : Nat) (w0 w : World) (hm : m ≤ 100) (hk : KeepV w kb m w0.heap.size top) (hf : Fr w0 w None) :
    Calls Tryz.prog 6 #[.pointer (some ⟨kb, 0, none⟩)] w fun e w' => e = .returned (.bool true) ∧ Fr w0 w' None := by
  obtain ⟨hkb, vL, vW, L, Wv, N, X, k1, k2, k3, k5, k4⟩ := hk
  have hN : ∀ i, i < m → N i ≤ 2000 := fun i hi => (k4.1 i hi).2
  have HA : Hid (Apartly m L) := Lib.hid k4.2.2.1
  have HN := Lib.hid hN
  obtain ⟨va, vc, rfl⟩ := k2.shape
  obtain ⟨wa, wc, rfl⟩ := k3.shape
  have I0 : Hid (ApI w0 kb m (.slice va m vc) (.slice wa m wc) L N 0 0 w) := Lib.hid ⟨k1, k2, hf, fun q p => .int .i64 (X q p), fun q hq => (k4.1 q hq).1, fun q p _ _ h => by omega, fun q p _ _ => ⟨_, rfl⟩⟩
  have c0 := k1.cell 0
  have c1 := k1.cell 1
  have H0 := Lib.hid (And.intro k2 (And.intro k3 k4))
  have m9 : (m : Int) ≤ 100 := by omega
  clear k1 k2 k3 k4 k5 hN hf hkb
  go_enter Tryz.func6, Tryz.ntmps6
  go_wp2_with fail
  go_loopw [3] (fun i wr => ∃ k : Nat, k ≤ m ∧ i = .int .i64 (k : Int) ∧ ∃ q, wr = w.drewN q) (fun i _ => m - (intOf i).toNat)
  case atStart => exact ⟨0, Nat.zero_le _, rfl, 0, rfl⟩
  case round =>
    obtain ⟨k, hk, rfl, q0, rfl⟩ := hrel
    by_cases c : k < m
    · have i0 : (k : Int) < (m : Int) := by omega
      obtain ⟨vb, vc', e1, g1, _⟩ := H0.out.1.block c
      cases e1
      obtain ⟨wb, wc', e2, g2, _⟩ := H0.out.2.1.block c
      cases e2
      have r1 := (H0.out.2.2.1 k c).1
      have r2 := H0.out.2.2.2.1 k c
      have hn := (H0.out.2.2.1 k c).2
      have fq := (Fr.refl w None).drewN q0
      have S := Lib.hid (fun nq => same_drawn (L k) (Wv k) (N k) (X k) ((w.drewN q0).drewN nq) (by omega) (r1.inV.keep (fq.drewN nq)) (r2.inV.keep (fq.drewN nq)))
      obtain ⟨la, lc, hl⟩ := r1.shape
      obtain ⟨ua, uc, hu⟩ := r2.shape
      rw [hl] at g1 S
      rw [hu] at g2 S
      replace g1 : (w.drewN q0).cell? ⟨vb, k, none⟩ = some (.slice la (N k) lc) := by rw [World.cell?_drewN]; exact g1
      replace g2 : (w.drewN q0).cell? ⟨wb, k, none⟩ = some (.slice ua (N k) uc) := by rw [World.cell?_drewN]; exact g2
      replace c0 : (w.drewN q0).cell? ⟨kb, 0, none⟩ = some (.slice (some ⟨vb, 0, none⟩) m vc) := by rw [World.cell?_drewN]; exact c0
      replace c1 : (w.drewN q0).cell? ⟨kb, 1, none⟩ = some (.slice (some ⟨wb, 0, none⟩) m wc) := by rw [World.cell?_drewN]; exact c1
      have HW : ∀ nq, ∃ q, (w.drewN q0).drewN nq = w.drewN q := fun nq => ⟨q0 + nq, by rw [World.drewN_drewN]⟩
      clear r1 r2 hl hu fq
      generalize w.drewN q0 = w5 at g1 g2 c0 c1 S HW ⊢
      go_wp2_with fail
      go_quiet ((go_at_call 26; exact Calls.quiet_of (S.out _)))
      go_wp2_with fail
      go_roundw
      case rel => exact ⟨k + 1, c, by push_cast; rfl, HW _⟩
      case measure => simp [intOf]; omega
    · obtain rfl : k = m := by omega
      have I1 : Hid (ApI w0 kb k (.slice va k vc) (.slice wa k wc) L N 0 0 (w.drewN q0)) := Lib.hid (I0.out.drewN q0)
      generalize w.drewN q0 = w1 at I1 ⊢
      have HNk := HN
      clear c0 c1 H0 I0 HN c
      have c0 := I1.out.1.cell 0
      obtain ⟨VL, hVL⟩ : ∃ V, V = Value.slice va k vc := ⟨_, rfl⟩
      obtain ⟨VW, hVW⟩ : ∃ V, V = Value.slice wa k wc := ⟨_, rfl⟩
      rw [← hVL, ← hVW] at I1
      have HVL := Lib.hid hVL
      clear hVL hVW
      go_wp2_with fail
      clear c0
      go_loopw [4] (fun r wr => ∃ R : Nat, R ≤ 3 ∧ r = .int .i64 (R : Int) ∧ ApI w0 kb k VL VW L N (if R = 0 then 0 else k) 0 wr) (fun r _ => 3 - (intOf r).toNat)
      case atStart => exact ⟨0, by omega, rfl, I1.out⟩
      case round =>
        obtain ⟨R, hR, rfl, hI⟩ := hrel
        have HI := Lib.hid hI
        clear hI
        have hR4 : R = 0 ∨ R = 1 ∨ R = 2 ∨ R = 3 := by omega
        clear hR
        rcases hR4 with rfl | rfl | rfl | rfl
        · -- marked
          go_wp2_with fail
          go_loopw [5] (fun ix wr => ∃ q : Nat, q ≤ k ∧ ix = .int .i64 (q : Int) ∧ ApI w0 kb k VL VW L N q 0 wr) (fun ix _ => k - (intOf ix).toNat)
          case atStart => exact ⟨0, Nat.zero_le _, rfl, HI.out⟩
          case round =>
            clear HI
            obtain ⟨q, hq, rfl, hJ⟩ := hrel
            have s0 := hJ.1.cell 0
            rw [HVL.out] at s0
            have HJ := Lib.hid hJ
            clear hJ
            by_cases cq : q < k
            · have j0 : (q : Int) < (k : Int) := by omega
              have hNq := HNk.out q cq
              go_wp2_with fail
              clear s0
              go_loopw [6] (fun jx wr => ∃ j : Nat, j ≤ N q ∧ jx = .int .i64 (j : Int) ∧ ApI w0 kb k VL VW L N q j wr) (fun jx _ => N q - (intOf jx).toNat)
              case atStart => exact ⟨0, Nat.zero_le _, rfl, HJ.out⟩
              case round =>
                clear HJ
                obtain ⟨j, hj, rfl, hK⟩ := hrel
                obtain ⟨vb, vc', la, lc, e1, hl, s0, s1⟩ := hK.list cq
                clear e1
                have HK := Lib.hid hK
                clear hK
                by_cases cj : j < N q
                · obtain ⟨b, c2, d, hl2, g1, g2, _⟩ := HK.out.cellOf cq cj
                  rw [hl] at hl2
                  cases hl2
                  have R := Lib.hid (HK.out.put HA.out cq cj hl)
                  have j1 : (j : Int) < (N q : Int) := by omega
                  clear hl HK
                  generalize N q = Nq at *
                  go_wp2_with fail
                  go_roundw
                  case rel => exact ⟨j + 1, by omega, by push_cast; rfl, R.out⟩
                  case measure => simp [intOf]; omega
                · obtain rfl : j = N q := by omega
                  have R := Lib.hid HK.out.next
                  clear hl HK
                  generalize N q = Nq at *
                  go_wp2_with fail
                  clear s0 s1
                  go_loopw [7] (fun g w9 => g = .int .i64 1 ∧ wr = w9) (fun _ _ => 0)
                  case atStart => exact ⟨rfl, rfl⟩
                  case round =>
                    obtain ⟨rfl, rfl⟩ := hrel
                    go_wp2_with fail
                    go_roundw
                    case rel => exact ⟨q + 1, by omega, by push_cast; rfl, R.out⟩
                    case measure => simp [intOf]; omega
            · obtain rfl : q = k := by omega
              go_wp2_with fail
              go_roundw
              case rel => exact ⟨1, by omega, rfl, HJ.out⟩
              case measure => simp [intOf]
        · -- grown
          go_wp2_with fail
          go_loopw [5] (fun ix wr => ∃ q : Nat, q ≤ k ∧ ix = .int .i64 (q : Int) ∧ ApI w0 kb k VL VW L N k 0 wr) (fun ix _ => k - (intOf ix).toNat)
          case atStart => exact ⟨0, Nat.zero_le _, rfl, HI.out⟩
          case round =>
            clear HI
            obtain ⟨q, hq, rfl, hJ⟩ := hrel
            have s0 := hJ.1.cell 0
            rw [HVL.out] at s0
            have HJ := Lib.hid hJ
            clear hJ
            by_cases cq : q < k
            · have j0 : (q : Int) < (k : Int) := by omega
              have hNq := HNk.out q cq
              go_wp2_with fail
              clear s0
              go_loopw [6] (fun jx wr => ∃ j : Nat, j ≤ N q ∧ jx = .int .i64 (j : Int) ∧ ApI w0 kb k VL VW L N k 0 wr) (fun jx _ => N q - (intOf jx).toNat)
              case atStart => exact ⟨0, Nat.zero_le _, rfl, HJ.out⟩
              case round =>
                clear HJ
                obtain ⟨j, hj, rfl, hK⟩ := hrel
                obtain ⟨vb, vc', la, lc, e1, hl, s0, s1⟩ := hK.list cq
                clear e1
                have HK := Lib.hid hK
                clear hK
                by_cases cj : j < N q
                · have j1 : (j : Int) < (N q : Int) := by omega
                  clear hl
                  generalize N q = Nq at cj j1 s1 hNq ⊢
                  go_wp2_with fail
                  go_roundw
                  case rel => exact ⟨j + 1, by omega, by push_cast; rfl, HK.out⟩
                  case measure => simp [intOf]; omega
                · obtain rfl : j = N q := by omega
                  clear hl
                  go_wp2_with fail
                  clear s0 s1
                  go_loopw [7, 8] (fun gx _ w9 => ∃ g : Nat, 1 ≤ g ∧ g ≤ 18 ∧ gx = .int .i64 (g : Int) ∧ ApI w0 kb k VL VW L N k 0 w9) (fun gx _ _ => 18 - (intOf gx).toNat)
                  case atStart => exact ⟨1, by omega, by omega, rfl, HK.out⟩
                  case round =>
                    clear HK
                    obtain ⟨g, hg1, hg2, rfl, hG⟩ := hrel
                    by_cases cg : g ≤ 17
                    · obtain ⟨vb, vc', la, lc, e1, hl, s0, s1⟩ := hG.list cq
                      clear e1
                      obtain ⟨d, hd⟩ : ∃ d, g / 17 = d := ⟨_, rfl⟩
                      have d1 : (g : Int) / 17 = (d : Int) := by omega
                      have d2 : Int.tdiv (g : Int) 17 = (d : Int) := by rw [Int.tdiv_eq_ediv_of_nonneg (by omega)]; exact d1
                      obtain ⟨b', c', w9, y, hr, g1, g2, hA⟩ := hG.grow (g := g + d * 80) HA.out cq (by omega) (by omega) 22
                      rw [hl, show ((g + d * 80 : Nat) : Int) = (g : Int) + (d : Int) * 80 by push_cast; rfl] at hr
                      obtain ⟨P, hP⟩ : ∃ P, N q + (g + d * 80) = P + 1 := ⟨N q + (g + d * 80) - 1, by omega⟩
                      rw [hP] at hr g1 g2 hA
                      rw [Nat.add_sub_cancel] at g1 g2 hA
                      have R := Lib.hid (hA (.int .i64 7))
                      have P9 : (P : Int) ≤ 10000 := by omega
                      have d9 : (d : Int) ≤ 1 := by omega
                      have g9 : (g : Int) ≤ 17 := by omega
                      clear hl hG hA hP hd
                      generalize N q = Nq at *
                      go_wp2_with (refine Lib.wpList_append_run _ rfl _ _ _ _ rfl (.slice la Nq lc) (.int .i64 ((g : Int) + (d : Int) * 80)) rfl rfl _ _ hr ?_)
                      rotate_left
                      refine ⟨⟨_, _, _, _, _, _, _, _, _, _, _, _, _, _, _, _, _, _, _, _, _, _, _, _, _, _, _, _, ⟨g + 1, by omega, by omega, by push_cast; rfl, R.out⟩, rfl⟩, ?_⟩
                      simp [intOf]; omega
                    · obtain rfl : g = 18 := by omega
                      have HG := Lib.hid hG
                      clear hG
                      go_wp2_with fail
                      go_roundw
                      case rel => exact ⟨q + 1, by omega, by push_cast; rfl, HG.out⟩
                      case measure => simp [intOf]; omega
            · obtain rfl : q = k := by omega
              go_wp2_with fail
              go_roundw
              case rel => exact ⟨2, by omega, rfl, HJ.out⟩
              case measure => simp [intOf]
        · -- looked at
          go_wp2_with fail
          go_loopw [5] (fun ix wr => ∃ q : Nat, q ≤ k ∧ ix = .int .i64 (q : Int) ∧ ApI w0 kb k VL VW L N k 0 wr) (fun ix _ => k - (intOf ix).toNat)
          case atStart => exact ⟨0, Nat.zero_le _, rfl, HI.out⟩
          case round =>
            clear HI
            obtain ⟨q, hq, rfl, hJ⟩ := hrel
            have s0 := hJ.1.cell 0
            rw [HVL.out] at s0
            have HJ := Lib.hid hJ
            clear hJ
            by_cases cq : q < k
            · have j0 : (q : Int) < (k : Int) := by omega
              have hNq := HNk.out q cq
              go_wp2_with fail
              clear s0
              go_loopw [6] (fun jx wr => ∃ j : Nat, j ≤ N q ∧ jx = .int .i64 (j : Int) ∧ ApI w0 kb k VL VW L N k 0 wr) (fun jx _ => N q - (intOf jx).toNat)
              case atStart => exact ⟨0, Nat.zero_le _, rfl, HJ.out⟩
              case round =>
                clear HJ
                obtain ⟨j, hj, rfl, hK⟩ := hrel
                obtain ⟨vb, vc', la, lc, e1, hl, s0, s1⟩ := hK.list cq
                clear e1
                have HK := Lib.hid hK
                clear hK
                by_cases cj : j < N q
                · obtain ⟨b, c2, d, hl2, g1, g2, g3⟩ := HK.out.cellOf cq cj
                  rw [hl] at hl2
                  cases hl2
                  have j1 : (j : Int) < (N q : Int) := by omega
                  obtain rfl := g3 (Or.inl cq)
                  clear hl
                  generalize N q = Nq at cj j1 s1 hNq g1 g2 ⊢
                  go_wp2_with fail
                  go_roundw
                  case rel => exact ⟨j + 1, by omega, by push_cast; rfl, HK.out⟩
                  case measure => simp [intOf]; omega
                · obtain rfl : j = N q := by omega
                  clear hl
                  generalize N q = Nq at s1 hNq ⊢
                  go_wp2_with fail
                  clear s0 s1
                  go_loopw [7] (fun g w9 => g = .int .i64 1 ∧ wr = w9) (fun _ _ => 0)
                  case atStart => exact ⟨rfl, rfl⟩
                  case round =>
                    obtain ⟨rfl, rfl⟩ := hrel
                    go_wp2_with fail
                    go_roundw
                    case rel => exact ⟨q + 1, by omega, by push_cast; rfl, HK.out⟩
                    case measure => simp [intOf]; omega
            · obtain rfl : q = k := by omega
              go_wp2_with fail
              go_roundw
              case rel => exact ⟨3, by omega, rfl, HJ.out⟩
              case measure => simp [intOf]
        · go_wp2_with fail
          go_ret
          exact ⟨rfl, HI.out.2.2.1⟩
end Go.Proofs.YtgmebioogkmfgaaGreatDoor
