/- caught, told, of, Of, Make of plumb/dyadic. Condition: it stands in each fact. -/
import Derived.Test.YtgmebioogkmfgaaGreatDoorQ2
import Derived.Defers
import Derived.Recover
namespace Go.Proofs.YtgmebioogkmfgaaGreatDoor
open Go.RowKit Go.Pt Go.Mem

theorem caught_tmps {V : Type} (u a b : V) : #[a] ++ ((Array.replicate 19 u).setIfInBounds 4 b).setIfInBounds 1 b = #[a, u, b, u, u, b, u, u, u, u, u, u, u, u, u, u, u, u, u, u] := by
  apply Array.toList_inj.1
  simp [List.replicate, List.set]

theorem caught_idle (p : Addr) (w : World) :
    CallsD Tryz.prog 27 #[.pointer (some p)] .returning w fun e u' w' => e = .returned (.tuple #[]) ∧ u' = .returning ∧ w' = w := by
  refine callsD_of_wpS Tryz.func27 rfl fun c₀ cs hu => ?_
  apply wpS_seq
  apply wpS_region
  simp [wpOpsS, go_sem, recoverD, hu, Tryz.ntmps27, Exit.thenS]
  refine wpS_of_wp ?_
  rw [caught_tmps]
  go_wp2
  cases c₀
  simp_all [bodyPostS, results, Tryz.results27]

theorem run_giveup (k : Int) (t0 : TypeId) (w : World) : (Instr.typeAssert (.iface 57 (.agg #[.int .i64 k])) t0 57 true).run Tryz.prog w = .ok (.tuple #[.agg #[.int .i64 k], .bool true]) w := by kernel_rfl

set_option maxRecDepth 100000 in
set_option maxHeartbeats 1000000 in
theorem caught_panicking (R t : Nat) (x k : Int) (older : List PanicEntry) (w : World) (hR : At w R #[.int .i64 x] t) :
    CallsD Tryz.prog 27 #[.pointer (some ⟨R, 0, none⟩)] (.panicking ({ v := .iface 57 (.agg #[.int .i64 k]), recovered := false } :: older)) w fun e u' w' =>
      e = .returned (.tuple #[]) ∧ u' = .panicking ({ v := .iface 57 (.agg #[.int .i64 k]), recovered := true } :: older) ∧ w' = (w.alloc (.cells #[.int .i64 k] 57)).setCell ⟨R, 0, none⟩ (.int .i64 k) := by
  have h2 := hR.keep ((Fr.refl w None).alloc (.cells #[.int .i64 k] 57)) (fun x => x)
  have hc := h2.cell 0
  have hz := h2.free 0
  clear h2 hR
  have hta := fun t0 => run_giveup k t0 w
  refine callsD_of_wpS Tryz.func27 rfl fun c₀ cs hu => ?_
  apply wpS_seq
  apply wpS_region
  simp [wpOpsS, go_sem, recoverD, hu, Tryz.ntmps27, Exit.thenS]
  refine wpS_of_wp ?_
  rw [caught_tmps]
  go_wp2
  trace_state
  cases c₀
  simp_all [bodyPostS, results, Tryz.results27]
end Go.Proofs.YtgmebioogkmfgaaGreatDoor

namespace Go.Proofs.YtgmebioogkmfgaaGreatDoor
open Go.RowKit Go.Pt Go.Mem

theorem odd_part {N k : Nat} (h : N % 18446744073709551616 ≠ 0) (e : Lib.ctz 64 (N % 18446744073709551616) = k) : k < 64 ∧ N / 2 ^ k * 2 ^ k = N ∧ N / 2 ^ k % 2 = 1 := by
  obtain ⟨m, hm, hk⟩ := Lib.ctzFrom_spec 64 (N % 18446744073709551616) (by omega) (Nat.mod_lt _ (by omega))
  unfold Lib.ctz at e
  rw [if_neg h] at e
  rw [e] at hm hk
  have h1 := Nat.div_add_mod N 18446744073709551616
  have h2 : (18446744073709551616 : Nat) = 2 ^ k * (2 * 2 ^ (63 - k)) := by
    rw [← Nat.pow_succ', ← Nat.pow_add, show k + (63 - k + 1) = 64 by omega]
  have h3 : N = 2 ^ k * (2 * (2 ^ (63 - k) * (N / 18446744073709551616) + m) + 1) := by
    have h4 : N = 2 ^ k * (2 * 2 ^ (63 - k)) * (N / 18446744073709551616) + 2 ^ k * (2 * m + 1) := by
      rw [← h2, ← hm]; exact h1.symm
    refine h4.trans ?_
    rw [Nat.mul_assoc (2 ^ k), ← Nat.mul_add]
    congr 1
    rw [Nat.mul_add 2, Nat.mul_assoc]
    omega
  generalize 2 ^ (63 - k) * (N / 18446744073709551616) + m = q at h3
  refine ⟨hk, ?_, ?_⟩
  · rw [h3, Nat.mul_div_cancel_left _ (Nat.two_pow_pos k), Nat.mul_comm]
  · rw [h3, Nat.mul_div_cancel_left _ (Nat.two_pow_pos k)]
    omega

/-- x is the one form of neg, N times 2^e. -/
def ToldIs (neg : Bool) (N : Nat) (e : Int) (w : World) (x : Value) : Prop :=
  ∃ A E ng, NumV w x ng A E ∧ (N = 0 → A = 0) ∧ (N ≠ 0 → ng = neg ∧ ∃ k : Nat, k < 64 ∧ A * 2 ^ k = N ∧ E = e + k)
theorem ToldIs.keep {neg : Bool} {N : Nat} {e : Int} {w w' : World} {x : Value} (h : ToldIs neg N e w x) (f : Fr w w' None) : ToldIs neg N e w' x := by
  obtain ⟨A, E, ng, h1, h2⟩ := h
  exact ⟨A, E, ng, h1.keep f, h2⟩
theorem NumV.shape {w : World} {x : Value} {neg : Bool} {A : Nat} {E : Int} (h : NumV w x neg A E) : ∃ ng a n c E', x = .agg #[.bool ng, .slice a n c, .int .i64 E'] := by
  rcases h.cases with ⟨rfl, rfl, rfl, rfl⟩ | ⟨_, _, _, _, b, n, cap, rfl, _⟩
  · exact ⟨_, _, _, _, _, rfl⟩
  · exact ⟨_, _, _, _, _, rfl⟩
theorem ToldIs.shape {neg : Bool} {N : Nat} {e : Int} {w : World} {x : Value} (h : ToldIs neg N e w x) : ∃ ng a n c E', x = .agg #[.bool ng, .slice a n c, .int .i64 E'] := by
  obtain ⟨A, E, ng, h1, h2⟩ := h
  exact h1.shape

/-- A store into a struct of another kind leaves a number as it was. -/
theorem NumV.over {w w' : World} {x : Value} {neg bb : Bool} {A R t : Nat} {E : Int} {cs : Array Value} (h : NumV w x neg A E) (hR : At w R cs t) (hcs : cs[0]? = some (.bool bb)) (f : Fr w w' (One R)) : NumV w' x neg A E := by
  have h' := h
  obtain ⟨v, n, h1, h2, h3, h4, h5, h6⟩ := h
  refine ⟨v, n, h1, ?_, h3, h4, h5, h6⟩
  by_cases c : A = 0
  · obtain ⟨_, _, rfl⟩ := h5 c
    rcases h2 with h2 | ⟨_, _, h2, _⟩
    · exact Or.inl h2
    · cases h2
  · refine h2.keep f (fun b hb e => ?_)
    unfold Mem.One at e
    subst e
    rcases h'.cases with ⟨rfl, _⟩ | ⟨_, _, _, _, b', n', cap', e', hn, _, _, _, _, hx⟩
    · exact c rfl
    · obtain ⟨l, cc, rfl⟩ := hb
      rw [e'] at h1
      injection h1 with h1
      have h1 := congrArg (fun a : Array Value => a[1]?) h1
      simp at h1
      obtain ⟨rfl, _⟩ := h1
      have k := hx 0 hn
      rw [hR.cell, hcs] at k
      cases k
theorem ToldIs.over {neg bb : Bool} {N : Nat} {e : Int} {w w' : World} {x : Value} {R t : Nat} {cs : Array Value} (h : ToldIs neg N e w x) (hR : At w R cs t) (hcs : cs[0]? = some (.bool bb)) (f : Fr w w' (One R)) : ToldIs neg N e w' x := by
  obtain ⟨A, E, ng, h1, h2⟩ := h
  exact ⟨A, E, ng, h1.over hR hcs f, h2⟩
theorem NumV.over2 {w w' : World} {x : Value} {neg : Bool} {A R t : Nat} {E : Int} (h : NumV w x neg A E) (hR : At w R #[.int .i64 0] t) (f : Fr w w' (One R)) : NumV w' x neg A E := by
  have h' := h
  obtain ⟨v, n, h1, h2, h3, h4, h5, h6⟩ := h
  refine ⟨v, n, h1, ?_, h3, h4, h5, h6⟩
  by_cases c : A = 0
  · obtain ⟨_, _, rfl⟩ := h5 c
    rcases h2 with h2 | ⟨_, _, h2, _⟩
    · exact Or.inl h2
    · cases h2
  · refine h2.keep f (fun b hb e => ?_)
    unfold Mem.One at e
    subst e
    rcases h'.cases with ⟨rfl, _⟩ | ⟨_, ho, _, _, b', n', cap', e', hn, _, _, _, _, hx⟩
    · exact c rfl
    · obtain ⟨l, cc, rfl⟩ := hb
      rw [e'] at h1
      injection h1 with h1
      have h1 := congrArg (fun a : Array Value => a[1]?) h1
      simp at h1
      obtain ⟨rfl, _⟩ := h1
      have k := hx 0 hn
      have o := dgt_odd ho
      rw [hR.cell] at k
      simp at k
      omega
theorem ToldIs.over2 {neg : Bool} {N : Nat} {e : Int} {w w' : World} {x : Value} {R t : Nat} (h : ToldIs neg N e w x) (hR : At w R #[.int .i64 0] t) (f : Fr w w' (One R)) : ToldIs neg N e w' x := by
  obtain ⟨A, E, ng, h1, h2⟩ := h
  exact ⟨A, E, ng, h1.over2 hR f, h2⟩
theorem put3 {w : World} {R t : Nat} {a b c : Value} (h : At w R #[a, b, c] t) (x y z : Value) :
    At (((w.setCell ⟨R, 0, none⟩ x).setCell ⟨R, 1, none⟩ y).setCell ⟨R, 2, none⟩ z) R #[x, y, z] t ∧ Fr w (((w.setCell ⟨R, 0, none⟩ x).setCell ⟨R, 1, none⟩ y).setCell ⟨R, 2, none⟩ z) (One R) :=
  ⟨((h.put 0 x).put 1 y).put 2 z, (((Fr.refl w (One R)).setCell (p := ⟨R, 0, none⟩) (Or.inl rfl) _).setCell (p := ⟨R, 1, none⟩) (Or.inl rfl) _).setCell (p := ⟨R, 2, none⟩) (Or.inl rfl) _⟩

/-- What told gives. -/
def ToldPost (neg : Bool) (N : Nat) (e : Int) (w : World) (en : Ending) (w' : World) : Prop := ∃ x, en = .returned x ∧ ToldIs neg N e w' x ∧ Fr w w' None

theorem zero_num (w : World) : NumV w (.agg #[.bool false, .slice none 0 0, .int .i64 0]) false 0 0 :=
  ⟨_, 0, rfl, Or.inl ⟨rfl, rfl⟩, ⟨dgt_lt 0, fun h => by omega, by omega⟩, rfl, fun _ => ⟨rfl, rfl, rfl⟩, fun h => absurd rfl h⟩

set_option maxRecDepth 100000 in
set_option maxHeartbeats 4000000 in
theorem told_zero (m : Nat) (v : Value) (neg : Bool) (e : Int) (w : World) (hm : IntV w m v neg 0) :
    Calls Tryz.prog 29 #[.agg #[.pointer (some ⟨m, 0, none⟩), .int .i64 e]] w (ToldPost neg 0 e w) := by
  have f0 : Fr w ((w.alloc (.cells #[.pointer (some ⟨m, 0, none⟩), .int .i64 e] 62)).alloc (.cells #[.bool false, .slice none 0 0, .int .i64 0] 24)) None := ((Fr.refl w None).alloc _).alloc _
  have r0 : At ((w.alloc (.cells #[.pointer (some ⟨m, 0, none⟩), .int .i64 e] 62)).alloc (.cells #[.bool false, .slice none 0 0, .int .i64 0] 24)) (w.heap.size + 1) #[.bool false, .slice none 0 0, .int .i64 0] 24 := by
    have := At.alloc (w.alloc (.cells #[.pointer (some ⟨m, 0, none⟩), .int .i64 e] 62)) #[.bool false, .slice none 0 0, .int .i64 0] 24
    simpa using this
  have HM := Lib.hid (hm.keep f0 (fun x => x) (fun _ _ x => x))
  have F0 := Lib.hid f0
  have R0 := Lib.hid r0
  clear hm f0 r0
  go_enter Tryz.func29, Tryz.ntmps29
  go_wp2_with fail
  generalize (w.alloc (.cells #[.pointer (some ⟨m, 0, none⟩), .int .i64 e] 62)).alloc (.cells #[.bool false, .slice none 0 0, .int .i64 0] 24) = w0 at HM F0 R0 ⊢
  refine (intSign_zero m v neg w0 HM.out).mono ?_
  rintro en w1 ⟨rfl, rfl⟩
  have c0 := R0.out.cell 0
  have c1 := R0.out.cell 1
  have c2 := R0.out.cell 2
  have d0 := R0.out.free 0
  have d1 := R0.out.free 1
  have d2 := R0.out.free 2
  go_wp2_with fail
  have fz : Fr w0 (((w0.setCell ⟨w.heap.size + 1, 0, none⟩ (.bool false)).setCell ⟨w.heap.size + 1, 1, none⟩ (.slice none 0 0)).setCell ⟨w.heap.size + 1, 2, none⟩ (.int .i64 0)) (One (w.heap.size + 1)) :=
    (((Fr.refl w0 (One (w.heap.size + 1))).setCell (p := ⟨w.heap.size + 1, 0, none⟩) (Or.inl rfl) _).setCell (p := ⟨w.heap.size + 1, 1, none⟩) (Or.inl rfl) _).setCell (p := ⟨w.heap.size + 1, 2, none⟩) (Or.inl rfl) _
  have az := (((R0.out).put 0 (.bool false)).put 1 (.slice none 0 0)).put 2 (.int .i64 0)
  generalize ((w0.setCell ⟨w.heap.size + 1, 0, none⟩ (.bool false)).setCell ⟨w.heap.size + 1, 1, none⟩ (.slice none 0 0)).setCell ⟨w.heap.size + 1, 2, none⟩ (.int .i64 0) = wz at az fz ⊢
  have az1 : At wz (w.heap.size + 1) #[.bool false, .slice none 0 0, .int .i64 0] 24 := az
  refine bodyPost_ret (results_cell_row rfl _ _ _ _ _ _ _ rfl az1 Tryz.underlying24 rfl (by kernel_rfl)) rfl ?_
  exact ⟨_, rfl, ⟨0, 0, false, zero_num wz, fun _ => rfl, fun h => absurd rfl h⟩, F0.out.trans fz (fun _ h => h) (fun x hx h => by unfold Mem.One at h; omega)⟩

theorem told_num (m : Nat) (v : Value) (neg : Bool) (N : Nat) (e : Int) (w : World) (hN : N < 2 ^ (64 * 30)) (hlow : N ≠ 0 → N % 18446744073709551616 ≠ 0)
    (he0 : -1048576 ≤ e) (he1 : e ≤ 1000000) (hm : IntV w m v neg N) (hT : Tab w) :
    Calls Tryz.prog 29 #[.agg #[.pointer (some ⟨m, 0, none⟩), .int .i64 e]] w (ToldPost neg N e w) := by
  by_cases c : N = 0
  · subst c
    exact told_zero m v neg e w hm
  · obtain ⟨k1, k2, k3⟩ := odd_part (hlow c) rfl
    refine (told_ok m v neg N _ e w (Nat.pos_of_ne_zero c) hN k1 rfl (hlow c) he0 he1 hm hT).mono ?_
    rintro en w' ⟨u, n, rfl, h1, h2, h3, h4, h5⟩
    have hA : N / 2 ^ Lib.ctz 64 (N % 18446744073709551616) ≠ 0 := fun h => by rw [h] at k3; omega
    generalize Lib.ctz 64 (N % 18446744073709551616) = k at *
    refine ⟨_, rfl, ⟨N / 2 ^ k, e + k, neg, ⟨u, n, rfl, h1, h2, h3, fun h => absurd h hA, fun _ => ⟨k3, by omega, by omega⟩⟩, fun h => absurd h c, fun _ => ⟨rfl, k, k1, k2, rfl⟩⟩, h5⟩

set_option maxRecDepth 100000 in
set_option maxHeartbeats 4000000 in
theorem of_ok (neg : Bool) (mag e : Int) (w : World) (h0 : 0 ≤ mag) (h1 : mag < 9007199254740992) (he0 : -1048576 ≤ e) (he1 : e ≤ 1000000) (hT : Tab w) :
    Calls Tryz.prog 32 #[.bool neg, .int .i64 mag, .int .i64 e, .bool true] w (ToldPost neg mag.natAbs e w) := by
  have f0 : Fr w (w.alloc (.cells #[.bool false, .slice none 0 0, .int .i64 0] 24)) None := (Fr.refl w None).alloc _
  have r0 := At.alloc w #[.bool false, .slice none 0 0, .int .i64 0] 24
  have HT := Lib.hid (hT.keep f0)
  have F0 := Lib.hid f0
  have R0 := Lib.hid r0
  clear hT f0 r0
  have hnew : ∀ s : Int, (s = mag ∨ s = -mag) → Calls Tryz.prog 47 #[.int .i64 s] (w.alloc (.cells #[.bool false, .slice none 0 0, .int .i64 0] 24)) (NewPost (decide (s < 0)) s.natAbs (w.alloc (.cells #[.bool false, .slice none 0 0, .int .i64 0] 24))) :=
    fun s hs => newInt s (by unfold I64; omega) _
  have HNEW := Lib.hid hnew
  clear hnew
  cases neg
  · go_enter Tryz.func32, Tryz.ntmps32
    go_wp2_with fail
    generalize w.alloc (.cells #[.bool false, .slice none 0 0, .int .i64 0] 24) = w0 at HT F0 R0 HNEW ⊢
    refine (HNEW.out mag (Or.inl rfl)).mono ?_
    rintro en w1 ⟨p, pv, rfl, b1, b2, b3, b4⟩
    have ht := told_num p pv (decide (mag < 0)) mag.natAbs e w1 (by omega) (fun h => by omega) he0 he1 b1 (HT.out.keep b4)
    rw [decide_eq_false (by omega)] at ht
    have HTO := Lib.hid ht
    have B4 := Lib.hid b4
    clear ht b1 b2 b3 b4
    go_wp2_with fail
    refine (HTO.out).mono ?_
    rintro en w2 ⟨x, rfl, hx, fx⟩
    have X := Lib.hid hx
    obtain ⟨ng, xa, xn, xc, xe, rfl⟩ := hx.shape
    have r2 := (R0.out.keep B4.out (fun x => x)).keep fx (fun x => x)
    have c0 := r2.cell 0
    have c1 := r2.cell 1
    have c2 := r2.cell 2
    have d0 := r2.free 0
    have d1 := r2.free 1
    have d2 := r2.free 2
    have FX := Lib.hid ((F0.out.trans B4.out (fun _ h => h) (fun _ _ h => h)).trans fx (fun _ h => h) (fun _ _ h => h))
    have R2 := Lib.hid r2
    clear hx fx r2
    go_wp2_with fail
    obtain ⟨az, fz⟩ := put3 R2.out (.bool ng) (.slice xa xn xc) (.int .i64 xe)
    generalize ((w2.setCell ⟨w.heap.size, 0, none⟩ (.bool ng)).setCell ⟨w.heap.size, 1, none⟩ (.slice xa xn xc)).setCell ⟨w.heap.size, 2, none⟩ (.int .i64 xe) = wz at az fz ⊢
    refine bodyPost_ret (results_cell_row rfl _ _ _ _ _ _ _ rfl az Tryz.underlying24 rfl (by kernel_rfl)) rfl ?_
    exact ⟨_, rfl, X.out.over R2.out rfl fz, FX.out.trans fz (fun _ h => h) (fun x hx h => by unfold Mem.One at h; omega)⟩
  · have hsg : ∀ W x, ToldIs (decide (-mag < 0)) (-mag).natAbs e W x → ToldIs true mag.natAbs e W x := by
      rintro W x ⟨A, E, ng, k1, k2, k3⟩
      rw [Int.natAbs_neg] at k2 k3
      refine ⟨A, E, ng, k1, k2, fun h => ?_⟩
      rw [decide_eq_true (by omega)] at k3
      exact k3 h
    have HSG := Lib.hid hsg
    clear hsg
    go_enter Tryz.func32, Tryz.ntmps32
    go_wp2_with fail
    generalize w.alloc (.cells #[.bool false, .slice none 0 0, .int .i64 0] 24) = w0 at HT F0 R0 HNEW ⊢
    refine (HNEW.out (-mag) (Or.inr rfl)).mono ?_
    rintro en w1 ⟨p, pv, rfl, b1, b2, b3, b4⟩
    have ht := told_num p pv (decide (-mag < 0)) (-mag).natAbs e w1 (by omega) (fun h => by omega) he0 he1 b1 (HT.out.keep b4)
    have HTO := Lib.hid ht
    have B4 := Lib.hid b4
    clear ht b1 b2 b3 b4
    go_wp2_with fail
    refine (HTO.out).mono ?_
    rintro en w2 ⟨x, rfl, hx, fx⟩
    have hx := HSG.out _ _ hx
    have X := Lib.hid hx
    obtain ⟨ng, xa, xn, xc, xe, rfl⟩ := hx.shape
    have r2 := (R0.out.keep B4.out (fun x => x)).keep fx (fun x => x)
    have c0 := r2.cell 0
    have c1 := r2.cell 1
    have c2 := r2.cell 2
    have d0 := r2.free 0
    have d1 := r2.free 1
    have d2 := r2.free 2
    have FX := Lib.hid ((F0.out.trans B4.out (fun _ h => h) (fun _ _ h => h)).trans fx (fun _ h => h) (fun _ _ h => h))
    have R2 := Lib.hid r2
    clear hx fx r2
    go_wp2_with fail
    obtain ⟨az, fz⟩ := put3 R2.out (.bool ng) (.slice xa xn xc) (.int .i64 xe)
    generalize ((w2.setCell ⟨w.heap.size, 0, none⟩ (.bool ng)).setCell ⟨w.heap.size, 1, none⟩ (.slice xa xn xc)).setCell ⟨w.heap.size, 2, none⟩ (.int .i64 xe) = wz at az fz ⊢
    refine bodyPost_ret (results_cell_row rfl _ _ _ _ _ _ _ rfl az Tryz.underlying24 rfl (by kernel_rfl)) rfl ?_
    exact ⟨_, rfl, X.out.over R2.out rfl fz, FX.out.trans fz (fun _ h => h) (fun x hx h => by unfold Mem.One at h; omega)⟩

set_option maxRecDepth 100000 in
theorem of_none (neg : Bool) (mag e : Int) (w : World) :
    Calls Tryz.prog 32 #[.bool neg, .int .i64 mag, .int .i64 e, .bool false] w fun en w' => en = .panicked [{ v := .iface 57 (.agg #[.int .i64 10]), recovered := false }] ∧ Fr w w' None := by
  have f0 : Fr w (w.alloc (.cells #[.bool false, .slice none 0 0, .int .i64 0] 24)) None := (Fr.refl w None).alloc _
  have F0 := Lib.hid f0
  clear f0
  go_enter Tryz.func32, Tryz.ntmps32
  go_wp2_with fail
  exact ⟨rfl, rfl, F0.out⟩
end Go.Proofs.YtgmebioogkmfgaaGreatDoor

namespace Go.Proofs.YtgmebioogkmfgaaGreatDoor
open Go.RowKit Go.Pt Go.Mem

/-- A number and an error's number. -/
def AnsPost (neg : Bool) (N : Nat) (e : Int) (w : World) (en : Ending) (w' : World) : Prop := ∃ x, en = .returned (.tuple #[x, .int .i64 0]) ∧ ToldIs neg N e w' x ∧ Fr w w' None

theorem pmag_bounds (b : Int) : 0 ≤ pmag b ∧ pmag b < 9007199254740992 ∧ -1048576 ≤ pexp b ∧ pexp b ≤ 1000000 := by
  have h1 : 0 ≤ frc b ∧ frc b < 4503599627370496 := by unfold frc; omega
  have h2 : 0 ≤ fld b ∧ fld b < 2048 := by unfold fld; omega
  unfold pmag pexp
  split <;> (try split) <;> omega

/-- Two variables for the results. -/
theorem res_at (w : World) :
    At ((w.alloc (.cells #[.bool false, .slice none 0 0, .int .i64 0] 24)).alloc (.cells #[.int .i64 0] 32)) w.heap.size #[.bool false, .slice none 0 0, .int .i64 0] 24 ∧
    At ((w.alloc (.cells #[.bool false, .slice none 0 0, .int .i64 0] 24)).alloc (.cells #[.int .i64 0] 32)) (w.heap.size + 1) #[.int .i64 0] 32 ∧
    Fr w ((w.alloc (.cells #[.bool false, .slice none 0 0, .int .i64 0] 24)).alloc (.cells #[.int .i64 0] 32)) None := by
  refine ⟨(At.alloc w _ _).keep ((Fr.refl _ None).alloc _) (fun x => x), ?_, ((Fr.refl w None).alloc _).alloc _⟩
  have := At.alloc (w.alloc (.cells #[.bool false, .slice none 0 0, .int .i64 0] 24)) #[.int .i64 0] 32
  simpa using this

theorem load_err (w : World) (R : Nat) (er : Int) (h : At w R #[.int .i64 er] 32) : (loadVar 32 ⟨R, 0, none⟩).run Tryz.prog w = .ok (.int .i64 er) w := by
  have c := h.cell 0
  simp at c
  simp [go_sem, c]

/-- The end of a call that answers with a number and an error's number. -/
theorem ans_end {fn : Func} {p q : Tmp} (h : fn.results = #[.cell p 24, .cell q 32]) {tmps : Array Value} {w : World} {R1 R2 : Nat} {x y z : Value} {er : Int} {R : Ending → World → Prop}
    (hp : tmps.getD p undef = .pointer (some ⟨R1, 0, none⟩)) (hq : tmps.getD q undef = .pointer (some ⟨R2, 0, none⟩)) (h1 : At w R1 #[x, y, z] 24) (h2 : At w R2 #[.int .i64 er] 32)
    (hR : R (.returned (.tuple #[.agg #[x, y, z], .int .i64 er])) w) : Leaves Tryz.prog fn tmps R [] .returning w := by
  have hp' : tmps[p]?.getD undef = .pointer (some ⟨R1, 0, none⟩) := by simpa using hp
  have hq' : tmps[q]?.getD undef = .pointer (some ⟨R2, 0, none⟩) := by simpa using hq
  refine ⟨.tuple #[.agg #[x, y, z], .int .i64 er], ?_, hR⟩
  have e1 := run_loadVar_row (P := Tryz.prog) w R1 24 24 #[x, y, z] (0, 0) _ h1 Tryz.underlying24 rfl (by kernel_rfl)
  have e2 := load_err w R2 er h2
  simp [results, h, hp', hq', asAddr, e1, e2]

/-- The world behind the two results' being laid. -/
theorem ans_world {w w2 : World} {R N : Nat} {neg : Bool} {e : Int} {x : Value} {a b c : Value} {b0 : Bool} {u v : Value} (hw : w.heap.size ≤ R) (f : Fr w w2 None) (hx : ToldIs neg N e w2 x) (r2 : At w2 R #[.bool b0, u, v] 24) (r3 : At w2 (R + 1) #[.int .i64 0] 32) :
    At ((((w2.setCell ⟨R, 0, none⟩ a).setCell ⟨R, 1, none⟩ b).setCell ⟨R, 2, none⟩ c).setCell ⟨R + 1, 0, none⟩ (.int .i64 0)) R #[a, b, c] 24 ∧
    At ((((w2.setCell ⟨R, 0, none⟩ a).setCell ⟨R, 1, none⟩ b).setCell ⟨R, 2, none⟩ c).setCell ⟨R + 1, 0, none⟩ (.int .i64 0)) (R + 1) #[.int .i64 0] 32 ∧
    ToldIs neg N e ((((w2.setCell ⟨R, 0, none⟩ a).setCell ⟨R, 1, none⟩ b).setCell ⟨R, 2, none⟩ c).setCell ⟨R + 1, 0, none⟩ (.int .i64 0)) x ∧
    Fr w ((((w2.setCell ⟨R, 0, none⟩ a).setCell ⟨R, 1, none⟩ b).setCell ⟨R, 2, none⟩ c).setCell ⟨R + 1, 0, none⟩ (.int .i64 0)) None := by
  obtain ⟨az, fz⟩ := put3 r2 a b c
  have rz := r3.keep fz (fun e => by unfold Mem.One at e; omega)
  generalize ((w2.setCell ⟨R, 0, none⟩ a).setCell ⟨R, 1, none⟩ b).setCell ⟨R, 2, none⟩ c = wz at az fz rz ⊢
  have fy : Fr wz (wz.setCell ⟨R + 1, 0, none⟩ (.int .i64 0)) (One (R + 1)) := (Fr.refl wz (One (R + 1))).setCell (p := ⟨R + 1, 0, none⟩) (Or.inl rfl) _
  refine ⟨az.keep fy (fun e => by unfold Mem.One at e; omega), rz.put 0 (.int .i64 0), (hx.over r2 rfl fz).over2 rz fy, ?_⟩
  exact (f.trans fz (fun _ h => h) (fun x hx h => by unfold Mem.One at h; omega)).trans fy (fun _ h => h) (fun x hx h => by unfold Mem.One at h; omega)

set_option maxRecDepth 100000 in
set_option maxHeartbeats 4000000 in
theorem dOf_ok (b : Int) (w : World) (hok : pok b = true) (hT : Tab w) :
    Calls Tryz.prog 8 #[.int .i64 b] w (AnsPost (pneg b) (pmag b).natAbs (pexp b) w) := by
  obtain ⟨r0, r1, f0⟩ := res_at w
  have hp := parts_any b ((w.alloc (.cells #[.bool false, .slice none 0 0, .int .i64 0] 24)).alloc (.cells #[.int .i64 0] 32))
  obtain ⟨m0, m1, m2, m3⟩ := pmag_bounds b
  have ho := of_ok (pneg b) (pmag b) (pexp b) _ m0 m1 m2 m3 (hT.keep f0)
  rw [hok] at hp
  generalize pmag b = mag at *
  generalize pexp b = ex at *
  generalize pneg b = ng at *
  have HP := Lib.hid hp
  have HO := Lib.hid ho
  have F0 := Lib.hid f0
  have R0 := Lib.hid r0
  have R1 := Lib.hid r1
  clear hp ho f0 r0 r1 hT hok
  go_enter_defers Tryz.func8, Tryz.ntmps8
  go_wp2_with fail
  generalize (w.alloc (.cells #[.bool false, .slice none 0 0, .int .i64 0] 24)).alloc (.cells #[.int .i64 0] 32) = w0 at HP HO F0 R0 R1 ⊢
  refine (HP.out).mono ?_
  rintro en w1 ⟨rfl, rfl⟩
  go_wp2_with fail
  refine (HO.out).mono ?_
  rintro en w2 ⟨x, rfl, hx, fx⟩
  have X := Lib.hid hx
  obtain ⟨xg, xa, xn, xc, xe, rfl⟩ := hx.shape
  have r2 := R0.out.keep fx (fun x => x)
  have c0 := r2.cell 0
  have c1 := r2.cell 1
  have c2 := r2.cell 2
  have d0 := r2.free 0
  have d1 := r2.free 1
  have d2 := r2.free 2
  have r3 := R1.out.keep fx (fun x => x)
  have e0 := r3.cell 0
  have g0 := r3.free 0
  have FX := Lib.hid (F0.out.trans fx (fun _ h => h) (fun _ _ h => h))
  have R2 := Lib.hid r2
  have R3 := Lib.hid r3
  clear hx fx r2 r3
  go_wp2_with fail
  obtain ⟨ay, ry, xy, fy⟩ := ans_world (a := .bool xg) (b := .slice xa xn xc) (c := .int .i64 xe) (Nat.le_refl _) FX.out X.out R2.out R3.out
  generalize (((w2.setCell ⟨w.heap.size, 0, none⟩ (.bool xg)).setCell ⟨w.heap.size, 1, none⟩ (.slice xa xn xc)).setCell ⟨w.heap.size, 2, none⟩ (.int .i64 xe)).setCell ⟨w.heap.size + 1, 0, none⟩ (.int .i64 0) = wy at ay ry xy fy ⊢
  refine leaves_cons (f := 27) (args := #[.pointer (some ⟨w.heap.size + 1, 0, none⟩)]) (by simp) (by simp [go_sem]) ?_
  refine (caught_idle ⟨w.heap.size + 1, 0, none⟩ wy).mono ?_
  rintro en u' w9 ⟨rfl, rfl, rfl⟩
  exact ans_end rfl rfl rfl ay ry ⟨_, rfl, xy, fy⟩

set_option maxRecDepth 100000 in
set_option maxHeartbeats 4000000 in
theorem dOf_none (b : Int) (w : World) (hok : pok b = false) :
    Calls Tryz.prog 8 #[.int .i64 b] w fun en w' => en = .returned (.tuple #[.agg #[.bool false, .slice none 0 0, .int .i64 0], .int .i64 10]) ∧ Fr w w' None := by
  obtain ⟨r0, r1, f0⟩ := res_at w
  have hp := parts_any b ((w.alloc (.cells #[.bool false, .slice none 0 0, .int .i64 0] 24)).alloc (.cells #[.int .i64 0] 32))
  rw [hok] at hp
  generalize pmag b = mag at *
  generalize pexp b = ex at *
  generalize pneg b = ng at *
  have HP := Lib.hid hp
  have HO := Lib.hid (of_none ng mag ex ((w.alloc (.cells #[.bool false, .slice none 0 0, .int .i64 0] 24)).alloc (.cells #[.int .i64 0] 32)))
  have F0 := Lib.hid f0
  have R0 := Lib.hid r0
  have R1 := Lib.hid r1
  clear hp f0 r0 r1 hok
  go_enter_defers Tryz.func8, Tryz.ntmps8
  go_wp2_with fail
  generalize (w.alloc (.cells #[.bool false, .slice none 0 0, .int .i64 0] 24)).alloc (.cells #[.int .i64 0] 32) = w0 at HP HO F0 R0 R1 ⊢
  refine (HP.out).mono ?_
  rintro en w1 ⟨rfl, rfl⟩
  go_wp2_with fail
  refine (HO.out).mono ?_
  rintro en w2 ⟨rfl, fx⟩
  have FX := Lib.hid (F0.out.trans fx (fun _ h => h) (fun _ _ h => h))
  have R2 := Lib.hid (R0.out.keep fx (fun x => x))
  have R3 := Lib.hid (R1.out.keep fx (fun x => x))
  clear fx
  go_wp2_with fail
  refine leaves_cons (f := 27) (args := #[.pointer (some ⟨w.heap.size + 1, 0, none⟩)]) (by simp) (by simp [go_sem]) ?_
  refine (caught_panicking (w.heap.size + 1) _ 0 10 [] w2 R3.out).mono ?_
  rintro en u' w9 ⟨rfl, rfl, rfl⟩
  have fa : Fr w2 (w2.alloc (.cells #[.int .i64 10] 57)) None := (Fr.refl w2 None).alloc _
  have ra := R2.out.keep fa (fun x => x)
  have rb := R3.out.keep fa (fun x => x)
  have fb : Fr (w2.alloc (.cells #[.int .i64 10] 57)) ((w2.alloc (.cells #[.int .i64 10] 57)).setCell ⟨w.heap.size + 1, 0, none⟩ (.int .i64 10)) (One (w.heap.size + 1)) := (Fr.refl _ (One (w.heap.size + 1))).setCell (p := ⟨w.heap.size + 1, 0, none⟩) (Or.inl rfl) _
  have ry : At ((w2.alloc (.cells #[.int .i64 10] 57)).setCell ⟨w.heap.size + 1, 0, none⟩ (.int .i64 10)) (w.heap.size + 1) #[.int .i64 10] 32 := rb.put 0 (.int .i64 10)
  have ay := ra.keep fb (fun e => by unfold Mem.One at e; omega)
  have fy := (FX.out.trans fa (fun _ h => h) (fun _ _ h => h)).trans fb (fun _ h => h) (fun x hx h => by unfold Mem.One at h; omega)
  exact ans_end rfl rfl rfl ay ry ⟨rfl, fy⟩
end Go.Proofs.YtgmebioogkmfgaaGreatDoor

namespace Go.Proofs.YtgmebioogkmfgaaGreatDoor
open Go.RowKit Go.Pt Go.Mem

set_option maxRecDepth 100000 in
set_option maxHeartbeats 4000000 in
theorem make_ok (neg : Bool) (b cap n : Nat) (x : Nat → Nat) (e : Int) (w : World) (hn : 0 < n) (hd : Digs n x) (hcap : n ≤ cap) (hb : b < w.heap.size) (hx : ∀ j, j < n → w.cell? ⟨b, j, none⟩ = some (.int .i64 ((x j : Nat) : Int)))
    (hN : dv x n < 2 ^ (64 * 30)) (hlow : dv x n % 18446744073709551616 ≠ 0) (he0 : -1048576 ≤ e) (he1 : e ≤ 1000000) (hT : Tab w) :
    Calls Tryz.prog 7 #[.bool neg, .slice (some ⟨b, 0, none⟩) n cap, .int .i64 e] w (AnsPost neg (dv x n) e w) := by
  obtain ⟨r0, r1, f0⟩ := res_at w
  have hx1 : ∀ j, j < n → ((w.alloc (.cells #[.bool false, .slice none 0 0, .int .i64 0] 24)).alloc (.cells #[.int .i64 0] 32)).cell? ⟨b, j, none⟩ = some (.int .i64 ((x j : Nat) : Int)) := fun j hj => by
    rw [f0.cell (p := ⟨b, j, none⟩) hb (fun x => x)]; exact hx j hj
  have hb1 := Nat.lt_of_lt_of_le hb f0.size
  have hv := valid_ok (.slice (some ⟨b, 0, none⟩) n cap) n x _ (Or.inr ⟨b, cap, rfl, hcap, hb1, hx1⟩) hd
  have hwh := whole_pos b cap n x neg _ hn hd hcap hb1 hx1
  have HV := Lib.hid hv
  have HW := Lib.hid hwh
  have HT := Lib.hid (hT.keep f0)
  have F0 := Lib.hid f0
  have R0 := Lib.hid r0
  have R1 := Lib.hid r1
  have HN := Lib.hid (And.intro hN hlow)
  have ic : (n : Int) ≤ (cap : Int) := by omega
  clear hv hwh f0 r0 r1 hT hb1 hx1 hx hb hd hN hlow
  go_enter_defers Tryz.func7, Tryz.ntmps7
  go_wp2_with fail
  generalize (w.alloc (.cells #[.bool false, .slice none 0 0, .int .i64 0] 24)).alloc (.cells #[.int .i64 0] 32) = w0 at HV HW HT F0 R0 R1 ⊢
  refine (HV.out).mono ?_
  rintro en w1 ⟨rfl, rfl⟩
  go_wp2_with fail
  refine (HW.out).mono ?_
  rintro en w1 ⟨p, pv, rfl, b1, b2, b3, b4⟩
  have ht := told_num p pv neg (dv x n) e w1 HN.out.1 (fun _ => HN.out.2) he0 he1 b1 (HT.out.keep b4)
  have HTO := Lib.hid ht
  have B4 := Lib.hid b4
  clear ht b1 b2 b3 b4
  go_wp2_with fail
  rw [show min (max e (-4194304)) 4194304 = e by omega]
  refine (HTO.out).mono ?_
  rintro en w2 ⟨x, rfl, hx, fx⟩
  have X := Lib.hid hx
  obtain ⟨xg, xa, xn, xc, xe, rfl⟩ := hx.shape
  have fx2 := B4.out.trans fx (fun _ h => h) (fun _ _ h => h)
  have r2 := R0.out.keep fx2 (fun x => x)
  have c0 := r2.cell 0
  have c1 := r2.cell 1
  have c2 := r2.cell 2
  have d0 := r2.free 0
  have d1 := r2.free 1
  have d2 := r2.free 2
  have r3 := R1.out.keep fx2 (fun x => x)
  have e0 := r3.cell 0
  have g0 := r3.free 0
  have FX := Lib.hid (F0.out.trans fx2 (fun _ h => h) (fun _ _ h => h))
  have R2 := Lib.hid r2
  have R3 := Lib.hid r3
  clear hx fx fx2 r2 r3
  go_wp2_with fail
  obtain ⟨ay, ry, xy, fy⟩ := ans_world (a := .bool xg) (b := .slice xa xn xc) (c := .int .i64 xe) (Nat.le_refl _) FX.out X.out R2.out R3.out
  generalize (((w2.setCell ⟨w.heap.size, 0, none⟩ (.bool xg)).setCell ⟨w.heap.size, 1, none⟩ (.slice xa xn xc)).setCell ⟨w.heap.size, 2, none⟩ (.int .i64 xe)).setCell ⟨w.heap.size + 1, 0, none⟩ (.int .i64 0) = wy at ay ry xy fy ⊢
  refine leaves_cons (f := 27) (args := #[.pointer (some ⟨w.heap.size + 1, 0, none⟩)]) (by simp) (by simp [go_sem]) ?_
  refine (caught_idle ⟨w.heap.size + 1, 0, none⟩ wy).mono ?_
  rintro en u' w9 ⟨rfl, rfl, rfl⟩
  exact ans_end rfl rfl rfl ay ry ⟨_, rfl, xy, fy⟩
end Go.Proofs.YtgmebioogkmfgaaGreatDoor
