/- plus of plumb/dyadic at two numbers of which the second has the lesser exponent. Condition: it stands in each fact. -/
import Derived.Test.YtehfnpbplkbdhaaDoorQ4
namespace Go.Proofs.YtehfnpbplkbdhaaDoor
open Go.RowKit Go.Pt Go.Mem

/-- What plus gives. -/
def PlusPost (neg : Bool) (N : Nat) (e : Int) (w : World) (en : Ending) (w' : World) : Prop :=
  ∃ m v, en = .returned (.agg #[.pointer (some ⟨m, 0, none⟩), .int .i64 e]) ∧ IntV w' m v neg N ∧ Fr w w' None

/-- What the loop of plus has done after 0, 1, 2 rounds. T: the result's variable, T + 1: the zero, T + 2: the sum's variable. -/
def PlInv (T p0 : Nat) (e0 e1 : Int) (neg : Bool) (N : Nat) (w : World) (ix : Value) (wr : World) : Prop :=
  T = w.heap.size ∧ At wr T #[.pointer none, .int .i64 0] 64 ∧ Fr w wr None ∧
  ((ix = .int .i64 0 ∧ At wr (T + 1 + 1) #[.pointer (some ⟨T + 1, 0, none⟩), .int .i64 0] 64 ∧ Shell wr (T + 1) (.slice none 0 0) false) ∨
   (ix = .int .i64 1 ∧ At wr (T + 1 + 1) #[.pointer (some ⟨p0, 0, none⟩), .int .i64 e0] 64) ∨
   (ix = .int .i64 2 ∧ ∃ m v, At wr (T + 1 + 1) #[.pointer (some ⟨m, 0, none⟩), .int .i64 e1] 64 ∧ IntV wr m v neg N))

theorem pl_start (w : World) (p0 : Nat) (e0 e1 : Int) (neg : Bool) (N : Nat) : PlInv w.heap.size p0 e0 e1 neg N w (.int .i64 0)
    (((w.alloc (.cells #[.pointer none, .int .i64 0] 64)).alloc (.cells #[.bool false, .slice none 0 0] 87)).alloc (.cells #[.pointer (some ⟨w.heap.size + 1, 0, none⟩), .int .i64 0] 64)) := by
  have f1 := (Fr.refl w None).alloc (.cells #[.pointer none, .int .i64 0] 64)
  have f2 := (Fr.refl (w.alloc (.cells #[.pointer none, .int .i64 0] 64)) None).alloc (.cells #[.bool false, .slice none 0 0] 87)
  have f3 := (Fr.refl ((w.alloc (.cells #[.pointer none, .int .i64 0] 64)).alloc (.cells #[.bool false, .slice none 0 0] 87)) None).alloc (.cells #[.pointer (some ⟨w.heap.size + 1, 0, none⟩), .int .i64 0] 64)
  refine ⟨rfl, ((At.alloc w _ _).keep f2 (fun x => x)).keep f3 (fun x => x), (f1.trans f2 (fun _ h => h) (fun _ _ h => h)).trans f3 (fun _ h => h) (fun _ _ h => h), Or.inl ⟨rfl, ?_, ?_⟩⟩
  · have := At.alloc ((w.alloc (.cells #[.pointer none, .int .i64 0] 64)).alloc (.cells #[.bool false, .slice none 0 0] 87)) #[.pointer (some ⟨w.heap.size + 1, 0, none⟩), .int .i64 0] 64
    simpa using this
  · have := alloc_shell (w.alloc (.cells #[.pointer none, .int .i64 0] 64)) false (.slice none 0 0)
    have := this.keep f3 (fun x => x)
    simpa using this

theorem put2 {w : World} {R t : Nat} {a b : Value} (h : At w R #[a, b] t) (x y : Value) :
    At ((w.setCell ⟨R, 0, none⟩ x).setCell ⟨R, 1, none⟩ y) R #[x, y] t ∧ Fr w ((w.setCell ⟨R, 0, none⟩ x).setCell ⟨R, 1, none⟩ y) (One R) :=
  ⟨(h.put 0 x).put 1 y, ((Fr.refl w (One R)).setCell (p := ⟨R, 0, none⟩) (Or.inl rfl) _).setCell (p := ⟨R, 1, none⟩) (Or.inl rfl) _⟩

theorem sgn_ne (n : Bool) : ((if n then (-1 : Int) else 1) == 0) = false := by cases n <;> rfl

/-- A new zero's struct. -/
def zInt : Obj := .cells #[.bool false, .slice none 0 0] 87
theorem z_at (w : World) : Shell (w.alloc zInt) w.heap.size (.slice none 0 0) false ∧ Fr w (w.alloc zInt) None := ⟨alloc_shell w false _, (Fr.refl w None).alloc _⟩

def LshAt (wa W : World) (z1 : Nat) (neg : Bool) (N : Nat) (e : Ending) (w2 : World) : Prop :=
  e = .returned (.pointer (some ⟨z1, 0, none⟩)) ∧ Fr wa w2 None ∧ (∃ v, IntV w2 z1 v neg N) ∧ ∀ z, z ≠ z1 → Shell W z (.slice none 0 0) false → Shell w2 z (.slice none 0 0) false

theorem lsh_at {wa W : World} {z1 p0 s A0 : Nat} {v0 : Value} {n0 : Bool} (hs : 0 < s) (hs2 : s < 64) (hA : A0 < 2 ^ (64 * 2)) (hF : Fr wa W None) (hz : Shell W z1 (.slice none 0 0) false) (hn : wa.heap.size ≤ z1) (h0 : IntV wa p0 v0 n0 A0) :
    Calls Tryd.prog 61 #[.pointer (some ⟨z1, 0, none⟩), .pointer (some ⟨p0, 0, none⟩), .int .u64 (s : Int)] W (LshAt wa W z1 n0 (A0 * 2 ^ s)) := by
  refine (intLsh z1 p0 (.slice none 0 0) v0 false n0 0 A0 s 2 hs hs2 (by omega) W ⟨hz, Or.inl ⟨rfl, rfl⟩⟩ (h0.keep hF (fun x => x) (fun _ _ x => x)) hA).mono ?_
  rintro e w2 ⟨rfl, v, h1, h2, h3⟩
  have nb : ∀ b, ¬ Blk (.slice none 0 0) b := fun b h => by obtain ⟨_, _, h⟩ := h; cases h
  refine ⟨rfl, hF.trans h3 (fun _ h => h) (fun x hx h => h.elim (fun h => by omega) (nb x)), ⟨v, h1⟩, fun z hz1 hz2 => hz2.keep h3 (fun h => h.elim hz1 (nb z))⟩

def AddAt (wa : World) (z0 : Nat) (neg : Bool) (N : Nat) (e : Ending) (w3 : World) : Prop :=
  e = .returned (.pointer (some ⟨z0, 0, none⟩)) ∧ Fr wa w3 None ∧ ∃ v, IntV w3 z0 v neg N

theorem add_at {wa W : World} {z0 z1 p1 A1 M N : Nat} {v1 : Value} {n0 n1 neg : Bool} (hadd : ∀ W z zl vx vl, IntV W z (.slice none 0 0) false 0 → IntV W p1 vx n1 A1 → IntV W zl vl n0 M → Calls Tryd.prog 64 #[.pointer (some ⟨z, 0, none⟩), .pointer (some ⟨p1, 0, none⟩), .pointer (some ⟨zl, 0, none⟩)] W (IntPost z (Blk (.slice none 0 0)) neg N W))
    (hF : Fr wa W None) (hz : Shell W z0 (.slice none 0 0) false) (hn : wa.heap.size ≤ z0) (h1 : IntV wa p1 v1 n1 A1) (hl : ∃ v, IntV W z1 v n0 M) :
    Calls Tryd.prog 64 #[.pointer (some ⟨z0, 0, none⟩), .pointer (some ⟨p1, 0, none⟩), .pointer (some ⟨z1, 0, none⟩)] W (AddAt wa z0 neg N) := by
  obtain ⟨vl, hl⟩ := hl
  refine (hadd W z0 z1 v1 vl ⟨hz, Or.inl ⟨rfl, rfl⟩⟩ (h1.keep hF (fun x => x) (fun _ _ x => x)) hl).mono ?_
  rintro e w2 ⟨rfl, v, h1, h2, h3⟩
  have nb : ∀ b, ¬ Blk (.slice none 0 0) b := fun b h => by obtain ⟨_, _, h⟩ := h; cases h
  exact ⟨rfl, hF.trans h3 (fun _ h => h) (fun x hx h => h.elim (fun h => by omega) (nb x)), v, h1⟩

/-- The four cells that plus reads at a sum. -/
def PlS (bx T p0 p1 : Nat) (e0 e1 : Int) (w : World) : Prop :=
  w.cell? ⟨bx, 0, none⟩ = some (.pointer (some ⟨p1, 0, none⟩)) ∧ w.cell? ⟨bx, 1, none⟩ = some (.int .i64 e1) ∧ w.cell? ⟨T + 1 + 1, 0, none⟩ = some (.pointer (some ⟨p0, 0, none⟩)) ∧ w.cell? ⟨T + 1 + 1, 1, none⟩ = some (.int .i64 e0)

theorem plS_of {bx T p0 p1 : Nat} {e0 e1 : Int} {wa W : World} (ta : At wa bx #[.pointer (some ⟨p1, 0, none⟩), .int .i64 e1] 64) (rs : At wa (T + 1 + 1) #[.pointer (some ⟨p0, 0, none⟩), .int .i64 e0] 64) (f : Fr wa W None) : PlS bx T p0 p1 e0 e1 W :=
  ⟨(ta.keep f (fun x => x)).cell 0, (ta.keep f (fun x => x)).cell 1, (rs.keep f (fun x => x)).cell 0, (rs.keep f (fun x => x)).cell 1⟩

theorem pl_end {T p0 N z : Nat} {e0 e1 : Int} {neg : Bool} {w wa w3 : World} {v : Value} (hT : T = w.heap.size) (f : Fr w wa None) (rT : At wa T #[.pointer none, .int .i64 0] 64) {a b : Value} (rs : At wa (T + 1 + 1) #[a, b] 64) (rz : At w3 (T + 1 + 1) #[a, b] 64) (f3 : Fr wa w3 None) (hv : IntV w3 z v neg N) (hz : wa.heap.size ≤ z)
    (ay : At ((w3.setCell ⟨T + 1 + 1, 0, none⟩ (.pointer (some ⟨z, 0, none⟩))).setCell ⟨T + 1 + 1, 1, none⟩ (.int .i64 e1)) (T + 1 + 1) #[.pointer (some ⟨z, 0, none⟩), .int .i64 e1] 64)
    (fy : Fr w3 ((w3.setCell ⟨T + 1 + 1, 0, none⟩ (.pointer (some ⟨z, 0, none⟩))).setCell ⟨T + 1 + 1, 1, none⟩ (.int .i64 e1)) (One (T + 1 + 1))) :
    PlInv T p0 e0 e1 neg N w (.int .i64 2) ((w3.setCell ⟨T + 1 + 1, 0, none⟩ (.pointer (some ⟨z, 0, none⟩))).setCell ⟨T + 1 + 1, 1, none⟩ (.int .i64 e1)) := by
  have hlt := rs.lt
  have nb : ∀ q, Blk v q → q ≠ T + 1 + 1 := fun q hq e => by
    subst e
    obtain ⟨l, c, rfl⟩ := hq
    rcases hv.2 with ⟨h, _⟩ | ⟨b', len, cap, l', h, hr, _⟩
    · cases h
    · cases h
      have := rz.symm.trans hr.1
      injection this with this
      injection this with _ h2
      revert h2
      decide
  exact ⟨hT, (rT.keep f3 (fun x => x)).keep fy (fun e => by unfold Mem.One at e; omega), (f.trans f3 (fun _ h => h) (fun _ _ h => h)).trans fy (fun _ h => h) (fun x hx h => by unfold Mem.One at h; omega),
    Or.inr (Or.inr ⟨rfl, z, v, ay, hv.keep fy (fun e => by unfold Mem.One at e; omega) (fun q hq e => nb q hq (by unfold Mem.One at e; exact e))⟩)⟩

theorem pl_fin {T N m : Nat} {e1 : Int} {neg : Bool} {w wr wz : World} {v : Value} (hT : T = w.heap.size) (f : Fr w wr None) {a b : Value} (rT : At wr T #[a, b] 64) (hv : IntV wr m v neg N) (fy : Fr wr wz (One T)) :
    PlusPost neg N e1 w (.returned (.agg #[.pointer (some ⟨m, 0, none⟩), .int .i64 e1])) wz := by
  have nm : m ≠ T := fun e => by
    subst e
    have := rT.symm.trans hv.1
    injection this with this
    injection this with _ h2
    revert h2
    decide
  have nb : ∀ q, Blk v q → q ≠ T := fun q hq e => by
    subst e
    obtain ⟨l, c, rfl⟩ := hq
    rcases hv.2 with ⟨h, _⟩ | ⟨b', len, cap, l', h, hr, _⟩
    · cases h
    · cases h
      have := rT.symm.trans hr.1
      injection this with this
      injection this with _ h2
      revert h2
      decide
  exact ⟨m, v, rfl, hv.keep fy (fun e => nm (by unfold Mem.One at e; exact e)) (fun q hq e => nb q hq (by unfold Mem.One at e; exact e)), f.trans fy (fun _ h => h) (fun x hx h => by unfold Mem.One at h; omega)⟩

set_option maxRecDepth 100000 in
set_option maxHeartbeats 4000000 in
theorem plus_two (ob p0 p1 : Nat) (v0 v1 : Value) (n0 n1 : Bool) (A0 A1 s : Nat) (e0 e1 : Int) (w : World) (hr : At w ob #[.pointer (some ⟨p0, 0, none⟩), .int .i64 e0, .pointer (some ⟨p1, 0, none⟩), .int .i64 e1] 64)
    (h0 : IntV w p0 v0 n0 A0) (h1 : IntV w p1 v1 n1 A1) (z0 : 0 < A0) (z1 : 0 < A1) (N : Nat) (neg : Bool) (hs : 0 < s) (hs2 : s < 64) (hA : A0 < 2 ^ (64 * 2)) (hes : e0 - e1 = (s : Int))
    (hadd : ∀ W z zl vx vl, IntV W z (.slice none 0 0) false 0 → IntV W p1 vx n1 A1 → IntV W zl vl n0 (A0 * 2 ^ s) → Calls Tryd.prog 64 #[.pointer (some ⟨z, 0, none⟩), .pointer (some ⟨p1, 0, none⟩), .pointer (some ⟨zl, 0, none⟩)] W (IntPost z (Blk (.slice none 0 0)) neg N W)) :
    Calls Tryd.prog 34 #[.slice (some ⟨ob, 0, none⟩) 2 2] w (PlusPost neg N e1 w) := by
  have I := Lib.hid (pl_start w p0 e0 e1 neg N)
  obtain ⟨s0, hs0, k0⟩ : ∃ s : Int, (if n0 then (-1 : Int) else 1) = s ∧ (s == 0) = false := ⟨_, rfl, sgn_ne n0⟩
  obtain ⟨s1, hs1, k1⟩ : ∃ s : Int, (if n1 then (-1 : Int) else 1) = s ∧ (s == 0) = false := ⟨_, rfl, sgn_ne n1⟩
  have HR := Lib.hid hr
  have H0 := Lib.hid h0
  have H1 := Lib.hid h1
  have HADD := Lib.hid hadd
  have HAL := Lib.hid hA
  clear hr h0 h1 hadd hA
  go_enter Tryd.func34, Tryd.ntmps34
  go_wp2_with fail
  generalize hT : w.heap.size = T at I ⊢
  generalize (((w.alloc (.cells #[.pointer none, .int .i64 0] 64)).alloc (.cells #[.bool false, .slice none 0 0] 87)).alloc (.cells #[.pointer (some ⟨T + 1, 0, none⟩), .int .i64 0] 64)) = w0 at I ⊢
  clear hT
  go_loopw [10] (fun ix wr => PlInv T p0 e0 e1 neg N w ix wr) (fun ix _ => 2 - (intOf ix).toNat)
  case atStart => exact I.out
  case round =>
    obtain ⟨hTw, rT, fr, hcase⟩ := hrel
    have HTW := Lib.hid hTw
    clear hTw
    have hob : At wr ob #[.pointer (some ⟨p0, 0, none⟩), .int .i64 e0, .pointer (some ⟨p1, 0, none⟩), .int .i64 e1] 64 := HR.out.keep fr (fun x => x)
    rcases hcase with ⟨rfl, rs, sh⟩ | ⟨rfl, rs⟩ | ⟨rfl, m, v, rs, hm⟩
    · have c0 := hob.cell 0
      have c1 := hob.cell 1
      obtain ⟨ta, fa⟩ := And.intro (At.alloc wr #[.pointer (some ⟨p0, 0, none⟩), .int .i64 e0] 64) ((Fr.refl wr None).alloc (.cells #[.pointer (some ⟨p0, 0, none⟩), .int .i64 e0] 64))
      have fra := fr.trans fa (fun _ h => h) (fun _ _ h => h)
      have hsp := intSign_pos p0 v0 n0 A0 _ z0 (H0.out.keep fra (fun x => x) (fun _ _ x => x))
      rw [hs0] at hsp
      have HS0 := Lib.hid hsp
      have HS1 := Lib.hid (intSign_zero (T + 1) (.slice none 0 0) false _ (show IntV _ _ _ _ 0 from ⟨sh.keep fa (fun x => x), Or.inl ⟨rfl, rfl⟩⟩))
      have TA := Lib.hid ta
      have RS := Lib.hid (rs.keep fa (fun x => x))
      have RT := Lib.hid (rT.keep fa (fun x => x))
      have FRA := Lib.hid fra
      clear hob rs sh rT fr fa fra ta hsp hs0 hs1
      go_wp2_with fail
      generalize hbx : wr.heap.size = bx at TA ⊢
      generalize wr.alloc (.cells #[.pointer (some ⟨p0, 0, none⟩), .int .i64 e0] 64) = wa at HS0 HS1 TA RS RT FRA ⊢
      have x0 := TA.out.cell 0
      have x1 := TA.out.cell 1
      refine (HS0.out).mono ?_
      rintro en w1 ⟨rfl, rfl⟩
      have y0 := RS.out.cell 0
      have y1 := RS.out.cell 1
      have g0 := RS.out.free 0
      have g1 := RS.out.free 1
      go_wp2_with fail
      refine (HS1.out).mono ?_
      rintro en w1 ⟨rfl, rfl⟩
      go_wp2_with fail
      obtain ⟨ay, fy⟩ := put2 RS.out (.pointer (some ⟨p0, 0, none⟩)) (.int .i64 e0)
      have R : Hid (PlInv T p0 e0 e1 neg N w (.int .i64 1) ((wa.setCell ⟨T + 1 + 1, 0, none⟩ (.pointer (some ⟨p0, 0, none⟩))).setCell ⟨T + 1 + 1, 1, none⟩ (.int .i64 e0))) :=
        Lib.hid ⟨HTW.out, RT.out.keep fy (fun e => by unfold Mem.One at e; omega), FRA.out.trans fy (fun _ h => h) (fun x hx h => by have := HTW.out; unfold Mem.One at h; omega), Or.inr (Or.inl ⟨rfl, ay⟩)⟩
      clear ay fy
      generalize (wa.setCell ⟨T + 1 + 1, 0, none⟩ (.pointer (some ⟨p0, 0, none⟩))).setCell ⟨T + 1 + 1, 1, none⟩ (.int .i64 e0) = wz at R ⊢
      refine ⟨R.out, by simp [intOf]⟩
    · have c0 := hob.cell 2
      have c1 := hob.cell 3
      obtain ⟨ta, fa⟩ := And.intro (At.alloc wr #[.pointer (some ⟨p1, 0, none⟩), .int .i64 e1] 64) ((Fr.refl wr None).alloc (.cells #[.pointer (some ⟨p1, 0, none⟩), .int .i64 e1] 64))
      have fra := fr.trans fa (fun _ h => h) (fun _ _ h => h)
      have hsp := intSign_pos p1 v1 n1 A1 _ z1 (H1.out.keep fra (fun x => x) (fun _ _ x => x))
      rw [hs1] at hsp
      have hsq := intSign_pos p0 v0 n0 A0 _ z0 (H0.out.keep fra (fun x => x) (fun _ _ x => x))
      rw [hs0] at hsq
      have HS0 := Lib.hid hsp
      have HS1 := Lib.hid hsq
      have TA := Lib.hid ta
      have RS := Lib.hid (rs.keep fa (fun x => x))
      have RT := Lib.hid (rT.keep fa (fun x => x))
      have FRA := Lib.hid fra
      clear hob rs rT fr fa fra ta hsp hsq hs0 hs1
      go_wp2_with fail
      generalize hbx : wr.heap.size = bx at TA ⊢
      generalize wr.alloc (.cells #[.pointer (some ⟨p1, 0, none⟩), .int .i64 e1] 64) = wa at HS0 HS1 TA RS RT FRA ⊢
      have x0 := TA.out.cell 0
      have x1 := TA.out.cell 1
      refine (HS0.out).mono ?_
      rintro en w1 ⟨rfl, rfl⟩
      have y0 := RS.out.cell 0
      have y1 := RS.out.cell 1
      have g0 := RS.out.free 0
      have g1 := RS.out.free 1
      go_wp2_with fail
      refine (HS1.out).mono ?_
      rintro en w1 ⟨rfl, rfl⟩
      have ige : ¬ (e0 ≤ e1) := by omega
      have hs3 : (s : Int) < 64 := by omega
      go_wp2_with fail
      -- the worlds of the two new zeros
      have fr0 : Fr w wa None := FRA.out
      obtain ⟨sa, fa⟩ := z_at wa
      obtain ⟨sb, fb⟩ := z_at (wa.alloc zInt)
      have fab := fa.trans fb (fun _ h => h) (fun _ _ h => h)
      have sa2 := sa.keep fb (fun x => x)
      have hsz : (wa.alloc zInt).heap.size = wa.heap.size + 1 := by simp [zInt]
      rw [hsz] at sb
      have HA0 : IntV wa p0 v0 n0 A0 := H0.out.keep fr0 (fun x => x) (fun _ _ x => x)
      have HA1 : IntV wa p1 v1 n1 A1 := H1.out.keep fr0 (fun x => x) (fun _ _ x => x)
      have L1 := Lib.hid (lsh_at hs hs2 HAL.out fa.drew (show Shell (wa.alloc zInt).drew _ _ _ from sa) (Nat.le_refl _) HA0)
      have L2 := Lib.hid (lsh_at hs hs2 HAL.out fab.drew (show Shell ((wa.alloc zInt).alloc zInt).drew _ _ _ from sa2) (Nat.le_refl _) HA0)
      have L3 := Lib.hid (lsh_at hs hs2 HAL.out fab.drew (show Shell ((wa.alloc zInt).alloc zInt).drew _ _ _ from sb) (Nat.le_succ _) HA0)
      have SS := Lib.hid (And.intro sa2 sb)
      have HB1 := Lib.hid HA1
      have rb := RS.out.keep fa (fun x => x)
      have rc := rb.keep fb (fun x => x)
      have m0 := rb.cell 0
      have m1 := rb.cell 1
      have m2 := rc.cell 0
      have m3 := rc.cell 1
      have tb := TA.out.keep fa (fun x => x)
      have tc := tb.keep fb (fun x => x)
      have t0 := tb.cell 0
      have t1 := tb.cell 1
      have t2 := tc.cell 0
      have t3 := tc.cell 1
      clear sa fa sb fb fab sa2 HA0 HA1 rb rc tb tc fr0
      have hS0 : PlS bx T p0 p1 e0 e1 wa.drew := ⟨x0, x1, y0, y1⟩
      refine wp_region_noPanic (wp_region_any (by kernel_rfl) (AnyBut.any (S := PlS bx T p0 p1 e0 e1) (m := 17) _ _ _ _ ?_))
      change AnyBut _ _ _ _ _ _ _ _ _ (World.drew _)
      refine AnyBut.take (i := 1) (o := _) (d := some 15) (v := .pointer (some ⟨bx, 0, none⟩)) rfl rfl (by kernel_rfl) (by kernel_rfl) (by kernel_rfl) (by kernel_rfl) (fun _ _ _ h => h) (Or.inl ⟨by rfl, fun w' hS => ?_⟩) hS0 ?_
      · obtain ⟨q1, q2, q3, q4⟩ := hS
        clear x0 x1 y0 y1 hS0
        go_simp
      simp only [Act.put, List.setIfInBounds_toArray, List.set_cons_zero, List.set_cons_succ]
      refine AnyBut.take (i := 2) (o := _) (d := some 16) (v := .pointer (some ⟨p1, 0, none⟩)) rfl rfl (by kernel_rfl) (by kernel_rfl) (by kernel_rfl) (by kernel_rfl) (fun _ _ _ h => h) (Or.inl ⟨by rfl, fun w' hS => ?_⟩) hS0 ?_
      · obtain ⟨q1, q2, q3, q4⟩ := hS
        clear x0 x1 y0 y1 hS0
        go_simp
      simp only [Act.put, List.setIfInBounds_toArray, List.set_cons_zero, List.set_cons_succ]
      refine AnyBut.take (i := 4) (o := _) (d := some 18) (v := .pointer (some ⟨T + 1 + 1, 0, none⟩)) rfl rfl (by kernel_rfl) (by kernel_rfl) (by kernel_rfl) (by kernel_rfl) (fun _ _ _ h => h) (Or.inl ⟨by rfl, fun w' hS => ?_⟩) hS0 ?_
      · obtain ⟨q1, q2, q3, q4⟩ := hS
        clear x0 x1 y0 y1 hS0
        go_simp
      simp only [Act.put, List.setIfInBounds_toArray, List.set_cons_zero, List.set_cons_succ]
      refine AnyBut.take (i := 5) (o := _) (d := some 19) (v := .pointer (some ⟨p0, 0, none⟩)) rfl rfl (by kernel_rfl) (by kernel_rfl) (by kernel_rfl) (by kernel_rfl) (fun _ _ _ h => h) (Or.inl ⟨by rfl, fun w' hS => ?_⟩) hS0 ?_
      · obtain ⟨q1, q2, q3, q4⟩ := hS
        clear x0 x1 y0 y1 hS0
        go_simp
      simp only [Act.put, List.setIfInBounds_toArray, List.set_cons_zero, List.set_cons_succ]
      refine AnyBut.take (i := 6) (o := _) (d := some 20) (v := .pointer (some ⟨T + 1 + 1, 1, none⟩)) rfl rfl (by kernel_rfl) (by kernel_rfl) (by kernel_rfl) (by kernel_rfl) (fun _ _ _ h => h) (Or.inl ⟨by rfl, fun w' hS => ?_⟩) hS0 ?_
      · obtain ⟨q1, q2, q3, q4⟩ := hS
        clear x0 x1 y0 y1 hS0
        go_simp
      simp only [Act.put, List.setIfInBounds_toArray, List.set_cons_zero, List.set_cons_succ]
      refine AnyBut.take (i := 7) (o := _) (d := some 21) (v := .int .i64 e0) rfl rfl (by kernel_rfl) (by kernel_rfl) (by kernel_rfl) (by kernel_rfl) (fun _ _ _ h => h) (Or.inl ⟨by rfl, fun w' hS => ?_⟩) hS0 ?_
      · obtain ⟨q1, q2, q3, q4⟩ := hS
        clear x0 x1 y0 y1 hS0
        go_simp
      simp only [Act.put, List.setIfInBounds_toArray, List.set_cons_zero, List.set_cons_succ]
      refine AnyBut.take (i := 8) (o := _) (d := some 22) (v := .pointer (some ⟨bx, 1, none⟩)) rfl rfl (by kernel_rfl) (by kernel_rfl) (by kernel_rfl) (by kernel_rfl) (fun _ _ _ h => h) (Or.inl ⟨by rfl, fun w' hS => ?_⟩) hS0 ?_
      · obtain ⟨q1, q2, q3, q4⟩ := hS
        clear x0 x1 y0 y1 hS0
        go_simp
      simp only [Act.put, List.setIfInBounds_toArray, List.set_cons_zero, List.set_cons_succ]
      refine AnyBut.take (i := 9) (o := _) (d := some 23) (v := .int .i64 e1) rfl rfl (by kernel_rfl) (by kernel_rfl) (by kernel_rfl) (by kernel_rfl) (fun _ _ _ h => h) (Or.inl ⟨by rfl, fun w' hS => ?_⟩) hS0 ?_
      · obtain ⟨q1, q2, q3, q4⟩ := hS
        clear x0 x1 y0 y1 hS0
        go_simp
      simp only [Act.put, List.setIfInBounds_toArray, List.set_cons_zero, List.set_cons_succ]
      refine AnyBut.take (i := 10) (o := _) (d := some 24) (v := .int .i64 (s : Int)) rfl rfl (by kernel_rfl) (by kernel_rfl) (by kernel_rfl) (by kernel_rfl) (fun _ _ _ h => h) (Or.inl ⟨by rfl, fun w' hS => ?_⟩) hS0 ?_
      · obtain ⟨q1, q2, q3, q4⟩ := hS
        clear x0 x1 y0 y1 hS0
        go_simp
        exact IntWalk.i64_in _ (by omega)
      simp only [Act.put, List.setIfInBounds_toArray, List.set_cons_zero, List.set_cons_succ]
      refine AnyBut.take (i := 11) (o := _) (d := some 25) (v := .int .u64 (s : Int)) rfl rfl (by kernel_rfl) (by kernel_rfl) (by kernel_rfl) (by kernel_rfl) (fun _ _ _ h => h) (Or.inl ⟨by rfl, fun w' hS => ?_⟩) hS0 ?_
      · obtain ⟨q1, q2, q3, q4⟩ := hS
        clear x0 x1 y0 y1 hS0
        go_simp
        rw [IntKind.wrap_u64]
        omega
      simp only [Act.put, List.setIfInBounds_toArray, List.set_cons_zero, List.set_cons_succ]
      refine AnyBut.take (i := 14) (o := _) (d := some 28) (v := .pointer (some ⟨bx, 1, none⟩)) rfl rfl (by kernel_rfl) (by kernel_rfl) (by kernel_rfl) (by kernel_rfl) (fun _ _ _ h => h) (Or.inl ⟨by rfl, fun w' hS => ?_⟩) hS0 ?_
      · obtain ⟨q1, q2, q3, q4⟩ := hS
        clear x0 x1 y0 y1 hS0
        go_simp
      simp only [Act.put, List.setIfInBounds_toArray, List.set_cons_zero, List.set_cons_succ]
      refine AnyBut.take (i := 15) (o := _) (d := some 29) (v := .int .i64 e1) rfl rfl (by kernel_rfl) (by kernel_rfl) (by kernel_rfl) (by kernel_rfl) (fun _ _ _ h => h) (Or.inl ⟨by rfl, fun w' hS => ?_⟩) hS0 ?_
      · obtain ⟨q1, q2, q3, q4⟩ := hS
        clear x0 x1 y0 y1 hS0
        go_simp
      simp only [Act.put, List.setIfInBounds_toArray, List.set_cons_zero, List.set_cons_succ]
      -- THE ORDERS
      refine AnyBut.all (rs := [0, 3]) (by kernel_rfl) (by simp) ?_
      intro j hj
      rcases List.mem_cons.1 hj with rfl | hj
      · clear hj
        refine opGo (o := _) rfl rfl ?_
        go_simp
        refine ⟨plS_of TA.out RS.out ((Fr.refl wa None).alloc _).drew, ?_⟩
        refine AnyBut.all (rs := [3]) (by kernel_rfl) (by simp) ?_
        intro j hj
        obtain rfl := List.mem_singleton.1 hj
        clear hj
        refine opGo (o := _) rfl rfl ?_
        go_simp
        refine ⟨plS_of TA.out RS.out (((Fr.refl wa None).alloc _).alloc _).drew, ?_⟩
        refine AnyBut.all (rs := [12]) (by kernel_rfl) (by simp) ?_
        intro j hj
        obtain rfl := List.mem_singleton.1 hj
        clear hj
        refine opGo (o := _) rfl rfl ?_
        go_simp
        refine (L3.out).mono ?_
        rintro en w2 ⟨rfl, f2, hv, hk⟩
        have hs2' := f2.size
        refine ⟨plS_of TA.out RS.out f2, ?_⟩
        refine AnyBut.all (rs := [13]) (by kernel_rfl) (by simp) ?_
        intro j hj
        obtain rfl := List.mem_singleton.1 hj
        clear hj
        refine opGo (o := _) rfl rfl ?_
        go_simp
        refine (add_at HADD.out f2 (hk _ (by omega) SS.out.1) (Nat.le_refl _) HB1.out hv).mono ?_
        rintro en w3 ⟨rfl, f3, v3, hv3⟩
        have hS3 : PlS bx T p0 p1 e0 e1 w3 := plS_of TA.out RS.out f3
        refine ⟨hS3, ?_⟩
        refine AnyBut.take (i := 16) (o := _) (d := some 30) (v := .agg #[.pointer (some ⟨wa.heap.size, 0, none⟩), .int .i64 e1]) rfl rfl (by kernel_rfl) (by kernel_rfl) (by kernel_rfl) (by kernel_rfl) (fun _ _ _ h => h) (Or.inl ⟨by rfl, fun w' hS => ?_⟩) hS3 ?_
        · clear hS hS3
          go_simp
        simp only [Act.put, List.setIfInBounds_toArray, List.set_cons_zero, List.set_cons_succ]
        have rz := RS.out.keep f3 (fun x => x)
        have r0 := rz.cell 0
        have r1 := rz.cell 1
        have r2 := rz.free 0
        have r3 := rz.free 1
        obtain ⟨ay, fy⟩ := put2 rz (.pointer (some ⟨wa.heap.size, 0, none⟩)) (.int .i64 e1)
        have R : Hid (PlInv T p0 e0 e1 neg N w (.int .i64 2) ((w3.setCell ⟨T + 1 + 1, 0, none⟩ (.pointer (some ⟨wa.heap.size, 0, none⟩))).setCell ⟨T + 1 + 1, 1, none⟩ (.int .i64 e1))) :=
          Lib.hid (pl_end HTW.out FRA.out RT.out RS.out rz f3 hv3 (by omega) ay fy)
        clear ay fy rz hS3 f3 hv3
        refine AnyBut.all (rs := [17]) (by kernel_rfl) (by simp) ?_
        intro j hj
        obtain rfl := List.mem_singleton.1 hj
        clear hj
        refine opGo (o := _) rfl rfl ?_
        go_simp
        refine AnyBut.done (by kernel_rfl) (NoPanic.normal ?_) _
        generalize (w3.setCell ⟨T + 1 + 1, 0, none⟩ (.pointer (some ⟨wa.heap.size, 0, none⟩))).setCell ⟨T + 1 + 1, 1, none⟩ (.int .i64 e1) = wz at R ⊢
        clear r0 r1 r2 r3
        go_wp2_with fail
        refine ⟨R.out, by simp [intOf]⟩
      · obtain rfl := List.mem_singleton.1 hj
        clear hj
        refine opGo (o := _) rfl rfl ?_
        go_simp
        refine ⟨plS_of TA.out RS.out ((Fr.refl wa None).alloc _).drew, ?_⟩
        refine AnyBut.all (rs := [0, 12]) (by kernel_rfl) (by simp) ?_
        intro j hj
        rcases List.mem_cons.1 hj with rfl | hj
        · clear hj
          refine opGo (o := _) rfl rfl ?_
          go_simp
          refine ⟨plS_of TA.out RS.out (((Fr.refl wa None).alloc _).alloc _).drew, ?_⟩
          refine AnyBut.all (rs := [12]) (by kernel_rfl) (by simp) ?_
          intro j hj
          obtain rfl := List.mem_singleton.1 hj
          clear hj
          refine opGo (o := _) rfl rfl ?_
          go_simp
          refine (L2.out).mono ?_
          rintro en w2 ⟨rfl, f2, hv, hk⟩
          have hs2' := f2.size
          refine ⟨plS_of TA.out RS.out f2, ?_⟩
          refine AnyBut.all (rs := [13]) (by kernel_rfl) (by simp) ?_
          intro j hj
          obtain rfl := List.mem_singleton.1 hj
          clear hj
          refine opGo (o := _) rfl rfl ?_
          go_simp
          refine (add_at HADD.out f2 (hk _ (by omega) SS.out.2) (Nat.le_succ _) HB1.out hv).mono ?_
          rintro en w3 ⟨rfl, f3, v3, hv3⟩
          have hS3 : PlS bx T p0 p1 e0 e1 w3 := plS_of TA.out RS.out f3
          refine ⟨hS3, ?_⟩
          refine AnyBut.take (i := 16) (o := _) (d := some 30) (v := .agg #[.pointer (some ⟨wa.heap.size + 1, 0, none⟩), .int .i64 e1]) rfl rfl (by kernel_rfl) (by kernel_rfl) (by kernel_rfl) (by kernel_rfl) (fun _ _ _ h => h) (Or.inl ⟨by rfl, fun w' hS => ?_⟩) hS3 ?_
          · clear hS hS3
            go_simp
          simp only [Act.put, List.setIfInBounds_toArray, List.set_cons_zero, List.set_cons_succ]
          have rz := RS.out.keep f3 (fun x => x)
          have r0 := rz.cell 0
          have r1 := rz.cell 1
          have r2 := rz.free 0
          have r3 := rz.free 1
          obtain ⟨ay, fy⟩ := put2 rz (.pointer (some ⟨wa.heap.size + 1, 0, none⟩)) (.int .i64 e1)
          have R : Hid (PlInv T p0 e0 e1 neg N w (.int .i64 2) ((w3.setCell ⟨T + 1 + 1, 0, none⟩ (.pointer (some ⟨wa.heap.size + 1, 0, none⟩))).setCell ⟨T + 1 + 1, 1, none⟩ (.int .i64 e1))) :=
            Lib.hid (pl_end HTW.out FRA.out RT.out RS.out rz f3 hv3 (by omega) ay fy)
          clear ay fy rz hS3 f3 hv3
          refine AnyBut.all (rs := [17]) (by kernel_rfl) (by simp) ?_
          intro j hj
          obtain rfl := List.mem_singleton.1 hj
          clear hj
          refine opGo (o := _) rfl rfl ?_
          go_simp
          refine AnyBut.done (by kernel_rfl) (NoPanic.normal ?_) _
          generalize (w3.setCell ⟨T + 1 + 1, 0, none⟩ (.pointer (some ⟨wa.heap.size + 1, 0, none⟩))).setCell ⟨T + 1 + 1, 1, none⟩ (.int .i64 e1) = wz at R ⊢
          clear r0 r1 r2 r3
          go_wp2_with fail
          refine ⟨R.out, by simp [intOf]⟩
        · obtain rfl := List.mem_singleton.1 hj
          clear hj
          refine opGo (o := _) rfl rfl ?_
          go_simp
          refine (L1.out).mono ?_
          rintro en w2 ⟨rfl, f2, hv, hk⟩
          have hs2' := f2.size
          refine ⟨plS_of TA.out RS.out f2, ?_⟩
          refine AnyBut.all (rs := [0]) (by kernel_rfl) (by simp) ?_
          intro j hj
          obtain rfl := List.mem_singleton.1 hj
          clear hj
          refine opGo (o := _) rfl rfl ?_
          go_simp
          refine ⟨plS_of TA.out RS.out (f2.alloc _), ?_⟩
          refine AnyBut.all (rs := [13]) (by kernel_rfl) (by simp) ?_
          intro j hj
          obtain rfl := List.mem_singleton.1 hj
          clear hj
          refine opGo (o := _) rfl rfl ?_
          go_simp
          refine (add_at HADD.out (f2.alloc _) (alloc_shell w2 _ _) hs2' HB1.out (hv.imp fun _ h => h.keep ((Fr.refl w2 None).alloc _) (fun x => x) (fun _ _ x => x))).mono ?_
          rintro en w3 ⟨rfl, f3, v3, hv3⟩
          have hS3 : PlS bx T p0 p1 e0 e1 w3 := plS_of TA.out RS.out f3
          refine ⟨hS3, ?_⟩
          refine AnyBut.take (i := 16) (o := _) (d := some 30) (v := .agg #[.pointer (some ⟨w2.heap.size, 0, none⟩), .int .i64 e1]) rfl rfl (by kernel_rfl) (by kernel_rfl) (by kernel_rfl) (by kernel_rfl) (fun _ _ _ h => h) (Or.inl ⟨by rfl, fun w' hS => ?_⟩) hS3 ?_
          · clear hS hS3
            go_simp
          simp only [Act.put, List.setIfInBounds_toArray, List.set_cons_zero, List.set_cons_succ]
          have rz := RS.out.keep f3 (fun x => x)
          have r0 := rz.cell 0
          have r1 := rz.cell 1
          have r2 := rz.free 0
          have r3 := rz.free 1
          obtain ⟨ay, fy⟩ := put2 rz (.pointer (some ⟨w2.heap.size, 0, none⟩)) (.int .i64 e1)
          have R : Hid (PlInv T p0 e0 e1 neg N w (.int .i64 2) ((w3.setCell ⟨T + 1 + 1, 0, none⟩ (.pointer (some ⟨w2.heap.size, 0, none⟩))).setCell ⟨T + 1 + 1, 1, none⟩ (.int .i64 e1))) :=
            Lib.hid (pl_end HTW.out FRA.out RT.out RS.out rz f3 hv3 (by omega) ay fy)
          clear ay fy rz hS3 f3 hv3
          refine AnyBut.all (rs := [17]) (by kernel_rfl) (by simp) ?_
          intro j hj
          obtain rfl := List.mem_singleton.1 hj
          clear hj
          refine opGo (o := _) rfl rfl ?_
          go_simp
          refine AnyBut.done (by kernel_rfl) (NoPanic.normal ?_) _
          generalize (w3.setCell ⟨T + 1 + 1, 0, none⟩ (.pointer (some ⟨w2.heap.size, 0, none⟩))).setCell ⟨T + 1 + 1, 1, none⟩ (.int .i64 e1) = wz at R ⊢
          clear r0 r1 r2 r3
          go_wp2_with fail
          refine ⟨R.out, by simp [intOf]⟩
    · have y0 := rs.cell 0
      have y1 := rs.cell 1
      have t0 := rT.cell 0
      have t1 := rT.cell 1
      have t2 := rT.free 0
      have t3 := rT.free 1
      have RT := Lib.hid rT
      have FR := Lib.hid fr
      have RS := Lib.hid rs
      have HM := Lib.hid hm
      clear hob rT fr rs hm hs0 hs1
      go_wp2_with fail
      obtain ⟨ay, fy⟩ := put2 RT.out (.pointer (some ⟨m, 0, none⟩)) (.int .i64 e1)
      have P : PlusPost neg N e1 w (.returned (.agg #[.pointer (some ⟨m, 0, none⟩), .int .i64 e1])) ((wr.setCell ⟨T, 0, none⟩ (.pointer (some ⟨m, 0, none⟩))).setCell ⟨T, 1, none⟩ (.int .i64 e1)) := pl_fin HTW.out FR.out RT.out HM.out fy
      generalize (wr.setCell ⟨T, 0, none⟩ (.pointer (some ⟨m, 0, none⟩))).setCell ⟨T, 1, none⟩ (.int .i64 e1) = wz at ay P ⊢
      refine bodyPost_ret (results_cell_row rfl _ _ _ _ _ _ _ rfl ay Tryd.underlying64 rfl (by kernel_rfl)) rfl ?_
      exact P
end Go.Proofs.YtehfnpbplkbdhaaDoor
