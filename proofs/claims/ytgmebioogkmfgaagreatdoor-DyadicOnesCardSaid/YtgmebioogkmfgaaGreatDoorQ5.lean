/- plus, Add, Scale of plumb/dyadic; what Join gives; Same of the statements. Condition: it stands in each fact. -/
import Derived.Test.YtgmebioogkmfgaaGreatDoorQ4
import Derived.Deep.QuietTactic
import Derived.BigQuiet
namespace Go.Proofs.YtgmebioogkmfgaaGreatDoor
open Go.RowKit Go.Pt Go.Mem

/-- What plus gives. -/
def PlusPost (neg : Bool) (N : Nat) (e : Int) (w : World) (en : Ending) (w' : World) : Prop :=
  ∃ m v, en = .returned (.agg #[.pointer (some ⟨m, 0, none⟩), .int .i64 e]) ∧ IntV w' m v neg N ∧ Fr w w' None

/-- What the loop of plus has done after 0, 1, 2 rounds. T: the result's variable, T + 1: the zero, T + 2: the sum's variable. -/
def PlInv (T p0 : Nat) (e0 e1 : Int) (neg : Bool) (N : Nat) (w : World) (ix : Value) (wr : World) : Prop :=
  T = w.heap.size ∧ At wr T #[.pointer none, .int .i64 0] 62 ∧ Fr w wr None ∧
  ((ix = .int .i64 0 ∧ At wr (T + 1 + 1) #[.pointer (some ⟨T + 1, 0, none⟩), .int .i64 0] 62 ∧ Shell wr (T + 1) (.slice none 0 0) false) ∨
   (ix = .int .i64 1 ∧ At wr (T + 1 + 1) #[.pointer (some ⟨p0, 0, none⟩), .int .i64 e0] 62) ∨
   (ix = .int .i64 2 ∧ ∃ m v, At wr (T + 1 + 1) #[.pointer (some ⟨m, 0, none⟩), .int .i64 e1] 62 ∧ IntV wr m v neg N))

theorem pl_start (w : World) (p0 : Nat) (e0 e1 : Int) (neg : Bool) (N : Nat) : PlInv w.heap.size p0 e0 e1 neg N w (.int .i64 0)
    (((w.alloc (.cells #[.pointer none, .int .i64 0] 62)).alloc (.cells #[.bool false, .slice none 0 0] 81)).alloc (.cells #[.pointer (some ⟨w.heap.size + 1, 0, none⟩), .int .i64 0] 62)) := by
  have f1 := (Fr.refl w None).alloc (.cells #[.pointer none, .int .i64 0] 62)
  have f2 := (Fr.refl (w.alloc (.cells #[.pointer none, .int .i64 0] 62)) None).alloc (.cells #[.bool false, .slice none 0 0] 81)
  have f3 := (Fr.refl ((w.alloc (.cells #[.pointer none, .int .i64 0] 62)).alloc (.cells #[.bool false, .slice none 0 0] 81)) None).alloc (.cells #[.pointer (some ⟨w.heap.size + 1, 0, none⟩), .int .i64 0] 62)
  refine ⟨rfl, ((At.alloc w _ _).keep f2 (fun x => x)).keep f3 (fun x => x), (f1.trans f2 (fun _ h => h) (fun _ _ h => h)).trans f3 (fun _ h => h) (fun _ _ h => h), Or.inl ⟨rfl, ?_, ?_⟩⟩
  · have := At.alloc ((w.alloc (.cells #[.pointer none, .int .i64 0] 62)).alloc (.cells #[.bool false, .slice none 0 0] 81)) #[.pointer (some ⟨w.heap.size + 1, 0, none⟩), .int .i64 0] 62
    simpa using this
  · have := alloc_shell (w.alloc (.cells #[.pointer none, .int .i64 0] 62)) false (.slice none 0 0)
    have := this.keep f3 (fun x => x)
    simpa using this

theorem put2 {w : World} {R t : Nat} {a b : Value} (h : At w R #[a, b] t) (x y : Value) :
    At ((w.setCell ⟨R, 0, none⟩ x).setCell ⟨R, 1, none⟩ y) R #[x, y] t ∧ Fr w ((w.setCell ⟨R, 0, none⟩ x).setCell ⟨R, 1, none⟩ y) (One R) :=
  ⟨(h.put 0 x).put 1 y, ((Fr.refl w (One R)).setCell (p := ⟨R, 0, none⟩) (Or.inl rfl) _).setCell (p := ⟨R, 1, none⟩) (Or.inl rfl) _⟩

theorem sgn_ne (n : Bool) : ((if n then (-1 : Int) else 1) == 0) = false := by cases n <;> rfl

/-- A new zero's struct. -/
def zInt : Obj := .cells #[.bool false, .slice none 0 0] 81
theorem z_at (w : World) : Shell (w.alloc zInt) w.heap.size (.slice none 0 0) false ∧ Fr w (w.alloc zInt) None := ⟨alloc_shell w false _, (Fr.refl w None).alloc _⟩

def LshAt (wa W : World) (z1 : Nat) (neg : Bool) (N : Nat) (e : Ending) (w2 : World) : Prop :=
  e = .returned (.pointer (some ⟨z1, 0, none⟩)) ∧ Fr wa w2 None ∧ (∃ v, IntV w2 z1 v neg N) ∧ ∀ z, z ≠ z1 → Shell W z (.slice none 0 0) false → Shell w2 z (.slice none 0 0) false

theorem lsh_at {wa W : World} {z1 p0 s A0 : Nat} {v0 : Value} {n0 : Bool} (hs : 0 < s) (hs2 : s < 64) (hA : A0 < 2 ^ (64 * 2)) (hF : Fr wa W None) (hz : Shell W z1 (.slice none 0 0) false) (hn : wa.heap.size ≤ z1) (h0 : IntV wa p0 v0 n0 A0) :
    Calls Tryz.prog 50 #[.pointer (some ⟨z1, 0, none⟩), .pointer (some ⟨p0, 0, none⟩), .int .u64 (s : Int)] W (LshAt wa W z1 n0 (A0 * 2 ^ s)) := by
  refine (intLsh z1 p0 (.slice none 0 0) v0 false n0 0 A0 s 2 hs hs2 (by omega) W ⟨hz, Or.inl ⟨rfl, rfl⟩⟩ (h0.keep hF (fun x => x) (fun _ _ x => x)) hA).mono ?_
  rintro e w2 ⟨rfl, v, h1, h2, h3⟩
  have nb : ∀ b, ¬ Blk (.slice none 0 0) b := fun b h => by obtain ⟨_, _, h⟩ := h; cases h
  refine ⟨rfl, hF.trans h3 (fun _ h => h) (fun x hx h => h.elim (fun h => by omega) (nb x)), ⟨v, h1⟩, fun z hz1 hz2 => hz2.keep h3 (fun h => h.elim hz1 (nb z))⟩

def AddAt (wa : World) (z0 : Nat) (neg : Bool) (N : Nat) (e : Ending) (w3 : World) : Prop :=
  e = .returned (.pointer (some ⟨z0, 0, none⟩)) ∧ Fr wa w3 None ∧ ∃ v, IntV w3 z0 v neg N

theorem add_at {wa W : World} {z0 z1 p1 A1 M N : Nat} {v1 : Value} {n0 n1 neg : Bool} (hadd : ∀ W z zl vx vl, IntV W z (.slice none 0 0) false 0 → IntV W p1 vx n1 A1 → IntV W zl vl n0 M → Calls Tryz.prog 52 #[.pointer (some ⟨z, 0, none⟩), .pointer (some ⟨p1, 0, none⟩), .pointer (some ⟨zl, 0, none⟩)] W (IntPost z (Blk (.slice none 0 0)) neg N W))
    (hF : Fr wa W None) (hz : Shell W z0 (.slice none 0 0) false) (hn : wa.heap.size ≤ z0) (h1 : IntV wa p1 v1 n1 A1) (hl : ∃ v, IntV W z1 v n0 M) :
    Calls Tryz.prog 52 #[.pointer (some ⟨z0, 0, none⟩), .pointer (some ⟨p1, 0, none⟩), .pointer (some ⟨z1, 0, none⟩)] W (AddAt wa z0 neg N) := by
  obtain ⟨vl, hl⟩ := hl
  refine (hadd W z0 z1 v1 vl ⟨hz, Or.inl ⟨rfl, rfl⟩⟩ (h1.keep hF (fun x => x) (fun _ _ x => x)) hl).mono ?_
  rintro e w2 ⟨rfl, v, h1, h2, h3⟩
  have nb : ∀ b, ¬ Blk (.slice none 0 0) b := fun b h => by obtain ⟨_, _, h⟩ := h; cases h
  exact ⟨rfl, hF.trans h3 (fun _ h => h) (fun x hx h => h.elim (fun h => by omega) (nb x)), v, h1⟩

/-- The four cells that plus reads at a sum. -/
def PlS (bx T p0 p1 : Nat) (e0 e1 : Int) (w : World) : Prop :=
  w.cell? ⟨bx, 0, none⟩ = some (.pointer (some ⟨p1, 0, none⟩)) ∧ w.cell? ⟨bx, 1, none⟩ = some (.int .i64 e1) ∧ w.cell? ⟨T + 1 + 1, 0, none⟩ = some (.pointer (some ⟨p0, 0, none⟩)) ∧ w.cell? ⟨T + 1 + 1, 1, none⟩ = some (.int .i64 e0)

theorem plS_of {bx T p0 p1 : Nat} {e0 e1 : Int} {wa W : World} (ta : At wa bx #[.pointer (some ⟨p1, 0, none⟩), .int .i64 e1] 62) (rs : At wa (T + 1 + 1) #[.pointer (some ⟨p0, 0, none⟩), .int .i64 e0] 62) (f : Fr wa W None) : PlS bx T p0 p1 e0 e1 W :=
  ⟨(ta.keep f (fun x => x)).cell 0, (ta.keep f (fun x => x)).cell 1, (rs.keep f (fun x => x)).cell 0, (rs.keep f (fun x => x)).cell 1⟩

theorem pl_end {T p0 N z : Nat} {e0 e1 : Int} {neg : Bool} {w wa w3 : World} {v : Value} (hT : T = w.heap.size) (f : Fr w wa None) (rT : At wa T #[.pointer none, .int .i64 0] 62) {a b : Value} (rs : At wa (T + 1 + 1) #[a, b] 62) (rz : At w3 (T + 1 + 1) #[a, b] 62) (f3 : Fr wa w3 None) (hv : IntV w3 z v neg N) (hz : wa.heap.size ≤ z)
    (ay : At ((w3.setCell ⟨T + 1 + 1, 0, none⟩ (.pointer (some ⟨z, 0, none⟩))).setCell ⟨T + 1 + 1, 1, none⟩ (.int .i64 e1)) (T + 1 + 1) #[.pointer (some ⟨z, 0, none⟩), .int .i64 e1] 62)
    (fy : Fr w3 ((w3.setCell ⟨T + 1 + 1, 0, none⟩ (.pointer (some ⟨z, 0, none⟩))).setCell ⟨T + 1 + 1, 1, none⟩ (.int .i64 e1)) (One (T + 1 + 1))) :
    PlInv T p0 e0 e1 neg N w (.int .i64 2) ((w3.setCell ⟨T + 1 + 1, 0, none⟩ (.pointer (some ⟨z, 0, none⟩))).setCell ⟨T + 1 + 1, 1, none⟩ (.int .i64 e1)) := by
  have hlt := rs.lt
  have nb : ∀ q, Blk v q → q ≠ T + 1 + 1 := fun q hq e => by
    subst e
    obtain ⟨l, c, rfl⟩ := hq
    rcases hv.2 with ⟨h, _⟩ | ⟨b', len, cap, l', h, hr, _⟩
    · cases h
    · cases h
      have := rz.symm.trans hr.1
      injection this with this
      injection this with _ h2
      revert h2
      decide
  exact ⟨hT, (rT.keep f3 (fun x => x)).keep fy (fun e => by unfold Mem.One at e; omega), (f.trans f3 (fun _ h => h) (fun _ _ h => h)).trans fy (fun _ h => h) (fun x hx h => by unfold Mem.One at h; omega),
    Or.inr (Or.inr ⟨rfl, z, v, ay, hv.keep fy (fun e => by unfold Mem.One at e; omega) (fun q hq e => nb q hq (by unfold Mem.One at e; exact e))⟩)⟩

theorem pl_fin {T N m : Nat} {e1 : Int} {neg : Bool} {w wr wz : World} {v : Value} (hT : T = w.heap.size) (f : Fr w wr None) {a b : Value} (rT : At wr T #[a, b] 62) (hv : IntV wr m v neg N) (fy : Fr wr wz (One T)) :
    PlusPost neg N e1 w (.returned (.agg #[.pointer (some ⟨m, 0, none⟩), .int .i64 e1])) wz := by
  have nm : m ≠ T := fun e => by
    subst e
    have := rT.symm.trans hv.1
    injection this with this
    injection this with _ h2
    revert h2
    decide
  have nb : ∀ q, Blk v q → q ≠ T := fun q hq e => by
    subst e
    obtain ⟨l, c, rfl⟩ := hq
    rcases hv.2 with ⟨h, _⟩ | ⟨b', len, cap, l', h, hr, _⟩
    · cases h
    · cases h
      have := rT.symm.trans hr.1
      injection this with this
      injection this with _ h2
      revert h2
      decide
  exact ⟨m, v, rfl, hv.keep fy (fun e => nm (by unfold Mem.One at e; exact e)) (fun q hq e => nb q hq (by unfold Mem.One at e; exact e)), f.trans fy (fun _ h => h) (fun x hx h => by unfold Mem.One at h; omega)⟩

set_option maxRecDepth 100000 in
set_option maxHeartbeats 4000000 in
theorem plus_two (ob p0 p1 : Nat) (v0 v1 : Value) (n0 n1 : Bool) (A0 A1 s : Nat) (e0 e1 : Int) (w : World) (hr : At w ob #[.pointer (some ⟨p0, 0, none⟩), .int .i64 e0, .pointer (some ⟨p1, 0, none⟩), .int .i64 e1] 62)
    (h0 : IntV w p0 v0 n0 A0) (h1 : IntV w p1 v1 n1 A1) (z0 : 0 < A0) (z1 : 0 < A1) (N : Nat) (neg : Bool) (hs : 0 < s) (hs2 : s < 64) (hA : A0 < 2 ^ (64 * 2)) (hes : e0 - e1 = (s : Int))
    (hadd : ∀ W z zl vx vl, IntV W z (.slice none 0 0) false 0 → IntV W p1 vx n1 A1 → IntV W zl vl n0 (A0 * 2 ^ s) → Calls Tryz.prog 52 #[.pointer (some ⟨z, 0, none⟩), .pointer (some ⟨p1, 0, none⟩), .pointer (some ⟨zl, 0, none⟩)] W (IntPost z (Blk (.slice none 0 0)) neg N W)) :
    Calls Tryz.prog 33 #[.slice (some ⟨ob, 0, none⟩) 2 2] w (PlusPost neg N e1 w) := by
  have I := Lib.hid (pl_start w p0 e0 e1 neg N)
  obtain ⟨s0, hs0, k0⟩ : ∃ s : Int, (if n0 then (-1 : Int) else 1) = s ∧ (s == 0) = false := ⟨_, rfl, sgn_ne n0⟩
  obtain ⟨s1, hs1, k1⟩ : ∃ s : Int, (if n1 then (-1 : Int) else 1) = s ∧ (s == 0) = false := ⟨_, rfl, sgn_ne n1⟩
  have HR := Lib.hid hr
  have H0 := Lib.hid h0
  have H1 := Lib.hid h1
  have HADD := Lib.hid hadd
  have HAL := Lib.hid hA
  clear hr h0 h1 hadd hA
  go_enter Tryz.func33, Tryz.ntmps33
  go_wp2_with fail
  generalize hT : w.heap.size = T at I ⊢
  generalize (((w.alloc (.cells #[.pointer none, .int .i64 0] 62)).alloc (.cells #[.bool false, .slice none 0 0] 81)).alloc (.cells #[.pointer (some ⟨T + 1, 0, none⟩), .int .i64 0] 62)) = w0 at I ⊢
  clear hT
  go_loopw [10] (fun ix wr => PlInv T p0 e0 e1 neg N w ix wr) (fun ix _ => 2 - (intOf ix).toNat)
  case atStart => exact I.out
  case round =>
    obtain ⟨hTw, rT, fr, hcase⟩ := hrel
    have HTW := Lib.hid hTw
    clear hTw
    have hob : At wr ob #[.pointer (some ⟨p0, 0, none⟩), .int .i64 e0, .pointer (some ⟨p1, 0, none⟩), .int .i64 e1] 62 := HR.out.keep fr (fun x => x)
    rcases hcase with ⟨rfl, rs, sh⟩ | ⟨rfl, rs⟩ | ⟨rfl, m, v, rs, hm⟩
    · have c0 := hob.cell 0
      have c1 := hob.cell 1
      obtain ⟨ta, fa⟩ := And.intro (At.alloc wr #[.pointer (some ⟨p0, 0, none⟩), .int .i64 e0] 62) ((Fr.refl wr None).alloc (.cells #[.pointer (some ⟨p0, 0, none⟩), .int .i64 e0] 62))
      have fra := fr.trans fa (fun _ h => h) (fun _ _ h => h)
      have hsp := intSign_pos p0 v0 n0 A0 _ z0 (H0.out.keep fra (fun x => x) (fun _ _ x => x))
      rw [hs0] at hsp
      have HS0 := Lib.hid hsp
      have HS1 := Lib.hid (intSign_zero (T + 1) (.slice none 0 0) false _ (show IntV _ _ _ _ 0 from ⟨sh.keep fa (fun x => x), Or.inl ⟨rfl, rfl⟩⟩))
      have TA := Lib.hid ta
      have RS := Lib.hid (rs.keep fa (fun x => x))
      have RT := Lib.hid (rT.keep fa (fun x => x))
      have FRA := Lib.hid fra
      clear hob rs sh rT fr fa fra ta hsp hs0 hs1
      go_wp2_with fail
      generalize hbx : wr.heap.size = bx at TA ⊢
      generalize wr.alloc (.cells #[.pointer (some ⟨p0, 0, none⟩), .int .i64 e0] 62) = wa at HS0 HS1 TA RS RT FRA ⊢
      have x0 := TA.out.cell 0
      have x1 := TA.out.cell 1
      refine (HS0.out).mono ?_
      rintro en w1 ⟨rfl, rfl⟩
      have y0 := RS.out.cell 0
      have y1 := RS.out.cell 1
      have g0 := RS.out.free 0
      have g1 := RS.out.free 1
      go_wp2_with fail
      refine (HS1.out).mono ?_
      rintro en w1 ⟨rfl, rfl⟩
      go_wp2_with fail
      obtain ⟨ay, fy⟩ := put2 RS.out (.pointer (some ⟨p0, 0, none⟩)) (.int .i64 e0)
      have R : Hid (PlInv T p0 e0 e1 neg N w (.int .i64 1) ((wa.setCell ⟨T + 1 + 1, 0, none⟩ (.pointer (some ⟨p0, 0, none⟩))).setCell ⟨T + 1 + 1, 1, none⟩ (.int .i64 e0))) :=
        Lib.hid ⟨HTW.out, RT.out.keep fy (fun e => by unfold Mem.One at e; omega), FRA.out.trans fy (fun _ h => h) (fun x hx h => by have := HTW.out; unfold Mem.One at h; omega), Or.inr (Or.inl ⟨rfl, ay⟩)⟩
      clear ay fy
      generalize (wa.setCell ⟨T + 1 + 1, 0, none⟩ (.pointer (some ⟨p0, 0, none⟩))).setCell ⟨T + 1 + 1, 1, none⟩ (.int .i64 e0) = wz at R ⊢
      refine ⟨R.out, by simp [intOf]⟩
    · have c0 := hob.cell 2
      have c1 := hob.cell 3
      obtain ⟨ta, fa⟩ := And.intro (At.alloc wr #[.pointer (some ⟨p1, 0, none⟩), .int .i64 e1] 62) ((Fr.refl wr None).alloc (.cells #[.pointer (some ⟨p1, 0, none⟩), .int .i64 e1] 62))
      have fra := fr.trans fa (fun _ h => h) (fun _ _ h => h)
      have hsp := intSign_pos p1 v1 n1 A1 _ z1 (H1.out.keep fra (fun x => x) (fun _ _ x => x))
      rw [hs1] at hsp
      have hsq := intSign_pos p0 v0 n0 A0 _ z0 (H0.out.keep fra (fun x => x) (fun _ _ x => x))
      rw [hs0] at hsq
      have HS0 := Lib.hid hsp
      have HS1 := Lib.hid hsq
      have TA := Lib.hid ta
      have RS := Lib.hid (rs.keep fa (fun x => x))
      have RT := Lib.hid (rT.keep fa (fun x => x))
      have FRA := Lib.hid fra
      clear hob rs rT fr fa fra ta hsp hsq hs0 hs1
      go_wp2_with fail
      generalize hbx : wr.heap.size = bx at TA ⊢
      generalize wr.alloc (.cells #[.pointer (some ⟨p1, 0, none⟩), .int .i64 e1] 62) = wa at HS0 HS1 TA RS RT FRA ⊢
      have x0 := TA.out.cell 0
      have x1 := TA.out.cell 1
      refine (HS0.out).mono ?_
      rintro en w1 ⟨rfl, rfl⟩
      have y0 := RS.out.cell 0
      have y1 := RS.out.cell 1
      have g0 := RS.out.free 0
      have g1 := RS.out.free 1
      go_wp2_with fail
      refine (HS1.out).mono ?_
      rintro en w1 ⟨rfl, rfl⟩
      have ige : ¬ (e0 ≤ e1) := by omega
      have hs3 : (s : Int) < 64 := by omega
      go_wp2_with fail
      -- the worlds of the two new zeros
      have fr0 : Fr w wa None := FRA.out
      obtain ⟨sa, fa⟩ := z_at wa
      obtain ⟨sb, fb⟩ := z_at (wa.alloc zInt)
      have fab := fa.trans fb (fun _ h => h) (fun _ _ h => h)
      have sa2 := sa.keep fb (fun x => x)
      have hsz : (wa.alloc zInt).heap.size = wa.heap.size + 1 := by simp [zInt]
      rw [hsz] at sb
      have HA0 : IntV wa p0 v0 n0 A0 := H0.out.keep fr0 (fun x => x) (fun _ _ x => x)
      have HA1 : IntV wa p1 v1 n1 A1 := H1.out.keep fr0 (fun x => x) (fun _ _ x => x)
      have L1 := Lib.hid (lsh_at hs hs2 HAL.out fa.drew (show Shell (wa.alloc zInt).drew _ _ _ from sa) (Nat.le_refl _) HA0)
      have L2 := Lib.hid (lsh_at hs hs2 HAL.out fab.drew (show Shell ((wa.alloc zInt).alloc zInt).drew _ _ _ from sa2) (Nat.le_refl _) HA0)
      have L3 := Lib.hid (lsh_at hs hs2 HAL.out fab.drew (show Shell ((wa.alloc zInt).alloc zInt).drew _ _ _ from sb) (Nat.le_succ _) HA0)
      have SS := Lib.hid (And.intro sa2 sb)
      have HB1 := Lib.hid HA1
      have rb := RS.out.keep fa (fun x => x)
      have rc := rb.keep fb (fun x => x)
      have m0 := rb.cell 0
      have m1 := rb.cell 1
      have m2 := rc.cell 0
      have m3 := rc.cell 1
      have tb := TA.out.keep fa (fun x => x)
      have tc := tb.keep fb (fun x => x)
      have t0 := tb.cell 0
      have t1 := tb.cell 1
      have t2 := tc.cell 0
      have t3 := tc.cell 1
      clear sa fa sb fb fab sa2 HA0 HA1 rb rc tb tc fr0
      have hS0 : PlS bx T p0 p1 e0 e1 wa.drew := ⟨x0, x1, y0, y1⟩
      refine wp_region_noPanic (wp_region_any (by kernel_rfl) (AnyBut.any (S := PlS bx T p0 p1 e0 e1) (m := 17) _ _ _ _ ?_))
      change AnyBut _ _ _ _ _ _ _ _ _ (World.drew _)
      refine AnyBut.take (i := 1) (o := _) (d := some 15) (v := .pointer (some ⟨bx, 0, none⟩)) rfl rfl (by kernel_rfl) (by kernel_rfl) (by kernel_rfl) (by kernel_rfl) (fun _ _ _ h => h) (Or.inl ⟨by rfl, fun w' hS => ?_⟩) hS0 ?_
      · obtain ⟨q1, q2, q3, q4⟩ := hS
        clear x0 x1 y0 y1 hS0
        go_simp
      simp only [Act.put, List.setIfInBounds_toArray, List.set_cons_zero, List.set_cons_succ]
      refine AnyBut.take (i := 2) (o := _) (d := some 16) (v := .pointer (some ⟨p1, 0, none⟩)) rfl rfl (by kernel_rfl) (by kernel_rfl) (by kernel_rfl) (by kernel_rfl) (fun _ _ _ h => h) (Or.inl ⟨by rfl, fun w' hS => ?_⟩) hS0 ?_
      · obtain ⟨q1, q2, q3, q4⟩ := hS
        clear x0 x1 y0 y1 hS0
        go_simp
      simp only [Act.put, List.setIfInBounds_toArray, List.set_cons_zero, List.set_cons_succ]
      refine AnyBut.take (i := 4) (o := _) (d := some 18) (v := .pointer (some ⟨T + 1 + 1, 0, none⟩)) rfl rfl (by kernel_rfl) (by kernel_rfl) (by kernel_rfl) (by kernel_rfl) (fun _ _ _ h => h) (Or.inl ⟨by rfl, fun w' hS => ?_⟩) hS0 ?_
      · obtain ⟨q1, q2, q3, q4⟩ := hS
        clear x0 x1 y0 y1 hS0
        go_simp
      simp only [Act.put, List.setIfInBounds_toArray, List.set_cons_zero, List.set_cons_succ]
      refine AnyBut.take (i := 5) (o := _) (d := some 19) (v := .pointer (some ⟨p0, 0, none⟩)) rfl rfl (by kernel_rfl) (by kernel_rfl) (by kernel_rfl) (by kernel_rfl) (fun _ _ _ h => h) (Or.inl ⟨by rfl, fun w' hS => ?_⟩) hS0 ?_
      · obtain ⟨q1, q2, q3, q4⟩ := hS
        clear x0 x1 y0 y1 hS0
        go_simp
      simp only [Act.put, List.setIfInBounds_toArray, List.set_cons_zero, List.set_cons_succ]
      refine AnyBut.take (i := 6) (o := _) (d := some 20) (v := .pointer (some ⟨T + 1 + 1, 1, none⟩)) rfl rfl (by kernel_rfl) (by kernel_rfl) (by kernel_rfl) (by kernel_rfl) (fun _ _ _ h => h) (Or.inl ⟨by rfl, fun w' hS => ?_⟩) hS0 ?_
      · obtain ⟨q1, q2, q3, q4⟩ := hS
        clear x0 x1 y0 y1 hS0
        go_simp
      simp only [Act.put, List.setIfInBounds_toArray, List.set_cons_zero, List.set_cons_succ]
      refine AnyBut.take (i := 7) (o := _) (d := some 21) (v := .int .i64 e0) rfl rfl (by kernel_rfl) (by kernel_rfl) (by kernel_rfl) (by kernel_rfl) (fun _ _ _ h => h) (Or.inl ⟨by rfl, fun w' hS => ?_⟩) hS0 ?_
      · obtain ⟨q1, q2, q3, q4⟩ := hS
        clear x0 x1 y0 y1 hS0
        go_simp
      simp only [Act.put, List.setIfInBounds_toArray, List.set_cons_zero, List.set_cons_succ]
      refine AnyBut.take (i := 8) (o := _) (d := some 22) (v := .pointer (some ⟨bx, 1, none⟩)) rfl rfl (by kernel_rfl) (by kernel_rfl) (by kernel_rfl) (by kernel_rfl) (fun _ _ _ h => h) (Or.inl ⟨by rfl, fun w' hS => ?_⟩) hS0 ?_
      · obtain ⟨q1, q2, q3, q4⟩ := hS
        clear x0 x1 y0 y1 hS0
        go_simp
      simp only [Act.put, List.setIfInBounds_toArray, List.set_cons_zero, List.set_cons_succ]
      refine AnyBut.take (i := 9) (o := _) (d := some 23) (v := .int .i64 e1) rfl rfl (by kernel_rfl) (by kernel_rfl) (by kernel_rfl) (by kernel_rfl) (fun _ _ _ h => h) (Or.inl ⟨by rfl, fun w' hS => ?_⟩) hS0 ?_
      · obtain ⟨q1, q2, q3, q4⟩ := hS
        clear x0 x1 y0 y1 hS0
        go_simp
      simp only [Act.put, List.setIfInBounds_toArray, List.set_cons_zero, List.set_cons_succ]
      refine AnyBut.take (i := 10) (o := _) (d := some 24) (v := .int .i64 (s : Int)) rfl rfl (by kernel_rfl) (by kernel_rfl) (by kernel_rfl) (by kernel_rfl) (fun _ _ _ h => h) (Or.inl ⟨by rfl, fun w' hS => ?_⟩) hS0 ?_
      · obtain ⟨q1, q2, q3, q4⟩ := hS
        clear x0 x1 y0 y1 hS0
        go_simp
        exact IntWalk.i64_in _ (by omega)
      simp only [Act.put, List.setIfInBounds_toArray, List.set_cons_zero, List.set_cons_succ]
      refine AnyBut.take (i := 11) (o := _) (d := some 25) (v := .int .u64 (s : Int)) rfl rfl (by kernel_rfl) (by kernel_rfl) (by kernel_rfl) (by kernel_rfl) (fun _ _ _ h => h) (Or.inl ⟨by rfl, fun w' hS => ?_⟩) hS0 ?_
      · obtain ⟨q1, q2, q3, q4⟩ := hS
        clear x0 x1 y0 y1 hS0
        go_simp
        rw [IntKind.wrap_u64]
        omega
      simp only [Act.put, List.setIfInBounds_toArray, List.set_cons_zero, List.set_cons_succ]
      refine AnyBut.take (i := 14) (o := _) (d := some 28) (v := .pointer (some ⟨bx, 1, none⟩)) rfl rfl (by kernel_rfl) (by kernel_rfl) (by kernel_rfl) (by kernel_rfl) (fun _ _ _ h => h) (Or.inl ⟨by rfl, fun w' hS => ?_⟩) hS0 ?_
      · obtain ⟨q1, q2, q3, q4⟩ := hS
        clear x0 x1 y0 y1 hS0
        go_simp
      simp only [Act.put, List.setIfInBounds_toArray, List.set_cons_zero, List.set_cons_succ]
      refine AnyBut.take (i := 15) (o := _) (d := some 29) (v := .int .i64 e1) rfl rfl (by kernel_rfl) (by kernel_rfl) (by kernel_rfl) (by kernel_rfl) (fun _ _ _ h => h) (Or.inl ⟨by rfl, fun w' hS => ?_⟩) hS0 ?_
      · obtain ⟨q1, q2, q3, q4⟩ := hS
        clear x0 x1 y0 y1 hS0
        go_simp
      simp only [Act.put, List.setIfInBounds_toArray, List.set_cons_zero, List.set_cons_succ]
      -- THE ORDERS
      refine AnyBut.all (rs := [0, 3]) (by kernel_rfl) (by simp) ?_
      intro j hj
      rcases List.mem_cons.1 hj with rfl | hj
      · clear hj
        refine opGo (o := _) rfl rfl ?_
        go_simp
        refine ⟨plS_of TA.out RS.out ((Fr.refl wa None).alloc _).drew, ?_⟩
        refine AnyBut.all (rs := [3]) (by kernel_rfl) (by simp) ?_
        intro j hj
        obtain rfl := List.mem_singleton.1 hj
        clear hj
        refine opGo (o := _) rfl rfl ?_
        go_simp
        refine ⟨plS_of TA.out RS.out (((Fr.refl wa None).alloc _).alloc _).drew, ?_⟩
        refine AnyBut.all (rs := [12]) (by kernel_rfl) (by simp) ?_
        intro j hj
        obtain rfl := List.mem_singleton.1 hj
        clear hj
        refine opGo (o := _) rfl rfl ?_
        go_simp
        refine (L3.out).mono ?_
        rintro en w2 ⟨rfl, f2, hv, hk⟩
        have hs2' := f2.size
        refine ⟨plS_of TA.out RS.out f2, ?_⟩
        refine AnyBut.all (rs := [13]) (by kernel_rfl) (by simp) ?_
        intro j hj
        obtain rfl := List.mem_singleton.1 hj
        clear hj
        refine opGo (o := _) rfl rfl ?_
        go_simp
        refine (add_at HADD.out f2 (hk _ (by omega) SS.out.1) (Nat.le_refl _) HB1.out hv).mono ?_
        rintro en w3 ⟨rfl, f3, v3, hv3⟩
        have hS3 : PlS bx T p0 p1 e0 e1 w3 := plS_of TA.out RS.out f3
        refine ⟨hS3, ?_⟩
        refine AnyBut.take (i := 16) (o := _) (d := some 30) (v := .agg #[.pointer (some ⟨wa.heap.size, 0, none⟩), .int .i64 e1]) rfl rfl (by kernel_rfl) (by kernel_rfl) (by kernel_rfl) (by kernel_rfl) (fun _ _ _ h => h) (Or.inl ⟨by rfl, fun w' hS => ?_⟩) hS3 ?_
        · clear hS hS3
          go_simp
        simp only [Act.put, List.setIfInBounds_toArray, List.set_cons_zero, List.set_cons_succ]
        have rz := RS.out.keep f3 (fun x => x)
        have r0 := rz.cell 0
        have r1 := rz.cell 1
        have r2 := rz.free 0
        have r3 := rz.free 1
        obtain ⟨ay, fy⟩ := put2 rz (.pointer (some ⟨wa.heap.size, 0, none⟩)) (.int .i64 e1)
        have R : Hid (PlInv T p0 e0 e1 neg N w (.int .i64 2) ((w3.setCell ⟨T + 1 + 1, 0, none⟩ (.pointer (some ⟨wa.heap.size, 0, none⟩))).setCell ⟨T + 1 + 1, 1, none⟩ (.int .i64 e1))) :=
          Lib.hid (pl_end HTW.out FRA.out RT.out RS.out rz f3 hv3 (by omega) ay fy)
        clear ay fy rz hS3 f3 hv3
        refine AnyBut.all (rs := [17]) (by kernel_rfl) (by simp) ?_
        intro j hj
        obtain rfl := List.mem_singleton.1 hj
        clear hj
        refine opGo (o := _) rfl rfl ?_
        go_simp
        refine AnyBut.done (by kernel_rfl) (NoPanic.normal ?_) _
        generalize (w3.setCell ⟨T + 1 + 1, 0, none⟩ (.pointer (some ⟨wa.heap.size, 0, none⟩))).setCell ⟨T + 1 + 1, 1, none⟩ (.int .i64 e1) = wz at R ⊢
        clear r0 r1 r2 r3
        go_wp2_with fail
        refine ⟨R.out, by simp [intOf]⟩
      · obtain rfl := List.mem_singleton.1 hj
        clear hj
        refine opGo (o := _) rfl rfl ?_
        go_simp
        refine ⟨plS_of TA.out RS.out ((Fr.refl wa None).alloc _).drew, ?_⟩
        refine AnyBut.all (rs := [0, 12]) (by kernel_rfl) (by simp) ?_
        intro j hj
        rcases List.mem_cons.1 hj with rfl | hj
        · clear hj
          refine opGo (o := _) rfl rfl ?_
          go_simp
          refine ⟨plS_of TA.out RS.out (((Fr.refl wa None).alloc _).alloc _).drew, ?_⟩
          refine AnyBut.all (rs := [12]) (by kernel_rfl) (by simp) ?_
          intro j hj
          obtain rfl := List.mem_singleton.1 hj
          clear hj
          refine opGo (o := _) rfl rfl ?_
          go_simp
          refine (L2.out).mono ?_
          rintro en w2 ⟨rfl, f2, hv, hk⟩
          have hs2' := f2.size
          refine ⟨plS_of TA.out RS.out f2, ?_⟩
          refine AnyBut.all (rs := [13]) (by kernel_rfl) (by simp) ?_
          intro j hj
          obtain rfl := List.mem_singleton.1 hj
          clear hj
          refine opGo (o := _) rfl rfl ?_
          go_simp
          refine (add_at HADD.out f2 (hk _ (by omega) SS.out.2) (Nat.le_succ _) HB1.out hv).mono ?_
          rintro en w3 ⟨rfl, f3, v3, hv3⟩
          have hS3 : PlS bx T p0 p1 e0 e1 w3 := plS_of TA.out RS.out f3
          refine ⟨hS3, ?_⟩
          refine AnyBut.take (i := 16) (o := _) (d := some 30) (v := .agg #[.pointer (some ⟨wa.heap.size + 1, 0, none⟩), .int .i64 e1]) rfl rfl (by kernel_rfl) (by kernel_rfl) (by kernel_rfl) (by kernel_rfl) (fun _ _ _ h => h) (Or.inl ⟨by rfl, fun w' hS => ?_⟩) hS3 ?_
          · clear hS hS3
            go_simp
          simp only [Act.put, List.setIfInBounds_toArray, List.set_cons_zero, List.set_cons_succ]
          have rz := RS.out.keep f3 (fun x => x)
          have r0 := rz.cell 0
          have r1 := rz.cell 1
          have r2 := rz.free 0
          have r3 := rz.free 1
          obtain ⟨ay, fy⟩ := put2 rz (.pointer (some ⟨wa.heap.size + 1, 0, none⟩)) (.int .i64 e1)
          have R : Hid (PlInv T p0 e0 e1 neg N w (.int .i64 2) ((w3.setCell ⟨T + 1 + 1, 0, none⟩ (.pointer (some ⟨wa.heap.size + 1, 0, none⟩))).setCell ⟨T + 1 + 1, 1, none⟩ (.int .i64 e1))) :=
            Lib.hid (pl_end HTW.out FRA.out RT.out RS.out rz f3 hv3 (by omega) ay fy)
          clear ay fy rz hS3 f3 hv3
          refine AnyBut.all (rs := [17]) (by kernel_rfl) (by simp) ?_
          intro j hj
          obtain rfl := List.mem_singleton.1 hj
          clear hj
          refine opGo (o := _) rfl rfl ?_
          go_simp
          refine AnyBut.done (by kernel_rfl) (NoPanic.normal ?_) _
          generalize (w3.setCell ⟨T + 1 + 1, 0, none⟩ (.pointer (some ⟨wa.heap.size + 1, 0, none⟩))).setCell ⟨T + 1 + 1, 1, none⟩ (.int .i64 e1) = wz at R ⊢
          clear r0 r1 r2 r3
          go_wp2_with fail
          refine ⟨R.out, by simp [intOf]⟩
        · obtain rfl := List.mem_singleton.1 hj
          clear hj
          refine opGo (o := _) rfl rfl ?_
          go_simp
          refine (L1.out).mono ?_
          rintro en w2 ⟨rfl, f2, hv, hk⟩
          have hs2' := f2.size
          refine ⟨plS_of TA.out RS.out f2, ?_⟩
          refine AnyBut.all (rs := [0]) (by kernel_rfl) (by simp) ?_
          intro j hj
          obtain rfl := List.mem_singleton.1 hj
          clear hj
          refine opGo (o := _) rfl rfl ?_
          go_simp
          refine ⟨plS_of TA.out RS.out (f2.alloc _), ?_⟩
          refine AnyBut.all (rs := [13]) (by kernel_rfl) (by simp) ?_
          intro j hj
          obtain rfl := List.mem_singleton.1 hj
          clear hj
          refine opGo (o := _) rfl rfl ?_
          go_simp
          refine (add_at HADD.out (f2.alloc _) (alloc_shell w2 _ _) hs2' HB1.out (hv.imp fun _ h => h.keep ((Fr.refl w2 None).alloc _) (fun x => x) (fun _ _ x => x))).mono ?_
          rintro en w3 ⟨rfl, f3, v3, hv3⟩
          have hS3 : PlS bx T p0 p1 e0 e1 w3 := plS_of TA.out RS.out f3
          refine ⟨hS3, ?_⟩
          refine AnyBut.take (i := 16) (o := _) (d := some 30) (v := .agg #[.pointer (some ⟨w2.heap.size, 0, none⟩), .int .i64 e1]) rfl rfl (by kernel_rfl) (by kernel_rfl) (by kernel_rfl) (by kernel_rfl) (fun _ _ _ h => h) (Or.inl ⟨by rfl, fun w' hS => ?_⟩) hS3 ?_
          · clear hS hS3
            go_simp
          simp only [Act.put, List.setIfInBounds_toArray, List.set_cons_zero, List.set_cons_succ]
          have rz := RS.out.keep f3 (fun x => x)
          have r0 := rz.cell 0
          have r1 := rz.cell 1
          have r2 := rz.free 0
          have r3 := rz.free 1
          obtain ⟨ay, fy⟩ := put2 rz (.pointer (some ⟨w2.heap.size, 0, none⟩)) (.int .i64 e1)
          have R : Hid (PlInv T p0 e0 e1 neg N w (.int .i64 2) ((w3.setCell ⟨T + 1 + 1, 0, none⟩ (.pointer (some ⟨w2.heap.size, 0, none⟩))).setCell ⟨T + 1 + 1, 1, none⟩ (.int .i64 e1))) :=
            Lib.hid (pl_end HTW.out FRA.out RT.out RS.out rz f3 hv3 (by omega) ay fy)
          clear ay fy rz hS3 f3 hv3
          refine AnyBut.all (rs := [17]) (by kernel_rfl) (by simp) ?_
          intro j hj
          obtain rfl := List.mem_singleton.1 hj
          clear hj
          refine opGo (o := _) rfl rfl ?_
          go_simp
          refine AnyBut.done (by kernel_rfl) (NoPanic.normal ?_) _
          generalize (w3.setCell ⟨T + 1 + 1, 0, none⟩ (.pointer (some ⟨w2.heap.size, 0, none⟩))).setCell ⟨T + 1 + 1, 1, none⟩ (.int .i64 e1) = wz at R ⊢
          clear r0 r1 r2 r3
          go_wp2_with fail
          refine ⟨R.out, by simp [intOf]⟩
    · have y0 := rs.cell 0
      have y1 := rs.cell 1
      have t0 := rT.cell 0
      have t1 := rT.cell 1
      have t2 := rT.free 0
      have t3 := rT.free 1
      have RT := Lib.hid rT
      have FR := Lib.hid fr
      have RS := Lib.hid rs
      have HM := Lib.hid hm
      clear hob rT fr rs hm hs0 hs1
      go_wp2_with fail
      obtain ⟨ay, fy⟩ := put2 RT.out (.pointer (some ⟨m, 0, none⟩)) (.int .i64 e1)
      have P : PlusPost neg N e1 w (.returned (.agg #[.pointer (some ⟨m, 0, none⟩), .int .i64 e1])) ((wr.setCell ⟨T, 0, none⟩ (.pointer (some ⟨m, 0, none⟩))).setCell ⟨T, 1, none⟩ (.int .i64 e1)) := pl_fin HTW.out FR.out RT.out HM.out fy
      generalize (wr.setCell ⟨T, 0, none⟩ (.pointer (some ⟨m, 0, none⟩))).setCell ⟨T, 1, none⟩ (.int .i64 e1) = wz at ay P ⊢
      refine bodyPost_ret (results_cell_row rfl _ _ _ _ _ _ _ rfl ay Tryz.underlying62 rfl (by kernel_rfl)) rfl ?_
      exact P
end Go.Proofs.YtgmebioogkmfgaaGreatDoor

namespace Go.Proofs.YtgmebioogkmfgaaGreatDoor
open Go.RowKit Go.Pt Go.Mem

theorem NumV.form {w : World} {x : Value} {neg : Bool} {A : Nat} {E : Int} (h : NumV w x neg A E) (hA : A ≠ 0) : -1048576 ≤ E ∧ E ≤ 1048576 ∧ A % 2 = 1 ∧ ∃ a n c, x = .agg #[.bool neg, .slice a n c, .int .i64 E] := by
  rcases h.cases with ⟨h, _⟩ | ⟨_, ho, e1, e2, b, n, cap, rfl, _⟩
  · exact absurd h hA
  · exact ⟨e1, e2, ho, _, _, _, rfl⟩

theorem arr4 {cs : Array Value} {a b c d : Value} (h : cs.size = 2 * 2) (h0 : cs[0]? = some a) (h1 : cs[1]? = some b) (h2 : cs[2]? = some c) (h3 : cs[3]? = some d) : cs = #[a, b, c, d] := by
  apply Array.ext_getElem?
  intro i
  match i with
  | 0 => rw [h0]; rfl
  | 1 => rw [h1]; rfl
  | 2 => rw [h2]; rfl
  | 3 => rw [h3]; rfl
  | k + 4 => rw [Array.getElem?_eq_none (by omega), Array.getElem?_eq_none (by simp)]
theorem arr2 {cs : Array Value} {a b : Value} (h : cs.size = 1 * 2) (h0 : cs[0]? = some a) (h1 : cs[1]? = some b) : cs = #[a, b] := by
  apply Array.ext_getElem?
  intro i
  match i with
  | 0 => rw [h0]; rfl
  | 1 => rw [h1]; rfl
  | k + 2 => rw [Array.getElem?_eq_none (by omega), Array.getElem?_eq_none (by simp)]

/-- open at two numbers. -/
theorem open_two (b : Nat) (x y : Value) (nx ny : Bool) (Ax Ay : Nat) (Ex Ey : Int) (xa ya : Option Addr) (xn xc yn yc : Nat) (w : World) (hx : NumV w x nx Ax Ex) (hy : NumV w y ny Ay Ey) (hAx : Ax ≠ 0) (hAy : Ay ≠ 0)
    (ex : x = .agg #[.bool nx, .slice xa xn xc, .int .i64 Ex]) (ey : y = .agg #[.bool ny, .slice ya yn yc, .int .i64 Ey])
    (hb : At w b #[.bool nx, .slice xa xn xc, .int .i64 Ex, .bool ny, .slice ya yn yc, .int .i64 Ey] 24) :
    Calls Tryz.prog 34 #[.slice (some ⟨b, 0, none⟩) 2 2] w fun en w' => ∃ ob p0 p1 v0 v1, en = .returned (.slice (some ⟨ob, 0, none⟩) 2 2) ∧
      At w' ob #[.pointer (some ⟨p0, 0, none⟩), .int .i64 Ex, .pointer (some ⟨p1, 0, none⟩), .int .i64 Ey] 62 ∧ IntV w' p0 v0 nx Ax ∧ IntV w' p1 v1 ny Ay ∧ Fr w w' None := by
  refine (open_ok b 2 (fun i => if i = 0 then x else y) (fun i => if i = 0 then nx else ny) (fun i => if i = 0 then Ax else Ay) (fun i => if i = 0 then Ex else Ey) _ w (by omega) (fun i hi => ?_) hb (fun i hi => ?_)).mono ?_
  · by_cases c : i = 0
    · simp only [c, if_true]; exact ⟨hx, hAx⟩
    · simp only [c, if_false]; exact ⟨hy, hAy⟩
  · by_cases c : i = 0
    · subst c
      exact ⟨_, ex, rfl, rfl, rfl⟩
    · obtain rfl : i = 1 := by omega
      exact ⟨_, ey, rfl, rfl, rfl⟩
  · rintro en w' ⟨ob, rfl, h1, ps, pv, cs, k1, k2, k3, k4⟩
    obtain ⟨a1, a2, a3, _, _⟩ := k3 0 (by omega)
    obtain ⟨b1, b2, b3, _, _⟩ := k3 1 (by omega)
    have e := arr4 k2 a1 a2 b1 b2
    rw [e] at k1
    exact ⟨ob, _, _, _, _, rfl, k1, a3, b3, k4⟩
theorem open_1 (b : Nat) (x : Value) (nx : Bool) (Ax : Nat) (Ex : Int) (xa : Option Addr) (xn xc : Nat) (w : World) (hx : NumV w x nx Ax Ex) (hAx : Ax ≠ 0)
    (ex : x = .agg #[.bool nx, .slice xa xn xc, .int .i64 Ex]) (hb : At w b #[.bool nx, .slice xa xn xc, .int .i64 Ex] 24) :
    Calls Tryz.prog 34 #[.slice (some ⟨b, 0, none⟩) 1 1] w fun en w' => ∃ ob p0 v0, en = .returned (.slice (some ⟨ob, 0, none⟩) 1 1) ∧ w.heap.size ≤ ob ∧ ob < p0 ∧ (∀ b, Blk v0 b → ob < b) ∧
      At w' ob #[.pointer (some ⟨p0, 0, none⟩), .int .i64 Ex] 62 ∧ IntV w' p0 v0 nx Ax ∧ Fr w w' None := by
  refine (open_ok b 1 (fun _ => x) (fun _ => nx) (fun _ => Ax) (fun _ => Ex) _ w (by omega) (fun i hi => ⟨hx, hAx⟩) hb (fun i hi => ?_)).mono ?_
  · obtain rfl : i = 0 := by omega
    exact ⟨_, ex, rfl, rfl, rfl⟩
  · rintro en w' ⟨ob, rfl, h1, ps, pv, cs, k1, k2, k3, k4⟩
    obtain ⟨a1, a2, a3, a4, a5⟩ := k3 0 (by omega)
    have e := arr2 k2 a1 a2
    rw [e] at k1
    exact ⟨ob, _, _, rfl, h1, a4, a5, k1, a3, k4⟩

set_option maxRecDepth 100000 in
set_option maxHeartbeats 4000000 in
theorem add_ok (x y : Value) (nx ny neg : Bool) (Ax Ay s N : Nat) (Ex Ey : Int) (w : World) (hx : NumV w x nx Ax Ex) (hy : NumV w y ny Ay Ey) (hAx : Ax ≠ 0) (hAy : Ay ≠ 0) (hs : 0 < s) (hs2 : s < 64) (hA : Ax < 2 ^ (64 * 2)) (hes : Ex - Ey = (s : Int)) (hE : Ey ≤ 1000000)
    (hN : N < 2 ^ (64 * 30)) (hlow : N % 18446744073709551616 ≠ 0) (hT : Tab w)
    (hadd : ∀ W z p1 zl vx vl, IntV W z (.slice none 0 0) false 0 → IntV W p1 vx ny Ay → IntV W zl vl nx (Ax * 2 ^ s) → Calls Tryz.prog 52 #[.pointer (some ⟨z, 0, none⟩), .pointer (some ⟨p1, 0, none⟩), .pointer (some ⟨zl, 0, none⟩)] W (IntPost z (Blk (.slice none 0 0)) neg N W)) :
    Calls Tryz.prog 9 #[x, y] w (AnsPost neg N Ey w) := by
  obtain ⟨ex1, ex2, exo, xa, xn, xc, rfl⟩ := hx.form hAx
  obtain ⟨ey1, ey2, eyo, ya, yn, yc, rfl⟩ := hy.form hAy
  obtain ⟨tx, fx⟩ := box_at w (.bool nx) (.slice xa xn xc) (.int .i64 Ex) 24
  have hsx : (w.alloc (.cells #[.bool nx, .slice xa xn xc, .int .i64 Ex] 24)).heap.size = w.heap.size + 1 := by simp
  obtain ⟨ty, fy⟩ := box_at (w.alloc (.cells #[.bool nx, .slice xa xn xc, .int .i64 Ex] 24)) (.bool ny) (.slice ya yn yc) (.int .i64 Ey) 24
  rw [hsx] at ty
  have hsy : ((w.alloc (.cells #[.bool nx, .slice xa xn xc, .int .i64 Ex] 24)).alloc (.cells #[.bool ny, .slice ya yn yc, .int .i64 Ey] 24)).heap.size = w.heap.size + 1 + 1 := by simp
  obtain ⟨r0, r1, fr⟩ := res_at ((w.alloc (.cells #[.bool nx, .slice xa xn xc, .int .i64 Ex] 24)).alloc (.cells #[.bool ny, .slice ya yn yc, .int .i64 Ey] 24))
  rw [hsy] at r0 r1
  have HX := Lib.hid (And.intro hx hy)
  have hsz : ((((w.alloc (.cells #[.bool nx, .slice xa xn xc, .int .i64 Ex] 24)).alloc (.cells #[.bool ny, .slice ya yn yc, .int .i64 Ey] 24)).alloc (.cells #[.bool false, .slice none 0 0, .int .i64 0] 24)).alloc (.cells #[.int .i64 0] 32)).heap.size = w.heap.size + 1 + 1 + 1 + 1 := by simp
  have f5 := (Fr.refl ((((w.alloc (.cells #[.bool nx, .slice xa xn xc, .int .i64 Ex] 24)).alloc (.cells #[.bool ny, .slice ya yn yc, .int .i64 Ey] 24)).alloc (.cells #[.bool false, .slice none 0 0, .int .i64 0] 24)).alloc (.cells #[.int .i64 0] 32)) None).alloc (.cells #[.bool nx, .slice xa xn xc, .int .i64 Ex, .bool ny, .slice ya yn yc, .int .i64 Ey] 24)
  have r5 := At.alloc ((((w.alloc (.cells #[.bool nx, .slice xa xn xc, .int .i64 Ex] 24)).alloc (.cells #[.bool ny, .slice ya yn yc, .int .i64 Ey] 24)).alloc (.cells #[.bool false, .slice none 0 0, .int .i64 0] 24)).alloc (.cells #[.int .i64 0] 32)) #[.bool nx, .slice xa xn xc, .int .i64 Ex, .bool ny, .slice ya yn yc, .int .i64 Ey] 24
  rw [hsz] at r5
  have F0 := Lib.hid (((fx.trans fy (fun _ h => h) (fun _ _ h => h)).trans fr (fun _ h => h) (fun _ _ h => h)).trans f5 (fun _ h => h) (fun _ _ h => h))
  have R0 := Lib.hid (r0.keep f5 (fun x => x))
  have R1 := Lib.hid (r1.keep f5 (fun x => x))
  have R5 := Lib.hid r5
  have HT := Lib.hid hT
  have HADD := Lib.hid hadd
  have HN := Lib.hid (And.intro hN (And.intro hlow (And.intro hA hes)))
  clear tx fx ty fy r0 r1 fr f5 r5 hsz hsx hsy hT hadd hN hlow hA hx hy hes
  go_enter_defers Tryz.func9, Tryz.ntmps9
  go_wp2_with fail
  generalize ((((w.alloc (.cells #[.bool nx, .slice xa xn xc, .int .i64 Ex] 24)).alloc (.cells #[.bool ny, .slice ya yn yc, .int .i64 Ey] 24)).alloc (.cells #[.bool false, .slice none 0 0, .int .i64 0] 24)).alloc (.cells #[.int .i64 0] 32)).alloc (.cells #[.bool nx, .slice xa xn xc, .int .i64 Ex, .bool ny, .slice ya yn yc, .int .i64 Ey] 24) = w0 at F0 R0 R1 R5 ⊢
  refine (open_two _ _ _ nx ny Ax Ay Ex Ey xa ya xn xc yn yc w0 (HX.out.1.keep F0.out) (HX.out.2.keep F0.out) hAx hAy rfl rfl R5.out).mono ?_
  rintro en w1 ⟨ob, p0, p1, v0, v1, rfl, k1, k2, k3, k4⟩
  have hpl := plus_two ob p0 p1 v0 v1 nx ny Ax Ay s Ex Ey w1 k1 k2 k3 (Nat.pos_of_ne_zero hAx) (Nat.pos_of_ne_zero hAy) N neg hs hs2 HN.out.2.2.1 HN.out.2.2.2 (fun W z zl vx vl h1 h2 h3 => HADD.out W z p1 zl vx vl h1 h2 h3)
  have HP := Lib.hid hpl
  have F1 := Lib.hid (F0.out.trans k4 (fun _ h => h) (fun _ _ h => h))
  have R2 := Lib.hid (R0.out.keep k4 (fun x => x))
  have R3 := Lib.hid (R1.out.keep k4 (fun x => x))
  clear hpl k1 k2 k3 k4 R0 R1 R5
  go_wp2_with fail
  refine (HP.out).mono ?_
  rintro en w2 ⟨m, v, rfl, m1, m2⟩
  have ht := told_num m v neg N Ey w2 HN.out.1 (fun _ => HN.out.2.1) ey1 hE m1 (HT.out.keep (F1.out.trans m2 (fun _ h => h) (fun _ _ h => h)))
  have HTO := Lib.hid ht
  have M2 := Lib.hid m2
  clear ht m1 m2
  go_wp2_with fail
  refine (HTO.out).mono ?_
  rintro en w3 ⟨x, rfl, hx, fx⟩
  have X := Lib.hid hx
  obtain ⟨xg, xa', xn', xc', xe', rfl⟩ := hx.shape
  have fx2 := M2.out.trans fx (fun _ h => h) (fun _ _ h => h)
  have r2 := R2.out.keep fx2 (fun x => x)
  have c0 := r2.cell 0
  have c1 := r2.cell 1
  have c2 := r2.cell 2
  have d0 := r2.free 0
  have d1 := r2.free 1
  have d2 := r2.free 2
  have r3 := R3.out.keep fx2 (fun x => x)
  have e0 := r3.cell 0
  have g0 := r3.free 0
  have FX := Lib.hid (F1.out.trans fx2 (fun _ h => h) (fun _ _ h => h))
  have R4 := Lib.hid r2
  have R5 := Lib.hid r3
  clear hx fx fx2 r2 r3
  go_wp2_with fail
  obtain ⟨ay, ry, xy, fy⟩ := ans_world (a := .bool xg) (b := .slice xa' xn' xc') (c := .int .i64 xe') (R := w.heap.size + 1 + 1) (by omega) FX.out X.out R4.out R5.out
  generalize (((w3.setCell ⟨w.heap.size + 1 + 1, 0, none⟩ (.bool xg)).setCell ⟨w.heap.size + 1 + 1, 1, none⟩ (.slice xa' xn' xc')).setCell ⟨w.heap.size + 1 + 1, 2, none⟩ (.int .i64 xe')).setCell ⟨w.heap.size + 1 + 1 + 1, 0, none⟩ (.int .i64 0) = wy at ay ry xy fy ⊢
  refine leaves_cons (f := 27) (args := #[.pointer (some ⟨w.heap.size + 1 + 1 + 1, 0, none⟩)]) (by simp) (by simp [go_sem]) ?_
  refine (caught_idle ⟨w.heap.size + 1 + 1 + 1, 0, none⟩ wy).mono ?_
  rintro en u' w9 ⟨rfl, rfl, rfl⟩
  exact ans_end rfl rfl rfl ay ry ⟨_, rfl, xy, fy⟩
end Go.Proofs.YtgmebioogkmfgaaGreatDoor

namespace Go.Proofs.YtgmebioogkmfgaaGreatDoor
open Go.RowKit Go.Pt Go.Mem

set_option maxRecDepth 100000 in
set_option maxHeartbeats 4000000 in
theorem scale_ok (x : Value) (nx : Bool) (Ax : Nat) (Ex k : Int) (w : World) (hx : NumV w x nx Ax Ex) (hAx : Ax ≠ 0) (hN : Ax < 2 ^ (64 * 30)) (hk0 : -4194304 ≤ k) (hk1 : k ≤ 4194304) (hE0 : -1048576 ≤ Ex + k) (hE1 : Ex + k ≤ 1000000) (hlow : Ax % 18446744073709551616 ≠ 0) (hT : Tab w) :
    Calls Tryz.prog 18 #[x, .int .i64 k] w (AnsPost nx Ax (Ex + k) w) := by
  obtain ⟨ex1, ex2, exo, xa, xn, xc, rfl⟩ := hx.form hAx
  obtain ⟨tx, fx⟩ := box_at w (.bool nx) (.slice xa xn xc) (.int .i64 Ex) 24
  have hsx : (w.alloc (.cells #[.bool nx, .slice xa xn xc, .int .i64 Ex] 24)).heap.size = w.heap.size + 1 := by simp
  obtain ⟨r0, r1, fr⟩ := res_at (w.alloc (.cells #[.bool nx, .slice xa xn xc, .int .i64 Ex] 24))
  rw [hsx] at r0 r1
  have hsz : (((w.alloc (.cells #[.bool nx, .slice xa xn xc, .int .i64 Ex] 24)).alloc (.cells #[.bool false, .slice none 0 0, .int .i64 0] 24)).alloc (.cells #[.int .i64 0] 32)).heap.size = w.heap.size + 1 + 1 + 1 := by simp
  have f5 := (Fr.refl (((w.alloc (.cells #[.bool nx, .slice xa xn xc, .int .i64 Ex] 24)).alloc (.cells #[.bool false, .slice none 0 0, .int .i64 0] 24)).alloc (.cells #[.int .i64 0] 32)) None).alloc (.cells #[.bool nx, .slice xa xn xc, .int .i64 Ex] 24)
  have r5 := At.alloc (((w.alloc (.cells #[.bool nx, .slice xa xn xc, .int .i64 Ex] 24)).alloc (.cells #[.bool false, .slice none 0 0, .int .i64 0] 24)).alloc (.cells #[.int .i64 0] 32)) #[.bool nx, .slice xa xn xc, .int .i64 Ex] 24
  rw [hsz] at r5
  have HX := Lib.hid hx
  have F0 := Lib.hid ((fx.trans fr (fun _ h => h) (fun _ _ h => h)).trans f5 (fun _ h => h) (fun _ _ h => h))
  have R0 := Lib.hid (r0.keep f5 (fun x => x))
  have R1 := Lib.hid (r1.keep f5 (fun x => x))
  have R5 := Lib.hid r5
  have HT := Lib.hid hT
  have HN := Lib.hid (And.intro hN hlow)
  clear tx fx r0 r1 fr f5 r5 hsz hsx hT hN hlow hx
  go_enter_defers Tryz.func18, Tryz.ntmps18
  go_wp2_with fail
  generalize (((w.alloc (.cells #[.bool nx, .slice xa xn xc, .int .i64 Ex] 24)).alloc (.cells #[.bool false, .slice none 0 0, .int .i64 0] 24)).alloc (.cells #[.int .i64 0] 32)).alloc (.cells #[.bool nx, .slice xa xn xc, .int .i64 Ex] 24) = w0 at F0 R0 R1 R5 ⊢
  refine (open_1 _ _ nx Ax Ex xa xn xc w0 (HX.out.keep F0.out) hAx rfl R5.out).mono ?_
  rintro en w1 ⟨ob, p0, v0, rfl, o1, o2, o3, k1, k2, k4⟩
  have y0 := k1.cell 0
  have y1 := k1.cell 1
  have z0 := k1.free 0
  have z1 := k1.free 1
  have emin : min (max k (-4194304)) 4194304 = k := by omega
  have fs : Fr w1 (w1.setCell ⟨ob, 1, none⟩ (.int .i64 (Ex + k))) (One ob) := (Fr.refl w1 (One ob)).setCell (p := ⟨ob, 1, none⟩) (Or.inl rfl) _
  have rs : At (w1.setCell ⟨ob, 1, none⟩ (.int .i64 (Ex + k))) ob #[.pointer (some ⟨p0, 0, none⟩), .int .i64 (Ex + k)] 62 := k1.put 1 (.int .i64 (Ex + k))
  have iv := k2.keep fs (fun e => by unfold Mem.One at e; omega) (fun b hb e => by have := o3 b hb; unfold Mem.One at e; omega)
  have hRlt := R0.out.lt
  have hR1lt := R1.out.lt
  have F1 := Lib.hid ((F0.out.trans k4 (fun _ h => h) (fun _ _ h => h)).trans fs (fun _ h => h) (fun x hx e => by have := F0.out.size; unfold Mem.One at e; omega))
  have R2 := Lib.hid ((R0.out.keep k4 (fun x => x)).keep fs (fun e => by unfold Mem.One at e; omega))
  have R3 := Lib.hid ((R1.out.keep k4 (fun x => x)).keep fs (fun e => by unfold Mem.One at e; omega))
  have RS := Lib.hid rs
  have IV := Lib.hid iv
  clear rs iv fs k1 k2 k4 o1 o2 o3 R0 R1 R5 hRlt hR1lt
  go_wp2_with fail
  generalize w1.setCell ⟨ob, 1, none⟩ (.int .i64 (Ex + k)) = w2 at F1 R2 R3 RS IV ⊢
  have ht := told_num p0 v0 nx Ax (Ex + k) w2 HN.out.1 (fun _ => HN.out.2) hE0 hE1 IV.out (HT.out.keep F1.out)
  refine ht.mono ?_
  clear ht
  rintro en w3 ⟨x, rfl, hx, fx⟩
  have X := Lib.hid hx
  obtain ⟨xg, xa', xn', xc', xe', rfl⟩ := hx.shape
  have r2 := R2.out.keep fx (fun x => x)
  have c0 := r2.cell 0
  have c1 := r2.cell 1
  have c2 := r2.cell 2
  have d0 := r2.free 0
  have d1 := r2.free 1
  have d2 := r2.free 2
  have r3 := R3.out.keep fx (fun x => x)
  have e0 := r3.cell 0
  have g0 := r3.free 0
  have FX := Lib.hid (F1.out.trans fx (fun _ h => h) (fun _ _ h => h))
  have R4 := Lib.hid r2
  have R5 := Lib.hid r3
  clear hx fx r2 r3
  go_wp2_with fail
  obtain ⟨ay, ry, xy, fy⟩ := ans_world (a := .bool xg) (b := .slice xa' xn' xc') (c := .int .i64 xe') (R := w.heap.size + 1) (by omega) FX.out X.out R4.out R5.out
  generalize (((w3.setCell ⟨w.heap.size + 1, 0, none⟩ (.bool xg)).setCell ⟨w.heap.size + 1, 1, none⟩ (.slice xa' xn' xc')).setCell ⟨w.heap.size + 1, 2, none⟩ (.int .i64 xe')).setCell ⟨w.heap.size + 1 + 1, 0, none⟩ (.int .i64 0) = wy at ay ry xy fy ⊢
  refine leaves_cons (f := 27) (args := #[.pointer (some ⟨w.heap.size + 1 + 1, 0, none⟩)]) (by simp) (by simp [go_sem]) ?_
  refine (caught_idle ⟨w.heap.size + 1 + 1, 0, none⟩ wy).mono ?_
  rintro en u' w9 ⟨rfl, rfl, rfl⟩
  exact ans_end rfl rfl rfl ay ry ⟨_, rfl, xy, fy⟩
end Go.Proofs.YtgmebioogkmfgaaGreatDoor

namespace Go.Pt

theorem own64 {b : Int} (h : cl b < 3) : (rg b).toNat < 9218868437227405312 ∧ pmag b = Ieee.double.mg (rg b).toNat ∧ pexp b = -1074 + Ieee.double.up (rg b).toNat := by
  have h0 := rg_bd b
  have h1 := (cl_fin b).1 h
  unfold inf at h1
  have e : ((rg b).toNat : Int) = rg b := Int.toNat_of_nonneg h0.1
  have k := mag_nat (x := (rg b).toNat) (by omega)
  rw [e] at k
  have r : rg (rg b) = rg b := by unfold rg; omega
  have c : cl (rg b) = cl b := by rw [cl_eq, cl_eq, r]
  have f1 : frc (rg b) = frc b := by rw [frc_rg, r, ← frc_rg]
  have f2 : fld (rg b) = fld b := by rw [fld_rg, r, ← fld_rg]
  refine ⟨by omega, ?_, ?_⟩
  · rw [← k.1]; unfold pmag; rw [c, f1]
  · rw [← k.2]; unfold pexp; rw [c, f2]

/-- A float's own number, whichever power of 2 is taken out. -/
theorem own_join {b : Int} (h : I64 b) (hp : pok b = true) {A k : Nat} (hA : A * 2 ^ k = (pmag b).natAbs) : jo64 (A : Int) (pexp b + k) = true ∧ jv64 (pneg b) (A : Int) (pexp b + k) = b := by
  have c : cl b < 3 := of_decide_eq_true hp
  obtain ⟨k1, k2, k3⟩ := own64 c
  have hb := rg_bd b
  have a : Ieee.Deq (Ieee.double.mg (rg b).toNat) (pexp b) (Ieee.double.mg (rg b).toNat) (Ieee.double.leastPlace + Ieee.double.up (rg b).toNat) := by
    rw [k3, least_eq]; exact Ieee.Deq.refl _ _
  have e : (pmag b).natAbs = Ieee.double.mg (rg b).toNat := by rw [k2]; omega
  have at1 : Ieee.double.At A (pexp b + k) (rg b).toNat := by
    have := (Ieee.Deq.shift A k (pexp b)).symm
    rw [hA, e] at this
    exact this.trans a
  have at2 : Ieee.double.At (A : Int).toNat (pexp b + k) (rg b).toNat := by rw [Int.toNat_natCast]; exact at1
  have j := j64_hit (pneg b) (m := (A : Int)) (by omega) (by rw [infRung_eq]; exact k1) at2
  refine ⟨j.2, ?_⟩
  rw [j.1]
  unfold pneg
  rw [decide_eq_true c]
  clear j at1 at2 a e hA k1 k2 k3 c hp
  unfold rg at *
  unfold I64 at h
  by_cases n : b < 0 <;> simp [n] <;> omega

/-- A number that no float is. -/
theorem no_join {A : Nat} {E : Int} (ho : A % 2 = 1) (h : E < -1074 ∨ 9007199254740992 ≤ A) : jo64 (A : Int) E = false := by
  refine (j64_none false (m := (A : Int)) (by omega) (fun r ha => ?_)).2
  rw [Int.toNat_natCast] at ha
  have := ha.odd ho
  rw [least_eq, binade_eq] at this
  omega

theorem zero_join : jo64 ((0 : Nat) : Int) 0 = true ∧ jv64 false ((0 : Nat) : Int) 0 = 0 := by
  have := j64_zero false 0
  exact ⟨this.2, this.1⟩

theorem pmag_zero {b : Int} (h : I64 b) (hp : pok b = true) (h0 : (pmag b).natAbs = 0) : b = 0 ∨ b = -9223372036854775808 := by
  have c : cl b < 3 := of_decide_eq_true hp
  obtain ⟨k1, k2, k3⟩ := own64 c
  have hb := rg_bd b
  have hz : (rg b).toNat = 0 := by
    rcases Nat.eq_zero_or_pos (rg b).toNat with e | e
    · exact e
    · have := Ieee.double.val_pos e
      unfold Ieee.Format.val at this
      rw [show Ieee.double.mg (rg b).toNat = 0 by omega] at this
      omega
  unfold rg at *
  unfold I64 at h
  omega
end Go.Pt

namespace Go.Proofs.YtgmebioogkmfgaaGreatDoor
open Go.RowKit Go.Pt Go.Mem

theorem ToldIs.num {neg : Bool} {N B j : Nat} {e : Int} {w : World} {x : Value} (h : ToldIs neg N e w x) (hB : B * 2 ^ j = N) (ho : B % 2 = 1) : NumV w x neg B (e + j) := by
  obtain ⟨A, E, ng, hv, _, h2⟩ := h
  have hN : N ≠ 0 := by
    rw [← hB]
    exact Nat.mul_ne_zero (by omega) (Nat.ne_of_gt (Nat.two_pow_pos j))
  obtain ⟨rfl, k, hk, hA, rfl⟩ := h2 hN
  have hA0 : A ≠ 0 := fun c => by rw [c, Nat.zero_mul] at hA; exact hN hA.symm
  have hodd : A % 2 = 1 := by
    obtain ⟨v, n, _, _, _, _, _, h6⟩ := hv
    exact (h6 hA0).1
  obtain ⟨e1, e2⟩ := Ieee.Format.deq_odd hodd ho (p := (k : Int)) (q := (j : Int)) ⟨k, j, by rw [hA, hB], rfl⟩
  subst e1
  rw [show e + (j : Int) = e + (k : Int) by omega]
  exact hv
theorem ToldIs.zero {neg : Bool} {e : Int} {w : World} {x : Value} (h : ToldIs neg 0 e w x) : NumV w x false 0 0 := by
  obtain ⟨A, E, ng, hv, h1, _⟩ := h
  obtain rfl := h1 rfl
  have hv' := hv
  obtain ⟨v, n, _, _, _, _, h5, _⟩ := hv'
  obtain ⟨rfl, rfl, _⟩ := h5 rfl
  exact hv

theorem digs_uniq {A n n' : Nat} (h : Digs n (dgt A)) (h' : Digs n' (dgt A)) (e : dv (dgt A) n = A) (e' : dv (dgt A) n' = A) : n = n' := by
  have key : ∀ {a b : Nat}, dv (dgt A) a = A → Digs b (dgt A) → a < b → False := by
    intro a b ha hb hab
    have h1 := dv_lt_dgt ha
    have h2 := hb.2.1 (by omega)
    unfold dgt at h2
    have h3 : A / 2 ^ (30 * (b - 1)) = 0 := Nat.div_eq_of_lt (Nat.lt_of_lt_of_le h1 (two_mono _ _ (by omega)))
    rw [h3] at h2
    simp at h2
  rcases Nat.lt_trichotomy n n' with c | c | c
  · exact (key e h' c).elim
  · exact c
  · exact (key e' h c).elim

set_option maxRecDepth 100000 in
set_option maxHeartbeats 4000000 in
theorem same_digits (v u : Value) (n : Nat) (x : Nat → Nat) (w : World) (hn : n ≤ 2000) (hv : DigV w v n x) (hu : DigV w u n x) :
    Calls Tryz.prog 26 #[v, u] w fun e w' => e = .returned (.bool true) ∧ Fr w w' None := by
  obtain ⟨va, vc, rfl, hva⟩ : ∃ va vc, v = .slice va n vc ∧ ∀ j, j < n → ∃ b, va = some ⟨b, 0, none⟩ ∧ b < w.heap.size ∧ n ≤ vc ∧ ∀ j, j < n → w.cell? ⟨b, j, none⟩ = some (.int .i64 ((x j : Nat) : Int)) := by
    rcases hv with ⟨rfl, rfl⟩ | ⟨b, cap, rfl, h1, h2, h3⟩
    · exact ⟨_, _, rfl, fun j hj => by omega⟩
    · exact ⟨_, _, rfl, fun j hj => ⟨b, rfl, h2, h1, h3⟩⟩
  obtain ⟨ua, uc, rfl, hua⟩ : ∃ ua uc, u = .slice ua n uc ∧ ∀ j, j < n → ∃ b, ua = some ⟨b, 0, none⟩ ∧ b < w.heap.size ∧ n ≤ uc ∧ ∀ j, j < n → w.cell? ⟨b, j, none⟩ = some (.int .i64 ((x j : Nat) : Int)) := by
    rcases hu with ⟨rfl, rfl⟩ | ⟨b, cap, rfl, h1, h2, h3⟩
    · exact ⟨_, _, rfl, fun j hj => by omega⟩
    · exact ⟨_, _, rfl, fun j hj => ⟨b, rfl, h2, h1, h3⟩⟩
  have HV := Lib.hid (And.intro hva hua)
  clear hv hu hva hua
  go_enter Tryz.func26, Tryz.ntmps26
  go_wp2
  go_loopw [5] (fun i wr => ∃ k : Nat, k ≤ n ∧ i = .int .i64 (k : Int) ∧ Fr w wr None) (fun i _ => n - (intOf i).toNat)
  case atStart => exact ⟨0, Nat.zero_le _, rfl, Fr.refl _ _⟩
  case round =>
    obtain ⟨k, hk, rfl, hf⟩ := hrel
    by_cases c : k < n
    · obtain ⟨b1, rfl, b2, b3, b4⟩ := HV.out.1 k c
      obtain ⟨d1, rfl, d2, d3, d4⟩ := HV.out.2 k c
      have e1 : wr.cell? ⟨b1, k, none⟩ = some (.int .i64 ((x k : Nat) : Int)) := by rw [hf.cell (p := ⟨b1, k, none⟩) b2 (fun x => x)]; exact b4 k c
      have e2 : wr.cell? ⟨d1, k, none⟩ = some (.int .i64 ((x k : Nat) : Int)) := by rw [hf.cell (p := ⟨d1, k, none⟩) d2 (fun x => x)]; exact d4 k c
      have HF := Lib.hid hf
      generalize x k = d at e1 e2
      have i0 : (k : Int) < (n : Int) := by omega
      have i9 : (k : Int) < 2000 := by omega
      clear b4 d4 hf
      go_wp2_with fail
      go_quiet (fail)
      go_wp2_with fail
      go_roundw
      case rel => exact ⟨k + 1, by omega, by push_cast; rfl, HF.out.drewN _⟩
      case measure => simp [intOf]; omega
    · obtain rfl : k = n := by omega
      have HF := Lib.hid hf
      clear hf
      go_wp2_with fail
      go_ret
      exact ⟨rfl, HF.out⟩

set_option maxRecDepth 100000 in
set_option maxHeartbeats 4000000 in
theorem same_num (x y : Value) (neg : Bool) (A : Nat) (E : Int) (w : World) (hx : NumV w x neg A E) (hy : NumV w y neg A E) :
    Calls Tryz.prog 10 #[x, y] w fun e w' => e = .returned (.bool true) ∧ Fr w w' None := by
  obtain ⟨v, n, rfl, h1, h2, h3, _, _⟩ := hx
  obtain ⟨u, n', rfl, g1, g2, g3, _, _⟩ := hy
  obtain rfl := digs_uniq h2 g2 h3 g3
  have hsd := fun W (f : Fr w W None) => same_digits v u n (dgt A) W h2.2.2 (h1.keep f (fun _ _ x => x)) (g1.keep f (fun _ _ x => x))
  have f0 := ((Fr.refl w None).alloc (.cells #[.bool neg, v, .int .i64 E] 24)).alloc (.cells #[.bool neg, u, .int .i64 E] 24)
  have HS := Lib.hid (hsd _ f0)
  have F0 := Lib.hid f0
  have hvs : ∃ a b c, v = .slice a b c := by
    rcases h1 with ⟨rfl, _⟩ | ⟨b, cap, rfl, _⟩
    · exact ⟨_, _, _, rfl⟩
    · exact ⟨_, _, _, rfl⟩
  have hus : ∃ a b c, u = .slice a b c := by
    rcases g1 with ⟨rfl, _⟩ | ⟨b, cap, rfl, _⟩
    · exact ⟨_, _, _, rfl⟩
    · exact ⟨_, _, _, rfl⟩
  obtain ⟨a1, a2, a3, rfl⟩ := hvs
  obtain ⟨b1, b2, b3, rfl⟩ := hus
  clear h1 h2 h3 g1 g2 g3 hsd f0
  go_enter Tryz.func10, Tryz.ntmps10
  cases neg
  · go_wp2_with fail
    refine (HS.out).mono ?_
    rintro e w1 ⟨rfl, f1⟩
    have F1 := Lib.hid (F0.out.trans f1 (fun _ h => h) (fun _ _ h => h))
    clear f1
    go_wp2_with fail
    go_ret
    exact ⟨rfl, F1.out⟩
  · go_wp2_with fail
    refine (HS.out).mono ?_
    rintro e w1 ⟨rfl, f1⟩
    have F1 := Lib.hid (F0.out.trans f1 (fun _ h => h) (fun _ _ h => h))
    clear f1
    go_wp2_with fail
    go_ret
    exact ⟨rfl, F1.out⟩
end Go.Proofs.YtgmebioogkmfgaaGreatDoor
