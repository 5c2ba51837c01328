/- Answers to questions of one number; ones; the walk of DyadicOnes. Condition: it stands in each fact. -/
import Derived.Test.YtgmebioogkmfgaaGreatDoorQU3
import Derived.Test.YtgmebioogkmfgaaGreatDoorQU2
import Derived.Test.YtgmebioogkmfgaaGreatDoorQU1
import Derived.Deep.RegionHeld3
import Derived.Test.YtgmebioogkmfgaaGreatDoorZM46
import Derived.Test.YtgmebioogkmfgaaGreatDoorQV
import Derived.ProofKit
import Derived.Deep.Slices
namespace Go.Proofs.YtgmebioogkmfgaaGreatDoor
open Go.RowKit Go.Pt Go.Mem

theorem lent_digs {n : Nat} {x : Nat → Int} (hv : ValidI n x) (h0 : 0 < n) : Digs n (dgt (dv (digN n x) n)) ∧ dv (dgt (dv (digN n x) n)) n = dv (digN n x) n ∧ (∀ j, j < n → x j = ((dgt (dv (digN n x) n) j : Nat) : Int)) := by
  have hd := digN_digs hv
  have hj : ∀ j, j < n → dgt (dv (digN n x) n) j = digN n x j := fun j hj => by rw [dgt_dv hd.1 n j, if_pos hj]
  refine ⟨⟨dgt_lt _, fun h => ?_, hd.2.2⟩, ?_, fun j h => by rw [hj j h]; exact digN_eq hv h⟩
  · rw [hj (n - 1) (by omega)]
    exact hd.2.1 h0
  · rw [dv_dgt, Nat.mod_eq_of_lt (digN_lt hv)]
theorem lent_odd {n : Nat} {x : Nat → Int} (hv : ValidI n x) (h0 : 0 < n) (ho : x 0 % 2 = 1) : dv (digN n x) n % 2 = 1 := by
  have h1 := dgt_dv (digN_digs hv).1 n 0
  rw [if_pos h0] at h1
  unfold dgt at h1
  rw [Nat.mul_zero, Nat.pow_zero, Nat.div_one] at h1
  have h2 := digN_eq hv h0
  omega

theorem num_row {w : World} {y : Value} {g : Bool} {n base : Nat} {x : Nat → Int} {E : Int} (hv : ValidI n x) (h0 : 0 < n) (h : NumO w y g (dv (digN n x) n) E base) :
    ∃ a c, y = .agg #[.bool g, .slice a n c, .int .i64 E] ∧ VRow w (.slice a n c) n (fun j => .int .i64 (x j)) 3 base := by
  obtain ⟨v, n', rfl, h2, h3, h4⟩ := h
  obtain ⟨k1, k2, k3⟩ := lent_digs hv h0
  obtain rfl := digs_uniq h3 k1 h4 k2
  obtain ⟨a, c, rfl⟩ := h2.shape
  exact ⟨a, c, rfl, h2.vrow.congr fun j hj => by rw [k3 j hj]⟩

theorem ValidP.turn {ng : Bool} {n : Nat} {x : Nat → Int} {E : Int} (h : ValidP ng n x E) (g : Bool) : ValidP (if n = 0 then false else g) n x E := by
  rcases h with ⟨rfl, _, h⟩ | ⟨h0, h⟩
  · exact Or.inl ⟨rfl, rfl, h⟩
  · exact Or.inr ⟨h0, h⟩

/-- What a call answers whose answer has the number's own digits. -/
theorem one_form {g ng : Bool} {n : Nat} {x : Nat → Int} {E : Int} {w w' : World} {en : Ending} (hP : ValidP ng n x E) (h : OutPost g (dv (digN n x) n) E w en w') :
    Fr w w' None ∧ ∃ a c, en = .returned (.tuple #[.agg #[.bool (if n = 0 then false else g), .slice a n c, .int .i64 E], .int .i64 0]) ∧ VRow w' (.slice a n c) n (fun j => .int .i64 (x j)) 3 w.heap.size := by
  obtain ⟨f, h⟩ := h
  refine ⟨f, ?_⟩
  rcases hP with ⟨rfl, rfl, rfl⟩ | ⟨h0, hv, ho, e1, e2⟩
  · rcases h with ⟨_, rfl⟩ | ⟨k, tz, _⟩
    · exact ⟨none, 0, rfl, VRow.nil _ _ _ _⟩
    · exact absurd tz.pos (by simp [dv])
  · have hpos := digN_pos hv h0
    have hodd := lent_odd hv h0 ho
    rcases h with ⟨h, _⟩ | ⟨k, tz, h⟩
    · omega
    · obtain rfl : k = 0 := tz_uniq tz (show TzIs (dv (digN n x) n) 0 from ⟨by rw [Nat.pow_zero, Nat.div_one]; exact hodd, by rw [Nat.pow_zero, Nat.div_one, Nat.mul_one]⟩)
      rw [Nat.pow_zero, Nat.div_one, show E + ((0 : Nat) : Int) = E by omega] at h
      rcases h with ⟨_, _, y, rfl, hy⟩ | ⟨h, _⟩
      · obtain ⟨a, c, rfl, hr⟩ := num_row hv h0 hy
        rw [if_neg (by omega)]
        exact ⟨a, c, rfl, hr⟩
      · exact absurd ⟨e1, e2⟩ h

/-- Scale on both sides. -/
theorem scale_two {ng : Bool} {v : Value} {n : Nat} {x : Nat → Int} {E k : Int} {w0 w w' : World} {en : Ending} (hP : ValidP ng n x E) (hn : n ≤ 2100) (hi : IntsV w0 v n x) (h : OutPost ng (dv (digN n x) n) (E + min (max k (-4194304)) 4194304) w en w') :
    Fr w w' None ∧ ∃ g n' X F er a c ua uc, en = .returned (.tuple #[.agg #[.bool g, .slice a n' c, .int .i64 F], .int .i64 er]) ∧ n' ≤ 2000 ∧ VRow w' (.slice a n' c) n' (fun j => .int .i64 (X j)) 3 w.heap.size ∧ InV w0 (.slice ua n' uc) n' X ∧
      ∀ W, Fr w0 W None → Calls Tryz.prog 21 #[.agg #[.bool ng, v, .int .i64 E], .int .i64 k] W fun en W' => en = .returned (.tuple #[.agg #[.bool g, .slice ua n' uc, .int .i64 F], .int .i64 er]) ∧ Fr W W' None := by
  obtain ⟨f, h⟩ := h
  refine ⟨f, ?_⟩
  have hi0 := hi
  obtain ⟨va, vc, rfl, hc, hin⟩ := hi
  rcases hP with ⟨rfl, rfl, rfl⟩ | ⟨h0, hv, ho, e1, e2⟩
  · rcases h with ⟨_, rfl⟩ | ⟨j, tz, _⟩
    · exact ⟨false, 0, x, 0, 0, none, 0, va, vc, rfl, by omega, VRow.nil _ _ _ _, hi0.inV, fun W _ => rScale_zero false va vc 0 k W⟩
    · exact absurd tz.pos (by simp [dv])
  · have hpos := digN_pos hv h0
    have hodd := lent_odd hv h0 ho
    rcases h with ⟨h, _⟩ | ⟨j, tz, h⟩
    · omega
    · obtain rfl : j = 0 := tz_uniq tz (show TzIs (dv (digN n x) n) 0 from ⟨by rw [Nat.pow_zero, Nat.div_one]; exact hodd, by rw [Nat.pow_zero, Nat.div_one, Nat.mul_one]⟩)
      rw [Nat.pow_zero, Nat.div_one, show E + min (max k (-4194304)) 4194304 + ((0 : Nat) : Int) = E + min (max k (-4194304)) 4194304 by omega] at h
      rcases h with ⟨k1, k2, y, rfl, hy⟩ | ⟨h, rfl⟩
      · have hk : min (max k (-4194304)) 4194304 = k := by omega
        rw [hk] at hy k1 k2
        obtain ⟨a, c, rfl, hr⟩ := num_row hv h0 hy
        exact ⟨ng, n, x, E + k, 0, a, c, va, vc, rfl, hv.1, hr, hi0.inV, fun W fW => rScale_ok ng va n vc E k x W h0 (by omega) e1 e2 (by omega) (by omega) (hi0.keep fW) (Or.inr ⟨h0, hv, ho, k1, k2⟩)⟩
      · refine ⟨false, 0, x, 0, 2, none, 0, none, 0, rfl, by omega, VRow.nil _ _ _ _, ⟨_, _, rfl, fun j hj => by omega⟩, fun W fW => ?_⟩
        by_cases c1 : k ≤ 3145728
        · by_cases c2 : -3145728 ≤ k
          · exact rScale_no ng va n vc E k x W h0 (by omega) e1 e2 c1 c2 (hi0.keep fW) (fun hp => by
              rcases hp with ⟨hp, _⟩ | ⟨_, _, _, p1, p2⟩
              · omega
              · exact h (by omega))
          · exact rScale_far ng va n vc E k W h0 (by omega)
        · exact rScale_far ng va n vc E k W h0 (by omega)

theorem neg_two {ng : Bool} {v : Value} {n : Nat} {x : Nat → Int} {E : Int} {w0 : World} (hP : ValidP ng n x E) (hi : IntsV w0 v n x) (W : World) :
    Calls Tryz.prog 23 #[.agg #[.bool ng, v, .int .i64 E]] W fun en W' => en = .returned (.agg #[.bool (if n = 0 then false else !ng), v, .int .i64 E]) ∧ Fr W W' None := by
  obtain ⟨va, vc, rfl, _⟩ := hi
  rcases hP with ⟨rfl, rfl, rfl⟩ | ⟨h0, _⟩
  · exact rNeg_zero false va vc 0 W
  · rw [if_neg (by omega)]
    exact rNeg_pos ng va n vc E W h0

theorem sign_two {ng : Bool} {n : Nat} {x : Nat → Int} {E : Int} (hP : ValidP ng n x E) : (if dv (digN n x) n = 0 then 0 else if ng then -1 else 1 : Int) = if n = 0 then 0 else if ng then -1 else 1 := by
  rcases hP with ⟨rfl, _⟩ | ⟨h0, hv, _⟩
  · rfl
  · have := digN_pos hv h0
    rw [if_neg (by omega), if_neg (show ¬ n = 0 by omega)]

theorem row_over {w w' : World} {kb m b1 b2 top n : Nat} {v : Value} {X : Nat → Value} (h : VRow w v n X 3 b1) (k : KeepV w kb m b2 top) (f : Fr w w' (KeepS w kb)) : VRow w' v n X 3 b1 := by
  obtain ⟨_, vL, vW, _, _, _, _, kat, _⟩ := k
  refine h.keepS f fun q hq hs => ?_
  rcases hs with rfl | ⟨cs, hc⟩
  · exact h.apart (by decide) kat hq
  · exact h.apart (by decide) hc hq

/-- The variables that ones reads, and what is held. -/
structure OnesAt (w0 : World) (b4 b10 b12 b18 b20 b21 n n' : Nat) (y4 y10 y12 y18 y20 y21 : Array Value) (p q r : Value) (x X : Nat → Int) (w : World) : Prop where
  fr : Fr w0 w None
  a4 : At w b4 y4 24
  a10 : At w b10 y10 24
  a12 : At w b12 y12 24
  a18 : At w b18 y18 24
  a20 : At w b20 y20 24
  a21 : At w b21 y21 24
  rp : VRow w p n (fun j => .int .i64 (x j)) 3 w0.heap.size
  rq : VRow w q n (fun j => .int .i64 (x j)) 3 w0.heap.size
  rr : VRow w r n' (fun j => .int .i64 (X j)) 3 w0.heap.size
theorem OnesAt.keep {w0 : World} {b4 b10 b12 b18 b20 b21 n n' : Nat} {y4 y10 y12 y18 y20 y21 : Array Value} {p q r : Value} {x X : Nat → Int} {w w' : World} (h : OnesAt w0 b4 b10 b12 b18 b20 b21 n n' y4 y10 y12 y18 y20 y21 p q r x X w) (f : Fr w w' None) :
    OnesAt w0 b4 b10 b12 b18 b20 b21 n n' y4 y10 y12 y18 y20 y21 p q r x X w' :=
  ⟨h.fr.trans f (fun _ h => h) (fun _ _ h => h), h.a4.keep f (fun x => x), h.a10.keep f (fun x => x), h.a12.keep f (fun x => x), h.a18.keep f (fun x => x), h.a20.keep f (fun x => x), h.a21.keep f (fun x => x), h.rp.keep f, h.rq.keep f, h.rr.keep f⟩
theorem At.other {w w' : World} {b c t t' : Nat} {cs cs' : Array Value} (h : At w b cs t) (k : At w c cs' t') (ht : t ≠ t') (f : Fr w w' (One c)) : At w' b cs t :=
  h.keep f (fun e => by
    unfold Mem.One at e
    subst e
    have := h.symm.trans k
    injection this with this
    injection this with _ h6
    exact ht h6)
theorem num_over {w w' : World} {b kb m base top : Nat} {cs : Array Value} (h : At w b cs 24) (k : KeepV w kb m base top) (f : Fr w w' (KeepS w kb)) : At w' b cs 24 := by
  obtain ⟨_, vL, vW, _, _, _, _, kat, _⟩ := k
  refine h.keep f ?_
  rintro (rfl | ⟨cs, hc⟩)
  · have := h.symm.trans kat
    injection this with this
    injection this with _ h6
    revert h6
    decide
  · have := h.symm.trans hc
    injection this with this
    injection this with _ h6
    revert h6
    decide
theorem OnesAt.over {w0 : World} {b4 b10 b12 b18 b20 b21 n n' kb m base top : Nat} {y4 y10 y12 y18 y20 y21 : Array Value} {p q r : Value} {x X : Nat → Int} {w w' : World} (h : OnesAt w0 b4 b10 b12 b18 b20 b21 n n' y4 y10 y12 y18 y20 y21 p q r x X w) (k : KeepV w kb m base top) (f : Fr w w' (KeepS w kb)) (f0 : Fr w0 w' None) :
    OnesAt w0 b4 b10 b12 b18 b20 b21 n n' y4 y10 y12 y18 y20 y21 p q r x X w' :=
  ⟨f0, num_over h.a4 k f, num_over h.a10 k f, num_over h.a12 k f, num_over h.a18 k f, num_over h.a20 k f, num_over h.a21 k f, row_over h.rp k f, row_over h.rq k f, row_over h.rr k f⟩
theorem takeH {P : Program} {md : Region.Mode} {ops : Array Oper} {Q : Exit → Act → World → Prop} {S : World → Prop} {i : Nat} {o : Oper} {d : Option Tmp} {v : Value} {fuel : Nat} {listed : Array Bool} {a : Act} {w : World} (hi : ops[i]? = some o) (hd : o.dst = d)
    (hs : Region.noSelect ops = true) (hf : Region.free md ops listed i = true) (hr : (Region.ready md ops listed).contains i = true) (hQ : ∀ c a w, Q (.panic c) (a.put o.dst v) w → Q (.panic c) a w) (hy : YieldsIf P ops S o v a) (hS : S w)
    (h : wpAnyH P md ops Q S fuel (listed.setIfInBounds i true) (a.put d v) w) : wpAnyH P md ops Q S (fuel + 1) listed a w := by
  subst hd
  exact wpAnyH_take hi hs hf hr hQ hy hS h
theorem opGoW {P : Program} {ops : Array Oper} {Q : Exit → Act → World → Prop} {i : Nat} {o : Oper} {K : Act → World → Prop} {a : Act} {w : World} (ho : ops[i]? = some o) (hg : Region.wanted o (yielded ops a.tmps) = true) (h : o.wp P a w K Q) : wpOp P ops Q i K a w := by
  unfold wpOp
  simp only [ho]
  rw [if_pos hg]
  exact Or.inl h

/-- What ones gives. -/
def OnesOk (kb : Nat) (w0 : World) (en : Ending) (w' : World) : Prop := en = .returned (.bool true) ∧ (∃ m top, m ≤ 3 ∧ KeepV w' kb m w0.heap.size top) ∧ Fr w0 w' None
end Go.Proofs.YtgmebioogkmfgaaGreatDoor

namespace Go.Proofs.YtgmebioogkmfgaaGreatDoor
open Go.RowKit Go.Pt Go.Mem

/-- What stands while ones calls. -/
structure OnesB (w0 : World) (kb b4 b8 cb cc n : Nat) (y4 y8 : Array Value) (xs : Nat → Int) (w : World) : Prop where
  fr : Fr w0 w None
  k : At w kb #[.slice none 0 0, .slice none 0 0] 28
  a4 : At w b4 y4 24
  a8 : At w b8 y8 24
  c : VRow w (.slice (some ⟨cb, 0, none⟩) (n + 3) cc) (n + 3) (fun j => .int .i64 (marked xs n j)) 3 w0.heap.size
theorem OnesB.keep {w0 : World} {kb b4 b8 cb cc n : Nat} {y4 y8 : Array Value} {xs : Nat → Int} {w w' : World} (h : OnesB w0 kb b4 b8 cb cc n y4 y8 xs w) (f : Fr w w' None) : OnesB w0 kb b4 b8 cb cc n y4 y8 xs w' :=
  ⟨h.fr.trans f (fun _ h => h) (fun _ _ h => h), h.k.keep f (fun x => x), h.a4.keep f (fun x => x), h.a8.keep f (fun x => x), h.c.keep f⟩
theorem OnesB.ints {w0 : World} {kb b4 b8 cb cc n : Nat} {y4 y8 : Array Value} {xs : Nat → Int} {w : World} (h : OnesB w0 kb b4 b8 cb cc n y4 y8 xs w) (hc : n + 3 ≤ cc) : IntsV w (.slice (some ⟨cb, 0, none⟩) n cc) n xs := by
  obtain ⟨cs, k1, k2, k3, k4, k5⟩ := h.c.at
  exact ⟨_, _, rfl, by omega, fun j hj => ⟨cb, 0, rfl, k1.lt, by rw [Nat.zero_add, k1.cell, k5 j (by omega)]; unfold marked; rw [if_pos hj]⟩⟩
/-- A number's variable and its digits. -/
def Held (b : Nat) (y : Array Value) (v : Value) (n : Nat) (X : Nat → Int) (base : Nat) (w : World) : Prop := At w b y 24 ∧ VRow w v n (fun j => .int .i64 (X j)) 3 base
theorem Held.keep {b n base : Nat} {y : Array Value} {v : Value} {X : Nat → Int} {w w' : World} (h : Held b y v n X base w) (f : Fr w w' None) : Held b y v n X base w' := ⟨h.1.keep f (fun x => x), h.2.keep f⟩
theorem Held.back {b n base cb : Nat} {y cs : Array Value} {v : Value} {X : Nat → Int} {w w' : World} (h : Held b y v n X base w) (k : At w cb cs 3) (f : Fr w w' (One cb)) (hn : ¬ Blk v cb) : Held b y v n X base w' :=
  ⟨At.other h.1 k (by decide) f, h.2.keepS f (fun q hq e => by unfold Mem.One at e; subst e; exact hn hq)⟩
/-- Float on both sides. -/
theorem float_two {ng : Bool} {v : Value} {n : Nat} {x : Nat → Int} {E : Int} {w0 : World} (hP : ValidP ng n x E) (hi : IntsV w0 v n x) :
    ∃ fv fo, (∀ W lb cap, n ≤ 2100 → IntsV W (.slice (some ⟨lb, 0, none⟩) n cap) n x → Calls Tryz.prog 17 #[.agg #[.bool ng, .slice (some ⟨lb, 0, none⟩) n cap, .int .i64 E]] W fun en W' => en = .returned (.tuple #[.int .i64 fv, .bool fo]) ∧ Fr W W' None) ∧
      ∀ W, Fr w0 W None → Calls Tryz.prog 22 #[.agg #[.bool ng, v, .int .i64 E]] W fun en W' => en = .returned (.tuple #[.int .i64 fv, .bool fo]) ∧ Fr W W' None :=
  ⟨_, _, fun W lb cap hn h => dFloat_good lb cap n ng x E W hn h hP, fun W f => rFloat_any ng v n E x W hP (hi.keep f)⟩

set_option maxRecDepth 100000 in
set_option maxHeartbeats 16000000 in
theorem ones_bad (kb : Nat) (ng : Bool) (v : Value) (n : Nat) (xs : Nat → Int) (E ks : Int) (w0 w : World) (hn : n ≤ 2100) (h : IntsV w0 v n xs) (hf : Fr w0 w None) (hkb : w0.heap.size ≤ kb) (hk : At w kb #[.slice none 0 0, .slice none 0 0] 28) (hT : Tab w0) (hP : ¬ ValidP ng n xs E) :
    Calls Tryz.prog 5 #[.pointer (some ⟨kb, 0, none⟩), .agg #[.bool ng, v, .int .i64 E], .int .i64 ks] w (OnesOk kb w0) := by
  have hcap : ∃ a c, v = .slice a n c := by obtain ⟨a, c, rfl, _⟩ := h; exact ⟨_, _, rfl⟩
  obtain ⟨va, vc, rfl⟩ := hcap
  have H := Lib.hid h
  have HT := Lib.hid hT
  have HN := Lib.hid hn
  have HP := Lib.hid hP
  have HKB := Lib.hid hkb
  obtain ⟨t4, f4⟩ := box_at w (.bool ng) (.slice va n vc) (.int .i64 E) 24
  have F4 := Lib.hid (hf.trans f4 (fun _ h => h) (fun _ _ h => h))
  have T4 := Lib.hid t4
  have K4 := Lib.hid (hk.keep f4 (fun x => x))
  have HL := Lib.hid (lentNum_ok ng (.slice va n vc) n xs E _ (by omega) (h.keep F4.out))
  clear h hT hn hP hkb hf hk t4 f4
  go_enter Tryz.func5, Tryz.ntmps5
  go_wp2_with fail
  generalize hb4 : w.heap.size = b4 at T4 ⊢
  generalize w.alloc (.cells #[.bool ng, .slice va n vc, .int .i64 E] 24) = wa at F4 T4 K4 HL ⊢
  clear hb4
  refine (HL.out).mono ?_
  rintro en w1 ⟨cb, cc, rfl, hc, hcc, hcb, f1⟩
  obtain ⟨t8, f8⟩ := box_at w1 (.bool ng) (.slice (some ⟨cb, 0, none⟩) n cc) (.int .i64 E) 24
  have f18 := f1.trans f8 (fun _ h => h) (fun _ _ h => h)
  have G2 : Hid (OnesB w0 kb b4 w1.heap.size cb cc n (#[.bool ng, .slice va n vc, .int .i64 E]) (#[.bool ng, .slice (some ⟨cb, 0, none⟩) n cc, .int .i64 E]) xs (w1.alloc (.cells #[.bool ng, .slice (some ⟨cb, 0, none⟩) n cc, .int .i64 E] 24))) := Lib.hid ⟨F4.out.trans f18 (fun _ h => h) (fun _ _ h => h), K4.out.keep f18 (fun x => x), T4.out.keep f18 (fun x => x), t8, (hc.keep f8).low F4.out.size⟩
  have HC := Lib.hid (And.intro hcc (And.intro (Nat.le_trans F4.out.size hcb) (hc.lt ⟨_, _, rfl⟩).1))
  have L1 := Lib.hid (And.intro (Nat.le_trans F4.out.size f1.size) f8.size)
  have hv := validP_ref ng (.slice va n vc) n xs E _ (by have := HN.out; omega) (H.out.keep G2.out.fr)
  rw [decide_eq_false HP.out] at hv
  have HV := Lib.hid hv
  have a0 := G2.out.a4.cell 0
  have a1 := G2.out.a4.cell 1
  have a2 := G2.out.a4.cell 2
  clear hc hcc hcb f1 t8 f8 f18 hv HL F4 T4 K4
  go_wp2_with fail
  generalize hb8 : w1.heap.size = b8 at G2 ⊢
  generalize w1.alloc (.cells #[.bool ng, .slice (some ⟨cb, 0, none⟩) n cc, .int .i64 E] 24) = w2 at G2 HV L1 a0 a1 a2 ⊢
  have HB8 := Lib.hid hb8
  clear hb8
  refine (HV.out).mono ?_
  rintro en w3 ⟨rfl, f3⟩
  have G3 := Lib.hid (G2.out.keep f3)
  have L3 : Hid (w0.heap.size ≤ w1.heap.size ∧ w1.heap.size ≤ w3.heap.size) := Lib.hid ⟨L1.out.1, Nat.le_trans L1.out.2 f3.size⟩
  clear f3 HV G2 L1 a0 a1 a2
  have a0 := G3.out.a8.cell 0
  have a1 := G3.out.a8.cell 1
  have a2 := G3.out.a8.cell 2
  have HX := Lib.hid (dNeg_bad cb cc n ng xs E w3 HN.out (G3.out.ints HC.out.1) HP.out)
  go_wp2_with fail
  refine (HX.out).mono ?_
  rintro en w4 ⟨rfl, f4⟩
  unfold zeroN
  obtain ⟨t10, e10⟩ := box_at w4 (.bool false) (.slice none 0 0) (.int .i64 0) 24
  have T10 := Lib.hid t10
  have G5 := Lib.hid (G3.out.keep (f4.trans e10 (fun _ h => h) (fun _ _ h => h)))
  clear a0 a1 a2
  clear t10 e10 f4 HX G3
  have a0 := G5.out.a8.cell 0
  have a1 := G5.out.a8.cell 1
  have a2 := G5.out.a8.cell 2
  have HX := Lib.hid (dAbs_bad cb cc n ng xs E _ HN.out (G5.out.ints HC.out.1) HP.out)
  go_wp2_with fail
  generalize hb10 : w4.heap.size = b10 at T10 ⊢
  generalize w4.alloc (.cells #[.bool false, .slice none 0 0, .int .i64 0] 24) = w5 at G5 T10 HX a0 a1 a2 ⊢
  clear hb10
  refine (HX.out).mono ?_
  rintro en w6 ⟨rfl, f6⟩
  unfold zeroN
  obtain ⟨t12, e12⟩ := box_at w6 (.bool false) (.slice none 0 0) (.int .i64 0) 24
  have T12 := Lib.hid t12
  have J7 := f6.trans e12 (fun _ h => h) (fun _ _ h => h)
  have G7 := Lib.hid (G5.out.keep J7)
  have U10 := Lib.hid (T10.out.keep J7 (fun x => x))
  clear a0 a1 a2
  clear t12 e12 f6 HX G5 J7 T10
  have a0 := G7.out.a8.cell 0
  have a1 := G7.out.a8.cell 1
  have a2 := G7.out.a8.cell 2
  have HX := Lib.hid (dSign_bad cb cc n ng xs E _ HN.out (G7.out.ints HC.out.1) HP.out)
  go_wp2_with fail
  generalize hb12 : w6.heap.size = b12 at T12 ⊢
  generalize w6.alloc (.cells #[.bool false, .slice none 0 0, .int .i64 0] 24) = w7 at G7 T12 U10 HX a0 a1 a2 ⊢
  clear hb12
  refine (HX.out).mono ?_
  rintro en w8 ⟨rfl, f8⟩
  have G8 := Lib.hid (G7.out.keep f8)
  have T8 := Lib.hid (And.intro (U10.out.keep f8 (fun x => x)) (T12.out.keep f8 (fun x => x)))
  clear a0 a1 a2
  clear f8 HX G7 U10 T12
  have a0 := G8.out.a8.cell 0
  have a1 := G8.out.a8.cell 1
  have a2 := G8.out.a8.cell 2
  have HX := Lib.hid (dFloat_bad cb cc n ng xs E _ HN.out (G8.out.ints HC.out.1) HP.out)
  go_wp2_with fail
  refine (HX.out).mono ?_
  rintro en w9 ⟨rfl, f9⟩
  have G9 := Lib.hid (G8.out.keep f9)
  have T9 := Lib.hid (And.intro (T8.out.1.keep f9 (fun x => x)) (T8.out.2.keep f9 (fun x => x)))
  clear a0 a1 a2
  clear f9 HX G8 T8
  have a0 := G9.out.a8.cell 0
  have a1 := G9.out.a8.cell 1
  have a2 := G9.out.a8.cell 2
  have HX := Lib.hid (dScale_bad cb cc n ng xs E ks _ HN.out (G9.out.ints HC.out.1) HP.out)
  go_wp2_with fail
  refine (HX.out).mono ?_
  rintro en w10 ⟨rfl, f10⟩
  unfold zeroN
  obtain ⟨t18, e18⟩ := box_at w10 (.bool false) (.slice none 0 0) (.int .i64 0) 24
  have T18 := Lib.hid t18
  have J7 := f10.trans e18 (fun _ h => h) (fun _ _ h => h)
  have G11 := Lib.hid (G9.out.keep J7)
  have T11 := Lib.hid (And.intro (T9.out.1.keep J7 (fun x => x)) (T9.out.2.keep J7 (fun x => x)))
  clear a0 a1 a2
  clear t18 e18 f10 HX G9 J7 T9
  have a0 := G11.out.a8.cell 0
  have a1 := G11.out.a8.cell 1
  have a2 := G11.out.a8.cell 2
  have HX := validP_dy ng _ n xs E _ (by have := HN.out; omega) (G11.out.ints HC.out.1)
  rw [decide_eq_false HP.out] at HX
  replace HX := Lib.hid HX
  go_wp2_with fail
  generalize hb18 : w10.heap.size = b18 at T18 ⊢
  generalize w10.alloc (.cells #[.bool false, .slice none 0 0, .int .i64 0] 24) = w11 at G11 T18 T11 HX a0 a1 a2 ⊢
  clear hb18
  refine (HX.out).mono ?_
  rintro en w12 ⟨rfl, f12⟩
  have G12 := Lib.hid (G11.out.keep f12)
  have T12 := Lib.hid (And.intro (T11.out.1.keep f12 (fun x => x)) (And.intro (T11.out.2.keep f12 (fun x => x)) (T18.out.keep f12 (fun x => x))))
  clear a0 a1 a2
  clear f12 HX G11 T11 T18
  have a0 := G12.out.a4.cell 0
  have a1 := G12.out.a4.cell 1
  have a2 := G12.out.a4.cell 2
  have HX := Lib.hid (back_ok cb cc n _ (.slice va n vc) xs w12 (by have := HN.out; omega) HC.out.1 G12.out.c (H.out.keep G12.out.fr).inV)
  go_wp2_with fail
  refine (HX.out).mono ?_
  rintro en w13 ⟨rfl, f13⟩
  have F13 := Lib.hid (G12.out.fr.trans f13 (fun _ h => h) (fun q hq e => by unfold Mem.One at e; have := HC.out.2.1; omega))
  obtain ⟨cs, q1, q2, q3, q4, q5⟩ := G12.out.c.at
  have T13 := Lib.hid (And.intro (At.other G12.out.a4 q1 (by decide) f13) (And.intro (At.other T12.out.1 q1 (by decide) f13) (And.intro (At.other T12.out.2.1 q1 (by decide) f13) (And.intro (At.other T12.out.2.2 q1 (by decide) f13) (At.other G12.out.k q1 (by decide) f13)))))
  clear a0 a1 a2
  clear f13 HX G12 T12 q1 q2 q3 q4 q5
  have a0 := T13.out.1.cell 0
  have a1 := T13.out.1.cell 1
  have a2 := T13.out.1.cell 2
  have b0 := T13.out.2.1.cell 0
  have b1 := T13.out.2.1.cell 1
  have b2 := T13.out.2.1.cell 2
  have c0 := T13.out.2.2.1.cell 0
  have c1 := T13.out.2.2.1.cell 1
  have c2 := T13.out.2.2.1.cell 2
  have d0 := T13.out.2.2.2.1.cell 0
  have d1 := T13.out.2.2.2.1.cell 1
  have d2 := T13.out.2.2.2.1.cell 2
  go_wp2_with fail
  refine (is_bad (.pointer (some ⟨kb, 0, none⟩)) va n vc ng E w13).mono ?_
  rintro en w14 ⟨rfl, f14⟩
  have F14 := Lib.hid (F13.out.trans f14 (fun _ h => h) (fun _ _ h => h))
  have T14 := Lib.hid (And.intro (T13.out.1.keep f14 (fun x => x)) (And.intro (T13.out.2.1.keep f14 (fun x => x)) (And.intro (T13.out.2.2.1.keep f14 (fun x => x)) (And.intro (T13.out.2.2.2.1.keep f14 (fun x => x)) (T13.out.2.2.2.2.keep f14 (fun x => x))))))
  clear a0 a1 a2 b0 b1 b2 c0 c1 c2 d0 d1 d2
  clear f14
  have a0 := T14.out.1.cell 0
  have a1 := T14.out.1.cell 1
  have a2 := T14.out.1.cell 2
  have b0 := T14.out.2.1.cell 0
  have b1 := T14.out.2.1.cell 1
  have b2 := T14.out.2.1.cell 2
  have c0 := T14.out.2.2.1.cell 0
  have c1 := T14.out.2.2.1.cell 1
  have c2 := T14.out.2.2.1.cell 2
  have d0 := T14.out.2.2.2.1.cell 0
  have d1 := T14.out.2.2.2.1.cell 1
  have d2 := T14.out.2.2.2.1.cell 2
  go_wp2_with fail
  refine (is_bad (.pointer (some ⟨kb, 0, none⟩)) va n vc ng E w14).mono ?_
  rintro en w15 ⟨rfl, f15⟩
  have F15 := Lib.hid (F14.out.trans f15 (fun _ h => h) (fun _ _ h => h))
  have T15 := Lib.hid (And.intro (T14.out.1.keep f15 (fun x => x)) (And.intro (T14.out.2.1.keep f15 (fun x => x)) (And.intro (T14.out.2.2.1.keep f15 (fun x => x)) (And.intro (T14.out.2.2.2.1.keep f15 (fun x => x)) (T14.out.2.2.2.2.keep f15 (fun x => x))))))
  clear a0 a1 a2 b0 b1 b2 c0 c1 c2 d0 d1 d2
  clear f15
  have a0 := T15.out.1.cell 0
  have a1 := T15.out.1.cell 1
  have a2 := T15.out.1.cell 2
  have b0 := T15.out.2.1.cell 0
  have b1 := T15.out.2.1.cell 1
  have b2 := T15.out.2.1.cell 2
  have c0 := T15.out.2.2.1.cell 0
  have c1 := T15.out.2.2.1.cell 1
  have c2 := T15.out.2.2.1.cell 2
  have d0 := T15.out.2.2.2.1.cell 0
  have d1 := T15.out.2.2.2.1.cell 1
  have d2 := T15.out.2.2.2.1.cell 2
  go_wp2_with fail
  refine (is_bad (.pointer (some ⟨kb, 0, none⟩)) va n vc ng E w15).mono ?_
  rintro en w16 ⟨rfl, f16⟩
  have F16 := Lib.hid (F15.out.trans f16 (fun _ h => h) (fun _ _ h => h))
  have T16 := Lib.hid (And.intro (T15.out.1.keep f16 (fun x => x)) (And.intro (T15.out.2.1.keep f16 (fun x => x)) (And.intro (T15.out.2.2.1.keep f16 (fun x => x)) (And.intro (T15.out.2.2.2.1.keep f16 (fun x => x)) (T15.out.2.2.2.2.keep f16 (fun x => x))))))
  clear a0 a1 a2 b0 b1 b2 c0 c1 c2 d0 d1 d2
  clear f16
  go_wp2_with fail
  go_ret
  exact ⟨rfl, ⟨0, 0, by omega, KeepV.new HKB.out T16.out.2.2.2.2 0⟩, F16.out⟩
end Go.Proofs.YtgmebioogkmfgaaGreatDoor

namespace Go.Proofs.YtgmebioogkmfgaaGreatDoor
open Go.RowKit Go.Pt Go.Mem

set_option maxRecDepth 100000 in
set_option maxHeartbeats 16000000 in
theorem ones_good (kb : Nat) (ng : Bool) (v : Value) (n : Nat) (xs : Nat → Int) (E ks : Int) (w0 w : World) (hn : n ≤ 2100) (h : IntsV w0 v n xs) (hf : Fr w0 w None) (hkb : w0.heap.size ≤ kb) (hk : At w kb #[.slice none 0 0, .slice none 0 0] 28) (hT : Tab w0) (hP : ValidP ng n xs E) :
    Calls Tryz.prog 5 #[.pointer (some ⟨kb, 0, none⟩), .agg #[.bool ng, v, .int .i64 E], .int .i64 ks] w (OnesOk kb w0) := by
  have hcap : ∃ a c, v = .slice a n c := by obtain ⟨a, c, rfl, _⟩ := h; exact ⟨_, _, rfl⟩
  obtain ⟨va, vc, rfl⟩ := hcap
  have H := Lib.hid h
  have HT := Lib.hid hT
  have HN := Lib.hid hn
  have HP := Lib.hid hP
  have HKB := Lib.hid hkb
  obtain ⟨t4, f4⟩ := box_at w (.bool ng) (.slice va n vc) (.int .i64 E) 24
  have F4 := Lib.hid (hf.trans f4 (fun _ h => h) (fun _ _ h => h))
  have T4 := Lib.hid t4
  have K4 := Lib.hid (hk.keep f4 (fun x => x))
  have HL := Lib.hid (lentNum_ok ng (.slice va n vc) n xs E _ (by omega) (h.keep F4.out))
  clear h hT hn hP hkb hf hk t4 f4
  go_enter Tryz.func5, Tryz.ntmps5
  go_wp2_with fail
  generalize hb4 : w.heap.size = b4 at T4 ⊢
  generalize w.alloc (.cells #[.bool ng, .slice va n vc, .int .i64 E] 24) = wa at F4 T4 K4 HL ⊢
  clear hb4
  refine (HL.out).mono ?_
  rintro en w1 ⟨cb, cc, rfl, hc, hcc, hcb, f1⟩
  obtain ⟨t8, f8⟩ := box_at w1 (.bool ng) (.slice (some ⟨cb, 0, none⟩) n cc) (.int .i64 E) 24
  have f18 := f1.trans f8 (fun _ h => h) (fun _ _ h => h)
  have G2 : Hid (OnesB w0 kb b4 w1.heap.size cb cc n (#[.bool ng, .slice va n vc, .int .i64 E]) (#[.bool ng, .slice (some ⟨cb, 0, none⟩) n cc, .int .i64 E]) xs (w1.alloc (.cells #[.bool ng, .slice (some ⟨cb, 0, none⟩) n cc, .int .i64 E] 24))) := Lib.hid ⟨F4.out.trans f18 (fun _ h => h) (fun _ _ h => h), K4.out.keep f18 (fun x => x), T4.out.keep f18 (fun x => x), t8, (hc.keep f8).low F4.out.size⟩
  have HC := Lib.hid (And.intro hcc (And.intro (Nat.le_trans F4.out.size hcb) (hc.lt ⟨_, _, rfl⟩).1))
  have L1 := Lib.hid (And.intro (Nat.le_trans F4.out.size f1.size) f8.size)
  have hv := validP_ref ng (.slice va n vc) n xs E _ (by have := HN.out; omega) (H.out.keep G2.out.fr)
  rw [decide_eq_true HP.out] at hv
  have HV := Lib.hid hv
  have a0 := G2.out.a4.cell 0
  have a1 := G2.out.a4.cell 1
  have a2 := G2.out.a4.cell 2
  clear hc hcc hcb f1 t8 f8 f18 hv HL F4 T4 K4
  go_wp2_with fail
  generalize hb8 : w1.heap.size = b8 at G2 ⊢
  generalize w1.alloc (.cells #[.bool ng, .slice (some ⟨cb, 0, none⟩) n cc, .int .i64 E] 24) = w2 at G2 HV L1 a0 a1 a2 ⊢
  have HB8 := Lib.hid hb8
  clear hb8
  refine (HV.out).mono ?_
  rintro en w3 ⟨rfl, f3⟩
  have G3 := Lib.hid (G2.out.keep f3)
  have L3 : Hid (w0.heap.size ≤ w1.heap.size ∧ w1.heap.size ≤ w3.heap.size) := Lib.hid ⟨L1.out.1, Nat.le_trans L1.out.2 f3.size⟩
  clear f3 HV G2 L1 a0 a1 a2
  obtain ⟨g1, hg1⟩ : ∃ g1, (if n = 0 then false else !ng) = g1 := ⟨_, rfl⟩
  obtain ⟨s, hs⟩ : ∃ s : Int, (if n = 0 then 0 else if ng then -1 else 1) = s := ⟨_, rfl⟩
  obtain ⟨fv, fo, hfl1, hfl2⟩ := float_two HP.out H.out
  have PT : Hid (ValidP g1 n xs E) := Lib.hid (by have := HP.out.turn (!ng); rwa [hg1] at this)
  have QT : Hid (ValidP false n xs E) := Lib.hid (by have := HP.out.turn false; rwa [ite_self] at this)
  have RNEG : Hid (∀ W, Calls Tryz.prog 23 #[.agg #[.bool ng, .slice va n vc, .int .i64 E]] W fun en W' => en = .returned (.agg #[.bool g1, .slice va n vc, .int .i64 E]) ∧ Fr W W' None) := Lib.hid (fun W => by have := neg_two HP.out H.out W; rwa [hg1] at this)
  have RSG : Hid (∀ W, Calls Tryz.prog 24 #[.agg #[.bool ng, .slice va n vc, .int .i64 E]] W fun en W' => en = .returned (.int .i64 s) ∧ Fr W W' None) := Lib.hid (fun W => by have := rSign_any ng va n vc E W; rwa [hs] at this)
  have SG : Hid ((if dv (digN n xs) n = 0 then 0 else if ng then -1 else 1 : Int) = s) := Lib.hid ((sign_two HP.out).trans hs)
  have G1 := Lib.hid hg1
  have FL1 := Lib.hid hfl1
  have FL2 := Lib.hid hfl2
  clear hg1 hs hfl1 hfl2
  have a0 := G3.out.a8.cell 0
  have a1 := G3.out.a8.cell 1
  have a2 := G3.out.a8.cell 2
  have HX := Lib.hid (dNeg_good cb cc n ng xs E w3 HN.out (G3.out.ints HC.out.1) HP.out (HT.out.keep G3.out.fr))
  go_wp2_with fail
  refine (HX.out).mono ?_
  intro en w4 hen
  obtain ⟨f4, pa, pc, hen2, hr⟩ := one_form HP.out hen
  rw [G1.out] at hen2
  subst hen2
  obtain ⟨t10, e10⟩ := box_at w4 (.bool g1) (.slice pa n pc) (.int .i64 E) 24
  have G5 := Lib.hid (G3.out.keep (f4.trans e10 (fun _ h => h) (fun _ _ h => h)))
  have P5 : Hid (Held w4.heap.size (#[.bool g1, .slice pa n pc, .int .i64 E]) (.slice pa n pc) n xs w0.heap.size (w4.alloc (.cells #[.bool g1, .slice pa n pc, .int .i64 E] 24))) := Lib.hid ⟨t10, (hr.keep e10).low G3.out.fr.size⟩
  have PQ : Hid (∀ q, Blk (.slice pa n pc) q → q < w4.heap.size) := Lib.hid (fun q hq => (hr.lt hq).1)
  have PL : Hid (∀ q, Blk (.slice pa n pc) q → w3.heap.size ≤ q) := Lib.hid (fun q hq => (hr.lt hq).2)
  have L5 : Hid (w4.heap.size ≤ (w4.alloc (.cells #[.bool g1, .slice pa n pc, .int .i64 E] 24)).heap.size ∧ w3.heap.size ≤ w4.heap.size) := Lib.hid ⟨e10.size, f4.size⟩
  clear a0 a1 a2
  clear t10 e10 f4 hr hen HX G3
  have a0 := G5.out.a8.cell 0
  have a1 := G5.out.a8.cell 1
  have a2 := G5.out.a8.cell 2
  have HX := Lib.hid (dAbs_good cb cc n ng xs E _ HN.out (G5.out.ints HC.out.1) HP.out (HT.out.keep G5.out.fr))
  go_wp2_with fail
  generalize hb10 : w4.heap.size = b10 at P5 ⊢
  generalize w4.alloc (.cells #[.bool g1, .slice pa n pc, .int .i64 E] 24) = w5 at G5 P5 HX L5 a0 a1 a2 ⊢
  clear hb10
  refine (HX.out).mono ?_
  intro en w6 hen
  obtain ⟨f6, qa, qc, hen2, hr⟩ := one_form HP.out hen
  rw [ite_self] at hen2
  subst hen2
  obtain ⟨t12, e12⟩ := box_at w6 (.bool false) (.slice qa n qc) (.int .i64 E) 24
  have J7 := f6.trans e12 (fun _ h => h) (fun _ _ h => h)
  have G7 := Lib.hid (G5.out.keep J7)
  have P7 := Lib.hid (P5.out.keep J7)
  have Q7 : Hid (Held w6.heap.size (#[.bool false, .slice qa n qc, .int .i64 E]) (.slice qa n qc) n xs w0.heap.size (w6.alloc (.cells #[.bool false, .slice qa n qc, .int .i64 E] 24))) := Lib.hid ⟨t12, (hr.keep e12).low G5.out.fr.size⟩
  have QQ : Hid (∀ q, Blk (.slice qa n qc) q → w4.heap.size ≤ q ∧ q < w6.heap.size) := Lib.hid (fun q hq => ⟨Nat.le_trans L5.out.1 (hr.lt hq).2, (hr.lt hq).1⟩)
  have QL : Hid (w4.heap.size ≤ w6.heap.size) := Lib.hid (Nat.le_trans L5.out.1 f6.size)
  have L7 : Hid (w6.heap.size ≤ (w6.alloc (.cells #[.bool false, .slice qa n qc, .int .i64 E] 24)).heap.size) := Lib.hid e12.size
  clear a0 a1 a2
  clear t12 e12 f6 hr hen HX G5 J7 P5
  have a0 := G7.out.a8.cell 0
  have a1 := G7.out.a8.cell 1
  have a2 := G7.out.a8.cell 2
  have hsg := dSign_good cb cc n ng xs E _ HN.out (G7.out.ints HC.out.1) HP.out
  rw [SG.out] at hsg
  have HX := Lib.hid hsg
  clear hsg
  go_wp2_with fail
  generalize hb12 : w6.heap.size = b12 at Q7 ⊢
  generalize w6.alloc (.cells #[.bool false, .slice qa n qc, .int .i64 E] 24) = w7 at G7 P7 Q7 HX L7 a0 a1 a2 ⊢
  clear hb12
  refine (HX.out).mono ?_
  rintro en w8 ⟨rfl, f8⟩
  have G8 := Lib.hid (G7.out.keep f8)
  have P8 := Lib.hid (And.intro (P7.out.keep f8) (Q7.out.keep f8))
  have L8 : Hid (w6.heap.size ≤ w8.heap.size) := Lib.hid (Nat.le_trans L7.out f8.size)
  clear a0 a1 a2
  clear f8 HX G7 P7 Q7 L7
  have a0 := G8.out.a8.cell 0
  have a1 := G8.out.a8.cell 1
  have a2 := G8.out.a8.cell 2
  have HX := Lib.hid (FL1.out w8 cb cc HN.out (G8.out.ints HC.out.1))
  go_wp2_with fail
  refine (HX.out).mono ?_
  rintro en w9 ⟨rfl, f9⟩
  have G9 := Lib.hid (G8.out.keep f9)
  have P9 := Lib.hid (And.intro (P8.out.1.keep f9) (P8.out.2.keep f9))
  have L9 : Hid (w6.heap.size ≤ w9.heap.size) := Lib.hid (Nat.le_trans L8.out f9.size)
  clear a0 a1 a2
  clear f9 HX G8 P8 L8
  have a0 := G9.out.a8.cell 0
  have a1 := G9.out.a8.cell 1
  have a2 := G9.out.a8.cell 2
  have HX := Lib.hid (dScale_good cb cc n ng xs E ks _ HN.out (G9.out.ints HC.out.1) HP.out (HT.out.keep G9.out.fr))
  go_wp2_with fail
  refine (HX.out).mono ?_
  intro en w10 hen
  obtain ⟨f10, g, m, X, F, er, ra, rc, ua, uc, rfl, hm, hr, hu, hrs⟩ := scale_two HP.out HN.out H.out hen
  have RSC := Lib.hid hrs
  have HM := Lib.hid hm
  have HU := Lib.hid hu
  obtain ⟨t18, e18⟩ := box_at w10 (.bool g) (.slice ra m rc) (.int .i64 F) 24
  have J7 := f10.trans e18 (fun _ h => h) (fun _ _ h => h)
  have G11 := Lib.hid (G9.out.keep J7)
  have P11 := Lib.hid (And.intro (P9.out.1.keep J7) (P9.out.2.keep J7))
  have R11 : Hid (Held w10.heap.size (#[.bool g, .slice ra m rc, .int .i64 F]) (.slice ra m rc) m X w0.heap.size (w10.alloc (.cells #[.bool g, .slice ra m rc, .int .i64 F] 24))) := Lib.hid ⟨t18, (hr.keep e18).low G9.out.fr.size⟩
  have RQ : Hid (∀ q, Blk (.slice ra m rc) q → w6.heap.size ≤ q ∧ q < w10.heap.size) := Lib.hid (fun q hq => ⟨Nat.le_trans L9.out (hr.lt hq).2, (hr.lt hq).1⟩)
  have RL : Hid (w6.heap.size ≤ w10.heap.size) := Lib.hid (Nat.le_trans L9.out f10.size)
  clear a0 a1 a2
  clear t18 e18 f10 hr hen HX G9 J7 P9 hrs hm hu L9
  have a0 := G11.out.a8.cell 0
  have a1 := G11.out.a8.cell 1
  have a2 := G11.out.a8.cell 2
  have HX := validP_dy ng _ n xs E _ (by have := HN.out; omega) (G11.out.ints HC.out.1)
  rw [decide_eq_true HP.out] at HX
  replace HX := Lib.hid HX
  go_wp2_with fail
  generalize hb18 : w10.heap.size = b18 at R11 ⊢
  generalize w10.alloc (.cells #[.bool g, .slice ra m rc, .int .i64 F] 24) = w11 at G11 P11 R11 HX a0 a1 a2 ⊢
  clear hb18
  refine (HX.out).mono ?_
  rintro en w12 ⟨rfl, f12⟩
  have G12 := Lib.hid (G11.out.keep f12)
  have P12 := Lib.hid (And.intro (P11.out.1.keep f12) (And.intro (P11.out.2.keep f12) (R11.out.keep f12)))
  clear a0 a1 a2
  clear f12 HX G11 P11 R11
  have a0 := G12.out.a4.cell 0
  have a1 := G12.out.a4.cell 1
  have a2 := G12.out.a4.cell 2
  have HX := Lib.hid (back_ok cb cc n _ (.slice va n vc) xs w12 (by have := HN.out; omega) HC.out.1 G12.out.c (H.out.keep G12.out.fr).inV)
  go_wp2_with fail
  refine (HX.out).mono ?_
  rintro en w13 ⟨rfl, f13⟩
  obtain ⟨cs, q1, q2, q3, q4, q5⟩ := G12.out.c.at
  have F13 := Lib.hid (G12.out.fr.trans f13 (fun _ h => h) (fun q hq e => by unfold Mem.One at e; have := HC.out.2.1; omega))
  have T13 := Lib.hid (And.intro (At.other G12.out.a4 q1 (by decide) f13) (At.other G12.out.k q1 (by decide) f13))
  have P13 := Lib.hid (And.intro (P12.out.1.back q1 f13 (fun hq => by have := PL.out _ hq; have := L3.out; have := HC.out; omega)) (And.intro (P12.out.2.1.back q1 f13 (fun hq => by have := (QQ.out _ hq).1; have := L5.out; have := L3.out; have := HC.out; omega)) (P12.out.2.2.back q1 f13 (fun hq => by have := (RQ.out _ hq).1; have := QL.out; have := L5.out; have := L3.out; have := HC.out; omega))))
  clear a0 a1 a2
  clear f13 HX G12 P12 q1 q2 q3 q4 q5
  obtain ⟨t20, e20⟩ := box_at w13 (.bool false) (.slice va n vc) (.int .i64 E) 24
  have F14 := Lib.hid (F13.out.trans e20 (fun _ h => h) (fun _ _ h => h))
  have T14 := Lib.hid (And.intro (T13.out.1.keep e20 (fun x => x)) (T13.out.2.keep e20 (fun x => x)))
  have P14 := Lib.hid (And.intro (P13.out.1.keep e20) (And.intro (P13.out.2.1.keep e20) (P13.out.2.2.keep e20)))
  have T20 := Lib.hid t20
  have a0 := T13.out.1.cell 0
  have a1 := T13.out.1.cell 1
  have a2 := T13.out.1.cell 2
  have b0 := T14.out.1.cell 0
  have b1 := T14.out.1.cell 1
  have b2 := T14.out.1.cell 2
  have HX := Lib.hid (RSC.out _ F14.out)
  clear t20 e20
  go_wp2_with fail
  generalize hb20 : w13.heap.size = b20 at T20 ⊢
  generalize w13.alloc (.cells #[.bool false, .slice va n vc, .int .i64 E] 24) = w14 at F14 T14 P14 T20 HX b0 b1 b2 ⊢
  clear hb20 a0 a1 a2
  refine (HX.out).mono ?_
  rintro en w15 ⟨rfl, f15⟩
  obtain ⟨t21, e21⟩ := box_at w15 (.bool g) (.slice ua m uc) (.int .i64 F) 24
  have J7 := f15.trans e21 (fun _ h => h) (fun _ _ h => h)
  have F16 := Lib.hid (F14.out.trans J7 (fun _ h => h) (fun _ _ h => h))
  have T16 := Lib.hid (And.intro (T14.out.1.keep J7 (fun x => x)) (And.intro (T14.out.2.keep J7 (fun x => x)) (T20.out.keep J7 (fun x => x))))
  have P16 := Lib.hid (And.intro (P14.out.1.keep J7) (And.intro (P14.out.2.1.keep J7) (P14.out.2.2.keep J7)))
  have T21 := Lib.hid t21
  clear b0 b1 b2
  have a0 := T16.out.1.cell 0
  have a1 := T16.out.1.cell 1
  have a2 := T16.out.1.cell 2
  have HX := Lib.hid (FL2.out _ F16.out)
  clear t21 e21 f15 J7 F14 T14 P14 T20 F13 T13 P13
  go_wp2_with fail
  generalize hb21 : w15.heap.size = b21 at T21 ⊢
  generalize w15.alloc (.cells #[.bool g, .slice ua m uc, .int .i64 F] 24) = w16 at F16 T16 P16 T21 HX a0 a1 a2 ⊢
  clear hb21
  refine (HX.out).mono ?_
  rintro en w17 ⟨rfl, f17⟩
  have fd := f17.trans (Fr.refl w17 None).drew (fun _ h => h) (fun _ _ h => h)
  have S0 : OnesAt w0 b4 b10 b12 b18 b20 b21 n m (#[.bool ng, .slice va n vc, .int .i64 E]) (#[.bool g1, .slice pa n pc, .int .i64 E]) (#[.bool false, .slice qa n qc, .int .i64 E]) (#[.bool g, .slice ra m rc, .int .i64 F]) (#[.bool false, .slice va n vc, .int .i64 E]) (#[.bool g, .slice ua m uc, .int .i64 F]) (.slice pa n pc) (.slice qa n qc) (.slice ra m rc) xs X w17.drew :=
    ⟨F16.out.trans fd (fun _ h => h) (fun _ _ h => h), T16.out.1.keep fd (fun x => x), P16.out.1.1.keep fd (fun x => x), P16.out.2.1.1.keep fd (fun x => x), P16.out.2.2.1.keep fd (fun x => x), T16.out.2.2.keep fd (fun x => x), T21.out.keep fd (fun x => x), P16.out.1.2.keep fd, P16.out.2.1.2.keep fd, P16.out.2.2.2.keep fd⟩
  have K0 : Hid (KeepV w17.drew kb 0 w0.heap.size 0) := Lib.hid (KeepV.new HKB.out (T16.out.2.1.keep fd (fun x => x)) 0)
  clear a0 a1 a2
  clear f17 fd HX F16 T16 P16 T21
  go_wp2_with fail
  refine wp_region_held_drew (S := OnesAt w0 b4 b10 b12 b18 b20 b21 n m (#[.bool ng, .slice va n vc, .int .i64 E]) (#[.bool g1, .slice pa n pc, .int .i64 E]) (#[.bool false, .slice qa n qc, .int .i64 E]) (#[.bool g, .slice ra m rc, .int .i64 F]) (#[.bool false, .slice va n vc, .int .i64 E]) (#[.bool g, .slice ua m uc, .int .i64 F]) (.slice pa n pc) (.slice qa n qc) (.slice ra m rc) xs X) (by kernel_rfl) S0 ?_
  clear S0
  intro hS0
  refine takeH (i := 0) (o := _) (d := some 119) (v := .pointer (some ⟨kb, 0, none⟩)) rfl rfl (by kernel_rfl) (by kernel_rfl) (by kernel_rfl) (fun _ _ _ h => h) (Or.inl ⟨by rfl, fun w' hS => ?_⟩) hS0 ?_
  · clear hS hS0
    go_simp
  simp only [Act.put, List.setIfInBounds_toArray, List.set_cons_zero, List.set_cons_succ]
  refine takeH (i := 1) (o := _) (d := some 120) (v := .agg #[.bool g1, .slice pa n pc, .int .i64 E]) rfl rfl (by kernel_rfl) (by kernel_rfl) (by kernel_rfl) (fun _ _ _ h => h) (Or.inl ⟨by rfl, fun w' hS => ?_⟩) hS0 ?_
  · have q0 := hS.a10.cell 0
    have q1 := hS.a10.cell 1
    have q2 := hS.a10.cell 2
    clear hS hS0
    go_simp
  simp only [Act.put, List.setIfInBounds_toArray, List.set_cons_zero, List.set_cons_succ]
  refine takeH (i := 2) (o := _) (d := some 121) (v := .int .i64 0) rfl rfl (by kernel_rfl) (by kernel_rfl) (by kernel_rfl) (fun _ _ _ h => h) (Or.inl ⟨by rfl, fun w' hS => ?_⟩) hS0 ?_
  · clear hS hS0
    go_simp
  simp only [Act.put, List.setIfInBounds_toArray, List.set_cons_zero, List.set_cons_succ]
  refine takeH (i := 3) (o := _) (d := some 122) (v := .agg #[.bool ng, .slice va n vc, .int .i64 E]) rfl rfl (by kernel_rfl) (by kernel_rfl) (by kernel_rfl) (fun _ _ _ h => h) (Or.inl ⟨by rfl, fun w' hS => ?_⟩) hS0 ?_
  · have q0 := hS.a4.cell 0
    have q1 := hS.a4.cell 1
    have q2 := hS.a4.cell 2
    clear hS hS0
    go_simp
  simp only [Act.put, List.setIfInBounds_toArray, List.set_cons_zero, List.set_cons_succ]
  refine wpAnyH_all (rs := [4]) (by kernel_rfl) (by simp) ?_
  intro j hj
  obtain rfl := List.mem_singleton.1 hj
  clear hj
  refine opGoW (o := _) rfl (by rfl) ?_
  go_simp
  refine (RNEG.out _).mono ?_
  rintro e wb ⟨rfl, fb⟩
  have hSb := hS0.keep fb
  have KB1 := Lib.hid (K0.out.keep fb)
  clear fb hS0
  refine ⟨hSb, ?_⟩
  refine wpAnyH_all (rs := [5]) (by kernel_rfl) (by simp) ?_
  intro j hj
  obtain rfl := List.mem_singleton.1 hj
  clear hj
  refine opGoW (o := _) rfl (by rfl) ?_
  go_simp
  refine (is_ok kb 0 n 0 w4.heap.size (.slice pa n pc) (.slice va n vc) g1 xs E w0 wb (by omega) HP.out.valid.1 KB1.out hSb.rp (Or.inl H.out) hSb.fr (Nat.zero_le _) (fun q _ => Nat.zero_le _) (fun q hq => PQ.out q hq) PT.out).mono ?_
  rintro e wc ⟨rfl, kc, fc, sc⟩
  have hSc := hSb.over KB1.out sc fc
  have KC := Lib.hid kc
  clear kc fc sc hSb
  refine ⟨hSc, ?_⟩
  refine takeH (i := 6) (o := _) (d := some 125) (v := .bool true) rfl rfl (by kernel_rfl) (by kernel_rfl) (by kernel_rfl) (fun _ _ _ h => h) (Or.inl ⟨by rfl, fun w' hS => ?_⟩) hSc ?_
  · clear hS hSc
    go_simp
  simp only [Act.put, List.setIfInBounds_toArray, List.set_cons_zero, List.set_cons_succ]
  refine takeH (i := 7) (o := _) (d := some 126) (v := .pointer (some ⟨kb, 0, none⟩)) rfl rfl (by kernel_rfl) (by kernel_rfl) (by kernel_rfl) (fun _ _ _ h => h) (Or.inl ⟨by rfl, fun w' hS => ?_⟩) hSc ?_
  · clear hS hSc
    go_simp
  simp only [Act.put, List.setIfInBounds_toArray, List.set_cons_zero, List.set_cons_succ]
  refine takeH (i := 8) (o := _) (d := some 127) (v := .agg #[.bool false, .slice qa n qc, .int .i64 E]) rfl rfl (by kernel_rfl) (by kernel_rfl) (by kernel_rfl) (fun _ _ _ h => h) (Or.inl ⟨by rfl, fun w' hS => ?_⟩) hSc ?_
  · have q0 := hS.a12.cell 0
    have q1 := hS.a12.cell 1
    have q2 := hS.a12.cell 2
    clear hS hSc
    go_simp
  simp only [Act.put, List.setIfInBounds_toArray, List.set_cons_zero, List.set_cons_succ]
  refine takeH (i := 9) (o := _) (d := some 128) (v := .int .i64 0) rfl rfl (by kernel_rfl) (by kernel_rfl) (by kernel_rfl) (fun _ _ _ h => h) (Or.inl ⟨by rfl, fun w' hS => ?_⟩) hSc ?_
  · clear hS hSc
    go_simp
  simp only [Act.put, List.setIfInBounds_toArray, List.set_cons_zero, List.set_cons_succ]
  refine takeH (i := 10) (o := _) (d := some 129) (v := .agg #[.bool false, .slice va n vc, .int .i64 E]) rfl rfl (by kernel_rfl) (by kernel_rfl) (by kernel_rfl) (fun _ _ _ h => h) (Or.inl ⟨by rfl, fun w' hS => ?_⟩) hSc ?_
  · have q0 := hS.a20.cell 0
    have q1 := hS.a20.cell 1
    have q2 := hS.a20.cell 2
    clear hS hSc
    go_simp
  simp only [Act.put, List.setIfInBounds_toArray, List.set_cons_zero, List.set_cons_succ]
  refine wpAnyH_all (rs := [11]) (by kernel_rfl) (by simp) ?_
  intro j hj
  obtain rfl := List.mem_singleton.1 hj
  clear hj
  refine opGoW (o := _) rfl (by rfl) ?_
  go_simp
  refine (is_ok kb 1 n w4.heap.size w6.heap.size (.slice qa n qc) (.slice va n vc) false xs E w0 _ (by omega) HP.out.valid.1 KC.out hSc.rq (Or.inl H.out) hSc.fr QL.out (fun q hq => (QQ.out q hq).1) (fun q hq => (QQ.out q hq).2) QT.out).mono ?_
  rintro e wd ⟨rfl, kd, fd, sd⟩
  have hSd := hSc.over KC.out sd fd
  have KD := Lib.hid kd
  clear kd fd sd hSc
  refine ⟨hSd, ?_⟩
  refine takeH (i := 12) (o := _) (d := some 131) (v := .bool true) rfl rfl (by kernel_rfl) (by kernel_rfl) (by kernel_rfl) (fun _ _ _ h => h) (Or.inl ⟨by rfl, fun w' hS => ?_⟩) hSd ?_
  · clear hS hSd
    go_simp
  simp only [Act.put, List.setIfInBounds_toArray, List.set_cons_zero, List.set_cons_succ]
  refine takeH (i := 13) (o := _) (d := some 132) (v := .bool true) rfl rfl (by kernel_rfl) (by kernel_rfl) (by kernel_rfl) (fun _ _ _ h => h) (Or.inl ⟨by rfl, fun w' hS => ?_⟩) hSd ?_
  · clear hS hSd
    go_simp
  simp only [Act.put, List.setIfInBounds_toArray, List.set_cons_zero, List.set_cons_succ]
  refine takeH (i := 14) (o := _) (d := some 133) (v := .int .i64 0) rfl rfl (by kernel_rfl) (by kernel_rfl) (by kernel_rfl) (fun _ _ _ h => h) (Or.inl ⟨by rfl, fun w' hS => ?_⟩) hSd ?_
  · clear hS hSd
    go_simp
  simp only [Act.put, List.setIfInBounds_toArray, List.set_cons_zero, List.set_cons_succ]
  refine takeH (i := 15) (o := _) (d := some 134) (v := .bool true) rfl rfl (by kernel_rfl) (by kernel_rfl) (by kernel_rfl) (fun _ _ _ h => h) (Or.inl ⟨by rfl, fun w' hS => ?_⟩) hSd ?_
  · clear hS hSd
    go_simp
  simp only [Act.put, List.setIfInBounds_toArray, List.set_cons_zero, List.set_cons_succ]
  refine takeH (i := 16) (o := _) (d := some 135) (v := .bool true) rfl rfl (by kernel_rfl) (by kernel_rfl) (by kernel_rfl) (fun _ _ _ h => h) (Or.inl ⟨by rfl, fun w' hS => ?_⟩) hSd ?_
  · clear hS hSd
    go_simp
  simp only [Act.put, List.setIfInBounds_toArray, List.set_cons_zero, List.set_cons_succ]
  refine takeH (i := 17) (o := _) (d := some 136) (v := .bool true) rfl rfl (by kernel_rfl) (by kernel_rfl) (by kernel_rfl) (fun _ _ _ h => h) (Or.inl ⟨by rfl, fun w' hS => ?_⟩) hSd ?_
  · clear hS hSd
    go_simp
  simp only [Act.put, List.setIfInBounds_toArray, List.set_cons_zero, List.set_cons_succ]
  refine takeH (i := 18) (o := _) (d := some 137) (v := .int .i64 s) rfl rfl (by kernel_rfl) (by kernel_rfl) (by kernel_rfl) (fun _ _ _ h => h) (Or.inl ⟨by rfl, fun w' hS => ?_⟩) hSd ?_
  · clear hS hSd
    go_simp
  simp only [Act.put, List.setIfInBounds_toArray, List.set_cons_zero, List.set_cons_succ]
  refine takeH (i := 19) (o := _) (d := some 138) (v := .agg #[.bool ng, .slice va n vc, .int .i64 E]) rfl rfl (by kernel_rfl) (by kernel_rfl) (by kernel_rfl) (fun _ _ _ h => h) (Or.inl ⟨by rfl, fun w' hS => ?_⟩) hSd ?_
  · have q0 := hS.a4.cell 0
    have q1 := hS.a4.cell 1
    have q2 := hS.a4.cell 2
    clear hS hSd
    go_simp
  simp only [Act.put, List.setIfInBounds_toArray, List.set_cons_zero, List.set_cons_succ]
  refine wpAnyH_all (rs := [20]) (by kernel_rfl) (by simp) ?_
  intro j hj
  obtain rfl := List.mem_singleton.1 hj
  clear hj
  refine opGoW (o := _) rfl (by rfl) ?_
  go_simp
  refine (RSG.out _).mono ?_
  rintro e we ⟨rfl, fe⟩
  have hSe := hSd.keep fe
  have KE := Lib.hid (KD.out.keep fe)
  clear fe hSd
  refine ⟨hSe, ?_⟩
  refine takeH (i := 21) (o := _) (d := some 140) (v := .bool true) rfl rfl (by kernel_rfl) (by kernel_rfl) (by kernel_rfl) (fun _ _ _ h => h) (Or.inl ⟨by rfl, fun w' hS => ?_⟩) hSe ?_
  · clear hS hSe
    go_simp
  simp only [Act.put, List.setIfInBounds_toArray, List.set_cons_zero, List.set_cons_succ]
  refine takeH (i := 22) (o := _) (d := some 141) (v := .bool true) rfl rfl (by kernel_rfl) (by kernel_rfl) (by kernel_rfl) (fun _ _ _ h => h) (Or.inl ⟨by rfl, fun w' hS => ?_⟩) hSe ?_
  · clear hS hSe
    go_simp
  simp only [Act.put, List.setIfInBounds_toArray, List.set_cons_zero, List.set_cons_succ]
  refine takeH (i := 23) (o := _) (d := some 142) (v := .bool true) rfl rfl (by kernel_rfl) (by kernel_rfl) (by kernel_rfl) (fun _ _ _ h => h) (Or.inl ⟨by rfl, fun w' hS => ?_⟩) hSe ?_
  · clear hS hSe
    go_simp
  simp only [Act.put, List.setIfInBounds_toArray, List.set_cons_zero, List.set_cons_succ]
  refine takeH (i := 24) (o := _) (d := some 143) (v := .int .i64 fv) rfl rfl (by kernel_rfl) (by kernel_rfl) (by kernel_rfl) (fun _ _ _ h => h) (Or.inl ⟨by rfl, fun w' hS => ?_⟩) hSe ?_
  · clear hS hSe
    go_simp
  simp only [Act.put, List.setIfInBounds_toArray, List.set_cons_zero, List.set_cons_succ]
  refine takeH (i := 25) (o := _) (d := some 144) (v := .int .i64 fv) rfl rfl (by kernel_rfl) (by kernel_rfl) (by kernel_rfl) (fun _ _ _ h => h) (Or.inl ⟨by rfl, fun w' hS => ?_⟩) hSe ?_
  · clear hS hSe
    go_simp
  simp only [Act.put, List.setIfInBounds_toArray, List.set_cons_zero, List.set_cons_succ]
  refine takeH (i := 26) (o := _) (d := some 145) (v := .bool true) rfl rfl (by kernel_rfl) (by kernel_rfl) (by kernel_rfl) (fun _ _ _ h => h) (Or.inl ⟨by rfl, fun w' hS => ?_⟩) hSe ?_
  · clear hS hSe
    go_simp
  simp only [Act.put, List.setIfInBounds_toArray, List.set_cons_zero, List.set_cons_succ]
  refine takeH (i := 27) (o := _) (d := some 146) (v := .bool true) rfl rfl (by kernel_rfl) (by kernel_rfl) (by kernel_rfl) (fun _ _ _ h => h) (Or.inl ⟨by rfl, fun w' hS => ?_⟩) hSe ?_
  · clear hS hSe
    go_simp
  simp only [Act.put, List.setIfInBounds_toArray, List.set_cons_zero, List.set_cons_succ]
  refine takeH (i := 28) (o := _) (d := some 147) (v := .bool true) rfl rfl (by kernel_rfl) (by kernel_rfl) (by kernel_rfl) (fun _ _ _ h => h) (Or.inl ⟨by rfl, fun w' hS => ?_⟩) hSe ?_
  · clear hS hSe
    go_simp
  simp only [Act.put, List.setIfInBounds_toArray, List.set_cons_zero, List.set_cons_succ]
  refine takeH (i := 29) (o := _) (d := some 148) (v := .bool fo) rfl rfl (by kernel_rfl) (by kernel_rfl) (by kernel_rfl) (fun _ _ _ h => h) (Or.inl ⟨by rfl, fun w' hS => ?_⟩) hSe ?_
  · clear hS hSe
    go_simp
  simp only [Act.put, List.setIfInBounds_toArray, List.set_cons_zero, List.set_cons_succ]
  refine takeH (i := 30) (o := _) (d := some 149) (v := .bool fo) rfl rfl (by kernel_rfl) (by kernel_rfl) (by kernel_rfl) (fun _ _ _ h => h) (Or.inl ⟨by rfl, fun w' hS => ?_⟩) hSe ?_
  · clear hS hSe
    go_simp
  simp only [Act.put, List.setIfInBounds_toArray, List.set_cons_zero, List.set_cons_succ]
  refine takeH (i := 31) (o := _) (d := some 150) (v := .bool true) rfl rfl (by kernel_rfl) (by kernel_rfl) (by kernel_rfl) (fun _ _ _ h => h) (Or.inl ⟨by rfl, fun w' hS => ?_⟩) hSe ?_
  · clear hS hSe
    go_simp
  simp only [Act.put, List.setIfInBounds_toArray, List.set_cons_zero, List.set_cons_succ]
  refine takeH (i := 32) (o := _) (d := some 151) (v := .bool true) rfl rfl (by kernel_rfl) (by kernel_rfl) (by kernel_rfl) (fun _ _ _ h => h) (Or.inl ⟨by rfl, fun w' hS => ?_⟩) hSe ?_
  · clear hS hSe
    go_simp
  simp only [Act.put, List.setIfInBounds_toArray, List.set_cons_zero, List.set_cons_succ]
  refine takeH (i := 33) (o := _) (d := some 152) (v := .bool true) rfl rfl (by kernel_rfl) (by kernel_rfl) (by kernel_rfl) (fun _ _ _ h => h) (Or.inl ⟨by rfl, fun w' hS => ?_⟩) hSe ?_
  · clear hS hSe
    go_simp
  simp only [Act.put, List.setIfInBounds_toArray, List.set_cons_zero, List.set_cons_succ]
  refine takeH (i := 34) (o := _) (d := some 153) (v := .int .i64 er) rfl rfl (by kernel_rfl) (by kernel_rfl) (by kernel_rfl) (fun _ _ _ h => h) (Or.inl ⟨by rfl, fun w' hS => ?_⟩) hSe ?_
  · clear hS hSe
    go_simp
  simp only [Act.put, List.setIfInBounds_toArray, List.set_cons_zero, List.set_cons_succ]
  refine takeH (i := 35) (o := _) (d := some 154) (v := .int .i64 er) rfl rfl (by kernel_rfl) (by kernel_rfl) (by kernel_rfl) (fun _ _ _ h => h) (Or.inl ⟨by rfl, fun w' hS => ?_⟩) hSe ?_
  · clear hS hSe
    go_simp
  simp only [Act.put, List.setIfInBounds_toArray, List.set_cons_zero, List.set_cons_succ]
  refine takeH (i := 36) (o := _) (d := some 155) (v := .bool true) rfl rfl (by kernel_rfl) (by kernel_rfl) (by kernel_rfl) (fun _ _ _ h => h) (Or.inl ⟨by rfl, fun w' hS => ?_⟩) hSe ?_
  · clear hS hSe
    go_simp
  simp only [Act.put, List.setIfInBounds_toArray, List.set_cons_zero, List.set_cons_succ]
  refine takeH (i := 37) (o := _) (d := some 156) (v := .bool true) rfl rfl (by kernel_rfl) (by kernel_rfl) (by kernel_rfl) (fun _ _ _ h => h) (Or.inl ⟨by rfl, fun w' hS => ?_⟩) hSe ?_
  · clear hS hSe
    go_simp
  simp only [Act.put, List.setIfInBounds_toArray, List.set_cons_zero, List.set_cons_succ]
  refine takeH (i := 38) (o := _) (d := some 157) (v := .bool true) rfl rfl (by kernel_rfl) (by kernel_rfl) (by kernel_rfl) (fun _ _ _ h => h) (Or.inl ⟨by rfl, fun w' hS => ?_⟩) hSe ?_
  · clear hS hSe
    go_simp
  simp only [Act.put, List.setIfInBounds_toArray, List.set_cons_zero, List.set_cons_succ]
  refine takeH (i := 39) (o := _) (d := some 158) (v := .agg #[.bool g, .slice ra m rc, .int .i64 F]) rfl rfl (by kernel_rfl) (by kernel_rfl) (by kernel_rfl) (fun _ _ _ h => h) (Or.inl ⟨by rfl, fun w' hS => ?_⟩) hSe ?_
  · have q0 := hS.a18.cell 0
    have q1 := hS.a18.cell 1
    have q2 := hS.a18.cell 2
    clear hS hSe
    go_simp
  simp only [Act.put, List.setIfInBounds_toArray, List.set_cons_zero, List.set_cons_succ]
  refine takeH (i := 40) (o := _) (d := some 159) (v := .agg #[.bool g, .slice ua m uc, .int .i64 F]) rfl rfl (by kernel_rfl) (by kernel_rfl) (by kernel_rfl) (fun _ _ _ h => h) (Or.inl ⟨by rfl, fun w' hS => ?_⟩) hSe ?_
  · have q0 := hS.a21.cell 0
    have q1 := hS.a21.cell 1
    have q2 := hS.a21.cell 2
    clear hS hSe
    go_simp
  simp only [Act.put, List.setIfInBounds_toArray, List.set_cons_zero, List.set_cons_succ]
  refine wpAnyH_all (rs := [41]) (by kernel_rfl) (by simp) ?_
  intro j hj
  obtain rfl := List.mem_singleton.1 hj
  clear hj
  refine opGoW (o := _) rfl (by rfl) ?_
  go_simp
  refine (same_agg (.slice ra m rc) (.slice ua m uc) g m X F _ (by have := HM.out; omega) hSe.rr.inV (HU.out.keep hSe.fr)).mono ?_
  rintro e wf ⟨rfl, ff⟩
  have hSf := hSe.keep ff
  have KF := Lib.hid (KE.out.keep ff)
  clear ff hSe
  refine ⟨hSf, ?_⟩
  refine takeH (i := 42) (o := _) (d := some 161) (v := .bool true) rfl rfl (by kernel_rfl) (by kernel_rfl) (by kernel_rfl) (fun _ _ _ h => h) (Or.inl ⟨by rfl, fun w' hS => ?_⟩) hSf ?_
  · clear hS hSf
    go_simp
  simp only [Act.put, List.setIfInBounds_toArray, List.set_cons_zero, List.set_cons_succ]
  refine takeH (i := 43) (o := _) (d := some 162) (v := .bool true) rfl rfl (by kernel_rfl) (by kernel_rfl) (by kernel_rfl) (fun _ _ _ h => h) (Or.inl ⟨by rfl, fun w' hS => ?_⟩) hSf ?_
  · clear hS hSf
    go_simp
  simp only [Act.put, List.setIfInBounds_toArray, List.set_cons_zero, List.set_cons_succ]
  refine takeH (i := 44) (o := _) (d := some 163) (v := .pointer (some ⟨kb, 0, none⟩)) rfl rfl (by kernel_rfl) (by kernel_rfl) (by kernel_rfl) (fun _ _ _ h => h) (Or.inl ⟨by rfl, fun w' hS => ?_⟩) hSf ?_
  · clear hS hSf
    go_simp
  simp only [Act.put, List.setIfInBounds_toArray, List.set_cons_zero, List.set_cons_succ]
  refine takeH (i := 45) (o := _) (d := some 164) (v := .pointer (some ⟨b18, 1, none⟩)) rfl rfl (by kernel_rfl) (by kernel_rfl) (by kernel_rfl) (fun _ _ _ h => h) (Or.inl ⟨by rfl, fun w' hS => ?_⟩) hSf ?_
  · clear hS hSf
    go_simp
  simp only [Act.put, List.setIfInBounds_toArray, List.set_cons_zero, List.set_cons_succ]
  refine takeH (i := 46) (o := _) (d := some 165) (v := .slice ra m rc) rfl rfl (by kernel_rfl) (by kernel_rfl) (by kernel_rfl) (fun _ _ _ h => h) (Or.inl ⟨by rfl, fun w' hS => ?_⟩) hSf ?_
  · have q0 := hS.a18.cell 0
    have q1 := hS.a18.cell 1
    have q2 := hS.a18.cell 2
    clear hS hSf
    go_simp
  simp only [Act.put, List.setIfInBounds_toArray, List.set_cons_zero, List.set_cons_succ]
  refine takeH (i := 47) (o := _) (d := some 166) (v := .pointer (some ⟨b21, 1, none⟩)) rfl rfl (by kernel_rfl) (by kernel_rfl) (by kernel_rfl) (fun _ _ _ h => h) (Or.inl ⟨by rfl, fun w' hS => ?_⟩) hSf ?_
  · clear hS hSf
    go_simp
  simp only [Act.put, List.setIfInBounds_toArray, List.set_cons_zero, List.set_cons_succ]
  refine takeH (i := 48) (o := _) (d := some 167) (v := .slice ua m uc) rfl rfl (by kernel_rfl) (by kernel_rfl) (by kernel_rfl) (fun _ _ _ h => h) (Or.inl ⟨by rfl, fun w' hS => ?_⟩) hSf ?_
  · have q0 := hS.a21.cell 0
    have q1 := hS.a21.cell 1
    have q2 := hS.a21.cell 2
    clear hS hSf
    go_simp
  simp only [Act.put, List.setIfInBounds_toArray, List.set_cons_zero, List.set_cons_succ]
  refine wpAnyH_all (rs := [49]) (by kernel_rfl) (by simp) ?_
  intro j hj
  obtain rfl := List.mem_singleton.1 hj
  clear hj
  refine opGoW (o := _) rfl (by rfl) ?_
  go_simp
  refine (keepAdd_ok kb 2 m w6.heap.size w10.heap.size (.slice ra m rc) (.slice ua m uc) X w0 _ (by omega) HM.out KF.out hSf.rr (Or.inl HU.out) hSf.fr RL.out (fun q hq => (RQ.out q hq).1) (fun q hq => (RQ.out q hq).2)).mono ?_
  rintro e wg ⟨rfl, kg, fg, sg⟩
  have hSg := hSf.over KF.out sg fg
  have KG := Lib.hid kg
  clear kg fg sg hSf
  refine ⟨hSg, ?_⟩
  refine takeH (i := 50) (o := _) (d := some 169) (v := .bool true) rfl rfl (by kernel_rfl) (by kernel_rfl) (by kernel_rfl) (fun _ _ _ h => h) (Or.inl ⟨by rfl, fun w' hS => ?_⟩) hSg ?_
  · clear hS hSg
    go_simp
  simp only [Act.put, List.setIfInBounds_toArray, List.set_cons_zero, List.set_cons_succ]
  refine takeH (i := 51) (o := _) (d := some 6) (v := .bool true) rfl rfl (by kernel_rfl) (by kernel_rfl) (by kernel_rfl) (fun _ _ _ h => h) (Or.inl ⟨by rfl, fun w' hS => ?_⟩) hSg ?_
  · clear hS hSg
    go_simp
  simp only [Act.put, List.setIfInBounds_toArray, List.set_cons_zero, List.set_cons_succ]
  have FG := Lib.hid hSg.fr
  clear hSg
  refine wpAnyH_done (by kernel_rfl) ?_ _
  go_wp2_with fail
  go_ret
  exact ⟨rfl, ⟨3, _, by omega, KG.out⟩, FG.out⟩
end Go.Proofs.YtgmebioogkmfgaaGreatDoor

namespace Go.Proofs.YtgmebioogkmfgaaGreatDoor
open Go.RowKit Go.Pt Go.Mem

set_option maxRecDepth 100000 in
set_option maxHeartbeats 8000000 in
theorem onesLaw_ok (ng : Bool) (v : Value) (n : Nat) (xs : Nat → Int) (E ks : Int) (w : World) (h : IntsV w v n xs) (hT : Tab w) :
    Calls Tryz.prog 3 #[.agg #[.bool ng, v, .int .i64 E], .int .i64 ks] w fun en w' => en = .returned (.bool true) ∧ Fr w w' None := by
  have H := Lib.hid h
  have HT := Lib.hid hT
  obtain ⟨va, vc, rfl, _⟩ := h
  obtain ⟨ta, fa⟩ := box_at w (.bool ng) (.slice va n vc) (.int .i64 E) 24
  have fb := (Fr.refl (w.alloc (.cells #[.bool ng, .slice va n vc, .int .i64 E] 24)) None).alloc (.cells #[.slice none 0 0, .slice none 0 0] 28)
  have f0 := fa.trans fb (fun _ h => h) (fun _ _ h => h)
  have k0 := At.alloc (w.alloc (.cells #[.bool ng, .slice va n vc, .int .i64 E] 24)) #[.slice none 0 0, .slice none 0 0] 28
  rw [show (w.alloc (.cells #[.bool ng, .slice va n vc, .int .i64 E] 24)).heap.size = w.heap.size + 1 by simp] at k0
  have HAL := Lib.hid (alive_ok _ (hT.keep f0))
  have F0 := Lib.hid f0
  have K0 := Lib.hid k0
  have A0 := Lib.hid (ta.keep fb (fun x => x))
  clear ta fa fb f0 k0 hT
  by_cases c : n ≤ 2100
  · have c' : ¬ ((2100 : Int) < (n : Int)) := by omega
    have C := Lib.hid c
    clear c
    go_enter Tryz.func3, Tryz.ntmps3
    go_wp2_with fail
    generalize (w.alloc (.cells #[.bool ng, .slice va n vc, .int .i64 E] 24)).alloc (.cells #[.slice none 0 0, .slice none 0 0] 28) = w0 at HAL F0 K0 A0 ⊢
    refine (HAL.out).mono ?_
    rintro en w1 ⟨rfl, f1⟩
    have F1 := Lib.hid (F0.out.trans f1 (fun _ h => h) (fun _ _ h => h))
    have a1 := A0.out.keep f1 (fun x => x)
    have c0 := a1.cell 0
    have c1 := a1.cell 1
    have c2 := a1.cell 2
    have HM : Hid (Calls Tryz.prog 5 #[.pointer (some ⟨w.heap.size + 1, 0, none⟩), .agg #[.bool ng, .slice va n vc, .int .i64 E], .int .i64 ks] w1 (OnesOk (w.heap.size + 1) w)) := by
      by_cases hP : ValidP ng n xs E
      · exact Lib.hid (ones_good (w.heap.size + 1) ng (.slice va n vc) n xs E ks w w1 C.out H.out F1.out (by omega) (K0.out.keep f1 (fun x => x)) HT.out hP)
      · exact Lib.hid (ones_bad (w.heap.size + 1) ng (.slice va n vc) n xs E ks w w1 C.out H.out F1.out (by omega) (K0.out.keep f1 (fun x => x)) HT.out hP)
    clear f1 a1
    go_wp2_with fail
    refine (HM.out).mono ?_
    rintro en w2 ⟨rfl, ⟨m, top, hm, hk⟩, f2⟩
    have HA := Lib.hid (apart_ok (w.heap.size + 1) m top w w2 (by omega) hk f2)
    clear hk f2 c0 c1 c2
    go_wp2_with fail
    refine (HA.out).mono ?_
    rintro en w3 ⟨rfl, f3⟩
    have F3 := Lib.hid f3
    clear f3
    go_wp2_with fail
    go_ret
    exact ⟨rfl, F3.out⟩
  · have c' : (2100 : Int) < (n : Int) := by omega
    go_enter Tryz.func3, Tryz.ntmps3
    go_wp2_with fail
    generalize (w.alloc (.cells #[.bool ng, .slice va n vc, .int .i64 E] 24)).alloc (.cells #[.slice none 0 0, .slice none 0 0] 28) = w0 at HAL F0 K0 A0 ⊢
    refine (HAL.out).mono ?_
    rintro en w1 ⟨rfl, f1⟩
    have F1 := Lib.hid (F0.out.trans f1 (fun _ h => h) (fun _ _ h => h))
    have a1 := A0.out.keep f1 (fun x => x)
    have c0 := a1.cell 0
    have c1 := a1.cell 1
    have c2 := a1.cell 2
    have HA := Lib.hid (apart_ok (w.heap.size + 1) 0 0 w w1 (by omega) (KeepV.new (by omega) (K0.out.keep f1 (fun x => x)) 0) F1.out)
    clear f1 a1
    go_wp2_with fail
    refine (HA.out).mono ?_
    rintro en w3 ⟨rfl, f3⟩
    have F3 := Lib.hid f3
    clear f3
    go_wp2_with fail
    go_ret
    exact ⟨rfl, F3.out⟩

theorem cellsBo : Tryz.prog.cellsOf 4 = 1 := by kernel_rfl
theorem cellsS : Tryz.prog.cellsOf 22 = 1 := by kernel_rfl
theorem cellsNum : Tryz.prog.cellsOf 24 = 3 := by kernel_rfl
end Go.Proofs.YtgmebioogkmfgaaGreatDoor
namespace Go.Proofs.YtgmebioogkmfgaaGreatDoor
open Go.ChangeShapes Go.WideShapes Go.ChangeAt Go.RowKit Go.Pt Go.Mem Go.Deep

section
variable {H : Type} {enc : TypeId × Value → H}

set_option maxRecDepth 100000 in
theorem num_of {W : World} {v : Value} {d : DataW H} {ps : List MemPlace} {base : Nat} (hv : Value.okWide Tryz.prog W .any base 24 v) (h : DataW.Trod enc Tryz.prog W 0 (fun _ => true) true 24 v d ps) :
    ∃ neg a n cap e xs, v = .agg #[.bool neg, .slice a n cap, .int .i64 e] ∧ IntsV W (.slice a n cap) n xs := by
  obtain ⟨cs, rfl, hsz⟩ := okWide_struct Tryz.underlying24 hv
  rw [cellsNum] at hsz
  obtain ⟨fuel, hf⟩ := h
  have hf' : DataW.trod enc Tryz.prog W 0 (fun _ => true) true fuel 24 cs.toList = some (d, ps) := by simpa [Value.cells] using hf
  have hl : cs.toList.length = 3 := by simpa using hsz
  obtain ⟨ys, m, _, _, _, hyl, hg⟩ := DataW.trod_struct Tryz.underlying24 hf'
  match hcs : cs.toList, hl with
  | [c0, c1, c2], _ =>
    match ys, hyl with
    | [y0, y1, y2], _ =>
      have f0 := hg 0 _ rfl
      have f1 := hg 1 _ rfl
      have f2 := hg 2 _ rfl
      simp [cellsOfI, cellsBo, cellsS, hcs] at f0 f1 f2
      obtain ⟨g, e0, _⟩ := DataW.trod_bool Tryz.underlying4 f0
      obtain ⟨k, e2, _, w2⟩ := DataW.trod_int Tryz.underlying3 f2
      simp at e0 e2
      subst e0 e2
      have e1 : ∃ a n cap, c1 = .slice a n cap := by
        rcases open_slice Tryz.underlying22 f1 with ⟨hc, _⟩ | ⟨p, l, c, _, _, _, _, hc, _⟩
        · simp at hc; exact ⟨_, _, _, hc⟩
        · simp at hc; exact ⟨_, _, _, hc⟩
      obtain ⟨a, n, cap, rfl⟩ := e1
      refine ⟨g, a, n, cap, k, _, ?_, intsV_of f1⟩
      congr 1
      exact Array.toList_inj.1 hcs
end
end Go.Proofs.YtgmebioogkmfgaaGreatDoor
