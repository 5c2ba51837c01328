/- made of the statements. Condition: it stands in each fact. -/
import Derived.Test.YtgmebioogkmfgaaDoorQT6
import Derived.Deep.RegionHeld3
namespace Go.Proofs.YtgmebioogkmfgaaDoor
open Go.RowKit Go.Pt Go.Mem

theorem At.other {w w' : World} {b c t t' : Nat} {cs cs' : Array Value} (h : At w b cs t) (k : At w c cs' t') (ht : t ≠ t') (f : Fr w w' (One c)) : At w' b cs t :=
  h.keep f (fun e => by
    unfold Mem.One at e
    subst e
    have := h.symm.trans k
    injection this with this
    injection this with _ h6
    exact ht h6)

/-- The two variables that the last line of made reads. -/
def TwoAt (b c : Nat) (y z : Array Value) (w : World) : Prop := At w b y 31 ∧ At w c z 31
theorem TwoAt.keep {b c : Nat} {y z : Array Value} {w w' : World} (h : TwoAt b c y z w) (f : Fr w w' None) : TwoAt b c y z w' := ⟨h.1.keep f (fun x => x), h.2.keep f (fun x => x)⟩
theorem num_over {w w' : World} {b kb m base top : Nat} {cs : Array Value} (h : At w b cs 31) (k : KeepV w kb m base top) (f : Fr w w' (KeepS w kb)) : At w' b cs 31 := by
  obtain ⟨_, vL, vW, _, _, _, _, kat, _⟩ := k
  refine h.keep f ?_
  rintro (rfl | ⟨cs, hc⟩)
  · have := h.symm.trans kat
    injection this with this
    injection this with _ h6
    revert h6
    decide
  · have := h.symm.trans hc
    injection this with this
    injection this with _ h6
    revert h6
    decide
theorem TwoAt.over {b c kb m base top : Nat} {y z : Array Value} {w w' : World} (h : TwoAt b c y z w) (k : KeepV w kb m base top) (f : Fr w w' (KeepS w kb)) : TwoAt b c y z w' := ⟨num_over h.1 k f, num_over h.2 k f⟩
theorem takeH {P : Program} {md : Region.Mode} {ops : Array Oper} {Q : Exit → Act → World → Prop} {S : World → Prop} {i : Nat} {o : Oper} {d : Option Tmp} {v : Value} {fuel : Nat} {listed : Array Bool} {a : Act} {w : World} (hi : ops[i]? = some o) (hd : o.dst = d)
    (hs : Region.noSelect ops = true) (hf : Region.free md ops listed i = true) (hr : (Region.ready md ops listed).contains i = true) (hQ : ∀ c a w, Q (.panic c) (a.put o.dst v) w → Q (.panic c) a w) (hy : YieldsIf P ops S o v a) (hS : S w)
    (h : wpAnyH P md ops Q S fuel (listed.setIfInBounds i true) (a.put d v) w) : wpAnyH P md ops Q S (fuel + 1) listed a w := by
  subst hd
  exact wpAnyH_take hi hs hf hr hQ hy hS h
theorem opGoW {P : Program} {ops : Array Oper} {Q : Exit → Act → World → Prop} {i : Nat} {o : Oper} {K : Act → World → Prop} {a : Act} {w : World} (ho : ops[i]? = some o) (hg : Region.wanted o (yielded ops a.tmps) = true) (h : o.wp P a w K Q) : wpOp P ops Q i K a w := by
  unfold wpOp
  simp only [ho]
  rw [if_pos hg]
  exact Or.inl h

/-- What made gives. -/
def MadeOk (kb : Nat) (w0 : World) (en : Ending) (w' : World) : Prop := en = .returned (.bool true) ∧ (∃ m top, m ≤ 3 ∧ KeepV w' kb m w0.heap.size top) ∧ Fr w0 w' None

set_option maxRecDepth 100000 in
set_option maxHeartbeats 16000000 in
theorem made_ok (kb : Nat) (neg : Bool) (v : Value) (n : Nat) (x : Nat → Int) (e b : Int) (w0 w : World) (hn : n ≤ 2100) (hb : I64 b) (h : IntsV w0 v n x) (hf : Fr w0 w None) (hkb : w0.heap.size ≤ kb) (hk : At w kb #[.slice none 0 0, .slice none 0 0] 26) (hT : Tab w0) :
    Calls Tryd.prog 5 #[.pointer (some ⟨kb, 0, none⟩), .bool neg, v, .int .i64 e, .int .i64 b] w (MadeOk kb w0) := by
  have HB := Lib.hid hb
  have H := Lib.hid h
  have HT := Lib.hid hT
  have hlent := lent_ok v n x w (by omega) (h.keep hf).inV
  have HL := Lib.hid hlent
  have HF := Lib.hid hf
  have HK := Lib.hid hk
  have HN := Lib.hid hn
  have HKB := Lib.hid hkb
  have hcap : ∃ a c, v = .slice a n c ∧ n ≤ c := by obtain ⟨a, c, rfl, hc, _⟩ := h; exact ⟨_, _, rfl, hc⟩
  obtain ⟨va, vc, rfl, hvc⟩ := hcap
  have n9 : (n : Int) ≤ 2100 := by omega
  clear h hf hk hb hT hlent hkb hn
  go_enter Tryd.func5, Tryd.ntmps5
  go_wp2_with fail
  refine (HL.out).mono ?_
  rintro en w1 ⟨cb, cc, rfl, hc, hcc, hcb, f1⟩
  have i1 : (n : Int) ≤ (n : Int) + 3 := by omega
  have i2 : (n : Int) ≤ (cc : Int) := by omega
  have F1 := Lib.hid (HF.out.trans f1 (fun _ h => h) (fun _ _ h => h))
  have HC := Lib.hid (And.intro hc (And.intro hcc (Nat.le_trans HF.out.size hcb)))
  have hints : IntsV w1 (.slice (some ⟨cb, 0, none⟩) n cc) n x := by
    obtain ⟨cs, k1, k2, k3, k4, k5⟩ := hc.at
    exact ⟨_, _, rfl, by omega, fun j hj => ⟨cb, 0, rfl, k1.lt, by rw [Nat.zero_add, k1.cell, k5 j (by omega)]; unfold marked; rw [if_pos hj]⟩⟩
  have hm := dMake_any neg cb cc n x e w1 (by omega) hints (HT.out.keep F1.out)
  have HM := Lib.hid hm
  have K1 := Lib.hid (HK.out.keep f1 (fun x => x))
  clear f1 hc hcb hm hints
  go_wp2_with fail
  refine (HM.out).mono ?_
  intro en w2 hen
  obtain ⟨f2, ng, a, yn, yc, E, er, rfl, hyb⟩ := made_shape hen
  have M1 := Lib.hid hen
  have YB := Lib.hid hyb
  have F2 := Lib.hid (F1.out.trans f2 (fun _ h => h) (fun _ _ h => h))
  have G2 := Lib.hid f2
  obtain ⟨tx, fx⟩ := box_at w2 (.bool ng) (.slice a yn yc) (.int .i64 E) 31
  have TX := Lib.hid tx
  have FX := Lib.hid fx
  have hr := rMake_any neg (.slice va n vc) n x e (w2.alloc (.cells #[.bool ng, .slice a yn yc, .int .i64 E] 31)) (by have := HN.out; omega) (H.out.keep (F2.out.trans fx (fun _ h => h) (fun _ _ h => h)))
  have HR := Lib.hid hr
  clear hen hyb f2 tx fx hr HM
  go_wp2_with fail
  generalize hb12 : w2.heap.size = b12 at TX ⊢
  generalize w2.alloc (.cells #[.bool ng, .slice a yn yc, .int .i64 E] 31) = w3 at TX FX HR ⊢
  have B12 := Lib.hid hb12
  clear hb12
  refine (HR.out).mono ?_
  intro en w4 hen
  obtain ⟨f4, ng2, a2, yn2, yc2, E2, er2, rfl, hyb2⟩ := made_shape hen
  obtain ⟨rfl, rfl, rfl, nn, xx, hnn, hv1, hv2⟩ := made_two M1.out hen
  obtain rfl : yn = nn := by obtain ⟨_, _, e⟩ := hv1.shape; injection e
  obtain rfl : yn2 = yn := by obtain ⟨_, _, e⟩ := hv2.shape; injection e
  obtain ⟨tz, fz⟩ := box_at w4 (.bool ng) (.slice a2 yn2 yc2) (.int .i64 E) 31
  -- all that stands in the world behind both
  have f24 := FX.out.trans f4 (fun _ h => h) (fun _ _ h => h)
  have f25 := f24.trans fz (fun _ h => h) (fun _ _ h => h)
  have tx5 := (TX.out.keep f4 (fun x => x)).keep fz (fun x => x)
  have hv1' := hv1.keep f25
  have hv2' := hv2.keep fz
  have hc5 := HC.out.1.keep (G2.out.trans f25 (fun _ h => h) (fun _ _ h => h))
  have k5 := K1.out.keep (G2.out.trans f25 (fun _ h => h) (fun _ _ h => h)) (fun x => x)
  have F5 := Lib.hid (F2.out.trans f25 (fun _ h => h) (fun _ _ h => h))
  have hback := back_ok cb cc n w.heap.size (.slice va n vc) x _ (by have := HN.out; omega) HC.out.2.1 hc5 (H.out.keep F5.out).inV
  have HBK := Lib.hid hback
  have S5 := Lib.hid (And.intro tx5 (And.intro tz (And.intro hv1' (And.intro hv2' (And.intro hc5 k5)))))
  have Z5 := Lib.hid (And.intro f25.size hnn)
  clear hen hyb2 f4 hv1 hv2 tz fz f24 f25 tx5 hv1' hv2' hc5 k5 hback M1 hnn HR
  go_wp2_with fail
  generalize hb14 : w4.heap.size = b14 at S5 Z5 ⊢
  generalize w4.alloc (.cells #[.bool ng, .slice a2 yn2 yc2, .int .i64 E] 31) = w5 at S5 F5 HBK Z5 ⊢
  clear hb14
  refine (HBK.out).mono ?_
  rintro en w6 ⟨rfl, f6⟩
  obtain ⟨cs, q1, q2, q3, q4, q5⟩ := S5.out.2.2.2.2.1.at
  have tx6 := At.other S5.out.1 q1 (by decide) f6
  have tz6 := At.other S5.out.2.1 q1 (by decide) f6
  have k6 := At.other S5.out.2.2.2.2.2 q1 (by decide) f6
  have hcb1 : cb < w1.heap.size := (HC.out.1.lt ⟨_, _, rfl⟩).1
  have hv1 := S5.out.2.2.1.keepS f6 (fun q hq e => by unfold Mem.One at e; subst e; have := (YB.out q hq).1; omega)
  have hv2 := S5.out.2.2.2.1.keepS f6 (fun q hq e => by
    unfold Mem.One at e; subst e
    have h1 := (S5.out.2.2.2.1.lt hq).2
    have h2 := G2.out.size
    have h3 := FX.out.size
    omega)
  have F6 := Lib.hid (F5.out.trans f6 (fun _ h => h) (fun q hq e => by unfold Mem.One at e; have := HC.out.2.2; omega))
  have hs6 := same_agg (.slice a yn2 yc) (.slice a2 yn2 yc2) ng yn2 (fun j => ((xx j : Nat) : Int)) E w6 (by have := Z5.out.2; omega) hv1.inV hv2.inV
  have L6 : Hid (w2.heap.size ≤ w6.heap.size) := Lib.hid (Nat.le_trans Z5.out.1 f6.size)
  have S6 := Lib.hid (And.intro tx6 (And.intro tz6 (And.intro k6 (And.intro hv1 hv2))))
  have HS6 := Lib.hid hs6
  have c0 := tx6.cell 0
  have c1 := tx6.cell 1
  have c2 := tx6.cell 2
  have d0 := tz6.cell 0
  have d1 := tz6.cell 1
  have d2 := tz6.cell 2
  clear q1 q2 q3 q4 q5 tx6 tz6 k6 hv1 hv2 hcb1 hs6 f6 S5 HBK
  go_wp2_with fail
  refine (HS6.out).mono ?_
  rintro en w7 ⟨rfl, f7⟩
  have t7 := S6.out.1.keep f7 (fun x => x)
  have z7 := S6.out.2.1.keep f7 (fun x => x)
  have F7 := Lib.hid (F6.out.trans f7 (fun _ h => h) (fun _ _ h => h))
  have kv : KeepV w7 kb 0 w0.heap.size 0 := KeepV.new HKB.out (S6.out.2.2.1.keep f7 (fun x => x)) 0
  have bs1 : w0.heap.size ≤ w1.heap.size := F1.out.size
  have bs3 : w0.heap.size ≤ w3.heap.size := Nat.le_trans F2.out.size FX.out.size
  have hadd := keepAdd_ok kb 0 yn2 0 w2.heap.size (.slice a yn2 yc) (.slice a2 yn2 yc2) (fun j => ((xx j : Nat) : Int)) w0 w7 (by omega) Z5.out.2 kv ((S6.out.2.2.2.1.keep f7).low bs1) (Or.inr ((S6.out.2.2.2.2.keep f7).low bs3)) F7.out (Nat.zero_le _) (fun q _ => Nat.zero_le _) (fun q hq => (YB.out q hq).2)
  have c1 := t7.cell 1
  have d1 := z7.cell 1
  have HADD := Lib.hid hadd
  have L7 : Hid (w2.heap.size ≤ w7.heap.size) := Lib.hid (Nat.le_trans L6.out f7.size)
  clear hadd kv t7 z7 f7 bs1 bs3 c0 c2 d0 d2 S6 HS6
  go_wp2_with fail
  refine (HADD.out).mono ?_
  rintro en w8 ⟨rfl, k8, f8, fr8⟩
  have K8 := Lib.hid k8
  have F8 := Lib.hid f8
  have S8 : Hid (w2.heap.size ≤ w8.heap.size) := Lib.hid (Nat.le_trans L7.out fr8.size)
  have hof := dOf_any b w8 (HT.out.keep f8)
  have HOF := Lib.hid hof
  clear k8 f8 fr8 hof HADD
  go_wp2_with fail
  refine (HOF.out).mono ?_
  rintro en w9 ⟨yg, ya, ym, yc, yE, yer, rfl, f9, hyq, hycase⟩
  have YQ := Lib.hid hyq
  have YC := Lib.hid hycase
  have G9 := Lib.hid f9
  obtain ⟨ty, fy⟩ := box_at w9 (.bool yg) (.slice ya ym yc) (.int .i64 yE) 31
  have F10 := Lib.hid ((F8.out.trans f9 (fun _ h => h) (fun _ _ h => h)).trans fy (fun _ h => h) (fun _ _ h => h))
  have G10 := Lib.hid fy
  have TY := Lib.hid ty
  have hof3 := dOf32_any b (w9.alloc (.cells #[.bool yg, .slice ya ym yc, .int .i64 yE] 31)) HB.out (HT.out.keep F10.out)
  have HOF3 := Lib.hid hof3
  clear hyq hycase f9 ty fy hof3 HOF
  go_wp2_with fail
  generalize hb16 : w9.heap.size = b16 at TY ⊢
  have B16 := Lib.hid hb16
  clear hb16
  generalize w9.alloc (.cells #[.bool yg, .slice ya ym yc, .int .i64 yE] 31) = w10 at F10 G10 TY HOF3 ⊢
  refine (HOF3.out).mono ?_
  rintro en w11 ⟨zg, za, zm, zc, zE, zer, rfl, f11, hzq, hzcase⟩
  have ZQ := Lib.hid hzq
  have ZC := Lib.hid hzcase
  have G11 := Lib.hid f11
  obtain ⟨tz, fz⟩ := box_at w11 (.bool zg) (.slice za zm zc) (.int .i64 zE) 31
  have T16 := Lib.hid ((TY.out.keep f11 (fun x => x)).keep fz (fun x => x))
  have T18 := Lib.hid tz
  have F1112 := Lib.hid fz
  have F912 := Lib.hid ((G10.out.trans f11 (fun _ h => h) (fun _ _ h => h)).trans fz (fun _ h => h) (fun _ _ h => h))
  have K12 := Lib.hid (And.intro (((K8.out.keep G9.out).keep F912.out)) ((F8.out.trans G9.out (fun _ h => h) (fun _ _ h => h)).trans F912.out (fun _ h => h) (fun _ _ h => h)))
  have Z10 : Hid (w0.heap.size ≤ w10.heap.size) := Lib.hid F10.out.size
  have TM9 : Hid (w9.heap.size ≤ w10.heap.size) := Lib.hid G10.out.size
  have TM2 : Hid (w2.heap.size ≤ w10.heap.size) := Lib.hid (Nat.le_trans S8.out (Nat.le_trans G9.out.size G10.out.size))
  clear hzq hzcase f11 tz fz HOF3
  go_wp2_with fail
  generalize hb18 : w11.heap.size = b12z at T18 ⊢
  have B18 := Lib.hid hb18
  clear hb18
  generalize w11.alloc (.cells #[.bool zg, .slice za zm zc, .int .i64 zE] 31) = w12 at T16 T18 F1112 F912 K12 ⊢
  obtain ⟨hy0, rfl, htw⟩ | ⟨hy0, rfl, rfl, rfl, rfl, rfl, rfl⟩ := YC.out
  · have HTW := Lib.hid htw
    clear htw YC
    obtain ⟨hz0, rfl, htw⟩ | ⟨hz0, rfl, rfl, rfl, rfl, rfl, rfl⟩ := ZC.out
    · have HTW3 := Lib.hid htw
      have TM := TM9
      clear htw ZC
      have HFT := Lib.hid (finite_any b HB.out w12)
      have HCL := Lib.hid (rClass32_any b w12)
      rw [hy0] at HFT
      have hc3 : cl3 b < 3 := of_decide_eq_true hz0
      generalize cl3 b = k3 at HCL hc3
      clear hy0 hz0
      have HRO := Lib.hid (fun W => rOf_any b W HB.out)
      have ISY : Hid (∀ (wa : World) (ua : Option Addr) (un uc : Nat) (xs : Nat → Int), (Fr w12 wa None ∧ un ≤ 2000 ∧ VRow w9 (.slice ya ym yc) un (fun j => .int .i64 (xs j)) 3 w8.heap.size ∧ VRow wa (.slice ua un uc) un (fun j => .int .i64 (xs j)) 3 w12.drew.heap.size ∧ ValidP yg un xs yE) →
          Calls Tryd.prog 19 #[.pointer (some ⟨kb, 0, none⟩), .agg #[.bool yg, .slice ya ym yc, .int .i64 yE], .int .i64 0, .bool false, .agg #[.bool yg, .slice ua un uc, .int .i64 yE]] wa (AddPost kb 1 w0.heap.size w9.heap.size w0 wa)) :=
        Lib.hid fun wa ua un uc xs ⟨g1, g2, g3, g4, g5⟩ => is_ok kb 1 un w2.heap.size w9.heap.size (.slice ya ym yc) (.slice ua un uc) yg xs yE w0 wa (by omega) g2 (K12.out.1.keep g1) (((g3.keep F912.out).keep g1).low F8.out.size) (Or.inr (g4.low (Nat.le_trans F8.out.size (Nat.le_trans (Nat.le_trans G9.out.size F912.out.size) (Fr.refl w12 None).drew.size)))) (K12.out.2.trans g1 (fun _ h => h) (fun _ _ h => h)) (Nat.le_trans S8.out G9.out.size) (fun q hq => Nat.le_trans S8.out (YQ.out q hq).1) (fun q hq => (YQ.out q hq).2) g5
      have TZK : Hid (∀ wa W, Fr w12 wa None → KeepV wa kb 1 w0.heap.size w2.heap.size → Fr wa W (KeepS wa kb) → KeepV W kb 2 w0.heap.size w9.heap.size → Fr w0 W None → (KeepV W kb 2 w0.heap.size w9.heap.size ∧ Fr w0 W None ∧ At W b12z #[.bool zg, .slice za zm zc, .int .i64 zE] 31 ∧ ∀ (n : Nat) (x : Nat → Int), VRow w11 (.slice za zm zc) n (fun j => .int .i64 (x j)) 3 w10.heap.size → VRow W (.slice za zm zc) n (fun j => .int .i64 (x j)) 3 w0.heap.size)) :=
        Lib.hid fun wa W g1 gk g2 g3 g4 => by
          have ta := (T18.out.keep g1 (fun x => x))
          refine ⟨g3, g4, num_over ta gk g2, fun n x hv => ?_⟩
          obtain ⟨_, vL, vW, _, _, _, _, kat, _⟩ := gk
          have hv1 := (hv.keep F1112.out).keep g1
          refine (hv1.keepS g2 fun q hq hs => ?_).low Z10.out
          rcases hs with rfl | ⟨cs, hc⟩
          · exact hv1.apart (by decide) kat hq
          · exact hv1.apart (by decide) hc hq
      have TYK : Hid (∀ wa W, Fr w12 wa None → KeepV wa kb 1 w0.heap.size w2.heap.size → Fr wa W (KeepS wa kb) → At W b16 #[.bool yg, .slice ya ym yc, .int .i64 yE] 31) :=
        Lib.hid fun wa W g1 gk g2 => num_over (T16.out.keep g1 (fun x => x)) gk g2
      have HRO3 := Lib.hid (fun W => rOf32_any b W)
      have ISZ : Hid (∀ (W : World) (ua : Option Addr) (un uc : Nat) (xs : Nat → Int), ((KeepV W kb 2 w0.heap.size w9.heap.size ∧ Fr w0 W None ∧ At W b12z #[.bool zg, .slice za zm zc, .int .i64 zE] 31 ∧ ∀ (n : Nat) (x : Nat → Int), VRow w11 (.slice za zm zc) n (fun j => .int .i64 (x j)) 3 w10.heap.size → VRow W (.slice za zm zc) n (fun j => .int .i64 (x j)) 3 w0.heap.size) ∧ un ≤ 2000 ∧ VRow w11 (.slice za zm zc) un (fun j => .int .i64 (xs j)) 3 w10.heap.size ∧ VRow W (.slice ua un uc) un (fun j => .int .i64 (xs j)) 3 w0.heap.size ∧ ValidP zg un xs zE) →
          Calls Tryd.prog 19 #[.pointer (some ⟨kb, 0, none⟩), .agg #[.bool zg, .slice za zm zc, .int .i64 zE], .int .i64 0, .bool false, .agg #[.bool zg, .slice ua un uc, .int .i64 zE]] W (AddPost kb 2 w0.heap.size w11.heap.size w0 W)) :=
        Lib.hid fun W ua un uc xs ⟨⟨g1, g2, g3, g4⟩, g5, g6, g7, g8⟩ => is_ok kb 2 un w9.heap.size w11.heap.size (.slice za zm zc) (.slice ua un uc) zg xs zE w0 W (by omega) g5 g1 (g4 _ _ g6) (Or.inr g7) g2 (Nat.le_trans TM.out G11.out.size) (fun q hq => Nat.le_trans TM.out (ZQ.out q hq).1) (fun q hq => (ZQ.out q hq).2) g8
      have c0 := T16.out.cell 0
      have c1 := T16.out.cell 1
      have c2 := T16.out.cell 2
      go_wp2_with fail
      refine (HFT.out).mono ?_
      rintro en wq ⟨rfl, rfl⟩
      go_wp2_with fail
      refine (HCL.out).mono ?_
      rintro en wq ⟨rfl, rfl⟩
      go_wp2_with fail
      clear c0 c1 c2
      have S0 : TwoAt b16 b12z (#[.bool yg, .slice ya ym yc, .int .i64 yE]) (#[.bool zg, .slice za zm zc, .int .i64 zE]) w12.drew := ⟨T16.out.keep (Fr.refl w12 None).drew (fun x => x), T18.out.keep (Fr.refl w12 None).drew (fun x => x)⟩
      refine wp_region_held_drew (S := TwoAt b16 b12z (#[.bool yg, .slice ya ym yc, .int .i64 yE]) (#[.bool zg, .slice za zm zc, .int .i64 zE])) (by kernel_rfl) S0 ?_
      clear S0
      intro hS0
      refine takeH (i := 0) (o := _) (d := some 106) (v := .bool true) rfl rfl (by kernel_rfl) (by kernel_rfl) (by kernel_rfl) (fun _ _ _ h => h) (Or.inl ⟨by rfl, fun w' hS => ?_⟩) hS0 ?_
      · have q0 := hS.1.cell 0
        have q1 := hS.1.cell 1
        have q2 := hS.1.cell 2
        have q3 := hS.2.cell 0
        have q4 := hS.2.cell 1
        have q5 := hS.2.cell 2
        clear hS hS0
        go_simp
      simp only [Act.put, List.setIfInBounds_toArray, List.set_cons_zero, List.set_cons_succ]
      refine takeH (i := 1) (o := _) (d := some 107) (v := .bool true) rfl rfl (by kernel_rfl) (by kernel_rfl) (by kernel_rfl) (fun _ _ _ h => h) (Or.inl ⟨by rfl, fun w' hS => ?_⟩) hS0 ?_
      · have q0 := hS.1.cell 0
        have q1 := hS.1.cell 1
        have q2 := hS.1.cell 2
        have q3 := hS.2.cell 0
        have q4 := hS.2.cell 1
        have q5 := hS.2.cell 2
        clear hS hS0
        go_simp
      simp only [Act.put, List.setIfInBounds_toArray, List.set_cons_zero, List.set_cons_succ]
      refine takeH (i := 2) (o := _) (d := some 108) (v := .pointer (some ⟨kb, 0, none⟩)) rfl rfl (by kernel_rfl) (by kernel_rfl) (by kernel_rfl) (fun _ _ _ h => h) (Or.inl ⟨by rfl, fun w' hS => ?_⟩) hS0 ?_
      · have q0 := hS.1.cell 0
        have q1 := hS.1.cell 1
        have q2 := hS.1.cell 2
        have q3 := hS.2.cell 0
        have q4 := hS.2.cell 1
        have q5 := hS.2.cell 2
        clear hS hS0
        go_simp
      simp only [Act.put, List.setIfInBounds_toArray, List.set_cons_zero, List.set_cons_succ]
      refine takeH (i := 3) (o := _) (d := some 109) (v := .agg #[.bool yg, .slice ya ym yc, .int .i64 yE]) rfl rfl (by kernel_rfl) (by kernel_rfl) (by kernel_rfl) (fun _ _ _ h => h) (Or.inl ⟨by rfl, fun w' hS => ?_⟩) hS0 ?_
      · have q0 := hS.1.cell 0
        have q1 := hS.1.cell 1
        have q2 := hS.1.cell 2
        have q3 := hS.2.cell 0
        have q4 := hS.2.cell 1
        have q5 := hS.2.cell 2
        clear hS hS0
        go_simp
      simp only [Act.put, List.setIfInBounds_toArray, List.set_cons_zero, List.set_cons_succ]
      refine takeH (i := 4) (o := _) (d := some 110) (v := .int .i64 0) rfl rfl (by kernel_rfl) (by kernel_rfl) (by kernel_rfl) (fun _ _ _ h => h) (Or.inl ⟨by rfl, fun w' hS => ?_⟩) hS0 ?_
      · have q0 := hS.1.cell 0
        have q1 := hS.1.cell 1
        have q2 := hS.1.cell 2
        have q3 := hS.2.cell 0
        have q4 := hS.2.cell 1
        have q5 := hS.2.cell 2
        clear hS hS0
        go_simp
      simp only [Act.put, List.setIfInBounds_toArray, List.set_cons_zero, List.set_cons_succ]
      refine takeH (i := 5) (o := _) (d := some 111) (v := .int .i64 b) rfl rfl (by kernel_rfl) (by kernel_rfl) (by kernel_rfl) (fun _ _ _ h => h) (Or.inl ⟨by rfl, fun w' hS => ?_⟩) hS0 ?_
      · have q0 := hS.1.cell 0
        have q1 := hS.1.cell 1
        have q2 := hS.1.cell 2
        have q3 := hS.2.cell 0
        have q4 := hS.2.cell 1
        have q5 := hS.2.cell 2
        clear hS hS0
        go_simp
      simp only [Act.put, List.setIfInBounds_toArray, List.set_cons_zero, List.set_cons_succ]
      refine wpAnyH_all (rs := [6]) (by kernel_rfl) (by simp) ?_
      intro j hj
      obtain rfl := List.mem_singleton.1 hj
      clear hj
      refine opGoW (o := _) rfl (by rfl) ?_
      go_simp
      refine (HRO.out _).mono ?_
      rintro e wa hno
      obtain ⟨ua, un, uc, rfl, fa0, xs, hn1, hr1, hr2, hP⟩ := HTW.out _ _ _ hno
      have hSa := hS0.keep fa0
      replace fa0 := Fr.undrew fa0
      have PA := Lib.hid (And.intro fa0 (And.intro hn1 (And.intro hr1 (And.intro hr2 hP))))
      clear hno fa0 hn1 hr1 hr2 hP hS0
      refine ⟨hSa, ?_⟩
      refine wpAnyH_all (rs := [7]) (by kernel_rfl) (by simp) ?_
      intro j hj
      obtain rfl := List.mem_singleton.1 hj
      clear hj
      refine opGoW (o := _) rfl (by rfl) ?_
      go_simp
      refine (ISY.out wa ua un uc xs PA.out).mono ?_
      rintro e wb ⟨rfl, k9, f9, fr9⟩
      have P1 := Lib.hid (TZK.out wa wb PA.out.1 (K12.out.1.keep PA.out.1) fr9 k9 f9)
      have hSb : TwoAt b16 b12z (#[.bool yg, .slice ya ym yc, .int .i64 yE]) (#[.bool zg, .slice za zm zc, .int .i64 zE]) wb := ⟨TYK.out wa wb PA.out.1 (K12.out.1.keep PA.out.1) fr9, P1.out.2.2.1⟩
      clear k9 f9 fr9 hSa
      refine ⟨hSb, ?_⟩
      refine takeH (i := 8) (o := _) (d := some 114) (v := .bool true) rfl rfl (by kernel_rfl) (by kernel_rfl) (by kernel_rfl) (fun _ _ _ h => h) (Or.inl ⟨by rfl, fun w' hS => ?_⟩) hSb ?_
      · have q0 := hS.1.cell 0
        have q1 := hS.1.cell 1
        have q2 := hS.1.cell 2
        have q3 := hS.2.cell 0
        have q4 := hS.2.cell 1
        have q5 := hS.2.cell 2
        clear hS hSb
        go_simp
      simp only [Act.put, List.setIfInBounds_toArray, List.set_cons_zero, List.set_cons_succ]
      refine takeH (i := 9) (o := _) (d := some 115) (v := .bool true) rfl rfl (by kernel_rfl) (by kernel_rfl) (by kernel_rfl) (fun _ _ _ h => h) (Or.inl ⟨by rfl, fun w' hS => ?_⟩) hSb ?_
      · have q0 := hS.1.cell 0
        have q1 := hS.1.cell 1
        have q2 := hS.1.cell 2
        have q3 := hS.2.cell 0
        have q4 := hS.2.cell 1
        have q5 := hS.2.cell 2
        clear hS hSb
        go_simp
      simp only [Act.put, List.setIfInBounds_toArray, List.set_cons_zero, List.set_cons_succ]
      refine takeH (i := 10) (o := _) (d := some 116) (v := undef) rfl rfl (by kernel_rfl) (by kernel_rfl) (by kernel_rfl) (fun _ _ _ h => h) (Or.inr ⟨by rfl, rfl⟩) hSb ?_
      simp only [Act.put, List.setIfInBounds_toArray, List.set_cons_zero, List.set_cons_succ]
      refine takeH (i := 11) (o := _) (d := some 117) (v := undef) rfl rfl (by kernel_rfl) (by kernel_rfl) (by kernel_rfl) (fun _ _ _ h => h) (Or.inr ⟨by rfl, rfl⟩) hSb ?_
      simp only [Act.put, List.setIfInBounds_toArray, List.set_cons_zero, List.set_cons_succ]
      refine takeH (i := 12) (o := _) (d := some 118) (v := undef) rfl rfl (by kernel_rfl) (by kernel_rfl) (by kernel_rfl) (fun _ _ _ h => h) (Or.inr ⟨by rfl, rfl⟩) hSb ?_
      simp only [Act.put, List.setIfInBounds_toArray, List.set_cons_zero, List.set_cons_succ]
      refine takeH (i := 13) (o := _) (d := some 119) (v := undef) rfl rfl (by kernel_rfl) (by kernel_rfl) (by kernel_rfl) (fun _ _ _ h => h) (Or.inr ⟨by rfl, rfl⟩) hSb ?_
      simp only [Act.put, List.setIfInBounds_toArray, List.set_cons_zero, List.set_cons_succ]
      refine takeH (i := 14) (o := _) (d := some 120) (v := undef) rfl rfl (by kernel_rfl) (by kernel_rfl) (by kernel_rfl) (fun _ _ _ h => h) (Or.inr ⟨by rfl, rfl⟩) hSb ?_
      simp only [Act.put, List.setIfInBounds_toArray, List.set_cons_zero, List.set_cons_succ]
      refine takeH (i := 15) (o := _) (d := some 121) (v := undef) rfl rfl (by kernel_rfl) (by kernel_rfl) (by kernel_rfl) (fun _ _ _ h => h) (Or.inr ⟨by rfl, rfl⟩) hSb ?_
      simp only [Act.put, List.setIfInBounds_toArray, List.set_cons_zero, List.set_cons_succ]
      refine takeH (i := 16) (o := _) (d := some 122) (v := undef) rfl rfl (by kernel_rfl) (by kernel_rfl) (by kernel_rfl) (fun _ _ _ h => h) (Or.inr ⟨by rfl, rfl⟩) hSb ?_
      simp only [Act.put, List.setIfInBounds_toArray, List.set_cons_zero, List.set_cons_succ]
      refine takeH (i := 17) (o := _) (d := some 123) (v := .bool true) rfl rfl (by kernel_rfl) (by kernel_rfl) (by kernel_rfl) (fun _ _ _ h => h) (Or.inl ⟨by rfl, fun w' hS => ?_⟩) hSb ?_
      · have q0 := hS.1.cell 0
        have q1 := hS.1.cell 1
        have q2 := hS.1.cell 2
        have q3 := hS.2.cell 0
        have q4 := hS.2.cell 1
        have q5 := hS.2.cell 2
        clear hS hSb
        go_simp
      simp only [Act.put, List.setIfInBounds_toArray, List.set_cons_zero, List.set_cons_succ]
      refine takeH (i := 18) (o := _) (d := some 124) (v := .bool true) rfl rfl (by kernel_rfl) (by kernel_rfl) (by kernel_rfl) (fun _ _ _ h => h) (Or.inl ⟨by rfl, fun w' hS => ?_⟩) hSb ?_
      · have q0 := hS.1.cell 0
        have q1 := hS.1.cell 1
        have q2 := hS.1.cell 2
        have q3 := hS.2.cell 0
        have q4 := hS.2.cell 1
        have q5 := hS.2.cell 2
        clear hS hSb
        go_simp
      simp only [Act.put, List.setIfInBounds_toArray, List.set_cons_zero, List.set_cons_succ]
      refine takeH (i := 19) (o := _) (d := some 125) (v := .bool true) rfl rfl (by kernel_rfl) (by kernel_rfl) (by kernel_rfl) (fun _ _ _ h => h) (Or.inl ⟨by rfl, fun w' hS => ?_⟩) hSb ?_
      · have q0 := hS.1.cell 0
        have q1 := hS.1.cell 1
        have q2 := hS.1.cell 2
        have q3 := hS.2.cell 0
        have q4 := hS.2.cell 1
        have q5 := hS.2.cell 2
        clear hS hSb
        go_simp
      simp only [Act.put, List.setIfInBounds_toArray, List.set_cons_zero, List.set_cons_succ]
      refine takeH (i := 20) (o := _) (d := some 126) (v := .bool true) rfl rfl (by kernel_rfl) (by kernel_rfl) (by kernel_rfl) (fun _ _ _ h => h) (Or.inl ⟨by rfl, fun w' hS => ?_⟩) hSb ?_
      · have q0 := hS.1.cell 0
        have q1 := hS.1.cell 1
        have q2 := hS.1.cell 2
        have q3 := hS.2.cell 0
        have q4 := hS.2.cell 1
        have q5 := hS.2.cell 2
        clear hS hSb
        go_simp
      simp only [Act.put, List.setIfInBounds_toArray, List.set_cons_zero, List.set_cons_succ]
      refine takeH (i := 21) (o := _) (d := some 127) (v := .pointer (some ⟨kb, 0, none⟩)) rfl rfl (by kernel_rfl) (by kernel_rfl) (by kernel_rfl) (fun _ _ _ h => h) (Or.inl ⟨by rfl, fun w' hS => ?_⟩) hSb ?_
      · have q0 := hS.1.cell 0
        have q1 := hS.1.cell 1
        have q2 := hS.1.cell 2
        have q3 := hS.2.cell 0
        have q4 := hS.2.cell 1
        have q5 := hS.2.cell 2
        clear hS hSb
        go_simp
      simp only [Act.put, List.setIfInBounds_toArray, List.set_cons_zero, List.set_cons_succ]
      refine takeH (i := 22) (o := _) (d := some 128) (v := .agg #[.bool zg, .slice za zm zc, .int .i64 zE]) rfl rfl (by kernel_rfl) (by kernel_rfl) (by kernel_rfl) (fun _ _ _ h => h) (Or.inl ⟨by rfl, fun w' hS => ?_⟩) hSb ?_
      · have q0 := hS.1.cell 0
        have q1 := hS.1.cell 1
        have q2 := hS.1.cell 2
        have q3 := hS.2.cell 0
        have q4 := hS.2.cell 1
        have q5 := hS.2.cell 2
        clear hS hSb
        go_simp
      simp only [Act.put, List.setIfInBounds_toArray, List.set_cons_zero, List.set_cons_succ]
      refine takeH (i := 23) (o := _) (d := some 129) (v := .int .i64 0) rfl rfl (by kernel_rfl) (by kernel_rfl) (by kernel_rfl) (fun _ _ _ h => h) (Or.inl ⟨by rfl, fun w' hS => ?_⟩) hSb ?_
      · have q0 := hS.1.cell 0
        have q1 := hS.1.cell 1
        have q2 := hS.1.cell 2
        have q3 := hS.2.cell 0
        have q4 := hS.2.cell 1
        have q5 := hS.2.cell 2
        clear hS hSb
        go_simp
      simp only [Act.put, List.setIfInBounds_toArray, List.set_cons_zero, List.set_cons_succ]
      refine takeH (i := 24) (o := _) (d := some 130) (v := .int .i64 b) rfl rfl (by kernel_rfl) (by kernel_rfl) (by kernel_rfl) (fun _ _ _ h => h) (Or.inl ⟨by rfl, fun w' hS => ?_⟩) hSb ?_
      · have q0 := hS.1.cell 0
        have q1 := hS.1.cell 1
        have q2 := hS.1.cell 2
        have q3 := hS.2.cell 0
        have q4 := hS.2.cell 1
        have q5 := hS.2.cell 2
        clear hS hSb
        go_simp
      simp only [Act.put, List.setIfInBounds_toArray, List.set_cons_zero, List.set_cons_succ]
      refine wpAnyH_all (rs := [25]) (by kernel_rfl) (by simp) ?_
      intro j hj
      obtain rfl := List.mem_singleton.1 hj
      clear hj
      refine opGoW (o := _) rfl (by rfl) ?_
      go_simp
      refine (HRO3.out _).mono ?_
      rintro e wc hno
      obtain ⟨ub, um, ud, rfl, fc0, xs3, hn3, hs1, hs2, hP3⟩ := HTW3.out _ _ _ hno
      obtain ⟨y1, y2, y3, y4⟩ := P1.out
      have hSc := hSb.keep fc0
      have PC := Lib.hid (And.intro (And.intro (y1.keep fc0) (And.intro (y2.trans fc0 (fun _ h => h) (fun _ _ h => h)) (And.intro (y3.keep fc0 (fun x => x)) (fun n x hv => (y4 n x hv).keep fc0)))) (And.intro hn3 (And.intro hs1 (And.intro (hs2.low y2.size) hP3))))
      clear hno fc0 hn3 hs1 hs2 hP3 y1 y2 y3 y4 hSb
      refine ⟨hSc, ?_⟩
      refine wpAnyH_all (rs := [26]) (by kernel_rfl) (by simp) ?_
      intro j hj
      obtain rfl := List.mem_singleton.1 hj
      clear hj
      refine opGoW (o := _) rfl (by rfl) ?_
      go_simp
      refine (ISZ.out wc ub um ud xs3 PC.out).mono ?_
      rintro e wd ⟨rfl, k10, f10, fr10⟩
      have KD := Lib.hid (And.intro k10 f10)
      have hSd : TwoAt b16 b12z (#[.bool yg, .slice ya ym yc, .int .i64 yE]) (#[.bool zg, .slice za zm zc, .int .i64 zE]) wd := TwoAt.over hSc PC.out.1.1 fr10
      clear k10 f10 fr10 hSc
      refine ⟨hSd, ?_⟩
      refine takeH (i := 27) (o := _) (d := some 133) (v := .bool true) rfl rfl (by kernel_rfl) (by kernel_rfl) (by kernel_rfl) (fun _ _ _ h => h) (Or.inl ⟨by rfl, fun w' hS => ?_⟩) hSd ?_
      · have q0 := hS.1.cell 0
        have q1 := hS.1.cell 1
        have q2 := hS.1.cell 2
        have q3 := hS.2.cell 0
        have q4 := hS.2.cell 1
        have q5 := hS.2.cell 2
        clear hS hSd
        go_simp
      simp only [Act.put, List.setIfInBounds_toArray, List.set_cons_zero, List.set_cons_succ]
      refine takeH (i := 28) (o := _) (d := some 134) (v := .bool true) rfl rfl (by kernel_rfl) (by kernel_rfl) (by kernel_rfl) (fun _ _ _ h => h) (Or.inl ⟨by rfl, fun w' hS => ?_⟩) hSd ?_
      · have q0 := hS.1.cell 0
        have q1 := hS.1.cell 1
        have q2 := hS.1.cell 2
        have q3 := hS.2.cell 0
        have q4 := hS.2.cell 1
        have q5 := hS.2.cell 2
        clear hS hSd
        go_simp
      simp only [Act.put, List.setIfInBounds_toArray, List.set_cons_zero, List.set_cons_succ]
      refine takeH (i := 29) (o := _) (d := some 135) (v := undef) rfl rfl (by kernel_rfl) (by kernel_rfl) (by kernel_rfl) (fun _ _ _ h => h) (Or.inr ⟨by rfl, rfl⟩) hSd ?_
      simp only [Act.put, List.setIfInBounds_toArray, List.set_cons_zero, List.set_cons_succ]
      refine takeH (i := 30) (o := _) (d := some 136) (v := undef) rfl rfl (by kernel_rfl) (by kernel_rfl) (by kernel_rfl) (fun _ _ _ h => h) (Or.inr ⟨by rfl, rfl⟩) hSd ?_
      simp only [Act.put, List.setIfInBounds_toArray, List.set_cons_zero, List.set_cons_succ]
      refine takeH (i := 31) (o := _) (d := some 137) (v := undef) rfl rfl (by kernel_rfl) (by kernel_rfl) (by kernel_rfl) (fun _ _ _ h => h) (Or.inr ⟨by rfl, rfl⟩) hSd ?_
      simp only [Act.put, List.setIfInBounds_toArray, List.set_cons_zero, List.set_cons_succ]
      refine takeH (i := 32) (o := _) (d := some 138) (v := undef) rfl rfl (by kernel_rfl) (by kernel_rfl) (by kernel_rfl) (fun _ _ _ h => h) (Or.inr ⟨by rfl, rfl⟩) hSd ?_
      simp only [Act.put, List.setIfInBounds_toArray, List.set_cons_zero, List.set_cons_succ]
      refine takeH (i := 33) (o := _) (d := some 139) (v := undef) rfl rfl (by kernel_rfl) (by kernel_rfl) (by kernel_rfl) (fun _ _ _ h => h) (Or.inr ⟨by rfl, rfl⟩) hSd ?_
      simp only [Act.put, List.setIfInBounds_toArray, List.set_cons_zero, List.set_cons_succ]
      refine takeH (i := 34) (o := _) (d := some 140) (v := undef) rfl rfl (by kernel_rfl) (by kernel_rfl) (by kernel_rfl) (fun _ _ _ h => h) (Or.inr ⟨by rfl, rfl⟩) hSd ?_
      simp only [Act.put, List.setIfInBounds_toArray, List.set_cons_zero, List.set_cons_succ]
      refine takeH (i := 35) (o := _) (d := some 141) (v := undef) rfl rfl (by kernel_rfl) (by kernel_rfl) (by kernel_rfl) (fun _ _ _ h => h) (Or.inr ⟨by rfl, rfl⟩) hSd ?_
      simp only [Act.put, List.setIfInBounds_toArray, List.set_cons_zero, List.set_cons_succ]
      refine takeH (i := 36) (o := _) (d := some 142) (v := .bool true) rfl rfl (by kernel_rfl) (by kernel_rfl) (by kernel_rfl) (fun _ _ _ h => h) (Or.inl ⟨by rfl, fun w' hS => ?_⟩) hSd ?_
      · have q0 := hS.1.cell 0
        have q1 := hS.1.cell 1
        have q2 := hS.1.cell 2
        have q3 := hS.2.cell 0
        have q4 := hS.2.cell 1
        have q5 := hS.2.cell 2
        clear hS hSd
        go_simp
      simp only [Act.put, List.setIfInBounds_toArray, List.set_cons_zero, List.set_cons_succ]
      refine takeH (i := 37) (o := _) (d := some 143) (v := .bool true) rfl rfl (by kernel_rfl) (by kernel_rfl) (by kernel_rfl) (fun _ _ _ h => h) (Or.inl ⟨by rfl, fun w' hS => ?_⟩) hSd ?_
      · have q0 := hS.1.cell 0
        have q1 := hS.1.cell 1
        have q2 := hS.1.cell 2
        have q3 := hS.2.cell 0
        have q4 := hS.2.cell 1
        have q5 := hS.2.cell 2
        clear hS hSd
        go_simp
      simp only [Act.put, List.setIfInBounds_toArray, List.set_cons_zero, List.set_cons_succ]
      refine takeH (i := 38) (o := _) (d := some 10) (v := .bool true) rfl rfl (by kernel_rfl) (by kernel_rfl) (by kernel_rfl) (fun _ _ _ h => h) (Or.inl ⟨by rfl, fun w' hS => ?_⟩) hSd ?_
      · have q0 := hS.1.cell 0
        have q1 := hS.1.cell 1
        have q2 := hS.1.cell 2
        have q3 := hS.2.cell 0
        have q4 := hS.2.cell 1
        have q5 := hS.2.cell 2
        clear hS hSd
        go_simp
      simp only [Act.put, List.setIfInBounds_toArray, List.set_cons_zero, List.set_cons_succ]
      refine wpAnyH_done (by kernel_rfl) ?_ _
      go_wp2_with fail
      go_ret
      exact ⟨rfl, ⟨_, _, by omega, KD.out.1⟩, KD.out.2⟩
    · clear ZC
      have HFT := Lib.hid (finite_any b HB.out w12)
      have HCL := Lib.hid (rClass32_any b w12)
      rw [hy0] at HFT
      have hc3 : 3 ≤ cl3 b := by have := of_decide_eq_false hz0; omega
      generalize cl3 b = k3 at HCL hc3
      clear hy0 hz0
      have HRO := Lib.hid (fun W => rOf_any b W HB.out)
      have ISY : Hid (∀ (wa : World) (ua : Option Addr) (un uc : Nat) (xs : Nat → Int), (Fr w12 wa None ∧ un ≤ 2000 ∧ VRow w9 (.slice ya ym yc) un (fun j => .int .i64 (xs j)) 3 w8.heap.size ∧ VRow wa (.slice ua un uc) un (fun j => .int .i64 (xs j)) 3 w12.drew.heap.size ∧ ValidP yg un xs yE) →
          Calls Tryd.prog 19 #[.pointer (some ⟨kb, 0, none⟩), .agg #[.bool yg, .slice ya ym yc, .int .i64 yE], .int .i64 0, .bool false, .agg #[.bool yg, .slice ua un uc, .int .i64 yE]] wa (AddPost kb 1 w0.heap.size w9.heap.size w0 wa)) :=
        Lib.hid fun wa ua un uc xs ⟨g1, g2, g3, g4, g5⟩ => is_ok kb 1 un w2.heap.size w9.heap.size (.slice ya ym yc) (.slice ua un uc) yg xs yE w0 wa (by omega) g2 (K12.out.1.keep g1) (((g3.keep F912.out).keep g1).low F8.out.size) (Or.inr (g4.low (Nat.le_trans F8.out.size (Nat.le_trans (Nat.le_trans G9.out.size F912.out.size) (Fr.refl w12 None).drew.size)))) (K12.out.2.trans g1 (fun _ h => h) (fun _ _ h => h)) (Nat.le_trans S8.out G9.out.size) (fun q hq => Nat.le_trans S8.out (YQ.out q hq).1) (fun q hq => (YQ.out q hq).2) g5
      have TZK : Hid (∀ wa W, Fr w12 wa None → KeepV wa kb 1 w0.heap.size w2.heap.size → Fr wa W (KeepS wa kb) → KeepV W kb 2 w0.heap.size w9.heap.size → Fr w0 W None → (KeepV W kb 2 w0.heap.size w9.heap.size ∧ Fr w0 W None ∧ At W b12z #[.bool false, .slice none 0 0, .int .i64 0] 31 ∧ ∀ (n : Nat) (x : Nat → Int), VRow w11 (.slice none 0 0) n (fun j => .int .i64 (x j)) 3 w10.heap.size → VRow W (.slice none 0 0) n (fun j => .int .i64 (x j)) 3 w0.heap.size)) :=
        Lib.hid fun wa W g1 gk g2 g3 g4 => by
          have ta := (T18.out.keep g1 (fun x => x))
          refine ⟨g3, g4, num_over ta gk g2, fun n x hv => ?_⟩
          obtain ⟨_, vL, vW, _, _, _, _, kat, _⟩ := gk
          have hv1 := (hv.keep F1112.out).keep g1
          refine (hv1.keepS g2 fun q hq hs => ?_).low Z10.out
          rcases hs with rfl | ⟨cs, hc⟩
          · exact hv1.apart (by decide) kat hq
          · exact hv1.apart (by decide) hc hq
      have TYK : Hid (∀ wa W, Fr w12 wa None → KeepV wa kb 1 w0.heap.size w2.heap.size → Fr wa W (KeepS wa kb) → At W b16 #[.bool yg, .slice ya ym yc, .int .i64 yE] 31) :=
        Lib.hid fun wa W g1 gk g2 => num_over (T16.out.keep g1 (fun x => x)) gk g2
      have HSZ : Hid (∀ W, Calls Tryd.prog 10 #[.agg #[.bool false, .slice none 0 0, .int .i64 0], .agg #[.bool false, .slice none 0 0, .int .i64 0]] W fun e w' => e = .returned (.bool true) ∧ Fr W w' None) :=
        Lib.hid fun W => same_agg (.slice none 0 0) (.slice none 0 0) false 0 (fun _ => 0) 0 W (by omega) ⟨_, _, rfl, fun j hj => by omega⟩ ⟨_, _, rfl, fun j hj => by omega⟩
      have c0 := T16.out.cell 0
      have c1 := T16.out.cell 1
      have c2 := T16.out.cell 2
      go_wp2_with fail
      refine (HFT.out).mono ?_
      rintro en wq ⟨rfl, rfl⟩
      go_wp2_with fail
      refine (HCL.out).mono ?_
      rintro en wq ⟨rfl, rfl⟩
      go_wp2_with fail
      clear c0 c1 c2
      have S0 : TwoAt b16 b12z (#[.bool yg, .slice ya ym yc, .int .i64 yE]) (#[.bool false, .slice none 0 0, .int .i64 0]) w12.drew := ⟨T16.out.keep (Fr.refl w12 None).drew (fun x => x), T18.out.keep (Fr.refl w12 None).drew (fun x => x)⟩
      refine wp_region_held_drew (S := TwoAt b16 b12z (#[.bool yg, .slice ya ym yc, .int .i64 yE]) (#[.bool false, .slice none 0 0, .int .i64 0])) (by kernel_rfl) S0 ?_
      clear S0
      intro hS0
      refine takeH (i := 0) (o := _) (d := some 106) (v := .bool true) rfl rfl (by kernel_rfl) (by kernel_rfl) (by kernel_rfl) (fun _ _ _ h => h) (Or.inl ⟨by rfl, fun w' hS => ?_⟩) hS0 ?_
      · have q0 := hS.1.cell 0
        have q1 := hS.1.cell 1
        have q2 := hS.1.cell 2
        have q3 := hS.2.cell 0
        have q4 := hS.2.cell 1
        have q5 := hS.2.cell 2
        clear hS hS0
        go_simp
      simp only [Act.put, List.setIfInBounds_toArray, List.set_cons_zero, List.set_cons_succ]
      refine takeH (i := 1) (o := _) (d := some 107) (v := .bool true) rfl rfl (by kernel_rfl) (by kernel_rfl) (by kernel_rfl) (fun _ _ _ h => h) (Or.inl ⟨by rfl, fun w' hS => ?_⟩) hS0 ?_
      · have q0 := hS.1.cell 0
        have q1 := hS.1.cell 1
        have q2 := hS.1.cell 2
        have q3 := hS.2.cell 0
        have q4 := hS.2.cell 1
        have q5 := hS.2.cell 2
        clear hS hS0
        go_simp
      simp only [Act.put, List.setIfInBounds_toArray, List.set_cons_zero, List.set_cons_succ]
      refine takeH (i := 2) (o := _) (d := some 108) (v := .pointer (some ⟨kb, 0, none⟩)) rfl rfl (by kernel_rfl) (by kernel_rfl) (by kernel_rfl) (fun _ _ _ h => h) (Or.inl ⟨by rfl, fun w' hS => ?_⟩) hS0 ?_
      · have q0 := hS.1.cell 0
        have q1 := hS.1.cell 1
        have q2 := hS.1.cell 2
        have q3 := hS.2.cell 0
        have q4 := hS.2.cell 1
        have q5 := hS.2.cell 2
        clear hS hS0
        go_simp
      simp only [Act.put, List.setIfInBounds_toArray, List.set_cons_zero, List.set_cons_succ]
      refine takeH (i := 3) (o := _) (d := some 109) (v := .agg #[.bool yg, .slice ya ym yc, .int .i64 yE]) rfl rfl (by kernel_rfl) (by kernel_rfl) (by kernel_rfl) (fun _ _ _ h => h) (Or.inl ⟨by rfl, fun w' hS => ?_⟩) hS0 ?_
      · have q0 := hS.1.cell 0
        have q1 := hS.1.cell 1
        have q2 := hS.1.cell 2
        have q3 := hS.2.cell 0
        have q4 := hS.2.cell 1
        have q5 := hS.2.cell 2
        clear hS hS0
        go_simp
      simp only [Act.put, List.setIfInBounds_toArray, List.set_cons_zero, List.set_cons_succ]
      refine takeH (i := 4) (o := _) (d := some 110) (v := .int .i64 0) rfl rfl (by kernel_rfl) (by kernel_rfl) (by kernel_rfl) (fun _ _ _ h => h) (Or.inl ⟨by rfl, fun w' hS => ?_⟩) hS0 ?_
      · have q0 := hS.1.cell 0
        have q1 := hS.1.cell 1
        have q2 := hS.1.cell 2
        have q3 := hS.2.cell 0
        have q4 := hS.2.cell 1
        have q5 := hS.2.cell 2
        clear hS hS0
        go_simp
      simp only [Act.put, List.setIfInBounds_toArray, List.set_cons_zero, List.set_cons_succ]
      refine takeH (i := 5) (o := _) (d := some 111) (v := .int .i64 b) rfl rfl (by kernel_rfl) (by kernel_rfl) (by kernel_rfl) (fun _ _ _ h => h) (Or.inl ⟨by rfl, fun w' hS => ?_⟩) hS0 ?_
      · have q0 := hS.1.cell 0
        have q1 := hS.1.cell 1
        have q2 := hS.1.cell 2
        have q3 := hS.2.cell 0
        have q4 := hS.2.cell 1
        have q5 := hS.2.cell 2
        clear hS hS0
        go_simp
      simp only [Act.put, List.setIfInBounds_toArray, List.set_cons_zero, List.set_cons_succ]
      refine wpAnyH_all (rs := [6]) (by kernel_rfl) (by simp) ?_
      intro j hj
      obtain rfl := List.mem_singleton.1 hj
      clear hj
      refine opGoW (o := _) rfl (by rfl) ?_
      go_simp
      refine (HRO.out _).mono ?_
      rintro e wa hno
      obtain ⟨ua, un, uc, rfl, fa0, xs, hn1, hr1, hr2, hP⟩ := HTW.out _ _ _ hno
      have hSa := hS0.keep fa0
      replace fa0 := Fr.undrew fa0
      have PA := Lib.hid (And.intro fa0 (And.intro hn1 (And.intro hr1 (And.intro hr2 hP))))
      clear hno fa0 hn1 hr1 hr2 hP hS0
      refine ⟨hSa, ?_⟩
      refine wpAnyH_all (rs := [7]) (by kernel_rfl) (by simp) ?_
      intro j hj
      obtain rfl := List.mem_singleton.1 hj
      clear hj
      refine opGoW (o := _) rfl (by rfl) ?_
      go_simp
      refine (ISY.out wa ua un uc xs PA.out).mono ?_
      rintro e wb ⟨rfl, k9, f9, fr9⟩
      have P1 := Lib.hid (TZK.out wa wb PA.out.1 (K12.out.1.keep PA.out.1) fr9 k9 f9)
      have hSb : TwoAt b16 b12z (#[.bool yg, .slice ya ym yc, .int .i64 yE]) (#[.bool false, .slice none 0 0, .int .i64 0]) wb := ⟨TYK.out wa wb PA.out.1 (K12.out.1.keep PA.out.1) fr9, P1.out.2.2.1⟩
      clear k9 f9 fr9 hSa
      refine ⟨hSb, ?_⟩
      refine takeH (i := 8) (o := _) (d := some 114) (v := .bool true) rfl rfl (by kernel_rfl) (by kernel_rfl) (by kernel_rfl) (fun _ _ _ h => h) (Or.inl ⟨by rfl, fun w' hS => ?_⟩) hSb ?_
      · have q0 := hS.1.cell 0
        have q1 := hS.1.cell 1
        have q2 := hS.1.cell 2
        have q3 := hS.2.cell 0
        have q4 := hS.2.cell 1
        have q5 := hS.2.cell 2
        clear hS hSb
        go_simp
      simp only [Act.put, List.setIfInBounds_toArray, List.set_cons_zero, List.set_cons_succ]
      refine takeH (i := 9) (o := _) (d := some 115) (v := .bool true) rfl rfl (by kernel_rfl) (by kernel_rfl) (by kernel_rfl) (fun _ _ _ h => h) (Or.inl ⟨by rfl, fun w' hS => ?_⟩) hSb ?_
      · have q0 := hS.1.cell 0
        have q1 := hS.1.cell 1
        have q2 := hS.1.cell 2
        have q3 := hS.2.cell 0
        have q4 := hS.2.cell 1
        have q5 := hS.2.cell 2
        clear hS hSb
        go_simp
      simp only [Act.put, List.setIfInBounds_toArray, List.set_cons_zero, List.set_cons_succ]
      refine takeH (i := 10) (o := _) (d := some 116) (v := undef) rfl rfl (by kernel_rfl) (by kernel_rfl) (by kernel_rfl) (fun _ _ _ h => h) (Or.inr ⟨by rfl, rfl⟩) hSb ?_
      simp only [Act.put, List.setIfInBounds_toArray, List.set_cons_zero, List.set_cons_succ]
      refine takeH (i := 11) (o := _) (d := some 117) (v := undef) rfl rfl (by kernel_rfl) (by kernel_rfl) (by kernel_rfl) (fun _ _ _ h => h) (Or.inr ⟨by rfl, rfl⟩) hSb ?_
      simp only [Act.put, List.setIfInBounds_toArray, List.set_cons_zero, List.set_cons_succ]
      refine takeH (i := 12) (o := _) (d := some 118) (v := undef) rfl rfl (by kernel_rfl) (by kernel_rfl) (by kernel_rfl) (fun _ _ _ h => h) (Or.inr ⟨by rfl, rfl⟩) hSb ?_
      simp only [Act.put, List.setIfInBounds_toArray, List.set_cons_zero, List.set_cons_succ]
      refine takeH (i := 13) (o := _) (d := some 119) (v := undef) rfl rfl (by kernel_rfl) (by kernel_rfl) (by kernel_rfl) (fun _ _ _ h => h) (Or.inr ⟨by rfl, rfl⟩) hSb ?_
      simp only [Act.put, List.setIfInBounds_toArray, List.set_cons_zero, List.set_cons_succ]
      refine takeH (i := 14) (o := _) (d := some 120) (v := undef) rfl rfl (by kernel_rfl) (by kernel_rfl) (by kernel_rfl) (fun _ _ _ h => h) (Or.inr ⟨by rfl, rfl⟩) hSb ?_
      simp only [Act.put, List.setIfInBounds_toArray, List.set_cons_zero, List.set_cons_succ]
      refine takeH (i := 15) (o := _) (d := some 121) (v := undef) rfl rfl (by kernel_rfl) (by kernel_rfl) (by kernel_rfl) (fun _ _ _ h => h) (Or.inr ⟨by rfl, rfl⟩) hSb ?_
      simp only [Act.put, List.setIfInBounds_toArray, List.set_cons_zero, List.set_cons_succ]
      refine takeH (i := 16) (o := _) (d := some 122) (v := undef) rfl rfl (by kernel_rfl) (by kernel_rfl) (by kernel_rfl) (fun _ _ _ h => h) (Or.inr ⟨by rfl, rfl⟩) hSb ?_
      simp only [Act.put, List.setIfInBounds_toArray, List.set_cons_zero, List.set_cons_succ]
      refine takeH (i := 17) (o := _) (d := some 123) (v := .bool true) rfl rfl (by kernel_rfl) (by kernel_rfl) (by kernel_rfl) (fun _ _ _ h => h) (Or.inl ⟨by rfl, fun w' hS => ?_⟩) hSb ?_
      · have q0 := hS.1.cell 0
        have q1 := hS.1.cell 1
        have q2 := hS.1.cell 2
        have q3 := hS.2.cell 0
        have q4 := hS.2.cell 1
        have q5 := hS.2.cell 2
        clear hS hSb
        go_simp
      simp only [Act.put, List.setIfInBounds_toArray, List.set_cons_zero, List.set_cons_succ]
      refine takeH (i := 18) (o := _) (d := some 124) (v := .bool true) rfl rfl (by kernel_rfl) (by kernel_rfl) (by kernel_rfl) (fun _ _ _ h => h) (Or.inl ⟨by rfl, fun w' hS => ?_⟩) hSb ?_
      · have q0 := hS.1.cell 0
        have q1 := hS.1.cell 1
        have q2 := hS.1.cell 2
        have q3 := hS.2.cell 0
        have q4 := hS.2.cell 1
        have q5 := hS.2.cell 2
        clear hS hSb
        go_simp
      simp only [Act.put, List.setIfInBounds_toArray, List.set_cons_zero, List.set_cons_succ]
      refine takeH (i := 19) (o := _) (d := some 125) (v := .bool false) rfl rfl (by kernel_rfl) (by kernel_rfl) (by kernel_rfl) (fun _ _ _ h => h) (Or.inl ⟨by rfl, fun w' hS => ?_⟩) hSb ?_
      · have q0 := hS.1.cell 0
        have q1 := hS.1.cell 1
        have q2 := hS.1.cell 2
        have q3 := hS.2.cell 0
        have q4 := hS.2.cell 1
        have q5 := hS.2.cell 2
        clear hS hSb
        go_simp
      simp only [Act.put, List.setIfInBounds_toArray, List.set_cons_zero, List.set_cons_succ]
      refine takeH (i := 20) (o := _) (d := some 126) (v := .bool false) rfl rfl (by kernel_rfl) (by kernel_rfl) (by kernel_rfl) (fun _ _ _ h => h) (Or.inl ⟨by rfl, fun w' hS => ?_⟩) hSb ?_
      · have q0 := hS.1.cell 0
        have q1 := hS.1.cell 1
        have q2 := hS.1.cell 2
        have q3 := hS.2.cell 0
        have q4 := hS.2.cell 1
        have q5 := hS.2.cell 2
        clear hS hSb
        go_simp
      simp only [Act.put, List.setIfInBounds_toArray, List.set_cons_zero, List.set_cons_succ]
      refine takeH (i := 21) (o := _) (d := some 127) (v := undef) rfl rfl (by kernel_rfl) (by kernel_rfl) (by kernel_rfl) (fun _ _ _ h => h) (Or.inr ⟨by rfl, rfl⟩) hSb ?_
      simp only [Act.put, List.setIfInBounds_toArray, List.set_cons_zero, List.set_cons_succ]
      refine takeH (i := 22) (o := _) (d := some 128) (v := undef) rfl rfl (by kernel_rfl) (by kernel_rfl) (by kernel_rfl) (fun _ _ _ h => h) (Or.inr ⟨by rfl, rfl⟩) hSb ?_
      simp only [Act.put, List.setIfInBounds_toArray, List.set_cons_zero, List.set_cons_succ]
      refine takeH (i := 23) (o := _) (d := some 129) (v := undef) rfl rfl (by kernel_rfl) (by kernel_rfl) (by kernel_rfl) (fun _ _ _ h => h) (Or.inr ⟨by rfl, rfl⟩) hSb ?_
      simp only [Act.put, List.setIfInBounds_toArray, List.set_cons_zero, List.set_cons_succ]
      refine takeH (i := 24) (o := _) (d := some 130) (v := undef) rfl rfl (by kernel_rfl) (by kernel_rfl) (by kernel_rfl) (fun _ _ _ h => h) (Or.inr ⟨by rfl, rfl⟩) hSb ?_
      simp only [Act.put, List.setIfInBounds_toArray, List.set_cons_zero, List.set_cons_succ]
      refine takeH (i := 25) (o := _) (d := some 131) (v := undef) rfl rfl (by kernel_rfl) (by kernel_rfl) (by kernel_rfl) (fun _ _ _ h => h) (Or.inr ⟨by rfl, rfl⟩) hSb ?_
      simp only [Act.put, List.setIfInBounds_toArray, List.set_cons_zero, List.set_cons_succ]
      refine takeH (i := 26) (o := _) (d := some 132) (v := undef) rfl rfl (by kernel_rfl) (by kernel_rfl) (by kernel_rfl) (fun _ _ _ h => h) (Or.inr ⟨by rfl, rfl⟩) hSb ?_
      simp only [Act.put, List.setIfInBounds_toArray, List.set_cons_zero, List.set_cons_succ]
      refine takeH (i := 27) (o := _) (d := some 133) (v := .bool false) rfl rfl (by kernel_rfl) (by kernel_rfl) (by kernel_rfl) (fun _ _ _ h => h) (Or.inl ⟨by rfl, fun w' hS => ?_⟩) hSb ?_
      · have q0 := hS.1.cell 0
        have q1 := hS.1.cell 1
        have q2 := hS.1.cell 2
        have q3 := hS.2.cell 0
        have q4 := hS.2.cell 1
        have q5 := hS.2.cell 2
        clear hS hSb
        go_simp
      simp only [Act.put, List.setIfInBounds_toArray, List.set_cons_zero, List.set_cons_succ]
      refine takeH (i := 28) (o := _) (d := some 134) (v := .bool false) rfl rfl (by kernel_rfl) (by kernel_rfl) (by kernel_rfl) (fun _ _ _ h => h) (Or.inl ⟨by rfl, fun w' hS => ?_⟩) hSb ?_
      · have q0 := hS.1.cell 0
        have q1 := hS.1.cell 1
        have q2 := hS.1.cell 2
        have q3 := hS.2.cell 0
        have q4 := hS.2.cell 1
        have q5 := hS.2.cell 2
        clear hS hSb
        go_simp
      simp only [Act.put, List.setIfInBounds_toArray, List.set_cons_zero, List.set_cons_succ]
      refine takeH (i := 29) (o := _) (d := some 135) (v := .bool false) rfl rfl (by kernel_rfl) (by kernel_rfl) (by kernel_rfl) (fun _ _ _ h => h) (Or.inl ⟨by rfl, fun w' hS => ?_⟩) hSb ?_
      · have q0 := hS.1.cell 0
        have q1 := hS.1.cell 1
        have q2 := hS.1.cell 2
        have q3 := hS.2.cell 0
        have q4 := hS.2.cell 1
        have q5 := hS.2.cell 2
        clear hS hSb
        go_simp
      simp only [Act.put, List.setIfInBounds_toArray, List.set_cons_zero, List.set_cons_succ]
      refine takeH (i := 30) (o := _) (d := some 136) (v := .bool true) rfl rfl (by kernel_rfl) (by kernel_rfl) (by kernel_rfl) (fun _ _ _ h => h) (Or.inl ⟨by rfl, fun w' hS => ?_⟩) hSb ?_
      · have q0 := hS.1.cell 0
        have q1 := hS.1.cell 1
        have q2 := hS.1.cell 2
        have q3 := hS.2.cell 0
        have q4 := hS.2.cell 1
        have q5 := hS.2.cell 2
        clear hS hSb
        go_simp
      simp only [Act.put, List.setIfInBounds_toArray, List.set_cons_zero, List.set_cons_succ]
      refine takeH (i := 31) (o := _) (d := some 137) (v := .bool true) rfl rfl (by kernel_rfl) (by kernel_rfl) (by kernel_rfl) (fun _ _ _ h => h) (Or.inl ⟨by rfl, fun w' hS => ?_⟩) hSb ?_
      · have q0 := hS.1.cell 0
        have q1 := hS.1.cell 1
        have q2 := hS.1.cell 2
        have q3 := hS.2.cell 0
        have q4 := hS.2.cell 1
        have q5 := hS.2.cell 2
        clear hS hSb
        go_simp
      simp only [Act.put, List.setIfInBounds_toArray, List.set_cons_zero, List.set_cons_succ]
      refine takeH (i := 32) (o := _) (d := some 138) (v := .agg #[.bool false, .slice none 0 0, .int .i64 0]) rfl rfl (by kernel_rfl) (by kernel_rfl) (by kernel_rfl) (fun _ _ _ h => h) (Or.inl ⟨by rfl, fun w' hS => ?_⟩) hSb ?_
      · have q0 := hS.1.cell 0
        have q1 := hS.1.cell 1
        have q2 := hS.1.cell 2
        have q3 := hS.2.cell 0
        have q4 := hS.2.cell 1
        have q5 := hS.2.cell 2
        clear hS hSb
        go_simp
      simp only [Act.put, List.setIfInBounds_toArray, List.set_cons_zero, List.set_cons_succ]
      refine takeH (i := 33) (o := _) (d := some 139) (v := zeroN) rfl rfl (by kernel_rfl) (by kernel_rfl) (by kernel_rfl) (fun _ _ _ h => h) (Or.inl ⟨by rfl, fun w' hS => ?_⟩) hSb ?_
      · have q0 := hS.1.cell 0
        have q1 := hS.1.cell 1
        have q2 := hS.1.cell 2
        have q3 := hS.2.cell 0
        have q4 := hS.2.cell 1
        have q5 := hS.2.cell 2
        clear hS hSb
        simp [go_sem, zeroN]
      simp only [Act.put, List.setIfInBounds_toArray, List.set_cons_zero, List.set_cons_succ]
      refine wpAnyH_all (rs := [34]) (by kernel_rfl) (by simp) ?_
      intro j hj
      obtain rfl := List.mem_singleton.1 hj
      clear hj
      refine opGoW (o := _) rfl (by rfl) ?_
      go_simp
      refine (HSZ.out _).mono ?_
      rintro e wd ⟨rfl, f10⟩
      have KD := Lib.hid f10
      have hSd := hSb.keep f10
      clear f10 hSb
      refine ⟨hSd, ?_⟩
      refine takeH (i := 35) (o := _) (d := some 141) (v := .bool true) rfl rfl (by kernel_rfl) (by kernel_rfl) (by kernel_rfl) (fun _ _ _ h => h) (Or.inl ⟨by rfl, fun w' hS => ?_⟩) hSd ?_
      · have q0 := hS.1.cell 0
        have q1 := hS.1.cell 1
        have q2 := hS.1.cell 2
        have q3 := hS.2.cell 0
        have q4 := hS.2.cell 1
        have q5 := hS.2.cell 2
        clear hS hSd
        go_simp
      simp only [Act.put, List.setIfInBounds_toArray, List.set_cons_zero, List.set_cons_succ]
      refine takeH (i := 36) (o := _) (d := some 142) (v := .bool true) rfl rfl (by kernel_rfl) (by kernel_rfl) (by kernel_rfl) (fun _ _ _ h => h) (Or.inl ⟨by rfl, fun w' hS => ?_⟩) hSd ?_
      · have q0 := hS.1.cell 0
        have q1 := hS.1.cell 1
        have q2 := hS.1.cell 2
        have q3 := hS.2.cell 0
        have q4 := hS.2.cell 1
        have q5 := hS.2.cell 2
        clear hS hSd
        go_simp
      simp only [Act.put, List.setIfInBounds_toArray, List.set_cons_zero, List.set_cons_succ]
      refine takeH (i := 37) (o := _) (d := some 143) (v := .bool true) rfl rfl (by kernel_rfl) (by kernel_rfl) (by kernel_rfl) (fun _ _ _ h => h) (Or.inl ⟨by rfl, fun w' hS => ?_⟩) hSd ?_
      · have q0 := hS.1.cell 0
        have q1 := hS.1.cell 1
        have q2 := hS.1.cell 2
        have q3 := hS.2.cell 0
        have q4 := hS.2.cell 1
        have q5 := hS.2.cell 2
        clear hS hSd
        go_simp
      simp only [Act.put, List.setIfInBounds_toArray, List.set_cons_zero, List.set_cons_succ]
      refine takeH (i := 38) (o := _) (d := some 10) (v := .bool true) rfl rfl (by kernel_rfl) (by kernel_rfl) (by kernel_rfl) (fun _ _ _ h => h) (Or.inl ⟨by rfl, fun w' hS => ?_⟩) hSd ?_
      · have q0 := hS.1.cell 0
        have q1 := hS.1.cell 1
        have q2 := hS.1.cell 2
        have q3 := hS.2.cell 0
        have q4 := hS.2.cell 1
        have q5 := hS.2.cell 2
        clear hS hSd
        go_simp
      simp only [Act.put, List.setIfInBounds_toArray, List.set_cons_zero, List.set_cons_succ]
      refine wpAnyH_done (by kernel_rfl) ?_ _
      go_wp2_with fail
      go_ret
      exact ⟨rfl, ⟨_, _, by omega, P1.out.1.keep KD.out⟩, P1.out.2.1.trans KD.out (fun _ h => h) (fun _ _ h => h)⟩
  · clear YC
    obtain ⟨hz0, rfl, htw⟩ | ⟨hz0, rfl, rfl, rfl, rfl, rfl, rfl⟩ := ZC.out
    · have HTW3 := Lib.hid htw
      have TM := TM2
      clear htw ZC
      have HFT := Lib.hid (finite_any b HB.out w12)
      have HCL := Lib.hid (rClass32_any b w12)
      rw [hy0] at HFT
      have hc3 : cl3 b < 3 := of_decide_eq_true hz0
      generalize cl3 b = k3 at HCL hc3
      clear hy0 hz0
      have HSZ : Hid (∀ W, Calls Tryd.prog 10 #[.agg #[.bool false, .slice none 0 0, .int .i64 0], .agg #[.bool false, .slice none 0 0, .int .i64 0]] W fun e w' => e = .returned (.bool true) ∧ Fr W w' None) :=
        Lib.hid fun W => same_agg (.slice none 0 0) (.slice none 0 0) false 0 (fun _ => 0) 0 W (by omega) ⟨_, _, rfl, fun j hj => by omega⟩ ⟨_, _, rfl, fun j hj => by omega⟩
      have TZK : Hid (∀ W, Fr w12 W None → (KeepV W kb 1 w0.heap.size w2.heap.size ∧ Fr w0 W None ∧ At W b12z #[.bool zg, .slice za zm zc, .int .i64 zE] 31 ∧ ∀ (n : Nat) (x : Nat → Int), VRow w11 (.slice za zm zc) n (fun j => .int .i64 (x j)) 3 w10.heap.size → VRow W (.slice za zm zc) n (fun j => .int .i64 (x j)) 3 w0.heap.size)) :=
        Lib.hid fun W g1 => ⟨K12.out.1.keep g1, K12.out.2.trans g1 (fun _ h => h) (fun _ _ h => h), T18.out.keep g1 (fun x => x), fun n x hv => ((hv.keep F1112.out).keep g1).low Z10.out⟩
      have G1 : Hid True := Lib.hid trivial
      have HRO3 := Lib.hid (fun W => rOf32_any b W)
      have ISZ : Hid (∀ (W : World) (ua : Option Addr) (un uc : Nat) (xs : Nat → Int), ((KeepV W kb 1 w0.heap.size w2.heap.size ∧ Fr w0 W None ∧ At W b12z #[.bool zg, .slice za zm zc, .int .i64 zE] 31 ∧ ∀ (n : Nat) (x : Nat → Int), VRow w11 (.slice za zm zc) n (fun j => .int .i64 (x j)) 3 w10.heap.size → VRow W (.slice za zm zc) n (fun j => .int .i64 (x j)) 3 w0.heap.size) ∧ un ≤ 2000 ∧ VRow w11 (.slice za zm zc) un (fun j => .int .i64 (xs j)) 3 w10.heap.size ∧ VRow W (.slice ua un uc) un (fun j => .int .i64 (xs j)) 3 w0.heap.size ∧ ValidP zg un xs zE) →
          Calls Tryd.prog 19 #[.pointer (some ⟨kb, 0, none⟩), .agg #[.bool zg, .slice za zm zc, .int .i64 zE], .int .i64 0, .bool false, .agg #[.bool zg, .slice ua un uc, .int .i64 zE]] W (AddPost kb 1 w0.heap.size w11.heap.size w0 W)) :=
        Lib.hid fun W ua un uc xs ⟨⟨g1, g2, g3, g4⟩, g5, g6, g7, g8⟩ => is_ok kb 1 un w2.heap.size w11.heap.size (.slice za zm zc) (.slice ua un uc) zg xs zE w0 W (by omega) g5 g1 (g4 _ _ g6) (Or.inr g7) g2 (Nat.le_trans TM.out G11.out.size) (fun q hq => Nat.le_trans TM.out (ZQ.out q hq).1) (fun q hq => (ZQ.out q hq).2) g8
      have c0 := T16.out.cell 0
      have c1 := T16.out.cell 1
      have c2 := T16.out.cell 2
      go_wp2_with fail
      refine (HFT.out).mono ?_
      rintro en wq ⟨rfl, rfl⟩
      go_wp2_with fail
      refine (HCL.out).mono ?_
      rintro en wq ⟨rfl, rfl⟩
      go_wp2_with fail
      clear c0 c1 c2
      have S0 : TwoAt b16 b12z (#[.bool false, .slice none 0 0, .int .i64 0]) (#[.bool zg, .slice za zm zc, .int .i64 zE]) w12.drew := ⟨T16.out.keep (Fr.refl w12 None).drew (fun x => x), T18.out.keep (Fr.refl w12 None).drew (fun x => x)⟩
      refine wp_region_held_drew (S := TwoAt b16 b12z (#[.bool false, .slice none 0 0, .int .i64 0]) (#[.bool zg, .slice za zm zc, .int .i64 zE])) (by kernel_rfl) S0 ?_
      clear S0
      intro hS0
      refine takeH (i := 0) (o := _) (d := some 106) (v := .bool false) rfl rfl (by kernel_rfl) (by kernel_rfl) (by kernel_rfl) (fun _ _ _ h => h) (Or.inl ⟨by rfl, fun w' hS => ?_⟩) hS0 ?_
      · have q0 := hS.1.cell 0
        have q1 := hS.1.cell 1
        have q2 := hS.1.cell 2
        have q3 := hS.2.cell 0
        have q4 := hS.2.cell 1
        have q5 := hS.2.cell 2
        clear hS hS0
        go_simp
      simp only [Act.put, List.setIfInBounds_toArray, List.set_cons_zero, List.set_cons_succ]
      refine takeH (i := 1) (o := _) (d := some 107) (v := .bool false) rfl rfl (by kernel_rfl) (by kernel_rfl) (by kernel_rfl) (fun _ _ _ h => h) (Or.inl ⟨by rfl, fun w' hS => ?_⟩) hS0 ?_
      · have q0 := hS.1.cell 0
        have q1 := hS.1.cell 1
        have q2 := hS.1.cell 2
        have q3 := hS.2.cell 0
        have q4 := hS.2.cell 1
        have q5 := hS.2.cell 2
        clear hS hS0
        go_simp
      simp only [Act.put, List.setIfInBounds_toArray, List.set_cons_zero, List.set_cons_succ]
      refine takeH (i := 2) (o := _) (d := some 108) (v := undef) rfl rfl (by kernel_rfl) (by kernel_rfl) (by kernel_rfl) (fun _ _ _ h => h) (Or.inr ⟨by rfl, rfl⟩) hS0 ?_
      simp only [Act.put, List.setIfInBounds_toArray, List.set_cons_zero, List.set_cons_succ]
      refine takeH (i := 3) (o := _) (d := some 109) (v := undef) rfl rfl (by kernel_rfl) (by kernel_rfl) (by kernel_rfl) (fun _ _ _ h => h) (Or.inr ⟨by rfl, rfl⟩) hS0 ?_
      simp only [Act.put, List.setIfInBounds_toArray, List.set_cons_zero, List.set_cons_succ]
      refine takeH (i := 4) (o := _) (d := some 110) (v := undef) rfl rfl (by kernel_rfl) (by kernel_rfl) (by kernel_rfl) (fun _ _ _ h => h) (Or.inr ⟨by rfl, rfl⟩) hS0 ?_
      simp only [Act.put, List.setIfInBounds_toArray, List.set_cons_zero, List.set_cons_succ]
      refine takeH (i := 5) (o := _) (d := some 111) (v := undef) rfl rfl (by kernel_rfl) (by kernel_rfl) (by kernel_rfl) (fun _ _ _ h => h) (Or.inr ⟨by rfl, rfl⟩) hS0 ?_
      simp only [Act.put, List.setIfInBounds_toArray, List.set_cons_zero, List.set_cons_succ]
      refine takeH (i := 6) (o := _) (d := some 112) (v := undef) rfl rfl (by kernel_rfl) (by kernel_rfl) (by kernel_rfl) (fun _ _ _ h => h) (Or.inr ⟨by rfl, rfl⟩) hS0 ?_
      simp only [Act.put, List.setIfInBounds_toArray, List.set_cons_zero, List.set_cons_succ]
      refine takeH (i := 7) (o := _) (d := some 113) (v := undef) rfl rfl (by kernel_rfl) (by kernel_rfl) (by kernel_rfl) (fun _ _ _ h => h) (Or.inr ⟨by rfl, rfl⟩) hS0 ?_
      simp only [Act.put, List.setIfInBounds_toArray, List.set_cons_zero, List.set_cons_succ]
      refine takeH (i := 8) (o := _) (d := some 114) (v := .bool false) rfl rfl (by kernel_rfl) (by kernel_rfl) (by kernel_rfl) (fun _ _ _ h => h) (Or.inl ⟨by rfl, fun w' hS => ?_⟩) hS0 ?_
      · have q0 := hS.1.cell 0
        have q1 := hS.1.cell 1
        have q2 := hS.1.cell 2
        have q3 := hS.2.cell 0
        have q4 := hS.2.cell 1
        have q5 := hS.2.cell 2
        clear hS hS0
        go_simp
      simp only [Act.put, List.setIfInBounds_toArray, List.set_cons_zero, List.set_cons_succ]
      refine takeH (i := 9) (o := _) (d := some 115) (v := .bool false) rfl rfl (by kernel_rfl) (by kernel_rfl) (by kernel_rfl) (fun _ _ _ h => h) (Or.inl ⟨by rfl, fun w' hS => ?_⟩) hS0 ?_
      · have q0 := hS.1.cell 0
        have q1 := hS.1.cell 1
        have q2 := hS.1.cell 2
        have q3 := hS.2.cell 0
        have q4 := hS.2.cell 1
        have q5 := hS.2.cell 2
        clear hS hS0
        go_simp
      simp only [Act.put, List.setIfInBounds_toArray, List.set_cons_zero, List.set_cons_succ]
      refine takeH (i := 10) (o := _) (d := some 116) (v := .bool false) rfl rfl (by kernel_rfl) (by kernel_rfl) (by kernel_rfl) (fun _ _ _ h => h) (Or.inl ⟨by rfl, fun w' hS => ?_⟩) hS0 ?_
      · have q0 := hS.1.cell 0
        have q1 := hS.1.cell 1
        have q2 := hS.1.cell 2
        have q3 := hS.2.cell 0
        have q4 := hS.2.cell 1
        have q5 := hS.2.cell 2
        clear hS hS0
        go_simp
      simp only [Act.put, List.setIfInBounds_toArray, List.set_cons_zero, List.set_cons_succ]
      refine takeH (i := 11) (o := _) (d := some 117) (v := .bool true) rfl rfl (by kernel_rfl) (by kernel_rfl) (by kernel_rfl) (fun _ _ _ h => h) (Or.inl ⟨by rfl, fun w' hS => ?_⟩) hS0 ?_
      · have q0 := hS.1.cell 0
        have q1 := hS.1.cell 1
        have q2 := hS.1.cell 2
        have q3 := hS.2.cell 0
        have q4 := hS.2.cell 1
        have q5 := hS.2.cell 2
        clear hS hS0
        go_simp
      simp only [Act.put, List.setIfInBounds_toArray, List.set_cons_zero, List.set_cons_succ]
      refine takeH (i := 12) (o := _) (d := some 118) (v := .bool true) rfl rfl (by kernel_rfl) (by kernel_rfl) (by kernel_rfl) (fun _ _ _ h => h) (Or.inl ⟨by rfl, fun w' hS => ?_⟩) hS0 ?_
      · have q0 := hS.1.cell 0
        have q1 := hS.1.cell 1
        have q2 := hS.1.cell 2
        have q3 := hS.2.cell 0
        have q4 := hS.2.cell 1
        have q5 := hS.2.cell 2
        clear hS hS0
        go_simp
      simp only [Act.put, List.setIfInBounds_toArray, List.set_cons_zero, List.set_cons_succ]
      refine takeH (i := 13) (o := _) (d := some 119) (v := .agg #[.bool false, .slice none 0 0, .int .i64 0]) rfl rfl (by kernel_rfl) (by kernel_rfl) (by kernel_rfl) (fun _ _ _ h => h) (Or.inl ⟨by rfl, fun w' hS => ?_⟩) hS0 ?_
      · have q0 := hS.1.cell 0
        have q1 := hS.1.cell 1
        have q2 := hS.1.cell 2
        have q3 := hS.2.cell 0
        have q4 := hS.2.cell 1
        have q5 := hS.2.cell 2
        clear hS hS0
        go_simp
      simp only [Act.put, List.setIfInBounds_toArray, List.set_cons_zero, List.set_cons_succ]
      refine takeH (i := 14) (o := _) (d := some 120) (v := zeroN) rfl rfl (by kernel_rfl) (by kernel_rfl) (by kernel_rfl) (fun _ _ _ h => h) (Or.inl ⟨by rfl, fun w' hS => ?_⟩) hS0 ?_
      · have q0 := hS.1.cell 0
        have q1 := hS.1.cell 1
        have q2 := hS.1.cell 2
        have q3 := hS.2.cell 0
        have q4 := hS.2.cell 1
        have q5 := hS.2.cell 2
        clear hS hS0
        simp [go_sem, zeroN]
      simp only [Act.put, List.setIfInBounds_toArray, List.set_cons_zero, List.set_cons_succ]
      refine wpAnyH_all (rs := [15]) (by kernel_rfl) (by simp) ?_
      intro j hj
      obtain rfl := List.mem_singleton.1 hj
      clear hj
      refine opGoW (o := _) rfl (by rfl) ?_
      go_simp
      refine (HSZ.out _).mono ?_
      rintro e wb ⟨rfl, f9⟩
      have hSb := hS0.keep f9
      replace f9 := Fr.undrew f9
      have P1 := Lib.hid (TZK.out wb f9)
      clear f9 hS0
      refine ⟨hSb, ?_⟩
      refine takeH (i := 16) (o := _) (d := some 122) (v := .bool true) rfl rfl (by kernel_rfl) (by kernel_rfl) (by kernel_rfl) (fun _ _ _ h => h) (Or.inl ⟨by rfl, fun w' hS => ?_⟩) hSb ?_
      · have q0 := hS.1.cell 0
        have q1 := hS.1.cell 1
        have q2 := hS.1.cell 2
        have q3 := hS.2.cell 0
        have q4 := hS.2.cell 1
        have q5 := hS.2.cell 2
        clear hS hSb
        go_simp
      simp only [Act.put, List.setIfInBounds_toArray, List.set_cons_zero, List.set_cons_succ]
      refine takeH (i := 17) (o := _) (d := some 123) (v := .bool true) rfl rfl (by kernel_rfl) (by kernel_rfl) (by kernel_rfl) (fun _ _ _ h => h) (Or.inl ⟨by rfl, fun w' hS => ?_⟩) hSb ?_
      · have q0 := hS.1.cell 0
        have q1 := hS.1.cell 1
        have q2 := hS.1.cell 2
        have q3 := hS.2.cell 0
        have q4 := hS.2.cell 1
        have q5 := hS.2.cell 2
        clear hS hSb
        go_simp
      simp only [Act.put, List.setIfInBounds_toArray, List.set_cons_zero, List.set_cons_succ]
      refine takeH (i := 18) (o := _) (d := some 124) (v := .bool true) rfl rfl (by kernel_rfl) (by kernel_rfl) (by kernel_rfl) (fun _ _ _ h => h) (Or.inl ⟨by rfl, fun w' hS => ?_⟩) hSb ?_
      · have q0 := hS.1.cell 0
        have q1 := hS.1.cell 1
        have q2 := hS.1.cell 2
        have q3 := hS.2.cell 0
        have q4 := hS.2.cell 1
        have q5 := hS.2.cell 2
        clear hS hSb
        go_simp
      simp only [Act.put, List.setIfInBounds_toArray, List.set_cons_zero, List.set_cons_succ]
      refine takeH (i := 19) (o := _) (d := some 125) (v := .bool true) rfl rfl (by kernel_rfl) (by kernel_rfl) (by kernel_rfl) (fun _ _ _ h => h) (Or.inl ⟨by rfl, fun w' hS => ?_⟩) hSb ?_
      · have q0 := hS.1.cell 0
        have q1 := hS.1.cell 1
        have q2 := hS.1.cell 2
        have q3 := hS.2.cell 0
        have q4 := hS.2.cell 1
        have q5 := hS.2.cell 2
        clear hS hSb
        go_simp
      simp only [Act.put, List.setIfInBounds_toArray, List.set_cons_zero, List.set_cons_succ]
      refine takeH (i := 20) (o := _) (d := some 126) (v := .bool true) rfl rfl (by kernel_rfl) (by kernel_rfl) (by kernel_rfl) (fun _ _ _ h => h) (Or.inl ⟨by rfl, fun w' hS => ?_⟩) hSb ?_
      · have q0 := hS.1.cell 0
        have q1 := hS.1.cell 1
        have q2 := hS.1.cell 2
        have q3 := hS.2.cell 0
        have q4 := hS.2.cell 1
        have q5 := hS.2.cell 2
        clear hS hSb
        go_simp
      simp only [Act.put, List.setIfInBounds_toArray, List.set_cons_zero, List.set_cons_succ]
      refine takeH (i := 21) (o := _) (d := some 127) (v := .pointer (some ⟨kb, 0, none⟩)) rfl rfl (by kernel_rfl) (by kernel_rfl) (by kernel_rfl) (fun _ _ _ h => h) (Or.inl ⟨by rfl, fun w' hS => ?_⟩) hSb ?_
      · have q0 := hS.1.cell 0
        have q1 := hS.1.cell 1
        have q2 := hS.1.cell 2
        have q3 := hS.2.cell 0
        have q4 := hS.2.cell 1
        have q5 := hS.2.cell 2
        clear hS hSb
        go_simp
      simp only [Act.put, List.setIfInBounds_toArray, List.set_cons_zero, List.set_cons_succ]
      refine takeH (i := 22) (o := _) (d := some 128) (v := .agg #[.bool zg, .slice za zm zc, .int .i64 zE]) rfl rfl (by kernel_rfl) (by kernel_rfl) (by kernel_rfl) (fun _ _ _ h => h) (Or.inl ⟨by rfl, fun w' hS => ?_⟩) hSb ?_
      · have q0 := hS.1.cell 0
        have q1 := hS.1.cell 1
        have q2 := hS.1.cell 2
        have q3 := hS.2.cell 0
        have q4 := hS.2.cell 1
        have q5 := hS.2.cell 2
        clear hS hSb
        go_simp
      simp only [Act.put, List.setIfInBounds_toArray, List.set_cons_zero, List.set_cons_succ]
      refine takeH (i := 23) (o := _) (d := some 129) (v := .int .i64 0) rfl rfl (by kernel_rfl) (by kernel_rfl) (by kernel_rfl) (fun _ _ _ h => h) (Or.inl ⟨by rfl, fun w' hS => ?_⟩) hSb ?_
      · have q0 := hS.1.cell 0
        have q1 := hS.1.cell 1
        have q2 := hS.1.cell 2
        have q3 := hS.2.cell 0
        have q4 := hS.2.cell 1
        have q5 := hS.2.cell 2
        clear hS hSb
        go_simp
      simp only [Act.put, List.setIfInBounds_toArray, List.set_cons_zero, List.set_cons_succ]
      refine takeH (i := 24) (o := _) (d := some 130) (v := .int .i64 b) rfl rfl (by kernel_rfl) (by kernel_rfl) (by kernel_rfl) (fun _ _ _ h => h) (Or.inl ⟨by rfl, fun w' hS => ?_⟩) hSb ?_
      · have q0 := hS.1.cell 0
        have q1 := hS.1.cell 1
        have q2 := hS.1.cell 2
        have q3 := hS.2.cell 0
        have q4 := hS.2.cell 1
        have q5 := hS.2.cell 2
        clear hS hSb
        go_simp
      simp only [Act.put, List.setIfInBounds_toArray, List.set_cons_zero, List.set_cons_succ]
      refine wpAnyH_all (rs := [25]) (by kernel_rfl) (by simp) ?_
      intro j hj
      obtain rfl := List.mem_singleton.1 hj
      clear hj
      refine opGoW (o := _) rfl (by rfl) ?_
      go_simp
      refine (HRO3.out _).mono ?_
      rintro e wc hno
      obtain ⟨ub, um, ud, rfl, fc0, xs3, hn3, hs1, hs2, hP3⟩ := HTW3.out _ _ _ hno
      obtain ⟨y1, y2, y3, y4⟩ := P1.out
      have hSc := hSb.keep fc0
      have PC := Lib.hid (And.intro (And.intro (y1.keep fc0) (And.intro (y2.trans fc0 (fun _ h => h) (fun _ _ h => h)) (And.intro (y3.keep fc0 (fun x => x)) (fun n x hv => (y4 n x hv).keep fc0)))) (And.intro hn3 (And.intro hs1 (And.intro (hs2.low y2.size) hP3))))
      clear hno fc0 hn3 hs1 hs2 hP3 y1 y2 y3 y4 hSb
      refine ⟨hSc, ?_⟩
      refine wpAnyH_all (rs := [26]) (by kernel_rfl) (by simp) ?_
      intro j hj
      obtain rfl := List.mem_singleton.1 hj
      clear hj
      refine opGoW (o := _) rfl (by rfl) ?_
      go_simp
      refine (ISZ.out wc ub um ud xs3 PC.out).mono ?_
      rintro e wd ⟨rfl, k10, f10, fr10⟩
      have KD := Lib.hid (And.intro k10 f10)
      have hSd : TwoAt b16 b12z (#[.bool false, .slice none 0 0, .int .i64 0]) (#[.bool zg, .slice za zm zc, .int .i64 zE]) wd := TwoAt.over hSc PC.out.1.1 fr10
      clear k10 f10 fr10 hSc
      refine ⟨hSd, ?_⟩
      refine takeH (i := 27) (o := _) (d := some 133) (v := .bool true) rfl rfl (by kernel_rfl) (by kernel_rfl) (by kernel_rfl) (fun _ _ _ h => h) (Or.inl ⟨by rfl, fun w' hS => ?_⟩) hSd ?_
      · have q0 := hS.1.cell 0
        have q1 := hS.1.cell 1
        have q2 := hS.1.cell 2
        have q3 := hS.2.cell 0
        have q4 := hS.2.cell 1
        have q5 := hS.2.cell 2
        clear hS hSd
        go_simp
      simp only [Act.put, List.setIfInBounds_toArray, List.set_cons_zero, List.set_cons_succ]
      refine takeH (i := 28) (o := _) (d := some 134) (v := .bool true) rfl rfl (by kernel_rfl) (by kernel_rfl) (by kernel_rfl) (fun _ _ _ h => h) (Or.inl ⟨by rfl, fun w' hS => ?_⟩) hSd ?_
      · have q0 := hS.1.cell 0
        have q1 := hS.1.cell 1
        have q2 := hS.1.cell 2
        have q3 := hS.2.cell 0
        have q4 := hS.2.cell 1
        have q5 := hS.2.cell 2
        clear hS hSd
        go_simp
      simp only [Act.put, List.setIfInBounds_toArray, List.set_cons_zero, List.set_cons_succ]
      refine takeH (i := 29) (o := _) (d := some 135) (v := undef) rfl rfl (by kernel_rfl) (by kernel_rfl) (by kernel_rfl) (fun _ _ _ h => h) (Or.inr ⟨by rfl, rfl⟩) hSd ?_
      simp only [Act.put, List.setIfInBounds_toArray, List.set_cons_zero, List.set_cons_succ]
      refine takeH (i := 30) (o := _) (d := some 136) (v := undef) rfl rfl (by kernel_rfl) (by kernel_rfl) (by kernel_rfl) (fun _ _ _ h => h) (Or.inr ⟨by rfl, rfl⟩) hSd ?_
      simp only [Act.put, List.setIfInBounds_toArray, List.set_cons_zero, List.set_cons_succ]
      refine takeH (i := 31) (o := _) (d := some 137) (v := undef) rfl rfl (by kernel_rfl) (by kernel_rfl) (by kernel_rfl) (fun _ _ _ h => h) (Or.inr ⟨by rfl, rfl⟩) hSd ?_
      simp only [Act.put, List.setIfInBounds_toArray, List.set_cons_zero, List.set_cons_succ]
      refine takeH (i := 32) (o := _) (d := some 138) (v := undef) rfl rfl (by kernel_rfl) (by kernel_rfl) (by kernel_rfl) (fun _ _ _ h => h) (Or.inr ⟨by rfl, rfl⟩) hSd ?_
      simp only [Act.put, List.setIfInBounds_toArray, List.set_cons_zero, List.set_cons_succ]
      refine takeH (i := 33) (o := _) (d := some 139) (v := undef) rfl rfl (by kernel_rfl) (by kernel_rfl) (by kernel_rfl) (fun _ _ _ h => h) (Or.inr ⟨by rfl, rfl⟩) hSd ?_
      simp only [Act.put, List.setIfInBounds_toArray, List.set_cons_zero, List.set_cons_succ]
      refine takeH (i := 34) (o := _) (d := some 140) (v := undef) rfl rfl (by kernel_rfl) (by kernel_rfl) (by kernel_rfl) (fun _ _ _ h => h) (Or.inr ⟨by rfl, rfl⟩) hSd ?_
      simp only [Act.put, List.setIfInBounds_toArray, List.set_cons_zero, List.set_cons_succ]
      refine takeH (i := 35) (o := _) (d := some 141) (v := undef) rfl rfl (by kernel_rfl) (by kernel_rfl) (by kernel_rfl) (fun _ _ _ h => h) (Or.inr ⟨by rfl, rfl⟩) hSd ?_
      simp only [Act.put, List.setIfInBounds_toArray, List.set_cons_zero, List.set_cons_succ]
      refine takeH (i := 36) (o := _) (d := some 142) (v := .bool true) rfl rfl (by kernel_rfl) (by kernel_rfl) (by kernel_rfl) (fun _ _ _ h => h) (Or.inl ⟨by rfl, fun w' hS => ?_⟩) hSd ?_
      · have q0 := hS.1.cell 0
        have q1 := hS.1.cell 1
        have q2 := hS.1.cell 2
        have q3 := hS.2.cell 0
        have q4 := hS.2.cell 1
        have q5 := hS.2.cell 2
        clear hS hSd
        go_simp
      simp only [Act.put, List.setIfInBounds_toArray, List.set_cons_zero, List.set_cons_succ]
      refine takeH (i := 37) (o := _) (d := some 143) (v := .bool true) rfl rfl (by kernel_rfl) (by kernel_rfl) (by kernel_rfl) (fun _ _ _ h => h) (Or.inl ⟨by rfl, fun w' hS => ?_⟩) hSd ?_
      · have q0 := hS.1.cell 0
        have q1 := hS.1.cell 1
        have q2 := hS.1.cell 2
        have q3 := hS.2.cell 0
        have q4 := hS.2.cell 1
        have q5 := hS.2.cell 2
        clear hS hSd
        go_simp
      simp only [Act.put, List.setIfInBounds_toArray, List.set_cons_zero, List.set_cons_succ]
      refine takeH (i := 38) (o := _) (d := some 10) (v := .bool true) rfl rfl (by kernel_rfl) (by kernel_rfl) (by kernel_rfl) (fun _ _ _ h => h) (Or.inl ⟨by rfl, fun w' hS => ?_⟩) hSd ?_
      · have q0 := hS.1.cell 0
        have q1 := hS.1.cell 1
        have q2 := hS.1.cell 2
        have q3 := hS.2.cell 0
        have q4 := hS.2.cell 1
        have q5 := hS.2.cell 2
        clear hS hSd
        go_simp
      simp only [Act.put, List.setIfInBounds_toArray, List.set_cons_zero, List.set_cons_succ]
      refine wpAnyH_done (by kernel_rfl) ?_ _
      go_wp2_with fail
      go_ret
      exact ⟨rfl, ⟨_, _, by omega, KD.out.1⟩, KD.out.2⟩
    · clear ZC
      have HFT := Lib.hid (finite_any b HB.out w12)
      have HCL := Lib.hid (rClass32_any b w12)
      rw [hy0] at HFT
      have hc3 : 3 ≤ cl3 b := by have := of_decide_eq_false hz0; omega
      generalize cl3 b = k3 at HCL hc3
      clear hy0 hz0
      have HSZ : Hid (∀ W, Calls Tryd.prog 10 #[.agg #[.bool false, .slice none 0 0, .int .i64 0], .agg #[.bool false, .slice none 0 0, .int .i64 0]] W fun e w' => e = .returned (.bool true) ∧ Fr W w' None) :=
        Lib.hid fun W => same_agg (.slice none 0 0) (.slice none 0 0) false 0 (fun _ => 0) 0 W (by omega) ⟨_, _, rfl, fun j hj => by omega⟩ ⟨_, _, rfl, fun j hj => by omega⟩
      have TZK : Hid (∀ W, Fr w12 W None → (KeepV W kb 1 w0.heap.size w2.heap.size ∧ Fr w0 W None ∧ At W b12z #[.bool false, .slice none 0 0, .int .i64 0] 31 ∧ ∀ (n : Nat) (x : Nat → Int), VRow w11 (.slice none 0 0) n (fun j => .int .i64 (x j)) 3 w10.heap.size → VRow W (.slice none 0 0) n (fun j => .int .i64 (x j)) 3 w0.heap.size)) :=
        Lib.hid fun W g1 => ⟨K12.out.1.keep g1, K12.out.2.trans g1 (fun _ h => h) (fun _ _ h => h), T18.out.keep g1 (fun x => x), fun n x hv => ((hv.keep F1112.out).keep g1).low Z10.out⟩
      have G1 : Hid True := Lib.hid trivial
      have c0 := T16.out.cell 0
      have c1 := T16.out.cell 1
      have c2 := T16.out.cell 2
      go_wp2_with fail
      refine (HFT.out).mono ?_
      rintro en wq ⟨rfl, rfl⟩
      go_wp2_with fail
      refine (HCL.out).mono ?_
      rintro en wq ⟨rfl, rfl⟩
      go_wp2_with fail
      clear c0 c1 c2
      have S0 : TwoAt b16 b12z (#[.bool false, .slice none 0 0, .int .i64 0]) (#[.bool false, .slice none 0 0, .int .i64 0]) w12.drew := ⟨T16.out.keep (Fr.refl w12 None).drew (fun x => x), T18.out.keep (Fr.refl w12 None).drew (fun x => x)⟩
      refine wp_region_held_drew (S := TwoAt b16 b12z (#[.bool false, .slice none 0 0, .int .i64 0]) (#[.bool false, .slice none 0 0, .int .i64 0])) (by kernel_rfl) S0 ?_
      clear S0
      intro hS0
      refine takeH (i := 0) (o := _) (d := some 106) (v := .bool false) rfl rfl (by kernel_rfl) (by kernel_rfl) (by kernel_rfl) (fun _ _ _ h => h) (Or.inl ⟨by rfl, fun w' hS => ?_⟩) hS0 ?_
      · have q0 := hS.1.cell 0
        have q1 := hS.1.cell 1
        have q2 := hS.1.cell 2
        have q3 := hS.2.cell 0
        have q4 := hS.2.cell 1
        have q5 := hS.2.cell 2
        clear hS hS0
        go_simp
      simp only [Act.put, List.setIfInBounds_toArray, List.set_cons_zero, List.set_cons_succ]
      refine takeH (i := 1) (o := _) (d := some 107) (v := .bool false) rfl rfl (by kernel_rfl) (by kernel_rfl) (by kernel_rfl) (fun _ _ _ h => h) (Or.inl ⟨by rfl, fun w' hS => ?_⟩) hS0 ?_
      · have q0 := hS.1.cell 0
        have q1 := hS.1.cell 1
        have q2 := hS.1.cell 2
        have q3 := hS.2.cell 0
        have q4 := hS.2.cell 1
        have q5 := hS.2.cell 2
        clear hS hS0
        go_simp
      simp only [Act.put, List.setIfInBounds_toArray, List.set_cons_zero, List.set_cons_succ]
      refine takeH (i := 2) (o := _) (d := some 108) (v := undef) rfl rfl (by kernel_rfl) (by kernel_rfl) (by kernel_rfl) (fun _ _ _ h => h) (Or.inr ⟨by rfl, rfl⟩) hS0 ?_
      simp only [Act.put, List.setIfInBounds_toArray, List.set_cons_zero, List.set_cons_succ]
      refine takeH (i := 3) (o := _) (d := some 109) (v := undef) rfl rfl (by kernel_rfl) (by kernel_rfl) (by kernel_rfl) (fun _ _ _ h => h) (Or.inr ⟨by rfl, rfl⟩) hS0 ?_
      simp only [Act.put, List.setIfInBounds_toArray, List.set_cons_zero, List.set_cons_succ]
      refine takeH (i := 4) (o := _) (d := some 110) (v := undef) rfl rfl (by kernel_rfl) (by kernel_rfl) (by kernel_rfl) (fun _ _ _ h => h) (Or.inr ⟨by rfl, rfl⟩) hS0 ?_
      simp only [Act.put, List.setIfInBounds_toArray, List.set_cons_zero, List.set_cons_succ]
      refine takeH (i := 5) (o := _) (d := some 111) (v := undef) rfl rfl (by kernel_rfl) (by kernel_rfl) (by kernel_rfl) (fun _ _ _ h => h) (Or.inr ⟨by rfl, rfl⟩) hS0 ?_
      simp only [Act.put, List.setIfInBounds_toArray, List.set_cons_zero, List.set_cons_succ]
      refine takeH (i := 6) (o := _) (d := some 112) (v := undef) rfl rfl (by kernel_rfl) (by kernel_rfl) (by kernel_rfl) (fun _ _ _ h => h) (Or.inr ⟨by rfl, rfl⟩) hS0 ?_
      simp only [Act.put, List.setIfInBounds_toArray, List.set_cons_zero, List.set_cons_succ]
      refine takeH (i := 7) (o := _) (d := some 113) (v := undef) rfl rfl (by kernel_rfl) (by kernel_rfl) (by kernel_rfl) (fun _ _ _ h => h) (Or.inr ⟨by rfl, rfl⟩) hS0 ?_
      simp only [Act.put, List.setIfInBounds_toArray, List.set_cons_zero, List.set_cons_succ]
      refine takeH (i := 8) (o := _) (d := some 114) (v := .bool false) rfl rfl (by kernel_rfl) (by kernel_rfl) (by kernel_rfl) (fun _ _ _ h => h) (Or.inl ⟨by rfl, fun w' hS => ?_⟩) hS0 ?_
      · have q0 := hS.1.cell 0
        have q1 := hS.1.cell 1
        have q2 := hS.1.cell 2
        have q3 := hS.2.cell 0
        have q4 := hS.2.cell 1
        have q5 := hS.2.cell 2
        clear hS hS0
        go_simp
      simp only [Act.put, List.setIfInBounds_toArray, List.set_cons_zero, List.set_cons_succ]
      refine takeH (i := 9) (o := _) (d := some 115) (v := .bool false) rfl rfl (by kernel_rfl) (by kernel_rfl) (by kernel_rfl) (fun _ _ _ h => h) (Or.inl ⟨by rfl, fun w' hS => ?_⟩) hS0 ?_
      · have q0 := hS.1.cell 0
        have q1 := hS.1.cell 1
        have q2 := hS.1.cell 2
        have q3 := hS.2.cell 0
        have q4 := hS.2.cell 1
        have q5 := hS.2.cell 2
        clear hS hS0
        go_simp
      simp only [Act.put, List.setIfInBounds_toArray, List.set_cons_zero, List.set_cons_succ]
      refine takeH (i := 10) (o := _) (d := some 116) (v := .bool false) rfl rfl (by kernel_rfl) (by kernel_rfl) (by kernel_rfl) (fun _ _ _ h => h) (Or.inl ⟨by rfl, fun w' hS => ?_⟩) hS0 ?_
      · have q0 := hS.1.cell 0
        have q1 := hS.1.cell 1
        have q2 := hS.1.cell 2
        have q3 := hS.2.cell 0
        have q4 := hS.2.cell 1
        have q5 := hS.2.cell 2
        clear hS hS0
        go_simp
      simp only [Act.put, List.setIfInBounds_toArray, List.set_cons_zero, List.set_cons_succ]
      refine takeH (i := 11) (o := _) (d := some 117) (v := .bool true) rfl rfl (by kernel_rfl) (by kernel_rfl) (by kernel_rfl) (fun _ _ _ h => h) (Or.inl ⟨by rfl, fun w' hS => ?_⟩) hS0 ?_
      · have q0 := hS.1.cell 0
        have q1 := hS.1.cell 1
        have q2 := hS.1.cell 2
        have q3 := hS.2.cell 0
        have q4 := hS.2.cell 1
        have q5 := hS.2.cell 2
        clear hS hS0
        go_simp
      simp only [Act.put, List.setIfInBounds_toArray, List.set_cons_zero, List.set_cons_succ]
      refine takeH (i := 12) (o := _) (d := some 118) (v := .bool true) rfl rfl (by kernel_rfl) (by kernel_rfl) (by kernel_rfl) (fun _ _ _ h => h) (Or.inl ⟨by rfl, fun w' hS => ?_⟩) hS0 ?_
      · have q0 := hS.1.cell 0
        have q1 := hS.1.cell 1
        have q2 := hS.1.cell 2
        have q3 := hS.2.cell 0
        have q4 := hS.2.cell 1
        have q5 := hS.2.cell 2
        clear hS hS0
        go_simp
      simp only [Act.put, List.setIfInBounds_toArray, List.set_cons_zero, List.set_cons_succ]
      refine takeH (i := 13) (o := _) (d := some 119) (v := .agg #[.bool false, .slice none 0 0, .int .i64 0]) rfl rfl (by kernel_rfl) (by kernel_rfl) (by kernel_rfl) (fun _ _ _ h => h) (Or.inl ⟨by rfl, fun w' hS => ?_⟩) hS0 ?_
      · have q0 := hS.1.cell 0
        have q1 := hS.1.cell 1
        have q2 := hS.1.cell 2
        have q3 := hS.2.cell 0
        have q4 := hS.2.cell 1
        have q5 := hS.2.cell 2
        clear hS hS0
        go_simp
      simp only [Act.put, List.setIfInBounds_toArray, List.set_cons_zero, List.set_cons_succ]
      refine takeH (i := 14) (o := _) (d := some 120) (v := zeroN) rfl rfl (by kernel_rfl) (by kernel_rfl) (by kernel_rfl) (fun _ _ _ h => h) (Or.inl ⟨by rfl, fun w' hS => ?_⟩) hS0 ?_
      · have q0 := hS.1.cell 0
        have q1 := hS.1.cell 1
        have q2 := hS.1.cell 2
        have q3 := hS.2.cell 0
        have q4 := hS.2.cell 1
        have q5 := hS.2.cell 2
        clear hS hS0
        simp [go_sem, zeroN]
      simp only [Act.put, List.setIfInBounds_toArray, List.set_cons_zero, List.set_cons_succ]
      refine wpAnyH_all (rs := [15]) (by kernel_rfl) (by simp) ?_
      intro j hj
      obtain rfl := List.mem_singleton.1 hj
      clear hj
      refine opGoW (o := _) rfl (by rfl) ?_
      go_simp
      refine (HSZ.out _).mono ?_
      rintro e wb ⟨rfl, f9⟩
      have hSb := hS0.keep f9
      replace f9 := Fr.undrew f9
      have P1 := Lib.hid (TZK.out wb f9)
      clear f9 hS0
      refine ⟨hSb, ?_⟩
      refine takeH (i := 16) (o := _) (d := some 122) (v := .bool true) rfl rfl (by kernel_rfl) (by kernel_rfl) (by kernel_rfl) (fun _ _ _ h => h) (Or.inl ⟨by rfl, fun w' hS => ?_⟩) hSb ?_
      · have q0 := hS.1.cell 0
        have q1 := hS.1.cell 1
        have q2 := hS.1.cell 2
        have q3 := hS.2.cell 0
        have q4 := hS.2.cell 1
        have q5 := hS.2.cell 2
        clear hS hSb
        go_simp
      simp only [Act.put, List.setIfInBounds_toArray, List.set_cons_zero, List.set_cons_succ]
      refine takeH (i := 17) (o := _) (d := some 123) (v := .bool true) rfl rfl (by kernel_rfl) (by kernel_rfl) (by kernel_rfl) (fun _ _ _ h => h) (Or.inl ⟨by rfl, fun w' hS => ?_⟩) hSb ?_
      · have q0 := hS.1.cell 0
        have q1 := hS.1.cell 1
        have q2 := hS.1.cell 2
        have q3 := hS.2.cell 0
        have q4 := hS.2.cell 1
        have q5 := hS.2.cell 2
        clear hS hSb
        go_simp
      simp only [Act.put, List.setIfInBounds_toArray, List.set_cons_zero, List.set_cons_succ]
      refine takeH (i := 18) (o := _) (d := some 124) (v := .bool true) rfl rfl (by kernel_rfl) (by kernel_rfl) (by kernel_rfl) (fun _ _ _ h => h) (Or.inl ⟨by rfl, fun w' hS => ?_⟩) hSb ?_
      · have q0 := hS.1.cell 0
        have q1 := hS.1.cell 1
        have q2 := hS.1.cell 2
        have q3 := hS.2.cell 0
        have q4 := hS.2.cell 1
        have q5 := hS.2.cell 2
        clear hS hSb
        go_simp
      simp only [Act.put, List.setIfInBounds_toArray, List.set_cons_zero, List.set_cons_succ]
      refine takeH (i := 19) (o := _) (d := some 125) (v := .bool false) rfl rfl (by kernel_rfl) (by kernel_rfl) (by kernel_rfl) (fun _ _ _ h => h) (Or.inl ⟨by rfl, fun w' hS => ?_⟩) hSb ?_
      · have q0 := hS.1.cell 0
        have q1 := hS.1.cell 1
        have q2 := hS.1.cell 2
        have q3 := hS.2.cell 0
        have q4 := hS.2.cell 1
        have q5 := hS.2.cell 2
        clear hS hSb
        go_simp
      simp only [Act.put, List.setIfInBounds_toArray, List.set_cons_zero, List.set_cons_succ]
      refine takeH (i := 20) (o := _) (d := some 126) (v := .bool false) rfl rfl (by kernel_rfl) (by kernel_rfl) (by kernel_rfl) (fun _ _ _ h => h) (Or.inl ⟨by rfl, fun w' hS => ?_⟩) hSb ?_
      · have q0 := hS.1.cell 0
        have q1 := hS.1.cell 1
        have q2 := hS.1.cell 2
        have q3 := hS.2.cell 0
        have q4 := hS.2.cell 1
        have q5 := hS.2.cell 2
        clear hS hSb
        go_simp
      simp only [Act.put, List.setIfInBounds_toArray, List.set_cons_zero, List.set_cons_succ]
      refine takeH (i := 21) (o := _) (d := some 127) (v := undef) rfl rfl (by kernel_rfl) (by kernel_rfl) (by kernel_rfl) (fun _ _ _ h => h) (Or.inr ⟨by rfl, rfl⟩) hSb ?_
      simp only [Act.put, List.setIfInBounds_toArray, List.set_cons_zero, List.set_cons_succ]
      refine takeH (i := 22) (o := _) (d := some 128) (v := undef) rfl rfl (by kernel_rfl) (by kernel_rfl) (by kernel_rfl) (fun _ _ _ h => h) (Or.inr ⟨by rfl, rfl⟩) hSb ?_
      simp only [Act.put, List.setIfInBounds_toArray, List.set_cons_zero, List.set_cons_succ]
      refine takeH (i := 23) (o := _) (d := some 129) (v := undef) rfl rfl (by kernel_rfl) (by kernel_rfl) (by kernel_rfl) (fun _ _ _ h => h) (Or.inr ⟨by rfl, rfl⟩) hSb ?_
      simp only [Act.put, List.setIfInBounds_toArray, List.set_cons_zero, List.set_cons_succ]
      refine takeH (i := 24) (o := _) (d := some 130) (v := undef) rfl rfl (by kernel_rfl) (by kernel_rfl) (by kernel_rfl) (fun _ _ _ h => h) (Or.inr ⟨by rfl, rfl⟩) hSb ?_
      simp only [Act.put, List.setIfInBounds_toArray, List.set_cons_zero, List.set_cons_succ]
      refine takeH (i := 25) (o := _) (d := some 131) (v := undef) rfl rfl (by kernel_rfl) (by kernel_rfl) (by kernel_rfl) (fun _ _ _ h => h) (Or.inr ⟨by rfl, rfl⟩) hSb ?_
      simp only [Act.put, List.setIfInBounds_toArray, List.set_cons_zero, List.set_cons_succ]
      refine takeH (i := 26) (o := _) (d := some 132) (v := undef) rfl rfl (by kernel_rfl) (by kernel_rfl) (by kernel_rfl) (fun _ _ _ h => h) (Or.inr ⟨by rfl, rfl⟩) hSb ?_
      simp only [Act.put, List.setIfInBounds_toArray, List.set_cons_zero, List.set_cons_succ]
      refine takeH (i := 27) (o := _) (d := some 133) (v := .bool false) rfl rfl (by kernel_rfl) (by kernel_rfl) (by kernel_rfl) (fun _ _ _ h => h) (Or.inl ⟨by rfl, fun w' hS => ?_⟩) hSb ?_
      · have q0 := hS.1.cell 0
        have q1 := hS.1.cell 1
        have q2 := hS.1.cell 2
        have q3 := hS.2.cell 0
        have q4 := hS.2.cell 1
        have q5 := hS.2.cell 2
        clear hS hSb
        go_simp
      simp only [Act.put, List.setIfInBounds_toArray, List.set_cons_zero, List.set_cons_succ]
      refine takeH (i := 28) (o := _) (d := some 134) (v := .bool false) rfl rfl (by kernel_rfl) (by kernel_rfl) (by kernel_rfl) (fun _ _ _ h => h) (Or.inl ⟨by rfl, fun w' hS => ?_⟩) hSb ?_
      · have q0 := hS.1.cell 0
        have q1 := hS.1.cell 1
        have q2 := hS.1.cell 2
        have q3 := hS.2.cell 0
        have q4 := hS.2.cell 1
        have q5 := hS.2.cell 2
        clear hS hSb
        go_simp
      simp only [Act.put, List.setIfInBounds_toArray, List.set_cons_zero, List.set_cons_succ]
      refine takeH (i := 29) (o := _) (d := some 135) (v := .bool false) rfl rfl (by kernel_rfl) (by kernel_rfl) (by kernel_rfl) (fun _ _ _ h => h) (Or.inl ⟨by rfl, fun w' hS => ?_⟩) hSb ?_
      · have q0 := hS.1.cell 0
        have q1 := hS.1.cell 1
        have q2 := hS.1.cell 2
        have q3 := hS.2.cell 0
        have q4 := hS.2.cell 1
        have q5 := hS.2.cell 2
        clear hS hSb
        go_simp
      simp only [Act.put, List.setIfInBounds_toArray, List.set_cons_zero, List.set_cons_succ]
      refine takeH (i := 30) (o := _) (d := some 136) (v := .bool true) rfl rfl (by kernel_rfl) (by kernel_rfl) (by kernel_rfl) (fun _ _ _ h => h) (Or.inl ⟨by rfl, fun w' hS => ?_⟩) hSb ?_
      · have q0 := hS.1.cell 0
        have q1 := hS.1.cell 1
        have q2 := hS.1.cell 2
        have q3 := hS.2.cell 0
        have q4 := hS.2.cell 1
        have q5 := hS.2.cell 2
        clear hS hSb
        go_simp
      simp only [Act.put, List.setIfInBounds_toArray, List.set_cons_zero, List.set_cons_succ]
      refine takeH (i := 31) (o := _) (d := some 137) (v := .bool true) rfl rfl (by kernel_rfl) (by kernel_rfl) (by kernel_rfl) (fun _ _ _ h => h) (Or.inl ⟨by rfl, fun w' hS => ?_⟩) hSb ?_
      · have q0 := hS.1.cell 0
        have q1 := hS.1.cell 1
        have q2 := hS.1.cell 2
        have q3 := hS.2.cell 0
        have q4 := hS.2.cell 1
        have q5 := hS.2.cell 2
        clear hS hSb
        go_simp
      simp only [Act.put, List.setIfInBounds_toArray, List.set_cons_zero, List.set_cons_succ]
      refine takeH (i := 32) (o := _) (d := some 138) (v := .agg #[.bool false, .slice none 0 0, .int .i64 0]) rfl rfl (by kernel_rfl) (by kernel_rfl) (by kernel_rfl) (fun _ _ _ h => h) (Or.inl ⟨by rfl, fun w' hS => ?_⟩) hSb ?_
      · have q0 := hS.1.cell 0
        have q1 := hS.1.cell 1
        have q2 := hS.1.cell 2
        have q3 := hS.2.cell 0
        have q4 := hS.2.cell 1
        have q5 := hS.2.cell 2
        clear hS hSb
        go_simp
      simp only [Act.put, List.setIfInBounds_toArray, List.set_cons_zero, List.set_cons_succ]
      refine takeH (i := 33) (o := _) (d := some 139) (v := zeroN) rfl rfl (by kernel_rfl) (by kernel_rfl) (by kernel_rfl) (fun _ _ _ h => h) (Or.inl ⟨by rfl, fun w' hS => ?_⟩) hSb ?_
      · have q0 := hS.1.cell 0
        have q1 := hS.1.cell 1
        have q2 := hS.1.cell 2
        have q3 := hS.2.cell 0
        have q4 := hS.2.cell 1
        have q5 := hS.2.cell 2
        clear hS hSb
        simp [go_sem, zeroN]
      simp only [Act.put, List.setIfInBounds_toArray, List.set_cons_zero, List.set_cons_succ]
      refine wpAnyH_all (rs := [34]) (by kernel_rfl) (by simp) ?_
      intro j hj
      obtain rfl := List.mem_singleton.1 hj
      clear hj
      refine opGoW (o := _) rfl (by rfl) ?_
      go_simp
      refine (HSZ.out _).mono ?_
      rintro e wd ⟨rfl, f10⟩
      have KD := Lib.hid f10
      have hSd := hSb.keep f10
      clear f10 hSb
      refine ⟨hSd, ?_⟩
      refine takeH (i := 35) (o := _) (d := some 141) (v := .bool true) rfl rfl (by kernel_rfl) (by kernel_rfl) (by kernel_rfl) (fun _ _ _ h => h) (Or.inl ⟨by rfl, fun w' hS => ?_⟩) hSd ?_
      · have q0 := hS.1.cell 0
        have q1 := hS.1.cell 1
        have q2 := hS.1.cell 2
        have q3 := hS.2.cell 0
        have q4 := hS.2.cell 1
        have q5 := hS.2.cell 2
        clear hS hSd
        go_simp
      simp only [Act.put, List.setIfInBounds_toArray, List.set_cons_zero, List.set_cons_succ]
      refine takeH (i := 36) (o := _) (d := some 142) (v := .bool true) rfl rfl (by kernel_rfl) (by kernel_rfl) (by kernel_rfl) (fun _ _ _ h => h) (Or.inl ⟨by rfl, fun w' hS => ?_⟩) hSd ?_
      · have q0 := hS.1.cell 0
        have q1 := hS.1.cell 1
        have q2 := hS.1.cell 2
        have q3 := hS.2.cell 0
        have q4 := hS.2.cell 1
        have q5 := hS.2.cell 2
        clear hS hSd
        go_simp
      simp only [Act.put, List.setIfInBounds_toArray, List.set_cons_zero, List.set_cons_succ]
      refine takeH (i := 37) (o := _) (d := some 143) (v := .bool true) rfl rfl (by kernel_rfl) (by kernel_rfl) (by kernel_rfl) (fun _ _ _ h => h) (Or.inl ⟨by rfl, fun w' hS => ?_⟩) hSd ?_
      · have q0 := hS.1.cell 0
        have q1 := hS.1.cell 1
        have q2 := hS.1.cell 2
        have q3 := hS.2.cell 0
        have q4 := hS.2.cell 1
        have q5 := hS.2.cell 2
        clear hS hSd
        go_simp
      simp only [Act.put, List.setIfInBounds_toArray, List.set_cons_zero, List.set_cons_succ]
      refine takeH (i := 38) (o := _) (d := some 10) (v := .bool true) rfl rfl (by kernel_rfl) (by kernel_rfl) (by kernel_rfl) (fun _ _ _ h => h) (Or.inl ⟨by rfl, fun w' hS => ?_⟩) hSd ?_
      · have q0 := hS.1.cell 0
        have q1 := hS.1.cell 1
        have q2 := hS.1.cell 2
        have q3 := hS.2.cell 0
        have q4 := hS.2.cell 1
        have q5 := hS.2.cell 2
        clear hS hSd
        go_simp
      simp only [Act.put, List.setIfInBounds_toArray, List.set_cons_zero, List.set_cons_succ]
      refine wpAnyH_done (by kernel_rfl) ?_ _
      go_wp2_with fail
      go_ret
      exact ⟨rfl, ⟨_, _, by omega, P1.out.1.keep KD.out⟩, P1.out.2.1.trans KD.out (fun _ h => h) (fun _ _ h => h)⟩
end Go.Proofs.YtgmebioogkmfgaaDoor
