/- The walks of BitsChain and BitsNext: each call returns true. Condition: an int is an int (I64). -/
import Derived.Test.YtdbeeclkknhjaaaW3
import Derived.Test.YtdbeeclkknhjaaaGr
namespace Go.Pt

theorem order_bd (a b : Int) : -1 ≤ order a b ∧ order a b ≤ 1 := by
  unfold order; repeat' split
  all_goals omega
theorem order_neg (a b : Int) : order a b = - order b a := by
  unfold order; repeat' split
  all_goals omega
theorem order_le {a b : Int} (ha : I64 a) (hb : I64 b) : order a b ≤ 0 ↔ Go.Proofs.Ytdbeeclkknhjaaa.okey a ≤ Go.Proofs.Ytdbeeclkknhjaaa.okey b := by
  rw [Go.Proofs.Ytdbeeclkknhjaaa.okey_order ha hb]
  repeat' split
  all_goals omega
theorem order_trans {a b c : Int} (ha : I64 a) (hb : I64 b) (hc : I64 c) (h : order a b ≤ 0) (g : order b c ≤ 0) : order a c ≤ 0 := by
  rw [order_le ha hb] at h
  rw [order_le hb hc] at g
  rw [order_le ha hc]
  omega
theorem less_cl {a b : Int} (h : less a b = true) : cl a ≠ 4 ∧ cl b ≠ 4 ∧ key a < key b := by
  unfold less at h
  simp at h
  exact h
theorem less_order {a b : Int} (ha : I64 a) (hb : I64 b) (h : less a b = true) : order a b = -1 := by
  obtain ⟨na, nb, hk⟩ := less_cl h
  unfold order
  rw [if_neg na, if_neg nb, if_pos]
  unfold key rg at hk
  unfold place
  unfold I64 at ha hb
  split <;> split <;> simp_all <;> omega
theorem same_self (a : Int) : same a a = !(cl a == 4) := by unfold same; simp
theorem same_tri (a b : Int) : same a b = ((cl a != 4) && (cl b != 4) && !less a b && !less b a) := by
  unfold same less
  cases h1 : (cl a == 4) <;> cases h2 : (cl b == 4) <;> simp [bne, h1, h2]
  by_cases e : key a = key b
  · rw [beq_iff_eq.2 e, decide_eq_false (by omega), decide_eq_false (by omega)]; rfl
  · rw [beq_eq_false_iff_ne.2 e]
    by_cases l : key a < key b
    · rw [decide_eq_true l]; rfl
    · rw [decide_eq_true (show key b < key a by omega)]; simp

theorem less_anti {a b : Int} (h : less a b = true) : less b a = false := by
  obtain ⟨na, nb, hk⟩ := less_cl h
  unfold less
  rw [decide_eq_false (by omega)]; simp
theorem less_nan {a b : Int} (h : cl a = 4 ∨ cl b = 4) : less a b = false := by
  unfold less
  rcases h with h | h <;> rw [h] <;> simp
theorem beqn {x y : Int} {v : Bool} (h : (x == y) = v) : (x != y) = !v := by rw [bne, h]

end Go.Pt
namespace Go.Proofs.Ytdbeeclkknhjaaa
open Go.RowKit Go.Pt

theorem key_next {b : Int} (h : I64 b) (n : cl b ≠ 4) (i : b ≠ inf) : key (next b) = key b + 1 := by
  have h1 : ¬ inf < rg b := fun e => n ((cl_nan b).2 e)
  unfold next
  rw [if_neg n, if_neg i]
  unfold inf at *
  unfold I64 at h
  by_cases z : rg b = 0
  · rw [if_pos z]; unfold key; rw [z]; simp; decide
  · rw [if_neg z]
    unfold key rg at *
    by_cases c : b < 0
    · rw [if_pos c, if_pos c]; split <;> omega
    · rw [if_neg c, if_neg c]; split <;> omega

theorem key_neg {b : Int} (h : I64 b) (n : cl b ≠ 4) : key (neg b) = - key b := by
  unfold neg
  rw [if_neg n]
  unfold I64 at h
  unfold key rg
  split <;> split <;> omega

theorem cl_neg {b : Int} (n : cl b ≠ 4) : cl (neg b) ≠ 4 := by
  intro e
  have e1 := (cl_nan _).1 e
  have h1 : ¬ inf < rg b := fun e => n ((cl_nan b).2 e)
  unfold neg at e1
  rw [if_neg n] at e1
  unfold inf rg at *
  split at e1 <;> omega

theorem key_prev {b : Int} (h : I64 b) (n : cl b ≠ 4) (i : key b ≠ -9218868437227405312) : key (prev b) = key b - 1 ∧ cl (prev b) ≠ 4 := by
  have h1 := neg64 h
  have n1 := cl_neg n
  have h2 := next64 h1
  have n2 := cl_next h1 n1
  have i1 : neg b ≠ inf := by
    intro e
    have := key_neg h n
    rw [e, key_inf] at this
    omega
  unfold prev
  rw [key_neg h2 n2, key_next h1 n1 i1, key_neg h n]
  exact ⟨by omega, cl_neg n2⟩

theorem less_of {a b : Int} (na : cl a ≠ 4) (nb : cl b ≠ 4) (k : key a < key b) : less a b = true := by
  unfold less
  rw [beq_eq_false_iff_ne.2 na, beq_eq_false_iff_ne.2 nb, decide_eq_true k]; rfl
theorem same_of {a b : Int} (na : cl a ≠ 4) (nb : cl b ≠ 4) (k : key a = key b) : same a b = true := by
  unfold same
  rw [beq_eq_false_iff_ne.2 na, beq_eq_false_iff_ne.2 nb, beq_iff_eq.2 k]; rfl
theorem less_not {a b : Int} (k : key b ≤ key a) : less a b = false := by
  unfold less
  rw [decide_eq_false (by omega)]; simp

theorem next_facts {b : Int} (h : I64 b) (n : cl b ≠ 4) (i : b ≠ inf) : less b (next b) = true ∧ same (prev (next b)) b = true ∧ order b (next b) = -1 ∧ ∀ c, less b c = true → less c (next b) = false := by
  have n1 := cl_next h n
  have h1 := next64 h
  have k := key_next h n i
  have kb := rg_bd b
  have l : less b (next b) = true := less_of n n1 (by omega)
  have p := key_prev h1 n1 (by
    have c1 : ¬ inf < rg b := fun e => n ((cl_nan b).2 e)
    rw [k]; unfold inf at c1; unfold key; split <;> omega)
  refine ⟨l, same_of p.2 n (by omega), less_order h h1 l, fun c hc => less_not ?_⟩
  have := less_cl hc
  omega

theorem chain_cases (a b : Int) : (cl a == 4) = true ∧ less a b = false ∧ less b a = false ∨ (cl a == 4) = false ∧ (cl b == 4) = true ∧ less a b = false ∧ less b a = false ∨
    (cl a == 4) = false ∧ (cl b == 4) = false ∧ less a b = true ∧ less b a = false ∨ (cl a == 4) = false ∧ (cl b == 4) = false ∧ less a b = false ∧ less b a = true ∨
    (cl a == 4) = false ∧ (cl b == 4) = false ∧ less a b = false ∧ less b a = false := by
  cases hA : (cl a == 4)
  · cases hB : (cl b == 4)
    · cases hL : less a b
      · cases hM : less b a <;> simp
      · rw [less_anti hL]; simp
    · rw [less_nan (Or.inr (beq_iff_eq.1 hB)), less_nan (Or.inl (beq_iff_eq.1 hB))]; simp
  · rw [less_nan (Or.inl (beq_iff_eq.1 hA)), less_nan (Or.inr (beq_iff_eq.1 hA))]; simp

set_option maxHeartbeats 2000000 in
theorem chain_any (a b c : Int) (ha : I64 a) (hb : I64 b) (hc : I64 c) (w : World) : Calls Try.prog 7 #[.int .i64 a, .int .i64 b, .int .i64 c] w fun e w' => e = .returned (.bool true) ∧ w = w' := by
  have o1 := order_bd a b
  have o2 := order_bd b a
  have o3 := order_bd b c
  have o4 := order_bd a c
  have n := order_neg a b
  have n' : (order a b != -order b a) = false := by rw [n]; simp
  have HN := Lib.hid n; clear n
  have ht := fun g h => order_trans (a := a) (b := b) (c := c) ha hb hc g h
  have HT := Lib.hid ht; clear ht
  have s1 := same_self a
  have s2 := same_tri a b
  rcases chain_cases a b with ⟨hA, hL, hM⟩ | ⟨hA, hB, hL, hM⟩ | ⟨hA, hB, hL, hM⟩ | ⟨hA, hB, hL, hM⟩ | ⟨hA, hB, hL, hM⟩
  · have A' := beqn hA
    rw [hA] at s1
    rw [A', Bool.not_true, Bool.false_and, Bool.false_and, Bool.false_and] at s2
    go_enter Try.func7, Try.ntmps7
    go_wp2_with (first | (go_at_call 17; refine (alive_any _).mono ?_; rintro e w' ⟨rfl, rfl⟩) | (go_at_call 29; refine (order_any _ _ (by assumption) (by assumption) _).mono ?_; rintro e w' ⟨rfl, rfl⟩) | (go_at_call 30; refine (less_any _ _ (by assumption) (by assumption) _).mono ?_; rintro e w' ⟨rfl, rfl⟩) | (go_at_call 31; refine (same_any _ _ (by assumption) (by assumption) _).mono ?_; rintro e w' ⟨rfl, rfl⟩) | (go_at_call 32; refine (class_any _ _).mono ?_; rintro e w' ⟨rfl, rfl⟩))
    · have g1 : order a b ≤ 0 := by assumption
      have g2 : order b c ≤ 0 := by assumption
      have g3 : 0 < order a c := by assumption
      have := HT.out g1 g2
      omega
    all_goals go_ret
    all_goals exact ⟨rfl, rfl⟩
  · have A' := beqn hA
    have B' := beqn hB
    rw [hA] at s1
    rw [A', B', Bool.not_true, Bool.and_false, Bool.false_and, Bool.false_and] at s2
    go_enter Try.func7, Try.ntmps7
    go_wp2_with (first | (go_at_call 17; refine (alive_any _).mono ?_; rintro e w' ⟨rfl, rfl⟩) | (go_at_call 29; refine (order_any _ _ (by assumption) (by assumption) _).mono ?_; rintro e w' ⟨rfl, rfl⟩) | (go_at_call 30; refine (less_any _ _ (by assumption) (by assumption) _).mono ?_; rintro e w' ⟨rfl, rfl⟩) | (go_at_call 31; refine (same_any _ _ (by assumption) (by assumption) _).mono ?_; rintro e w' ⟨rfl, rfl⟩) | (go_at_call 32; refine (class_any _ _).mono ?_; rintro e w' ⟨rfl, rfl⟩))
    · have g1 : order a b ≤ 0 := by assumption
      have g2 : order b c ≤ 0 := by assumption
      have g3 : 0 < order a c := by assumption
      have := HT.out g1 g2
      omega
    all_goals go_ret
    all_goals exact ⟨rfl, rfl⟩
  · have A' := beqn hA
    have B' := beqn hB
    rw [hA] at s1
    rw [A', B', hL, Bool.not_true, Bool.and_false, Bool.false_and] at s2
    have q := less_order ha hb hL
    have q2 : order b a = 1 := by have := HN.out; omega
    have HT' : Hid (order b c ≤ 0 → order a c ≤ 0) := Lib.hid (fun h => HT.out (by omega) h)
    clear o1 o2 n'
    go_enter Try.func7, Try.ntmps7
    go_wp2_with (first | (go_at_call 17; refine (alive_any _).mono ?_; rintro e w' ⟨rfl, rfl⟩) | (go_at_call 29; refine (order_any _ _ (by assumption) (by assumption) _).mono ?_; rintro e w' ⟨rfl, rfl⟩) | (go_at_call 30; refine (less_any _ _ (by assumption) (by assumption) _).mono ?_; rintro e w' ⟨rfl, rfl⟩) | (go_at_call 31; refine (same_any _ _ (by assumption) (by assumption) _).mono ?_; rintro e w' ⟨rfl, rfl⟩) | (go_at_call 32; refine (class_any _ _).mono ?_; rintro e w' ⟨rfl, rfl⟩))
    · have g2 : order b c ≤ 0 := by assumption
      have g3 : 0 < order a c := by assumption
      have := HT'.out g2
      omega
    all_goals go_ret
    all_goals exact ⟨rfl, rfl⟩
  · have A' := beqn hA
    have B' := beqn hB
    rw [hA] at s1
    rw [A', B', hM, Bool.not_true, Bool.and_false] at s2
    have q := less_order hb ha hM
    have q2 : order a b = 1 := by have := HN.out; omega
    clear o1 o2 n'
    go_enter Try.func7, Try.ntmps7
    go_wp2_with (first | (go_at_call 17; refine (alive_any _).mono ?_; rintro e w' ⟨rfl, rfl⟩) | (go_at_call 29; refine (order_any _ _ (by assumption) (by assumption) _).mono ?_; rintro e w' ⟨rfl, rfl⟩) | (go_at_call 30; refine (less_any _ _ (by assumption) (by assumption) _).mono ?_; rintro e w' ⟨rfl, rfl⟩) | (go_at_call 31; refine (same_any _ _ (by assumption) (by assumption) _).mono ?_; rintro e w' ⟨rfl, rfl⟩) | (go_at_call 32; refine (class_any _ _).mono ?_; rintro e w' ⟨rfl, rfl⟩))
    all_goals go_ret
    all_goals exact ⟨rfl, rfl⟩
  · have A' := beqn hA
    have B' := beqn hB
    rw [hA] at s1
    rw [A', B', hL, hM, Bool.not_false, Bool.and_true, Bool.and_true, Bool.and_true] at s2
    go_enter Try.func7, Try.ntmps7
    go_wp2_with (first | (go_at_call 17; refine (alive_any _).mono ?_; rintro e w' ⟨rfl, rfl⟩) | (go_at_call 29; refine (order_any _ _ (by assumption) (by assumption) _).mono ?_; rintro e w' ⟨rfl, rfl⟩) | (go_at_call 30; refine (less_any _ _ (by assumption) (by assumption) _).mono ?_; rintro e w' ⟨rfl, rfl⟩) | (go_at_call 31; refine (same_any _ _ (by assumption) (by assumption) _).mono ?_; rintro e w' ⟨rfl, rfl⟩) | (go_at_call 32; refine (class_any _ _).mono ?_; rintro e w' ⟨rfl, rfl⟩))
    · have g1 : order a b ≤ 0 := by assumption
      have g2 : order b c ≤ 0 := by assumption
      have g3 : 0 < order a c := by assumption
      have := HT.out g1 g2
      omega
    all_goals go_ret
    all_goals exact ⟨rfl, rfl⟩

theorem prev64 {b : Int} (h : I64 b) : I64 (prev b) := neg64 (next64 (neg64 h))

set_option maxHeartbeats 2000000 in
theorem nextLaw_any (b c : Int) (hb : I64 b) (hc : I64 c) (w : World) : Calls Try.prog 9 #[.int .i64 b, .int .i64 c] w fun e w' => e = .returned (.bool true) ∧ w = w' := by
  have hn := next64 hb
  have hp := prev64 hn
  by_cases h4 : cl b = 4
  · have e : next b = nan := by unfold next; rw [if_pos h4]
    have e1 : cl (next b) = 4 := by rw [e]; exact cl_nanc
    have E := Lib.hid e; clear e
    go_enter Try.func9, Try.ntmps9
    go_wp2_with (first | (go_at_call 34; refine (next_any _ hb _).mono ?_; rintro e w' ⟨rfl, rfl⟩) | (go_at_call 17; refine (alive_any _).mono ?_; rintro e w' ⟨rfl, rfl⟩) | (go_at_call 29; refine (order_any _ _ (by assumption) (by assumption) _).mono ?_; rintro e w' ⟨rfl, rfl⟩) | (go_at_call 30; refine (less_any _ _ (by assumption) (by assumption) _).mono ?_; rintro e w' ⟨rfl, rfl⟩) | (go_at_call 31; refine (same_any _ _ (by assumption) (by assumption) _).mono ?_; rintro e w' ⟨rfl, rfl⟩) | (go_at_call 32; refine (class_any _ _).mono ?_; rintro e w' ⟨rfl, rfl⟩))
    all_goals go_ret
    all_goals exact ⟨rfl, rfl⟩
  · have g4 := beq_eq_false_iff_ne.2 h4
    by_cases i : b = 9218868437227405312
    · have e1 : cl (next b) = cl b := by rw [show next b = b by unfold next; rw [if_neg h4, if_pos (show b = inf from i)]]
      have i' := beq_iff_eq.2 i
      clear i h4
      go_enter Try.func9, Try.ntmps9
      go_wp2_with (first | (go_at_call 34; refine (next_any _ hb _).mono ?_; rintro e w' ⟨rfl, rfl⟩) | (go_at_call 17; refine (alive_any _).mono ?_; rintro e w' ⟨rfl, rfl⟩) | (go_at_call 29; refine (order_any _ _ (by assumption) (by assumption) _).mono ?_; rintro e w' ⟨rfl, rfl⟩) | (go_at_call 30; refine (less_any _ _ (by assumption) (by assumption) _).mono ?_; rintro e w' ⟨rfl, rfl⟩) | (go_at_call 31; refine (same_any _ _ (by assumption) (by assumption) _).mono ?_; rintro e w' ⟨rfl, rfl⟩) | (go_at_call 32; refine (class_any _ _).mono ?_; rintro e w' ⟨rfl, rfl⟩))
      all_goals go_ret
      all_goals exact ⟨rb (by simp), rfl⟩
    · have i' := beq_eq_false_iff_ne.2 i
      obtain ⟨f1, f2, f3, f4⟩ := next_facts hb h4 i
      cases f5 : less b c
      · clear f4 i h4
        go_enter Try.func9, Try.ntmps9
        go_wp2_with (first | (go_at_call 34; refine (next_any _ hb _).mono ?_; rintro e w' ⟨rfl, rfl⟩) | (go_at_call 35; refine (prev_any _ hn _).mono ?_; rintro e w' ⟨rfl, rfl⟩) | (go_at_call 17; refine (alive_any _).mono ?_; rintro e w' ⟨rfl, rfl⟩) | (go_at_call 29; refine (order_any _ _ (by assumption) (by assumption) _).mono ?_; rintro e w' ⟨rfl, rfl⟩) | (go_at_call 30; refine (less_any _ _ (by assumption) (by assumption) _).mono ?_; rintro e w' ⟨rfl, rfl⟩) | (go_at_call 31; refine (same_any _ _ (by assumption) (by assumption) _).mono ?_; rintro e w' ⟨rfl, rfl⟩) | (go_at_call 32; refine (class_any _ _).mono ?_; rintro e w' ⟨rfl, rfl⟩))
        all_goals go_ret
        all_goals exact ⟨rfl, rfl⟩
      · have f6 := f4 c f5
        clear f4 i h4
        go_enter Try.func9, Try.ntmps9
        go_wp2_with (first | (go_at_call 34; refine (next_any _ hb _).mono ?_; rintro e w' ⟨rfl, rfl⟩) | (go_at_call 35; refine (prev_any _ hn _).mono ?_; rintro e w' ⟨rfl, rfl⟩) | (go_at_call 17; refine (alive_any _).mono ?_; rintro e w' ⟨rfl, rfl⟩) | (go_at_call 29; refine (order_any _ _ (by assumption) (by assumption) _).mono ?_; rintro e w' ⟨rfl, rfl⟩) | (go_at_call 30; refine (less_any _ _ (by assumption) (by assumption) _).mono ?_; rintro e w' ⟨rfl, rfl⟩) | (go_at_call 31; refine (same_any _ _ (by assumption) (by assumption) _).mono ?_; rintro e w' ⟨rfl, rfl⟩) | (go_at_call 32; refine (class_any _ _).mono ?_; rintro e w' ⟨rfl, rfl⟩))
        all_goals go_ret
        all_goals exact ⟨rfl, rfl⟩

end Go.Proofs.Ytdbeeclkknhjaaa
