/- What the calls of the package bits and of its reference come to (signs, order, neighbours): each call returns, and the answer is the plain function's. Condition: an int is an int (I64), where it stands. -/
import Derived.Test.YtgphmlllngichaaGreatDoorW1
namespace Go.Proofs.YtgphmlllngichaaGreatDoor
open Go.RowKit Go.Pt

attribute [local go_sem] and_2047 and_frac and_255 and_frac3 and_one or_frac or_frac3

def isN (x : Nat) : Bool := FloatKind.f64.format.order x x != some .eq

set_option maxHeartbeats 400000 in
theorem isNaN_any (x : Nat) (w : World) :
    Calls Tryz.prog 192 #[.float .f64 x] w fun e w' => e = .returned (.bool (isN x)) ∧ w = w' := by
  go_enter Tryz.func192, Tryz.ntmps192
  go_wp2
  go_ret
  exact ⟨rfl, rfl⟩

set_option maxHeartbeats 400000 in
theorem nanF_any (w : World) :
    Calls Tryz.prog 196 #[] w fun e w' => e = .returned (.float .f64 9221120237041090561) ∧ w = w' := by
  go_enter Tryz.func196, Tryz.ntmps196
  go_wp2
  go_ret
  exact ⟨rfl, rfl⟩

set_option maxHeartbeats 400000 in
theorem inf_one (w : World) :
    Calls Tryz.prog 197 #[.int .i64 1] w fun e w' => e = .returned (.float .f64 9218868437227405312) ∧ w = w' := by
  go_enter Tryz.func197, Tryz.ntmps197
  go_wp2
  go_ret
  exact ⟨rfl, rfl⟩

theorem rf {k : FloatKind} {a b : Nat} (h : a = b) : Ending.returned (.float k a) = .returned (.float k b) := by rw [h]

theorem isN_nan : isN 9218868437227405312 = false := by decide

theorem up_one {b : Int} (hb : I64 b) (n : cl b ≠ 4) (h0 : 0 < key b) (h1 : key b < 9218868437227405312) : (IntKind.u64.wrap ((wd b : Nat) + 1)).toNat = nxw b := by
  unfold nxw
  rw [if_neg n]
  unfold next
  rw [if_neg n]
  unfold wd
  rw [IntKind.wrap_u64, IntKind.wrap_u64, IntKind.wrap_u64]
  unfold key rg at h0 h1
  unfold rg inf
  unfold I64 at hb
  split at h0
  · omega
  · rw [if_neg (by omega), if_neg (by omega), if_neg (by omega)]; omega

theorem down_one {b : Int} (hb : I64 b) (n : cl b ≠ 4) (h0 : key b < 0) : (IntKind.u64.wrap ((wd b : Nat) - 1)).toNat = nxw b := by
  unfold nxw
  rw [if_neg n]
  unfold next
  rw [if_neg n]
  unfold wd
  rw [IntKind.wrap_u64, IntKind.wrap_u64, IntKind.wrap_u64]
  unfold key rg at h0
  unfold rg inf
  unfold I64 at hb
  split at h0
  · rw [if_neg (by omega), if_neg (by omega), if_pos (by omega)]; omega
  · omega

theorem key_bd {b : Int} (n : cl b ≠ 4) : key b ≤ 9218868437227405312 := by
  have h := rg_bd b
  have h1 : ¬ inf < rg b := fun e => n ((cl_nan b).2 e)
  unfold inf at h1
  unfold key; split <;> omega

theorem key_z {b : Int} (h : key b = 0) : rg b = 0 := by unfold key at h; split at h <;> omega

theorem ofD_nxw {b : Int} (h : I64 b) : ofD (nxw b) = next b := by
  unfold nxw
  by_cases n : cl b = 4
  · rw [if_pos n, ← wd_nan, ofD_wd nan64]
    unfold told next
    rw [cl_nanc, if_pos rfl, if_pos n]
  · rw [if_neg n, ofD_wd (next64 h)]
    unfold told
    rw [if_neg (cl_next h n)]

theorem canon64 {b : Int} (h : I64 b) : I64 (canon b) := by
  unfold canon nan; unfold I64 at *; repeat' split
  all_goals omega

theorem place_canon {b : Int} (hb : I64 b) (n : cl b ≠ 4) : place (canon b) = if cl b = 0 then 0 else if b < 0 then key b - 1 else key b := by
  unfold canon place key
  unfold I64 at hb
  by_cases c : cl b = 0
  · rw [if_pos c]; simp [c]
  · rw [if_neg c, if_neg n, if_neg c]
    unfold rg; split <;> omega

theorem less_place {a b : Int} (ha : I64 a) (hb : I64 b) (na : cl a ≠ 4) (nb : cl b ≠ 4) : decide (place (canon a) < place (canon b)) = less a b := by
  unfold less
  rw [beq_eq_false_iff_ne.2 na, beq_eq_false_iff_ne.2 nb, place_canon ha na, place_canon hb nb]
  have za := cl_zero a
  have zb := cl_zero b
  have ra := rg_bd a
  have rb := rg_bd b
  simp only [Bool.not_false, Bool.true_and]
  congr 1
  apply propext
  unfold key
  by_cases ca : cl a = 0
  · by_cases cb : cl b = 0
    · rw [if_pos ca, if_pos cb]; repeat' split
      all_goals omega
    · rw [if_pos ca, if_neg cb]; repeat' split
      all_goals omega
  · by_cases cb : cl b = 0
    · rw [if_neg ca, if_pos cb]; repeat' split
      all_goals omega
    · rw [if_neg ca, if_neg cb]; repeat' split
      all_goals omega

theorem canon_same {a b : Int} (ha : I64 a) (hb : I64 b) (na : cl a ≠ 4) : (canon a == canon b) = same a b := by
  unfold same
  rw [beq_eq_false_iff_ne.2 na]
  have za := cl_zero a
  have zb := cl_zero b
  have nna := cl_nan a
  have nnb := cl_nan b
  have ra := rg_bd a
  have rb := rg_bd b
  simp only [Bool.not_false, Bool.true_and]
  by_cases nb : cl b = 4
  · rw [beq_iff_eq.2 nb]
    simp only [Bool.not_true, Bool.false_and]
    apply beq_eq_false_iff_ne.2
    unfold canon
    rw [if_pos nb, if_neg (show ¬ cl b = 0 by omega), if_neg na]
    split
    · decide
    · intro e; rw [e] at na; exact na cl_nanc
  · rw [beq_eq_false_iff_ne.2 nb]
    simp only [Bool.not_false, Bool.true_and]
    unfold canon
    rw [if_neg na, if_neg nb]
    unfold I64 at ha hb
    have k : (if cl a = 0 then 0 else a) = (if cl b = 0 then 0 else b) ↔ key a = key b := by
      unfold key
      by_cases ca : cl a = 0
      · by_cases cb : cl b = 0
        · rw [if_pos ca, if_pos cb]; repeat' split
          all_goals omega
        · rw [if_pos ca, if_neg cb]; unfold rg at *; repeat' split
          all_goals omega
      · by_cases cb : cl b = 0
        · rw [if_neg ca, if_pos cb]; unfold rg at *; repeat' split
          all_goals omega
        · rw [if_neg ca, if_neg cb]; unfold rg at *; repeat' split
          all_goals omega
    by_cases e : key a = key b
    · rw [beq_iff_eq.2 (k.2 e), beq_iff_eq.2 e]
    · rw [beq_eq_false_iff_ne.2 (fun h => e (k.1 h)), beq_eq_false_iff_ne.2 e]

/-- What the program orders by. -/
def okey (b : Int) : Int := if cl b = 4 then 9223372036854775807 else place b

theorem okey_order {a b : Int} (ha : I64 a) (hb : I64 b) : order a b = if okey a < okey b then -1 else if okey b < okey a then 1 else 0 := by
  have na := cl_nan a
  have nb := cl_nan b
  unfold order okey place
  unfold I64 at ha hb
  unfold inf rg at na nb
  by_cases ca : cl a = 4
  · by_cases cb : cl b = 4
    · simp [ca, cb]
    · simp only [ca, cb, if_true, if_false]; repeat' split
      all_goals omega
  · by_cases cb : cl b = 4
    · simp only [ca, cb, if_true, if_false]; repeat' split
      all_goals omega
    · simp only [ca, cb, if_false]

end Go.Proofs.YtgphmlllngichaaGreatDoor
