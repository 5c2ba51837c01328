/- Plain facts on the words of IEEE 754: a rung's number, the word nearest to a number that the format has, the order of two words. No condition beside a format with at least two bits in each field. -/
import Derived.Laws.FloatBits
namespace Ieee
namespace Format
variable (f : Format)

/-- The whole number of a rung. -/
def mg (r : Nat) : Nat := if r < f.binade then r else f.binade + r % f.binade

/-- The steps of a rung's place above the least one. -/
def up (r : Nat) : Nat := r / f.binade - 1

/-- A rung's number, counted in the least places. -/
def val (r : Nat) : Nat := f.mg r * 2 ^ f.up r

theorem binade_pos : 0 < f.binade := Nat.two_pow_pos _

theorem up_small {r : Nat} (h : r < f.binade) : f.up r = 0 := by
  unfold up; rw [Nat.div_eq_of_lt h]

theorem mg_lt (r : Nat) : f.mg r < 2 * f.binade := by
  have := f.binade_pos
  have h2 := Nat.mod_lt r this
  unfold mg; split <;> omega

theorem mg_ge {r : Nat} (h : f.binade ≤ r) : f.binade ≤ f.mg r := by
  unfold mg; rw [if_neg (by omega)]; omega

/-- A rung out of its number and its steps. -/
theorem rung_of (r : Nat) : f.up r * f.binade + f.mg r = r := by
  unfold up mg
  split
  · rename_i h; rw [Nat.div_eq_of_lt h]; simp
  · rename_i h
    have h1 := f.binade_pos
    have h2 : 1 ≤ r / f.binade := (Nat.one_le_div_iff h1).2 (by omega)
    have h3 := Nat.div_add_mod r f.binade
    obtain ⟨q, hq⟩ : ∃ q, r / f.binade = q + 1 := ⟨r / f.binade - 1, by omega⟩
    rw [hq] at h3 ⊢
    rw [Nat.mul_add, Nat.mul_one, Nat.mul_comm] at h3
    simp only [Nat.add_sub_cancel]
    omega

/-- Of a number and steps that are written as they must be: the rung's own. -/
theorem norm_rung {m q : Nat} (h : m < 2 * f.binade) (hn : f.binade ≤ m ∨ q = 0) : f.mg (q * f.binade + m) = m ∧ f.up (q * f.binade + m) = q := by
  have h1 := f.binade_pos
  by_cases hm : m < f.binade
  · obtain rfl : q = 0 := by omega
    simp only [Nat.zero_mul, Nat.zero_add]
    exact ⟨by unfold mg; rw [if_pos hm], f.up_small hm⟩
  · have e : q * f.binade + m = (q + 1) * f.binade + (m - f.binade) := by rw [Nat.add_mul, Nat.one_mul]; omega
    have ed : (q * f.binade + m) / f.binade = q + 1 := by
      rw [e, Nat.mul_comm, Nat.mul_add_div h1, Nat.div_eq_of_lt (by omega)]
    have em : (q * f.binade + m) % f.binade = m - f.binade := by
      rw [e, Nat.mul_comm, Nat.mul_add_mod, Nat.mod_eq_of_lt (by omega)]
    have hge : ¬ q * f.binade + m < f.binade := by
      have : 0 ≤ q * f.binade := Nat.zero_le _
      omega
    constructor
    · unfold mg; rw [if_neg hge, em]; omega
    · unfold up; rw [ed]; rfl

theorem val_succ (r : Nat) : f.val r < f.val (r + 1) := by
  have h1 := f.binade_pos
  have hr := f.rung_of r
  have hl := f.mg_lt r
  have hs : f.binade ≤ f.mg r ∨ f.up r = 0 := by
    by_cases h : r < f.binade
    · exact Or.inr (f.up_small h)
    · exact Or.inl (f.mg_ge (by omega))
  generalize hm : f.mg r = m at *
  generalize hq : f.up r = q at *
  unfold val
  rw [hm, hq]
  by_cases hn : m + 1 < 2 * f.binade
  · have := f.norm_rung (m := m + 1) (q := q) hn (by omega)
    rw [show r + 1 = q * f.binade + (m + 1) by omega, this.1, this.2]
    exact Nat.mul_lt_mul_of_pos_right (Nat.lt_succ_self _) (Nat.two_pow_pos _)
  · have e : r + 1 = (q + 1) * f.binade + f.binade := by rw [Nat.add_mul, Nat.one_mul]; omega
    have := f.norm_rung (m := f.binade) (q := q + 1) (by omega) (Or.inl (Nat.le_refl _))
    rw [e, this.1, this.2, Nat.pow_succ, Nat.mul_comm (2 ^ q) 2, ← Nat.mul_assoc, Nat.mul_comm f.binade 2]
    exact Nat.mul_lt_mul_of_pos_right (by omega) (Nat.two_pow_pos _)

theorem val_lt {r s : Nat} (h : r < s) : f.val r < f.val s := by
  induction s with
  | zero => omega
  | succ s ih =>
    by_cases e : r = s
    · subst e; exact f.val_succ r
    · exact Nat.lt_trans (ih (by omega)) (f.val_succ s)

theorem val_lt_iff (r s : Nat) : f.val r < f.val s ↔ r < s := by
  constructor
  · intro h
    by_cases h1 : r < s
    · exact h1
    · by_cases h2 : s < r
      · have := f.val_lt h2; omega
      · obtain rfl : r = s := by omega
        omega
  · exact f.val_lt

theorem val_inj {r s : Nat} (h : f.val r = f.val s) : r = s := by
  by_cases h1 : r < s
  · have := f.val_lt h1; omega
  · by_cases h2 : s < r
    · have := f.val_lt h2; omega
    · omega

theorem val_zero : f.val 0 = 0 := by unfold val mg; rw [if_pos f.binade_pos]; simp

theorem val_pos {r : Nat} (h : 0 < r) : 0 < f.val r := by have := f.val_lt h; rw [f.val_zero] at this; exact this

/-- What a word of a finite number reads as. -/
theorem read_word (s : Bool) {r : Nat} (h : r < f.infRung) : f.read (f.word s r) = .number s (f.mg r) (f.leastPlace + f.up r) := by
  have hi := f.infRung_lt
  have hd : f.word s r / f.signWeight = s.toNat := by
    unfold word; cases s
    · simpa using Nat.div_eq_of_lt (by omega)
    · simp [Nat.add_div_left _ (show 0 < f.signWeight by omega), Nat.div_eq_of_lt (show r < f.signWeight by omega)]
  have hm : f.word s r % f.signWeight = r := by
    unfold word; cases s
    · simpa using Nat.mod_eq_of_lt (by omega)
    · simp [Nat.mod_eq_of_lt (show r < f.signWeight by omega)]
  unfold read
  dsimp only
  rw [hd, hm]
  have hs : (s.toNat % 2 == 1) = s := by cases s <;> rfl
  rw [hs]
  by_cases hb : r < f.binade
  · rw [if_pos hb]; unfold mg; rw [if_pos hb, f.up_small hb]; simp
  · rw [if_neg hb, if_pos h]; unfold mg up; rw [if_neg hb]

theorem word_parts (s : Bool) {r : Nat} (h : r < f.signWeight) : (f.word s r / f.signWeight % 2 == 1) = s ∧ f.word s r % f.signWeight = r := by
  have hd : f.word s r / f.signWeight = s.toNat := by
    unfold word; cases s
    · simpa using Nat.div_eq_of_lt (by omega)
    · simp [Nat.add_div_left _ (show 0 < f.signWeight by omega), Nat.div_eq_of_lt (show r < f.signWeight by omega)]
  have hm : f.word s r % f.signWeight = r := by
    unfold word; cases s
    · simpa using Nat.mod_eq_of_lt (by omega)
    · simp [Nat.mod_eq_of_lt (show r < f.signWeight by omega)]
  rw [hd, hm]
  exact ⟨by cases s <;> rfl, rfl⟩

theorem binade_le_inf (he : 1 ≤ f.exponentBits) : f.binade ≤ f.infRung := by
  have : 2 ≤ 2 ^ f.exponentBits := by
    calc 2 = 2 ^ 1 := rfl
      _ ≤ 2 ^ f.exponentBits := Nat.pow_le_pow_right (by omega) he
  exact Nat.le_mul_of_pos_left _ (by omega)

theorem read_inf (he : 1 ≤ f.exponentBits) (s : Bool) : f.read (f.word s f.infRung) = .infinity s := by
  have h := f.word_parts s f.infRung_lt
  have hb := f.binade_le_inf he
  unfold read
  dsimp only
  rw [h.1, h.2, if_neg (by omega), if_neg (Nat.lt_irrefl _), if_pos rfl]

theorem read_nan (he : 1 ≤ f.exponentBits) (s : Bool) {r : Nat} (h1 : f.infRung < r) (h2 : r < f.signWeight) : f.read (f.word s r) = .nan s (r - f.infRung) := by
  have h := f.word_parts s h2
  have hb := f.binade_le_inf he
  unfold read
  dsimp only
  rw [h.1, h.2, if_neg (by omega), if_neg (by omega), if_neg (by omega)]

theorem log2_eq {m b : Nat} (h1 : 2 ^ b ≤ m) (h2 : m < 2 ^ (b + 1)) : m.log2 = b := by
  have h0 : m ≠ 0 := by have := Nat.two_pow_pos b; omega
  have a : b ≤ m.log2 := (Nat.le_log2 h0).2 h1
  have c : m.log2 < b + 1 := (Nat.log2_lt h0).2 h2
  omega

theorem log2_mul_pow {m : Nat} (h0 : m ≠ 0) (k : Nat) : (m * 2 ^ k).log2 = m.log2 + k := by
  apply log2_eq
  · rw [Nat.pow_add]; exact Nat.mul_le_mul_right _ (Nat.log2_self_le h0)
  · rw [show m.log2 + k + 1 = (m.log2 + 1) + k by omega, Nat.pow_add]
    exact Nat.mul_lt_mul_of_pos_right Nat.lt_log2_self (Nat.two_pow_pos _)

theorem cut_whole (neg : Bool) (n d : Nat) (h0 : n ≠ 0) : Toward.even.cut neg (n * 2 ^ d) d = n := by
  have hl : d ≤ (n * 2 ^ d).log2 := by rw [log2_mul_pow h0]; omega
  unfold Toward.cut
  simp only
  rw [Nat.min_eq_left (by omega), Nat.one_shiftLeft, Nat.mul_mod_left, Nat.mul_div_cancel _ (Nat.two_pow_pos _)]
  have hp := Nat.two_pow_pos d
  have e1 : decide (2 ^ d < 2 * 0) = false := by simp
  have e2 : (2 ^ d == 2 * 0) = false := by simp
  rw [e1, e2]
  rfl

/-- THE WORD NEAREST TO A NUMBER THAT THE FORMAT HAS IS THAT NUMBER's. -/
theorem nearest_whole (s : Bool) {m r a c : Nat} {p : Int} (hr : r < f.infRung) (h : m * 2 ^ a = f.mg r * 2 ^ c) (hp : (a : Int) - c = p - (f.leastPlace + f.up r)) (hm : m ≠ 0) :
    f.nearest s m p = f.word s r := by
  have hg : f.mg r ≠ 0 := by
    intro h0; rw [h0, Nat.zero_mul] at h
    rcases Nat.mul_eq_zero.1 h with h | h
    · exact hm h
    · have := Nat.two_pow_pos a; omega
  have hlog : m.log2 + a = (f.mg r).log2 + c := by rw [← log2_mul_pow hm, ← log2_mul_pow hg, h]
  have hlast : max (p + m.log2 - f.fractionBits) f.leastPlace = f.leastPlace + f.up r := by
    by_cases hb : r < f.binade
    · have hlt : f.mg r < 2 ^ f.fractionBits := by unfold mg; rw [if_pos hb]; exact hb
      have : (f.mg r).log2 < f.fractionBits := (Nat.log2_lt hg).2 hlt
      rw [f.up_small hb] at *
      omega
    · have h1 := f.mg_ge (r := r) (by omega)
      have h2 := f.mg_lt r
      have : (f.mg r).log2 = f.fractionBits := log2_eq h1 (by rw [Nat.pow_succ, Nat.mul_comm]; exact h2)
      omega
  unfold nearest
  rw [if_neg hm]
  dsimp only
  rw [hlast]
  have hk : Toward.even.cut s (m <<< (p - (f.leastPlace + f.up r)).toNat) (f.leastPlace + f.up r - p).toNat = f.mg r := by
    by_cases hpp : f.leastPlace + f.up r ≤ p
    · have e1 : (f.leastPlace + ↑(f.up r) - p).toNat = 0 := by omega
      have e2 : m * 2 ^ (p - (f.leastPlace + f.up r)).toNat = f.mg r := by
        have : a = (p - (f.leastPlace + f.up r)).toNat + c := by omega
        rw [this, Nat.pow_add, ← Nat.mul_assoc] at h
        exact Nat.eq_of_mul_eq_mul_right (Nat.two_pow_pos c) h
      rw [e1, Nat.shiftLeft_eq, e2]
      have := cut_whole s (f.mg r) 0 hg
      simpa using this
    · have e1 : (p - (f.leastPlace + ↑(f.up r))).toNat = 0 := by omega
      have e2 : m = f.mg r * 2 ^ (f.leastPlace + f.up r - p).toNat := by
        have : c = (f.leastPlace + f.up r - p).toNat + a := by omega
        rw [this, Nat.pow_add, ← Nat.mul_assoc] at h
        exact Nat.eq_of_mul_eq_mul_right (Nat.two_pow_pos a) h
      rw [e1, Nat.shiftLeft_zero]
      generalize (f.leastPlace + f.up r - p).toNat = d at e2 ⊢
      rw [e2]
      exact cut_whole s _ d hg
  rw [hk, show (f.leastPlace + ↑(f.up r) - f.leastPlace).toNat = f.up r by omega, f.rung_of, Nat.min_eq_left (by omega)]

theorem nearest_zero (s : Bool) (p : Int) : f.nearest s 0 p = f.word s 0 := by unfold nearest; rw [if_pos rfl]

end Format

/-- Two numbers with places are one. -/
def Deq (m : Nat) (p : Int) (n : Nat) (q : Int) : Prop := ∃ a c : Nat, m * 2 ^ a = n * 2 ^ c ∧ (a : Int) - c = p - q

theorem Deq.refl (m : Nat) (p : Int) : Deq m p m p := ⟨0, 0, rfl, by omega⟩
theorem Deq.symm {m n : Nat} {p q : Int} (h : Deq m p n q) : Deq n q m p := by
  obtain ⟨a, c, h, e⟩ := h; exact ⟨c, a, h.symm, by omega⟩
theorem Deq.trans {m n o : Nat} {p q u : Int} (h : Deq m p n q) (g : Deq n q o u) : Deq m p o u := by
  obtain ⟨a, c, h, e⟩ := h
  obtain ⟨b, d, g, i⟩ := g
  refine ⟨a + b, c + d, ?_, by omega⟩
  rw [Nat.pow_add, Nat.pow_add, ← Nat.mul_assoc, h, Nat.mul_right_comm, g, Nat.mul_assoc, Nat.mul_comm (2 ^ d)]
theorem Deq.zero_left {n : Nat} {p q : Int} (h : Deq 0 p n q) : n = 0 := by
  obtain ⟨a, c, h, _⟩ := h
  rw [Nat.zero_mul] at h
  rcases Nat.mul_eq_zero.1 h.symm with h | h
  · exact h
  · have := Nat.two_pow_pos c; omega
theorem Deq.zero (p q : Int) : Deq 0 p 0 q := by
  by_cases h : p ≤ q
  · exact ⟨0, (q - p).toNat, by simp, by omega⟩
  · exact ⟨(p - q).toNat, 0, by simp, by omega⟩
theorem Deq.shift (m k : Nat) (p : Int) : Deq (m * 2 ^ k) p m (p + k) := ⟨0, k, by simp, by omega⟩
theorem Deq.same {m n : Nat} {p : Int} (h : Deq m p n p) : m = n := by
  obtain ⟨a, c, h, e⟩ := h
  have : a = c := by omega
  subst this
  exact Nat.eq_of_mul_eq_mul_right (Nat.two_pow_pos a) h

namespace Format
variable (f : Format)

/-- The number 'm * 2 ^ p' is that of a rung. -/
def At (m : Nat) (p : Int) (r : Nat) : Prop := Deq m p (f.mg r) (f.leastPlace + f.up r)

theorem at_own (r : Nat) : f.At (f.mg r) (f.leastPlace + f.up r) r := Deq.refl _ _

theorem at_val (r : Nat) : Deq (f.val r) f.leastPlace (f.mg r) (f.leastPlace + f.up r) := Deq.shift _ _ _

theorem At.inj {f : Format} {m r s : Nat} {p : Int} (h : f.At m p r) (g : f.At m p s) : r = s := by
  have h1 : Deq (f.val r) f.leastPlace (f.val s) f.leastPlace := ((f.at_val r).trans h.symm).trans (g.trans (f.at_val s).symm)
  exact f.val_inj h1.same

theorem nearest_at (s : Bool) {m r : Nat} {p : Int} (hr : r < f.infRung) (h : f.At m p r) : f.nearest s m p = f.word s r := by
  by_cases hm : m = 0
  · subst hm
    have h0 : f.mg r = 0 := h.zero_left
    have : r = 0 := by
      apply f.val_inj; rw [f.val_zero]; unfold val; rw [h0, Nat.zero_mul]
    subst this
    exact f.nearest_zero s p
  · obtain ⟨a, c, h1, h2⟩ := h
    exact f.nearest_whole s hr h1 (by omega) hm

theorem at_norm {m : Nat} {p : Int} (hm : m < 2 * f.binade) (hp : f.leastPlace ≤ p) (hn : f.binade ≤ m ∨ p = f.leastPlace) : f.At m p ((p - f.leastPlace).toNat * f.binade + m) := by
  have := f.norm_rung (m := m) (q := (p - f.leastPlace).toNat) hm (by omega)
  unfold At
  rw [this.1, this.2, show f.leastPlace + ((p - f.leastPlace).toNat : Int) = p by omega]
  exact Deq.refl _ _

/-- A number short enough, at a place that is neither too low nor too high: its rung. -/
theorem at_make {m : Nat} {p : Int} (hm : m < 2 * f.binade) (hp : f.leastPlace ≤ p) (hq : (p - f.leastPlace).toNat * f.binade + 2 * f.binade ≤ f.infRung) : ∃ r, r < f.infRung ∧ f.At m p r := by
  have hb := f.binade_pos
  generalize hk : (p - f.leastPlace).toNat = k at hq
  induction k generalizing m p with
  | zero => exact ⟨_, by have := f.at_norm hm hp (Or.inr (by omega)); rw [hk]; omega, f.at_norm hm hp (Or.inr (by omega))⟩
  | succ k ih =>
    have hq' : k * f.binade + f.binade + 2 * f.binade ≤ f.infRung := by rw [Nat.succ_mul] at hq; exact hq
    by_cases h : f.binade ≤ m
    · refine ⟨_, ?_, f.at_norm hm hp (Or.inl h)⟩; rw [hk, Nat.succ_mul]; omega
    · obtain ⟨r, hr, ha⟩ := ih (m := m * 2 ^ 1) (p := p - 1) (by omega) (by omega) (by omega) (by omega)
      refine ⟨r, hr, ?_⟩
      have e := Deq.shift m 1 (p - 1)
      rw [show p - 1 + ((1 : Nat) : Int) = p by omega] at e
      exact e.symm.trans ha

theorem At.odd {f : Format} {o r : Nat} {p : Int} (ho : o % 2 = 1) (h : f.At o p r) : f.leastPlace ≤ p ∧ o < 2 * f.binade := by
  obtain ⟨a, c, h, e⟩ := h
  have hl := f.mg_lt r
  by_cases hac : c ≤ a
  · have e2 : o * 2 ^ (a - c) = f.mg r := by
      rw [show a = (a - c) + c by omega, Nat.pow_add, ← Nat.mul_assoc] at h
      exact Nat.eq_of_mul_eq_mul_right (Nat.two_pow_pos c) h
    have := Nat.le_mul_of_pos_right o (Nat.two_pow_pos (a - c))
    exact ⟨by omega, by omega⟩
  · have e2 : o = f.mg r * 2 ^ (c - a) := by
      rw [show c = (c - a) + a by omega, Nat.pow_add, ← Nat.mul_assoc] at h
      exact Nat.eq_of_mul_eq_mul_right (Nat.two_pow_pos a) h
    obtain ⟨d, hd⟩ : ∃ d, c - a = d + 1 := ⟨c - a - 1, by omega⟩
    rw [hd, Nat.pow_succ, ← Nat.mul_assoc] at e2
    omega

theorem deq_odd {o u : Nat} {p q : Int} (ho : o % 2 = 1) (hu : u % 2 = 1) (h : Deq o p u q) : o = u ∧ p = q := by
  obtain ⟨a, c, h, e⟩ := h
  by_cases hac : c ≤ a
  · have e2 : o * 2 ^ (a - c) = u := by
      rw [show a = (a - c) + c by omega, Nat.pow_add, ← Nat.mul_assoc] at h
      exact Nat.eq_of_mul_eq_mul_right (Nat.two_pow_pos c) h
    by_cases ha : a = c
    · subst ha; simp at e2; exact ⟨e2, by omega⟩
    · obtain ⟨d, hd⟩ : ∃ d, a - c = d + 1 := ⟨a - c - 1, by omega⟩
      rw [hd, Nat.pow_succ, ← Nat.mul_assoc] at e2
      omega
  · have e2 : o = u * 2 ^ (c - a) := by
      rw [show c = (c - a) + a by omega, Nat.pow_add, ← Nat.mul_assoc] at h
      exact Nat.eq_of_mul_eq_mul_right (Nat.two_pow_pos a) h
    obtain ⟨d, hd⟩ : ∃ d, c - a = d + 1 := ⟨c - a - 1, by omega⟩
    rw [hd, Nat.pow_succ, ← Nat.mul_assoc] at e2
    omega

/-! ### The order -/

/-- A rung with its sign. -/
def skey (s : Bool) (r : Nat) : Int := if s then -(r : Int) else r

theorem signed_scale (s : Bool) (m k d : Nat) : signed s (m * 2 ^ k) d = signed s m d * 2 ^ k := by
  unfold signed
  simp only [Nat.shiftLeft_eq]
  cases s
  · simp only [Bool.false_eq_true, if_false]; rw [Nat.mul_right_comm]; push_cast; rfl
  · simp only [if_true]; rw [Nat.mul_right_comm]; push_cast; rw [Int.neg_mul]

theorem compare_mul (x y : Int) (k : Nat) : compare (x * 2 ^ k) (y * 2 ^ k) = compare x y := by
  have hp : (0 : Int) < 2 ^ k := Int.pow_pos (by decide)
  by_cases h1 : x < y
  · rw [Int.compare_eq_lt.2 h1, Int.compare_eq_lt.2 (Int.mul_lt_mul_of_pos_right h1 hp)]
  · by_cases h2 : y < x
    · rw [Int.compare_eq_gt.2 h2, Int.compare_eq_gt.2 (Int.mul_lt_mul_of_pos_right h2 hp)]
    · have : x = y := by omega
      subst this; rw [Int.compare_eq_eq.2 rfl, Int.compare_eq_eq.2 rfl]

/-- THE ORDER OF TWO FINITE NUMBERS IS THAT OF THEIR SIGNED RUNGS. -/
theorem order_finite (s t : Bool) {r u : Nat} (hr : r < f.infRung) (hu : u < f.infRung) : f.order (f.word s r) (f.word t u) = some (compare (skey s r) (skey t u)) := by
  unfold order
  rw [f.read_word s hr, f.read_word t hu]
  unfold Datum.order
  simp only
  congr 1
  generalize hb : min (f.leastPlace + (f.up r : Int)) (f.leastPlace + (f.up u : Int)) = b
  have e1 : signed s (f.mg r) (f.leastPlace + ↑(f.up r) - b).toNat * 2 ^ (b - f.leastPlace).toNat = signed s (f.val r) 0 := by
    unfold signed val
    simp only [Nat.shiftLeft_eq]
    have : f.up r = (f.leastPlace + ↑(f.up r) - b).toNat + (b - f.leastPlace).toNat := by omega
    generalize (f.leastPlace + ↑(f.up r) - b).toNat = x at *
    rw [this, Nat.pow_add]
    cases s <;> simp [Int.mul_assoc, Int.neg_mul]
  have e2 : signed t (f.mg u) (f.leastPlace + ↑(f.up u) - b).toNat * 2 ^ (b - f.leastPlace).toNat = signed t (f.val u) 0 := by
    unfold signed val
    simp only [Nat.shiftLeft_eq]
    have : f.up u = (f.leastPlace + ↑(f.up u) - b).toNat + (b - f.leastPlace).toNat := by omega
    generalize (f.leastPlace + ↑(f.up u) - b).toNat = x at *
    rw [this, Nat.pow_add]
    cases t <;> simp [Int.mul_assoc, Int.neg_mul]
  rw [← compare_mul _ _ (b - f.leastPlace).toNat, e1, e2]
  have hlt := f.val_lt_iff r u
  have hgt := f.val_lt_iff u r
  have hz1 : f.val r = 0 ↔ r = 0 := ⟨fun h => f.val_inj (by rw [h, f.val_zero]), fun h => by rw [h, f.val_zero]⟩
  have hz2 : f.val u = 0 ↔ u = 0 := ⟨fun h => f.val_inj (by rw [h, f.val_zero]), fun h => by rw [h, f.val_zero]⟩
  have k1 : signed s (f.val r) 0 < signed t (f.val u) 0 ↔ skey s r < skey t u := by
    unfold signed skey; simp only [Nat.shiftLeft_zero]; cases s <;> cases t <;> simp <;> omega
  have k2 : signed t (f.val u) 0 < signed s (f.val r) 0 ↔ skey t u < skey s r := by
    unfold signed skey; simp only [Nat.shiftLeft_zero]; cases s <;> cases t <;> simp <;> omega
  generalize signed s (f.val r) 0 = x at k1 k2 ⊢
  generalize signed t (f.val u) 0 = y at k1 k2 ⊢
  by_cases h1 : x < y
  · rw [Int.compare_eq_lt.2 h1, Int.compare_eq_lt.2 (k1.1 h1)]
  · by_cases h2 : y < x
    · rw [Int.compare_eq_gt.2 h2, Int.compare_eq_gt.2 (k2.1 h2)]
    · have e : skey s r = skey t u := by
        have a1 : ¬ skey s r < skey t u := fun h => h1 (k1.2 h)
        have a2 : ¬ skey t u < skey s r := fun h => h2 (k2.2 h)
        omega
      have : x = y := by omega
      subst this; rw [e, Int.compare_eq_eq.2 rfl, Int.compare_eq_eq.2 rfl]

/-- The order of any two words that are no NaNs. -/
theorem order_words (he : 1 ≤ f.exponentBits) (s t : Bool) {r u : Nat} (hr : r ≤ f.infRung) (hu : u ≤ f.infRung) : f.order (f.word s r) (f.word t u) = some (compare (skey s r) (skey t u)) := by
  have hb := f.binade_le_inf he
  have hp := f.binade_pos
  by_cases h1 : r < f.infRung
  · by_cases h2 : u < f.infRung
    · exact f.order_finite s t h1 h2
    · obtain rfl : u = f.infRung := by omega
      unfold order
      rw [f.read_word s h1, f.read_inf he]
      unfold Datum.order
      simp only
      cases t
      · rw [Int.compare_eq_lt.2 (by unfold skey; cases s <;> simp <;> omega)]; rfl
      · rw [Int.compare_eq_gt.2 (by unfold skey; cases s <;> simp <;> omega)]; rfl
  · obtain rfl : r = f.infRung := by omega
    by_cases h2 : u < f.infRung
    · unfold order
      rw [f.read_word t h2, f.read_inf he]
      unfold Datum.order
      simp only
      cases s
      · rw [Int.compare_eq_gt.2 (by unfold skey; cases t <;> simp <;> omega)]; rfl
      · rw [Int.compare_eq_lt.2 (by unfold skey; cases t <;> simp <;> omega)]; rfl
    · obtain rfl : u = f.infRung := by omega
      unfold order
      rw [f.read_inf he, f.read_inf he]
      unfold Datum.order
      simp only
      have hi : (0 : Int) < f.infRung := by omega
      cases s <;> cases t
      · rw [Int.compare_eq_eq.2 rfl]; rfl
      · rw [Int.compare_eq_gt.2 (by unfold skey; simp; omega)]; rfl
      · rw [Int.compare_eq_lt.2 (by unfold skey; simp; omega)]; rfl
      · rw [Int.compare_eq_eq.2 rfl]; rfl

theorem order_nan_left (he : 1 ≤ f.exponentBits) (s : Bool) {r : Nat} (y : Nat) (h1 : f.infRung < r) (h2 : r < f.signWeight) : f.order (f.word s r) y = none := by
  unfold order; rw [f.read_nan he s h1 h2]; rfl

theorem order_nan_right (he : 1 ≤ f.exponentBits) (s : Bool) {r : Nat} (x : Nat) (h1 : f.infRung < r) (h2 : r < f.signWeight) : f.order x (f.word s r) = none := by
  unfold order; rw [f.read_nan he s h1 h2]; cases f.read x <;> rfl

end Format
end Ieee
