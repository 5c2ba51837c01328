/- make and lsh on any numbers. Condition: it stands in each fact. -/
import Derived.Test.YtgmebioogkmfgaaGreatDoorZM6
namespace Go.Proofs.YtgmebioogkmfgaaGreatDoor
open Go.RowKit Go.Pt Go.Mem

theorem make_any (z : Value) (M n : Nat) (h0 : 0 < n) (hn : n ≤ 900000) (w : World) (hz : NatV w z M) :
    Calls Tryz.prog 88 #[z, .int .i64 (n : Int)] w (MkPost (Blk z) n w) := by
  rcases hz with ⟨rfl, _⟩ | ⟨b, len, cap, l, rfl, hr, hl, h1, h2, _⟩
  · refine (make_new none 0 0 n h0 hn w).mono ?_
    rintro e w' ⟨b, c, l, h1, h2, h3, h4, h5, h6, h7⟩
    exact ⟨b, c, l, h1, h2, h3, h4, h5, h6.imp (fun x => x.elim) id, h7⟩
  · by_cases c : n ≤ cap
    · refine (make_old b len cap n c w).mono ?_
      rintro e w' ⟨rfl, rfl⟩
      exact ⟨b, cap, l, rfl, hr, hl, c, h2, Or.inl ⟨_, _, rfl⟩, Fr.refl _ _⟩
    · refine (make_new (some ⟨b, 0, none⟩) len cap n (by omega) hn w).mono ?_
      rintro e w' ⟨b, c, l, h1, h2, h3, h4, h5, h6, h7⟩
      exact ⟨b, c, l, h1, h2, h3, h4, h5, h6.imp (fun x => x.elim) id, h7⟩

/-- The number of words of a number. -/
theorem _root_.Go.Mem.NatV.len {w : World} {b len cap N K : Nat} (h : NatV w (.slice (some ⟨b, 0, none⟩) len cap) N) (hN : N < 2 ^ (64 * K)) : len ≤ K := by
  rcases h with ⟨h, _⟩ | ⟨b', len', cap', l, h, hr, hl, h1, h2, h3, h4⟩
  · cases h
  · cases h
    exact len_le (x := fun j => l.getD j 0) h4 (by rw [h3]; exact hN)

theorem _root_.Go.Mem.NatV.pos {w : World} {v : Value} {N : Nat} (h : NatV w v N) (hN : 0 < N) : ∃ (b len cap : Nat) (l : List Nat), v = .slice (some ⟨b, 0, none⟩) len cap ∧ Row w b l ∧ l.length = cap ∧ len ≤ cap ∧ cap ≤ 1000000 ∧
    val (fun j => l.getD j 0) len = N ∧ 0 < len ∧ l.getD (len - 1) 0 ≠ 0 := by
  rcases h with ⟨_, h⟩ | ⟨b, len, cap, l, rfl, hr, hl, h1, h2, h3, h4⟩
  · omega
  · have h0 : 0 < len := by
      rcases Nat.eq_zero_or_pos len with rfl | h
      · simp [val] at h3; omega
      · exact h
    exact ⟨b, len, cap, l, rfl, hr, hl, h1, h2, h3, h0, h4 h0⟩

theorem _root_.Go.Mem.NatV.zero {w : World} {v : Value} (h : NatV w v 0) : v = .slice none 0 0 ∨ ∃ (b cap : Nat) (l : List Nat), v = .slice (some ⟨b, 0, none⟩) 0 cap ∧ Row w b l ∧ l.length = cap ∧ cap ≤ 1000000 := by
  rcases h with ⟨h, _⟩ | ⟨b, len, cap, l, rfl, hr, hl, h1, h2, h3, h4⟩
  · exact Or.inl h
  · rcases Nat.eq_zero_or_pos len with rfl | h
    · exact Or.inr ⟨b, cap, l, rfl, hr, hl, h2⟩
    · have := val_ge (x := fun j => l.getD j 0) h (h4 h)
      rw [h3] at this
      have := Nat.two_pow_pos (64 * (len - 1))
      omega

/-- A slice that may hold a number: nil, or any row. -/
theorem lsh_none (z x : Value) (s : Nat) (hs : 0 < s) (hs2 : s < 64) (w : World) (M : Nat) (hz : NatV w z M) (hx : NatV w x 0) :
    Calls Tryz.prog 77 #[z, x, .int .u64 (s : Int)] w (NatPost (Blk z) 0 w) := by
  have sz : ((s : Int) == 0) = false := beq_eq_false_iff_ne.2 (by omega)
  have P0 : NatPost (Blk (.slice none 0 0)) 0 w (.returned (.slice none 0 0)) w := ⟨_, rfl, Or.inl ⟨rfl, rfl⟩, (fun b h => by obtain ⟨_, _, h⟩ := h; cases h), Fr.refl _ _⟩
  have P1 : ∀ (b len cap : Nat) (l : List Nat), Row w b l → l.length = cap → cap ≤ 1000000 → NatPost (Blk (.slice (some ⟨b, 0, none⟩) len cap)) 0 w (.returned (.slice (some ⟨b, 0, none⟩) 0 cap)) w :=
    fun b len cap l h1 h2 h3 => ⟨_, rfl, Or.inr ⟨b, 0, cap, l, rfl, h1, h2, Nat.zero_le _, h3, rfl, fun h => by omega⟩, fun c hc => by
      obtain ⟨_, _, hc⟩ := hc; cases hc; exact Or.inl ⟨_, _, rfl⟩, Fr.refl _ _⟩
  have H0 := Lib.hid P0
  have H1 := Lib.hid P1
  clear P0 P1
  rcases hx.zero with rfl | ⟨b, cap, l, rfl, hr⟩ <;> rcases hz with ⟨rfl, _⟩ | ⟨zb, zlen, zcap, zl, rfl, zr, z1, z2, z3, _⟩
  · go_enter Tryz.func77, Tryz.ntmps77
    go_wp2
    go_ret
    exact H0.out
  · have Z := Lib.hid (And.intro zr (And.intro z1 z3))
    clear zr z1 z3
    go_enter Tryz.func77, Tryz.ntmps77
    go_wp2
    go_ret
    exact H1.out _ _ _ _ Z.out.1 Z.out.2.1 Z.out.2.2
  · clear hr
    go_enter Tryz.func77, Tryz.ntmps77
    go_wp2
    go_ret
    exact H0.out
  · have Z := Lib.hid (And.intro zr (And.intro z1 z3))
    clear zr z1 z3 hr
    go_enter Tryz.func77, Tryz.ntmps77
    go_wp2
    go_ret
    exact H1.out _ _ _ _ Z.out.1 Z.out.2.1 Z.out.2.2

/-- lsh: a number moved up; in place or in new memory. -/
theorem lsh_any (z x : Value) (s K : Nat) (hs : 0 < s) (hs2 : s < 64) (hK : K ≤ 800000) (w : World) (M N : Nat) (hz : NatV w z M) (hx : NatV w x N) (hN : N < 2 ^ (64 * K)) :
    Calls Tryz.prog 77 #[z, x, .int .u64 (s : Int)] w (NatPost (Blk z) (N * 2 ^ s) w) := by
  rcases Nat.eq_zero_or_pos N with rfl | h0
  · rw [Nat.zero_mul]; exact lsh_none z x s hs hs2 w M hz hx
  · have hlen := fun b len cap (e : x = .slice (some ⟨b, 0, none⟩) len cap) => NatV.len (w := w) (N := N) (b := b) (cap := cap) (by rw [← e]; exact hx) hN
    obtain ⟨b, len, cap, l, rfl, hr, h1, h2, h3, h4, h5, h6⟩ := hx.pos h0
    have hl := hlen b len cap rfl
    have hm := make_any z M (len + 1) (by omega) (by omega) w hz
    rw [show ((len + 1 : Nat) : Int) = (len : Int) + 1 by omega] at hm
    rw [← h4]
    have hzf : ∃ za zlen zcap, z = .slice za zlen zcap := by
      rcases hz with ⟨rfl, _⟩ | ⟨zb, zlen, zcap, zl, rfl, _⟩
      · exact ⟨_, _, _, rfl⟩
      · exact ⟨_, _, _, rfl⟩
    obtain ⟨za, zlen, zcap, hzf⟩ := hzf
    exact lsh_core z za zlen zcap _ hzf b len cap s l hs hs2 h5 (by omega) (by omega) w hr hm
end Go.Proofs.YtgmebioogkmfgaaGreatDoor
