/- Levels: a greater number has no lower one: plain laws. -/
import Derived.Test.YtpaehjjkfjgfiaaL3
set_option linter.unusedVariables false
set_option linter.unusedSimpArgs false
namespace Go.Abs
open Go Go.Proofs

theorem half_div (a m : Nat) : 2 * a / m / 2 = a / m := by
  rw [Nat.div_div_eq_div_mul, Nat.mul_comm m 2, Nat.mul_div_mul_left _ _ (by omega)]
/-- The highest bits. -/
theorem part_div {x n : Nat} (hn : 0 < n) (h1 : 2 ^ (n - 1) ≤ x) (h2 : x < 2 ^ n) : ∀ i, 2 ^ i * x / 2 ^ (n - 1) = 2 ^ i + partN x n i
  | 0 => by
    have e : 2 ^ n = 2 ^ (n - 1) * 2 := by rw [← Nat.pow_succ, show (n - 1).succ = n from by omega]
    rw [Nat.pow_zero, Nat.one_mul, partN, Nat.add_zero]
    exact Nat.div_eq_of_lt_le (by omega) (by omega)
  | i + 1 => by
    have ih := part_div hn h1 h2 i
    have hh := half_div (2 ^ i * x) (2 ^ (n - 1))
    have e2 : 2 ^ (i + 1) * x = 2 * (2 ^ i * x) := by rw [Nat.pow_succ]; ac_rfl
    rw [ih] at hh
    rw [e2]
    have hb : 2 * (2 ^ i * x) / 2 ^ (n - 1) % 2 = bitAt x ((n : Int) - 2 - i) := by
      unfold bitAt
      by_cases hk : 0 ≤ (n : Int) - 2 - i
      · rw [if_pos hk]
        obtain ⟨k, hke⟩ := Int.eq_ofNat_of_zero_le hk
        rw [hke, Int.toNat_natCast]
        have e3 : 2 ^ (n - 1) = 2 ^ (i + 1) * 2 ^ k := by rw [← Nat.pow_add]; congr 1; omega
        rw [← e2, e3, Nat.mul_div_mul_left _ _ (Nat.two_pow_pos _)]
      · rw [if_neg hk]
        obtain ⟨d, hd⟩ : ∃ d, i + 1 = (n - 1) + (d + 1) := ⟨i - (n - 1), by omega⟩
        rw [← e2, hd, Nat.pow_add, Nat.mul_assoc, Nat.mul_div_cancel_left _ (Nat.two_pow_pos _), Nat.pow_succ, Nat.mul_right_comm, Nat.mul_mod_left]
    rw [partN, Nat.pow_succ]
    omega
/-- The level, by the highest four bits. -/
theorem lv_eq {x : Nat} (h : 0 < x) : lvN x = 8 * ((blen x : Int) - 1) + ((8 * x / 2 ^ (blen x - 1) : Nat) - 8) + 1 ∧ 8 ≤ 8 * x / 2 ^ (blen x - 1) ∧ 8 * x / 2 ^ (blen x - 1) < 16 := by
  have h0 : x ≠ 0 := by omega
  have hp := part_div (blen_pos h0) (blen_le h0) (blen_lt x) 3
  have hl := partN_lt x (blen x) 3
  rw [show (2 : Nat) ^ 3 = 8 from rfl] at hp hl
  unfold lvN
  rw [if_neg h0, hp]
  refine ⟨by omega, by omega, by omega⟩
theorem blen_mono {x y : Nat} (h : x ≤ y) : blen x ≤ blen y := blen_le_of_lt (Nat.lt_of_le_of_lt h (blen_lt y))
theorem lv_zero : lvN 0 = 0 := rfl
theorem lv_pos {x : Nat} (h : 0 < x) : 1 ≤ lvN x := by
  obtain ⟨e, a, b⟩ := lv_eq h
  have := blen_pos (show x ≠ 0 by omega)
  omega
/-- A greater number has no lower level. -/
theorem lv_mono {x y : Nat} (h : x ≤ y) : lvN x ≤ lvN y := by
  by_cases h0 : x = 0
  · subst h0
    rw [lv_zero]
    by_cases hy : y = 0
    · subst hy; exact Int.le_refl _
    · have := lv_pos (Nat.pos_of_ne_zero hy); omega
  · obtain ⟨e1, a1, b1⟩ := lv_eq (Nat.pos_of_ne_zero h0)
    obtain ⟨e2, a2, b2⟩ := lv_eq (x := y) (by omega)
    have hb := blen_mono h
    rw [e1, e2]
    by_cases hn : blen x = blen y
    · rw [hn] at a1 b1 ⊢
      have : 8 * x / 2 ^ (blen y - 1) ≤ 8 * y / 2 ^ (blen y - 1) := Nat.div_le_div_right (by omega)
      omega
    · omega
/-- Twice as great it is eight higher. -/
theorem lv_double {x : Nat} (h : 0 < x) : lvN (x + x) = lvN x + 8 := by
  have h0 : x ≠ 0 := by omega
  obtain ⟨e1, a1, b1⟩ := lv_eq h
  obtain ⟨e2, a2, b2⟩ := lv_eq (x := x + x) (by omega)
  have hn : blen (x + x) = blen x + 1 := by
    have l1 := blen_lt x
    have l2 := blen_le h0
    have hp := blen_pos h0
    refine blen_unique (by rw [Nat.pow_succ]; omega) (.inr ?_)
    rw [Nat.add_sub_cancel]
    have e : 2 ^ blen x = 2 ^ (blen x - 1) * 2 := by rw [← Nat.pow_succ, show (blen x - 1).succ = blen x from by omega]
    omega
  have hq : 8 * (x + x) / 2 ^ (blen (x + x) - 1) = 8 * x / 2 ^ (blen x - 1) := by
    have hp := blen_pos h0
    have e : 2 ^ blen x = 2 * 2 ^ (blen x - 1) := by rw [Nat.mul_comm, ← Nat.pow_succ, show (blen x - 1).succ = blen x from by omega]
    rw [hn, Nat.add_sub_cancel, e, show 8 * (x + x) = 2 * (8 * x) from by omega, Nat.mul_div_mul_left _ _ (by omega)]
  rw [e1, e2, hq, hn]
  omega
/-- One that is a sixteenth greater is one higher at most. -/
theorem lv_more {x : Nat} (h : 0 < x) : 0 ≤ lvN (x + x / 16) - lvN x ∧ lvN (x + x / 16) - lvN x ≤ 1 := by
  have h0 : x ≠ 0 := by omega
  have hm := lv_mono (Nat.le_add_right x (x / 16))
  refine ⟨by omega, ?_⟩
  obtain ⟨e1, a1, b1⟩ := lv_eq h
  obtain ⟨e2, a2, b2⟩ := lv_eq (x := x + x / 16) (by omega)
  have hp := blen_pos h0
  have l1 := blen_lt x
  have l2 := blen_le h0
  obtain ⟨n, hn⟩ : ∃ n, blen x = n + 1 := ⟨blen x - 1, by omega⟩
  rw [hn] at e1 a1 b1 l1 l2
  rw [Nat.add_sub_cancel] at e1 a1 b1 l2
  obtain ⟨M, hM⟩ : ∃ M, 2 ^ n = M := ⟨_, rfl⟩
  have hM0 : 0 < M := by rw [← hM]; exact Nat.two_pow_pos _
  have hM2 : 2 ^ (n + 1) = M * 2 := by rw [Nat.pow_succ, hM]
  rw [hM] at e1 a1 b1 l2
  rw [hM2] at l1
  obtain ⟨y, hy⟩ : ∃ y, x + x / 16 = y := ⟨_, rfl⟩
  rw [hy] at e2 a2 b2 ⊢
  have hq : 8 * y / M ≤ 8 * x / M + 1 := by
    have : 8 * y ≤ 8 * x + M := by omega
    calc 8 * y / M ≤ (8 * x + M) / M := Nat.div_le_div_right this
      _ = 8 * x / M + 1 := Nat.add_div_right _ hM0
  by_cases hy2 : y < 2 ^ (n + 1)
  · have hb : blen y = n + 1 := blen_unique hy2 (.inr (by rw [Nat.add_sub_cancel, hM]; omega))
    rw [hb, Nat.add_sub_cancel, hM] at e2 a2 b2
    omega
  · have hb : blen y = n + 1 + 1 := blen_unique (by rw [Nat.pow_succ, hM2]; omega) (.inr (by rw [Nat.add_sub_cancel]; omega))
    rw [hb, Nat.add_sub_cancel, hM2] at e2 a2 b2
    have hh := half_div (4 * y) M
    have e3 : 8 * y / (M * 2) = 8 * y / M / 2 := (Nat.div_div_eq_div_mul _ _ _).symm
    rw [e3] at e2 a2 b2
    omega
end Go.Abs
