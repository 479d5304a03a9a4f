/- Fees: what is greater costs no less: plain laws. -/
import Derived.Test.YtdhonccddoaeiaaT3
set_option linter.unusedVariables false
set_option linter.unusedSimpArgs false
namespace Go.Abs
open Go Go.Proofs

theorem fake_ge {n d : Nat} : ∀ {fuel out acc i r : Nat}, fakeN n d fuel out acc i = some r → out ≤ r
  | 0, _, _, _, _, h => by simp [fakeN] at h
  | fuel + 1, out, acc, i, r, h => by
    unfold fakeN at h
    split at h
    · cases h; exact Nat.le_refl _
    · split at h
      · cases h
      · split at h
        · exact Nat.le_trans (Nat.le_add_right _ _) (fake_ge h)
        · cases h
theorem fake_mono {n n' d : Nat} (hn : n ≤ n') : ∀ {fuel out out' acc acc' i r' : Nat}, out ≤ out' → acc ≤ acc' → fakeN n' d fuel out' acc' i = some r' → ∃ r, fakeN n d fuel out acc i = some r ∧ r ≤ r'
  | 0, _, _, _, _, _, _, _, _, h => by simp [fakeN] at h
  | fuel + 1, out, out', acc, acc', i, r', ho, ha, h => by
    unfold fakeN at h
    by_cases h0 : acc' = 0
    · rw [if_pos h0] at h; cases h
      exact ⟨out, by rw [fakeN, if_pos (by omega)], ho⟩
    · rw [if_neg h0] at h
      by_cases hi : 4096 < i
      · rw [if_pos hi] at h; cases h
      · rw [if_neg hi] at h
        split at h
        · rename_i hc
          by_cases h1 : acc = 0
          · exact ⟨out, by rw [fakeN, if_pos h1], Nat.le_trans ho (Nat.le_trans (Nat.le_add_right _ _) (fake_ge h))⟩
          · have hm : acc * n ≤ acc' * n' := Nat.mul_le_mul ha hn
            obtain ⟨r, hr, hl⟩ := fake_mono hn (fuel := fuel) (out := out + acc) (acc := acc * n / (d * i)) (by omega) (Nat.div_le_div_right hm) h
            refine ⟨r, ?_, hl⟩
            rw [fakeN, if_neg h1, if_neg hi, if_pos ⟨by omega, Nat.lt_of_le_of_lt hm hc.2.1, hc.2.2⟩]
            exact hr
        · cases h
theorem blob_mono {a b : Nat} (h : a ≤ b) : blobN a ≤ blobN b := by
  have hlt := blobN_lt a
  unfold blobN
  cases e : fakeV 1 b 3338477 with
  | none =>
    have : blobN a ≤ 115792089237316195423570985008687907853269984665640564039457584007913129639935 := by omega
    exact this
  | some q' =>
    unfold fakeV at e ⊢
    rw [if_pos (by omega)] at e ⊢
    cases e2 : fakeN b 3338477 4097 0 (1 * 3338477) 1 with
    | none => rw [e2] at e; cases e
    | some r' =>
      rw [e2] at e; cases e
      obtain ⟨r, hr, hl⟩ := fake_mono h (Nat.le_refl 0) (Nat.le_refl _) e2
      rw [hr]
      exact Nat.div_le_div_right hl

/-- What the next block asks, where it is not over. -/
def nx (b u t : Nat) : Nat := if u = t then b else if u < t then b - part8 b (t - u) t else b + max 1 (part8 b (u - t) t)
theorem part8_mono {b g g' t : Nat} (h : g ≤ g') : part8 b g t ≤ part8 b g' t := Nat.div_le_div_right (Nat.div_le_div_right (Nat.mul_le_mul_left _ h))
theorem part8_le {b g t : Nat} (h : g ≤ t) : part8 b g t ≤ b := by
  refine Nat.le_trans (Nat.div_le_self _ _) (Nat.div_le_of_le_mul ?_)
  rw [Nat.mul_comm t]; exact Nat.mul_le_mul_left _ h
theorem next_some {b u t : Nat} (hb : b < 6277101735386680763835789423207666416102355444464034512896) (ht : t ≤ 1073741824) (hu : u ≤ 2 * t) : nextN b u t = some (nx b u t) ∧ nx b u t < 115792089237316195423570985008687907853269984665640564039457584007913129639936 := by
  unfold nextN nx
  by_cases h : u = t
  · rw [if_pos h, if_pos h]; exact ⟨rfl, by omega⟩
  · rw [if_neg h, if_neg h]
    obtain ⟨g, hg⟩ : ∃ g, max u t - min u t = g := ⟨_, rfl⟩
    have hgt : g ≤ 1073741824 := by omega
    have hm : b * g ≤ 6277101735386680763835789423207666416102355444464034512896 * 1073741824 := Nat.mul_le_mul (Nat.le_of_lt hb) hgt
    rw [hg, if_neg (by omega)]
    by_cases h2 : u < t
    · have := part8_le (b := b) (show t - u ≤ t by omega)
      rw [if_pos h2, if_neg (by omega), if_pos h2]
      exact ⟨rfl, by omega⟩
    · have := part8_le (b := b) (show u - t ≤ t by omega)
      rw [if_neg h2, if_neg h2, if_pos (by omega)]
      exact ⟨rfl, by omega⟩
theorem nx_low {b u t : Nat} (h : u ≤ t) (ht : 0 < t) : nx b u t ≤ b ∧ nx b 0 t ≤ nx b u t := by
  unfold nx
  rw [if_neg (show ¬ 0 = t by omega), if_pos ht, Nat.sub_zero]
  have h1 := part8_mono (b := b) (t := t) (show t - u ≤ t by omega)
  split
  · exact ⟨Nat.le_refl _, Nat.sub_le _ _⟩
  · rw [if_pos (by omega)]; omega
theorem nx_high {b u t : Nat} (h : t ≤ u) (h2 : u ≤ 2 * t) (ht : 0 < t) : b ≤ nx b u t ∧ nx b u t ≤ nx b (2 * t) t := by
  unfold nx
  rw [if_neg (show ¬ 2 * t = t by omega), if_neg (show ¬ 2 * t < t by omega)]
  have h1 := part8_mono (b := b) (t := t) (show u - t ≤ 2 * t - t by omega)
  split
  · exact ⟨Nat.le_refl _, Nat.le_add_right _ _⟩
  · rw [if_neg (by omega)]; omega
theorem part8_all {b t : Nat} (ht : 0 < t) : part8 b t t = b / 8 := by unfold part8; rw [Nat.mul_div_cancel _ ht]
theorem nx_full {b t : Nat} (ht : 0 < t) : nx b (2 * t) t = b + max 1 (b / 8) ∧ nx b 0 t = b - b / 8 := by
  unfold nx
  rw [if_neg (show ¬ 2 * t = t by omega), if_neg (show ¬ 2 * t < t by omega), if_neg (show ¬ 0 = t by omega), if_pos ht, Nat.sub_zero, show 2 * t - t = t from by omega, part8_all ht]
  exact ⟨rfl, rfl⟩
/-- Of no ratio a factor is itself. -/
theorem fake_flat {a d : Nat} (hd : 0 < d) (h : a * d < 115792089237316195423570985008687907853269984665640564039457584007913129639936) (hd2 : d < 115792089237316195423570985008687907853269984665640564039457584007913129639936) : fakeV a 0 d = some a := by
  unfold fakeV
  rw [if_pos h]
  by_cases h0 : a * d = 0
  · have ha : a = 0 := by rcases Nat.mul_eq_zero.1 h0 with h | h <;> omega
    rw [fakeN, if_pos h0, ha]
    show some (0 / d) = some 0
    rw [Nat.zero_div]
  · rw [fakeN, if_neg h0, if_neg (by omega), if_pos ⟨by omega, by omega, by omega⟩, fakeN, Nat.mul_zero, Nat.zero_div, if_pos rfl]
    show some ((0 + a * d) / d) = some a
    rw [Nat.zero_add, Nat.mul_div_cancel _ hd]
theorem fake_nil {n d : Nat} : fakeV 0 n d = some 0 := by
  unfold fakeV
  rw [Nat.zero_mul, if_pos (by omega), fakeN, if_pos rfl]
  show some (0 / d) = some 0
  rw [Nat.zero_div]
end Go.Abs
