/- Ranks: how far, of one, of many; plain laws. -/
import Derived.Test.YtpaehjjkfjgfiaaR0
import Derived.Test.YtpaehjjkfjgfiaaL4
set_option linter.unusedVariables false
set_option linter.unusedSimpArgs false
namespace Go.Abs
open Go Go.Proofs

/-- How far a transaction is below the fees. -/
def rkD (b bl : Nat) (t : Tx) : Int := min (min 0 (lvN t.cap - lvN b)) (lvN t.bc - lvN bl)
theorem rkD_bd {b bl : Nat} {t : Tx} (hb : b < 115792089237316195423570985008687907853269984665640564039457584007913129639936) (hl : bl < 115792089237316195423570985008687907853269984665640564039457584007913129639936) (h : t.ok) : -2048 ≤ rkD b bl t ∧ rkD b bl t ≤ 0 := by
  have h1 := lvN_bd hb
  have h2 := lvN_bd hl
  have h3 := lvN_bd h.cap
  have h4 := lvN_bd h.bc
  unfold rkD; omega
theorem rkD_base {b b' bl : Nat} {t : Tx} (h : b ≤ b') : rkD b' bl t ≤ rkD b bl t := by
  have := lv_mono h
  unfold rkD; omega
/-- The least of the first. -/
def minD (f : Nat → Int) : Nat → Int
  | 0 => f 0
  | i + 1 => min (minD f i) (f i)
def minT (f : Nat → Nat) : Nat → Nat
  | 0 => f 0
  | i + 1 => if f i < minT f i then f i else minT f i
theorem minD_one (f : Nat → Int) : minD f 1 = f 0 := by simp [minD]
theorem minT_one (f : Nat → Nat) : minT f 1 = f 0 := by simp [minT]
theorem minD_le {f : Nat → Int} {i : Nat} : ∀ {n : Nat}, i < n → minD f n ≤ f i
  | 0, h => by omega
  | n + 1, h => by
    rw [minD]
    rcases Nat.lt_or_ge i n with h1 | h1
    · have := minD_le (f := f) h1; omega
    · obtain rfl : i = n := by omega
      omega
theorem minT_le {f : Nat → Nat} {i : Nat} : ∀ {n : Nat}, i < n → minT f n ≤ f i
  | 0, h => by omega
  | n + 1, h => by
    rw [minT]
    rcases Nat.lt_or_ge i n with h1 | h1
    · have := minT_le (f := f) h1; split <;> omega
    · obtain rfl : i = n := by omega
      split <;> omega
theorem minD_in (f : Nat → Int) : ∀ n : Nat, 0 < n → ∃ i, i < n ∧ minD f n = f i
  | 1, _ => ⟨0, by omega, minD_one f⟩
  | n + 2, _ => by
    obtain ⟨i, h1, h2⟩ := minD_in f (n + 1) (by omega)
    rw [minD]
    rcases Int.le_total (minD f (n + 1)) (f (n + 1)) with h | h
    · exact ⟨i, by omega, by rw [Int.min_eq_left h, h2]⟩
    · exact ⟨n + 1, by omega, by rw [Int.min_eq_right h]⟩
theorem minT_in (f : Nat → Nat) : ∀ n : Nat, 0 < n → ∃ i, i < n ∧ minT f n = f i
  | 1, _ => ⟨0, by omega, minT_one f⟩
  | n + 2, _ => by
    obtain ⟨i, h1, h2⟩ := minT_in f (n + 1) (by omega)
    rw [minT]
    split
    · exact ⟨n + 1, by omega, rfl⟩
    · exact ⟨i, by omega, h2⟩
theorem minD_anti (f : Nat → Int) (n : Nat) : minD f (n + 1) ≤ minD f n := by rw [minD]; omega
theorem minT_anti (f : Nat → Nat) (n : Nat) : minT f (n + 1) ≤ minT f n := by rw [minT]; split <;> omega

/-- Which of two ranks is greater. -/
def rcmp (d : Int) (t : Nat) (e : Int) (u : Nat) : Int := if d < e then -1 else if e < d then 1 else cmpN t u
theorem rcmp_bd (d : Int) (t : Nat) (e : Int) (u : Nat) : -1 ≤ rcmp d t e u ∧ rcmp d t e u ≤ 1 := by
  unfold rcmp
  rcases cmpN_cases t u with ⟨_, h⟩ | ⟨_, h⟩ | ⟨_, h⟩ <;> (rw [h]; split <;> (try split) <;> omega)
theorem rcmp_turn (d : Int) (t : Nat) (e : Int) (u : Nat) : rcmp e u d t = - rcmp d t e u := by
  unfold rcmp
  rcases cmpN_cases t u with ⟨h1, h⟩ | ⟨h1, h⟩ | ⟨h1, h⟩
  · rw [h, cmpN_gt h1]; split <;> (try split) <;> (try split) <;> omega
  · rw [h, cmpN_lt h1]; split <;> (try split) <;> (try split) <;> omega
  · rw [h, cmpN_eq h1.symm]; split <;> (try split) <;> (try split) <;> omega
theorem rcmp_le {d : Int} {t : Nat} {e : Int} {u : Nat} : rcmp d t e u ≤ 0 ↔ d < e ∨ (d = e ∧ t ≤ u) := by
  unfold rcmp
  rcases cmpN_cases t u with ⟨h1, h⟩ | ⟨h1, h⟩ | ⟨h1, h⟩ <;> (rw [h]; split <;> (try split) <;> omega)
theorem rcmp_trans {d e f : Int} {t u v : Nat} (h1 : rcmp d t e u ≤ 0) (h2 : rcmp e u f v ≤ 0) : rcmp d t f v ≤ 0 := by
  rw [rcmp_le] at *; omega
end Go.Abs
