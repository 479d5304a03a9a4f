/- Quotients: digit: the plain law, the walk. -/
import Derived.Test.YtpaehjjkfjgfiaaN12
set_option linter.unusedVariables false
set_option linter.unusedSimpArgs false
namespace Go.Abs
open Go Go.Proofs

theorem setD_mod {B M j c k : Nat} (h : k ≤ j) : setD B M j c % B ^ k = M % B ^ k := by
  rw [setD_parts]
  conv => rhs; rw [dg_parts B M j]
  obtain ⟨d, rfl⟩ : ∃ d, j = k + d := ⟨j - k, by omega⟩
  rw [Nat.pow_add, Nat.mul_assoc, Nat.mul_assoc, Nat.add_mul_mod_self_left, Nat.add_mul_mod_self_left]
theorem setD_div {B M j c m : Nat} (hB : 0 < B) (hc : c < B) (h : j < m) : setD B M j c / B ^ m = M / B ^ m := by
  obtain ⟨d, rfl⟩ : ∃ d, m = j + (1 + d) := ⟨m - j - 1, by omega⟩
  have hs := setD_parts B M j c
  have hm := dg_parts B M j
  have hr : M % B ^ j < B ^ j := Nat.mod_lt _ (Nat.pow_pos hB)
  have hl := dg_lt hB M j
  generalize M / B ^ (j + 1) = h at hs hm
  generalize M % B ^ j = r at hs hm hr
  generalize dg B M j = o at hm hl
  have e : ∀ z, z < B → (r + B ^ j * (z + B * h)) / B ^ (j + (1 + d)) = h / B ^ d := fun z hz => by
    rw [Nat.pow_add, ← Nat.div_div_eq_div_mul, Nat.add_mul_div_left _ _ (Nat.pow_pos hB), Nat.div_eq_of_lt hr, Nat.zero_add, Nat.pow_add, Nat.pow_one, ← Nat.div_div_eq_div_mul, Nat.add_mul_div_left _ _ hB, Nat.div_eq_of_lt hz, Nat.zero_add]
  rw [hs, e c hc]; conv => rhs; rw [hm, e o hl]
/-- Two numbers that are alike but for a window of limbs. -/
structure Win (B k m U U' : Nat) : Prop where
  low : U' % B ^ k = U % B ^ k
  high : U' / B ^ m = U / B ^ m
theorem Win.refl (B k m U : Nat) : Win B k m U U := ⟨rfl, rfl⟩
theorem Win.set {B k m U U' j c : Nat} (hB : 0 < B) (w : Win B k m U U') (hc : c < B) (h1 : k ≤ j) (h2 : j < m) : Win B k m U (setD B U' j c) :=
  ⟨(setD_mod h1).trans w.low, (setD_div hB hc h2).trans w.high⟩
/-- The window. -/
def win (B k n U : Nat) : Nat := U / B ^ k % B ^ n
theorem win_lt {B : Nat} (hB : 0 < B) (k n U : Nat) : win B k n U < B ^ n := Nat.mod_lt _ (Nat.pow_pos hB)
theorem win_parts (B k n U : Nat) : U = U % B ^ k + (win B k n U * B ^ k + U / B ^ (k + n) * B ^ (k + n)) := by
  unfold win
  have h1 := Nat.mod_add_div U (B ^ k)
  have h2 := Nat.mod_add_div (U / B ^ k) (B ^ n)
  rw [Nat.div_div_eq_div_mul, ← Nat.pow_add] at h2
  conv => lhs; rw [← h1, ← h2]
  rw [Nat.mul_add, Nat.mul_comm (B ^ k), Nat.pow_add]
  congr 2; ac_rfl
theorem Win.eq {B k n U U' : Nat} (hB : 0 < B) (w : Win B k (k + n) U U') {x y : Nat} (h : U' + x * B ^ k = U + y * B ^ k) : win B k n U' + x = win B k n U + y := by
  have h1 := win_parts B k n U
  have h2 := win_parts B k n U'
  rw [w.low, w.high] at h2
  have hp : 0 < B ^ k := Nat.pow_pos hB
  have h3 : win B k n U' * B ^ k + x * B ^ k = win B k n U * B ^ k + y * B ^ k := by omega
  rw [← Nat.add_mul, ← Nat.add_mul] at h3
  exact Nat.eq_of_mul_eq_mul_right hp h3
/-- One step of taking away. -/
theorem sub_step {B U U' q D i k car bor u new lo car' bor' : Nat} (hI : U' + q * (D % B ^ i) * B ^ k = U + (car + bor) * B ^ (k + i)) (hu : dg B U' (k + i) = u)
    (h1 : q * dg B D i + car = lo + B * car') (h2 : u + B * bor' = new + lo + bor) : setD B U' (k + i) new + q * (D % B ^ (i + 1)) * B ^ k = U + (car' + bor') * B ^ (k + (i + 1)) := by
  have hs := setD_eq B U' (k + i) new
  rw [hu] at hs
  have e1 : q * (D % B ^ (i + 1)) * B ^ k = q * (D % B ^ i) * B ^ k + q * dg B D i * B ^ (k + i) := by
    rw [Nat.mod_pow_succ, Nat.mul_add, Nat.add_mul, Nat.pow_add]
    congr 1
    show q * (B ^ i * dg B D i) * B ^ k = _
    ac_rfl
  have e2 : (car' + bor') * B ^ (k + (i + 1)) = B * car' * B ^ (k + i) + B * bor' * B ^ (k + i) := by
    rw [← Nat.add_mul, ← Nat.mul_add, show k + (i + 1) = (k + i) + 1 from rfl, Nat.pow_succ]; ac_rfl
  have h3 : (q * dg B D i + car) * B ^ (k + i) = (lo + B * car') * B ^ (k + i) := by rw [h1]
  have h4 : (u + B * bor') * B ^ (k + i) = (new + lo + bor) * B ^ (k + i) := by rw [h2]
  rw [e1, e2]
  simp only [Nat.add_mul] at h3 h4 hI
  omega
/-- The last step of taking away. -/
theorem sub_last {B U U' q D n k car bor u new bor' : Nat} (hD : D < B ^ n) (hI : U' + q * (D % B ^ n) * B ^ k = U + (car + bor) * B ^ (k + n)) (hu : dg B U' (k + n) = u)
    (h2 : u + B * bor' = new + car + bor) : setD B U' (k + n) new + q * D * B ^ k = U + bor' * B ^ (n + 1) * B ^ k := by
  have hs := setD_eq B U' (k + n) new
  rw [hu] at hs
  rw [Nat.mod_eq_of_lt hD] at hI
  have e2 : bor' * B ^ (n + 1) * B ^ k = B * bor' * B ^ (k + n) := by rw [Nat.pow_succ, Nat.pow_add]; ac_rfl
  have h4 : (u + B * bor') * B ^ (k + n) = (new + car + bor) * B ^ (k + n) := by rw [h2]
  rw [e2]
  simp only [Nat.add_mul] at h4 hI
  omega
/-- One step of giving back; the last one. -/
theorem back_step {B U U' D i k c u new c' : Nat} (hI : U' + c * B ^ (k + i) = U + D % B ^ i * B ^ k) (hu : dg B U' (k + i) = u) (h : u + dg B D i + c = new + B * c') :
    setD B U' (k + i) new + c' * B ^ (k + (i + 1)) = U + D % B ^ (i + 1) * B ^ k := by
  have hs := setD_eq B U' (k + i) new
  rw [hu] at hs
  have e1 : D % B ^ (i + 1) * B ^ k = D % B ^ i * B ^ k + dg B D i * B ^ (k + i) := by
    rw [Nat.mod_pow_succ, Nat.add_mul, Nat.pow_add]
    congr 1
    show B ^ i * dg B D i * B ^ k = _
    ac_rfl
  have e2 : c' * B ^ (k + (i + 1)) = B * c' * B ^ (k + i) := by rw [show k + (i + 1) = (k + i) + 1 from rfl, Nat.pow_succ]; ac_rfl
  have h3 : (u + dg B D i + c) * B ^ (k + i) = (new + B * c') * B ^ (k + i) := by rw [h]
  rw [e1, e2]
  simp only [Nat.add_mul] at h3
  omega
theorem back_last {B U U' D n k c u new c' : Nat} (hD : D < B ^ n) (hI : U' + c * B ^ (k + n) = U + D % B ^ n * B ^ k) (hu : dg B U' (k + n) = u) (h : u + 0 + c = new + B * c') :
    setD B U' (k + n) new + c' * B ^ (n + 1) * B ^ k = U + D * B ^ k := by
  have hs := setD_eq B U' (k + n) new
  rw [hu] at hs
  rw [Nat.mod_eq_of_lt hD] at hI
  have e2 : c' * B ^ (n + 1) * B ^ k = B * c' * B ^ (k + n) := by rw [Nat.pow_succ, Nat.pow_add]; ac_rfl
  have h3 : (u + 0 + c) * B ^ (k + n) = (new + B * c') * B ^ (k + n) := by rw [h]
  rw [e2]
  simp only [Nat.add_mul] at h3
  omega
theorem mul_step2 {x y c : Nat} (hx : x < 18446744073709551616) (hy : y < 18446744073709551616) (hc : c < 18446744073709551616) :
    x * y + c = addLo (mulLo x y) c 0 + 18446744073709551616 * (mulHi x y + addHi (mulLo x y) c 0) ∧ mulHi x y + addHi (mulLo x y) c 0 < 18446744073709551616 := by
  have h1 : x * y = mulLo x y + 18446744073709551616 * mulHi x y := by unfold mulLo mulHi; exact (Nat.mod_add_div _ _).symm
  have h2 := add_eq (mulLo x y) c 0
  have h4 : x * y ≤ 18446744073709551615 * 18446744073709551615 := Nat.mul_le_mul (by omega) (by omega)
  generalize x * y = p at *
  omega
theorem add64_m (x c : Nat) (hc : c ≤ 1) : Pure Try.prog 60 [.int .u64 x, .int .u64 0, .int .u64 c] (.tup [.int .u64 (addLo x 0 c), .int .u64 (addHi x 0 c)]) := add64_c x 0 c hc
theorem give_back {w2 w4 g D V P c : Nat} (hg : 0 < g) (hc : c ≤ 1) (h1 : w2 + g * D = V + P) (h2 : w4 + c * P = w2 + D) : w4 + (g - 1) * D = V + (1 - c) * P := by
  obtain ⟨p, rfl⟩ := Nat.exists_eq_succ_of_ne_zero (Nat.ne_of_gt hg)
  rw [Nat.succ_mul] at h1
  rw [Nat.succ_sub_one]
  have : c = 0 ∨ c = 1 := by omega
  rcases this with rfl | rfl
  · rw [Nat.zero_mul] at h2; rw [Nat.sub_zero, Nat.one_mul]; omega
  · rw [Nat.one_mul] at h2; rw [Nat.sub_self, Nat.zero_mul]; omega
/-- The guess is not too small. -/
theorem guess_big {B V D n : Nat} (hB : 0 < B) (hn : 0 < n) (hD0 : 0 < D / B ^ (n - 1)) : V / D ≤ (V / B ^ (n - 1)) / (D / B ^ (n - 1)) := by
  rw [Nat.le_div_iff_mul_le hD0, Nat.le_div_iff_mul_le (Nat.pow_pos hB), Nat.mul_assoc]
  exact Nat.le_trans (Nat.mul_le_mul_left _ (Nat.div_mul_le_self _ _)) (Nat.div_mul_le_self _ _)
theorem win_top {U k n : Nat} (hn : 0 < n) : win 18446744073709551616 k (n + 1) U / 18446744073709551616 ^ (n - 1) = lb U (k + n) * 18446744073709551616 + lb U (k + n - 1) := by
  unfold win
  rw [show n + 1 = (n - 1) + 2 from by omega, Nat.pow_add, Nat.mod_mul_right_div_self, Nat.div_div_eq_div_mul, ← Nat.pow_add, show k + (n - 1) = k + n - 1 from by omega, show (2 : Nat) = 1 + 1 from rfl, Nat.mod_pow_succ, Nat.pow_one, Nat.div_div_eq_div_mul, ← Nat.pow_succ, show (k + n - 1).succ = k + n from by omega]
  unfold lb
  rw [Nat.add_comm, Nat.mul_comm]
theorem top_limb {D n : Nat} (hn : 0 < n) (hD : D < 18446744073709551616 ^ n) : D / 18446744073709551616 ^ (n - 1) = lb D (n - 1) := by
  unfold lb
  refine (Nat.mod_eq_of_lt ?_).symm
  rw [Nat.div_lt_iff_lt_mul (Nat.pow_pos (by omega)), ← Nat.pow_succ', show (n - 1).succ = n from by omega]; exact hD
section
variable {P : Program} {N : Nat} {s : St}
/-- Both ways of a branch lead to one state. -/
theorem aw_join2 {X : Type} (J : X → St) (Inv : X → Prop) {c rest : Code} {Q Q2 : Exit → St → Prop} (h : ∀ K : Exit → St → Prop, (∀ s x, Inv x → Wk N s (J x) → K .normal s) → AW P N c K s)
    (k : ∀ x, Inv x → AW P N rest Q (J x)) : AW P N c (thenK (AW P N rest Q) Q2) s := by
  refine AW.mono (h (fun e s => e = .normal ∧ ∃ x, Inv x ∧ Wk N s (J x)) fun s x hx hw => ⟨rfl, x, hx, hw⟩) ?_
  rintro e s ⟨rfl, x, hx, hw⟩
  exact aw_wk hw (k x hx)
end
set_option maxHeartbeats 20000000 in
theorem digit_c (U D k n c1 c2 : Nat) (hn : 2 ≤ n) (hkn : k + n ≤ 4) (hU : U < 18446744073709551616 ^ 5) (hD : D < 18446744073709551616 ^ n) (hdt : 0 < lb D (n - 1)) (hV : win 18446744073709551616 k (n + 1) U < D * 18446744073709551616) :
    AC Try.prog 66 [.slc 0 k 1 (n + 1) c1, .slc 1 0 1 n c2] [.live (dl 18446744073709551616 5 U), .live (dl 18446744073709551616 5 D)] fun v h' => v = .int .u64 (win 18446744073709551616 k (n + 1) U / D : Nat) ∧
      ∃ U', h' = [.live (dl 18446744073709551616 5 U'), .live (dl 18446744073709551616 5 D)] ∧ Win 18446744073709551616 k (k + (n + 1)) U U' ∧ win 18446744073709551616 k (n + 1) U' = win 18446744073709551616 k (n + 1) U % D ∧ U' < 18446744073709551616 ^ 5 := by
  have hB : 0 < 18446744073709551616 := by omega
  have hD0 : 0 < D := Nat.pos_of_ne_zero fun e => by rw [e] at hV; simp at hV
  have hq : win 18446744073709551616 k (n + 1) U / D < 18446744073709551616 := by rw [Nat.div_lt_iff_lt_mul hD0, Nat.mul_comm]; exact hV
  have hdl := dl_length 18446744073709551616 5 U
  have hdl2 := dl_length 18446744073709551616 5 D
  have e1 : ((n : Int) - 1).toNat = n - 1 := by omega
  (refine enter Try.func66 Try.results66 Try.ntmps66 ty_ok (hw := fun F hF => ?_); simp only [List.length_cons, List.length_nil, Nat.reduceAdd, Nat.reduceSub, List.replicate_succ, List.replicate_zero, List.cons_append, List.nil_append]; apply hF; clear hF F)
  refine wk ?_
  ((first | refine aseq_fx (fun F hF => ?_) | refine aw_fx (fun F hF => ?_)); simp (disch := omega) only [Nat.mul_one, Nat.zero_add, nth_dl, dg_lb]; apply hF; clear hF F)
  refine wk ?_
  ((first | refine aseq_fx (fun F hF => ?_) | refine aw_fx (fun F hF => ?_)); simp (disch := omega) only [e1, Nat.mul_one, Nat.zero_add, nth_dl, dg_lb]; apply hF; clear hF F)
  refine wk ?_
  refine aw_join2 (fun (g : Nat) => ⟨((.slc 0 k 1 (n + 1) c1) :: (.slc 1 0 1 n c2) :: .any :: .any :: .any :: (.int .i64 n) :: (.int .u64 g) :: .any :: .any :: .any :: .any :: .any :: .any :: .any :: .any :: .any :: .any :: .any :: .any :: .any :: .any :: .any :: .any :: .any :: .any :: .any :: .any :: .any :: .any :: .any :: .any :: .any :: .any :: .any :: .any :: .any :: .any :: .any :: .any :: .any :: .any :: .any :: .any :: .any :: .any :: .any :: .any :: .any :: .any :: .any :: .any :: .any :: .any :: .any :: .any :: .any :: .any :: .any :: .any :: .any :: .any :: .any :: .any :: .any :: .any :: .any :: .any :: .any :: .any :: .any :: .any :: .any :: .any :: .any :: .any :: .any :: .any :: .any :: .any :: .any :: .any :: .any :: .any :: .any :: .any :: .any :: .any :: .any :: .any :: .any :: .any :: .any :: .any :: .any :: .any :: .any :: .any :: .any :: .any :: .any :: .any :: .any :: .any :: .any :: .any :: .any :: .any :: .any :: .any :: .any :: .any :: .any :: .any :: .any :: .any :: .any :: .any :: .any :: .any :: .any :: .any :: .any :: .any :: .any :: .any :: .any :: .any :: .any :: .any :: .any :: .any :: .any :: .any :: .any :: .any :: .any :: .any :: []), [.live (dl 18446744073709551616 5 U), .live (dl 18446744073709551616 5 D)]⟩) (fun g => win 18446744073709551616 k (n + 1) U / D ≤ g ∧ g < 18446744073709551616) (fun K hK => ?_) (fun g hg => ?_)
  · by_cases hlt : lb U (k + n) < lb D (n - 1)
    · have cd := div64_c (lb U (k + n)) (lb U (k + n - 1)) (lb D (n - 1)) hlt (lb_lt _ _) (lb_lt _ _)
      have e2 : k + (n - 1) = k + n - 1 := by omega
      refine wk ?_
      ((first | refine aseq_fx (fun F hF => ?_) | refine aw_fx (fun F hF => ?_)); simp (disch := omega) only [Nat.mul_one, Nat.zero_add, nth_dl, dg_lb]; apply hF; clear hF F)
      refine wk ?_
      ((first | refine aseq_fx (fun F hF => ?_) | refine aw_fx (fun F hF => ?_)); simp (disch := omega) only [e1, e2, Nat.mul_one, Nat.zero_add, nth_dl, dg_lb]; apply hF; clear hF F)
      refine wk ?_
      refine hK _ _ ⟨?_, ?_⟩ (wkt [0, 1])
      · have := guess_big (B := 18446744073709551616) (V := win 18446744073709551616 k (n + 1) U) (D := D) (n := n) hB (by omega) (by rw [top_limb (by omega) hD]; exact hdt)
        rw [top_limb (by omega) hD, win_top (by omega)] at this
        exact this
      · rw [Nat.div_lt_iff_lt_mul hdt]
        have h1 := lb_lt U (k + n - 1)
        have h2 : (lb U (k + n) + 1) * 18446744073709551616 ≤ lb D (n - 1) * 18446744073709551616 := Nat.mul_le_mul_right _ hlt
        rw [Nat.mul_comm 18446744073709551616]
        omega
    · refine wk ?_
      refine hK _ 18446744073709551615 ⟨by omega, by omega⟩ (wkt [0, 1])
  · obtain ⟨hg1, hg2⟩ := hg
    have cm := mul64_c
    have ca := add64_0
    have cs := sub64_c
    have hkn5 : k + n < 5 := by omega
    refine wk ?_
    refine aw_loopI (fun (X : Nat × Nat × Nat × Nat) => ⟨((.slc 0 k 1 (n + 1) c1) :: (.slc 1 0 1 n c2) :: .any :: .any :: .any :: (.int .i64 n) :: (.int .u64 g) :: (.int .u64 X.2.1) :: (.int .u64 X.2.2.1) :: .any :: .any :: .any :: .any :: .any :: .any :: .any :: .any :: .any :: .any :: .any :: .any :: .any :: .any :: .any :: .any :: .any :: .any :: .any :: .any :: .any :: .any :: .any :: .any :: .any :: .any :: .any :: .any :: .any :: .any :: .any :: .any :: .any :: .any :: .any :: .any :: .any :: .any :: (.slc 1 0 1 n c2) :: (.int .i64 n) :: (.int .i64 X.1) :: .any :: .any :: .any :: .any :: .any :: .any :: .any :: .any :: .any :: .any :: .any :: .any :: .any :: .any :: .any :: .any :: .any :: .any :: .any :: .any :: .any :: .any :: .any :: .any :: .any :: .any :: .any :: .any :: .any :: .any :: .any :: .any :: .any :: .any :: .any :: .any :: .any :: .any :: .any :: .any :: .any :: .any :: .any :: .any :: .any :: .any :: .any :: .any :: .any :: .any :: .any :: .any :: .any :: .any :: .any :: .any :: .any :: .any :: .any :: .any :: .any :: .any :: .any :: .any :: .any :: .any :: .any :: .any :: .any :: .any :: .any :: .any :: .any :: .any :: .any :: .any :: .any :: .any :: .any :: .any :: .any :: .any :: .any :: .any :: .any :: .any :: .any :: []), [.live (dl 18446744073709551616 5 X.2.2.2), .live (dl 18446744073709551616 5 D)]⟩)
      (fun X => X.1 ≤ n ∧ X.2.1 < 18446744073709551616 ∧ X.2.2.1 ≤ 1 ∧ X.2.2.2 < 18446744073709551616 ^ 5 ∧ Win 18446744073709551616 k (k + (n + 1)) U X.2.2.2 ∧ X.2.2.2 + g * (D % 18446744073709551616 ^ X.1) * 18446744073709551616 ^ k = U + (X.2.1 + X.2.2.1) * 18446744073709551616 ^ (k + X.1)) (fun X => n - X.1) (0, 0, 0, U)
      ⟨by omega, Nat.succ_le_of_lt (Nat.succ_pos _), Nat.zero_le _, hU, Win.refl _ _ _ _, by simp [Nat.mod_one]⟩ (wkt [0, 1]) ?_
    rintro ⟨i, car, bor, U1⟩ ⟨hi, hcar, hbor, hU1, hw, hI⟩ K2 hK2
    dsimp only at hi hcar hbor hU1 hw hI
    have hdl := dl_length 18446744073709551616 5 U1
    by_cases h1 : i < n
    · have hlo := lb_lt U1 (k + i)
      have hld := lb_lt D i
      obtain ⟨st1, st2⟩ := mul_step2 hg2 hld hcar
      have hlo2 := addLo_lt (mulLo g (lb D i)) car 0
      have hsub := sub_eq hlo hlo2 hbor
      have hsl := subLo_lt (lb U1 (k + i)) (addLo (mulLo g (lb D i)) car 0) bor
      have hsh := subHi_le (lb U1 (k + i)) (addLo (mulLo g (lb D i)) car 0) bor
      have hstep := sub_step hI (dg_lb U1 (k + i)) st1 hsub
      refine wk ?_
      ((first | refine aseq_fx (fun F hF => ?_) | refine aw_fx (fun F hF => ?_)); simp (disch := omega) only [Nat.mul_one, Nat.zero_add, nth_dl, dg_lb]; apply hF; clear hF F)
      refine wk ?_
      ((first | refine aseq_fx (fun F hF => ?_) | refine aw_fx (fun F hF => ?_)); simp (disch := omega) only [Nat.mul_one, Nat.zero_add, nth_dl, dg_lb]; apply hF; clear hF F)
      refine wk ?_
      refine hK2 _ (i + 1, _, _, setD 18446744073709551616 U1 (k + i) (subLo (lb U1 (k + i)) (addLo (mulLo g (lb D i)) car 0) bor)) ⟨by show i + 1 ≤ n; omega, st2, hsh, setD_lt hB _ _ _ _ hU1 (by omega) hsl, hw.set hB hsl (by omega) (by omega), hstep⟩ (wkt [0, 1] (hh := ?_)) (by show n - (i + 1) < n - i; omega)
      dsimp only [renS, renH, renB, hbAt, List.getElem?_cons_zero, List.getElem?_cons_succ]
      simp only [Nat.mul_one]
      rw [set_dl hB (by omega) hsl, renL_clean _ (clean_dl _ _ _), renL_clean _ (clean_dl _ _ _)]
    · obtain rfl : i = n := by omega
      have hlo := lb_lt U1 (k + i)
      have hsub := sub_eq hlo hcar hbor
      have hsl := subLo_lt (lb U1 (k + i)) car bor
      have hsh := subHi_le (lb U1 (k + i)) car bor
      have hlast := sub_last hD hI (dg_lb U1 (k + i)) hsub
      have hw2 := hw.set hB hsl (by omega) (show k + i < k + (i + 1) by omega)
      have hwin := hw2.eq hB hlast
      have hU2 := setD_lt hB U1 (k + i) _ 5 hU1 (by omega) hsl
      have hset := set_dl (B := 18446744073709551616) (n := 5) (M := U1) (j := k + i) hB (by omega) hsl
      refine wk ?_
      ((first | refine aseq_fx (fun F hF => ?_) | refine aw_fx (fun F hF => ?_)); simp (disch := omega) only [Nat.mul_one, Nat.zero_add, nth_dl, dg_lb]; apply hF; clear hF F)
      refine wk ?_
      (refine aw_fx (fun F hF => ?_); simp only [Nat.mul_one, hset]; apply hF; clear hF F)
      generalize setD 18446744073709551616 U1 (k + i) (subLo (lb U1 (k + i)) car bor) = U2 at hw2 hwin hU2
      generalize subHi (lb U1 (k + i)) car bor = b2 at hsh hwin
      clear hlast hsub hsl hset hlo hI hw hdl
      refine aw_join (fun (X : Nat) => ⟨(.any :: .any :: .any :: .any :: .any :: .any :: (.int .u64 (win 18446744073709551616 k (i + 1) U / D : Nat)) :: .any :: .any :: .any :: .any :: .any :: .any :: .any :: .any :: .any :: .any :: .any :: .any :: .any :: .any :: .any :: .any :: .any :: .any :: .any :: .any :: .any :: .any :: .any :: .any :: .any :: .any :: .any :: .any :: .any :: .any :: .any :: .any :: .any :: .any :: .any :: .any :: .any :: .any :: .any :: .any :: .any :: .any :: .any :: .any :: .any :: .any :: .any :: .any :: .any :: .any :: .any :: .any :: .any :: .any :: .any :: .any :: .any :: .any :: .any :: .any :: .any :: .any :: .any :: .any :: .any :: .any :: .any :: .any :: .any :: .any :: .any :: .any :: .any :: .any :: .any :: .any :: .any :: .any :: .any :: .any :: .any :: .any :: .any :: .any :: .any :: .any :: .any :: .any :: .any :: .any :: .any :: .any :: .any :: .any :: .any :: .any :: .any :: .any :: .any :: .any :: .any :: .any :: .any :: .any :: .any :: .any :: .any :: .any :: .any :: .any :: .any :: .any :: .any :: .any :: .any :: .any :: .any :: .any :: .any :: .any :: .any :: .any :: .any :: .any :: .any :: .any :: .any :: .any :: .any :: .any :: []), [.live (dl 18446744073709551616 5 X), .live (dl 18446744073709551616 5 D)]⟩) (fun X => Win 18446744073709551616 k (k + (i + 1)) U X ∧ win 18446744073709551616 k (i + 1) X = win 18446744073709551616 k (i + 1) U % D ∧ X < 18446744073709551616 ^ 5) (fun K3 hK3 => ?_) (fun X hX => ?_)
      · refine aw_loopI (fun (X : Nat × Nat × Nat) => ⟨((.slc 0 k 1 (i + 1) c1) :: (.slc 1 0 1 i c2) :: .any :: .any :: .any :: (.int .i64 i) :: (.int .u64 X.1) :: .any :: (.int .u64 X.2.1) :: .any :: .any :: .any :: .any :: .any :: .any :: .any :: .any :: .any :: .any :: .any :: .any :: .any :: .any :: .any :: .any :: .any :: .any :: .any :: .any :: .any :: .any :: .any :: .any :: .any :: .any :: .any :: .any :: .any :: .any :: .any :: .any :: .any :: .any :: .any :: .any :: .any :: .any :: .any :: .any :: .any :: .any :: .any :: .any :: .any :: .any :: .any :: .any :: .any :: .any :: .any :: .any :: .any :: .any :: .any :: .any :: .any :: .any :: .any :: .any :: .any :: .any :: .any :: .any :: .any :: .any :: .any :: .any :: .any :: .any :: .any :: .any :: .any :: .any :: .any :: .any :: .any :: .any :: .any :: .any :: .any :: .any :: .any :: .any :: .any :: .any :: .any :: .any :: .any :: .any :: .any :: .any :: .any :: .any :: .any :: .any :: .any :: .any :: .any :: .any :: .any :: .any :: .any :: .any :: .any :: .any :: .any :: .any :: .any :: .any :: .any :: .any :: .any :: .any :: .any :: .any :: .any :: .any :: .any :: .any :: .any :: .any :: .any :: .any :: .any :: .any :: .any :: .any :: []), [.live (dl 18446744073709551616 5 X.2.2), .live (dl 18446744073709551616 5 D)]⟩)
          (fun X => win 18446744073709551616 k (i + 1) U / D ≤ X.1 ∧ X.1 < 18446744073709551616 ∧ X.2.1 ≤ 1 ∧ X.2.2 < 18446744073709551616 ^ 5 ∧ Win 18446744073709551616 k (k + (i + 1)) U X.2.2 ∧ win 18446744073709551616 k (i + 1) X.2.2 + X.1 * D = win 18446744073709551616 k (i + 1) U + X.2.1 * 18446744073709551616 ^ (i + 1)) (fun X => X.1) (g, b2, U2) ⟨hg1, hg2, hsh, hU2, hw2, hwin⟩ (wkt [0, 1]) ?_
        rintro ⟨g, b, U2⟩ ⟨hg1, hg2, hb, hU2, hw2, hwin⟩ K4 hK4
        dsimp only at hg1 hg2 hb hU2 hw2 hwin
        by_cases hb0 : b = 0
        · subst hb0
          rw [Nat.zero_mul, Nat.add_zero] at hwin
          have hge : g = win 18446744073709551616 k (i + 1) U / D := Nat.le_antisymm ((Nat.le_div_iff_mul_le hD0).2 (by omega)) hg1
          have hmod : win 18446744073709551616 k (i + 1) U2 = win 18446744073709551616 k (i + 1) U % D := by
            have := Nat.div_add_mod' (win 18446744073709551616 k (i + 1) U) D
            rw [← hge] at this; omega
          refine wk ?_
          refine (hK3 _ U2 ⟨hw2, hmod, hU2⟩ ?_).1
          rw [← hge]
          exact wkt [0, 1]
        · have hb1 : b = 1 := by omega
          subst hb1
          rw [Nat.one_mul] at hwin
          have hwl := win_lt hB k (i + 1) U2
          have hgt : win 18446744073709551616 k (i + 1) U / D < g := by rw [Nat.div_lt_iff_lt_mul hD0]; omega
          have hg0 : 0 < g := Nat.lt_of_le_of_lt (Nat.zero_le _) hgt
          refine wk ?_
          refine aw_loopI (fun (X : Nat × Nat × Nat) => ⟨((.slc 0 k 1 (i + 1) c1) :: (.slc 1 0 1 i c2) :: .any :: .any :: .any :: (.int .i64 i) :: (.int .u64 (g - 1 : Nat)) :: .any :: (.int .u64 1) :: .any :: .any :: .any :: .any :: .any :: (.int .u64 X.2.1) :: .any :: .any :: .any :: .any :: .any :: .any :: .any :: .any :: .any :: .any :: .any :: .any :: .any :: .any :: .any :: .any :: .any :: .any :: .any :: .any :: .any :: .any :: .any :: .any :: .any :: .any :: .any :: .any :: .any :: .any :: .any :: .any :: .any :: .any :: .any :: .any :: .any :: .any :: .any :: .any :: .any :: .any :: .any :: .any :: .any :: .any :: .any :: .any :: .any :: .any :: .any :: .any :: .any :: .any :: .any :: .any :: .any :: .any :: .any :: .any :: .any :: .any :: .any :: .any :: .any :: .any :: .any :: .any :: .any :: .any :: .any :: .any :: .any :: .any :: .any :: .any :: .any :: .any :: .any :: .any :: .any :: .any :: .any :: .any :: .any :: (.slc 1 0 1 i c2) :: (.int .i64 i) :: (.int .i64 X.1) :: .any :: .any :: .any :: .any :: .any :: .any :: .any :: .any :: .any :: .any :: .any :: .any :: .any :: .any :: .any :: .any :: .any :: .any :: .any :: .any :: .any :: .any :: .any :: .any :: .any :: .any :: .any :: .any :: .any :: .any :: .any :: .any :: .any :: .any :: []), [.live (dl 18446744073709551616 5 X.2.2), .live (dl 18446744073709551616 5 D)]⟩)
            (fun X => X.1 ≤ i ∧ X.2.1 ≤ 1 ∧ X.2.2 < 18446744073709551616 ^ 5 ∧ Win 18446744073709551616 k (k + (i + 1)) U2 X.2.2 ∧ X.2.2 + X.2.1 * 18446744073709551616 ^ (k + X.1) = U2 + D % 18446744073709551616 ^ X.1 * 18446744073709551616 ^ k) (fun X => i - X.1) (0, 0, U2) ⟨by omega, Nat.zero_le _, hU2, Win.refl _ _ _ _, by simp [Nat.mod_one]⟩ (wkt [0, 1]) ?_
          rintro ⟨j, back, U3⟩ ⟨hj, hback, hU3, hw3, hI3⟩ K5 hK5
          dsimp only at hj hback hU3 hw3 hI3
          have hdl := dl_length 18446744073709551616 5 U3
          clear ca
          by_cases h1 : j < i
          · have ca2 := add64_c
            have hlo := lb_lt U3 (k + j)
            have hld := lb_lt D j
            have hadd := add_eq (lb U3 (k + j)) (lb D j) back
            have hal := addLo_lt (lb U3 (k + j)) (lb D j) back
            have hah := addHi_le hlo hld hback
            have hstep := back_step hI3 (dg_lb U3 (k + j)) hadd
            refine wk ?_
            ((first | refine aseq_fx (fun F hF => ?_) | refine aw_fx (fun F hF => ?_)); simp (disch := omega) only [Nat.mul_one, Nat.zero_add, nth_dl, dg_lb]; apply hF; clear hF F)
            refine wk ?_
            refine hK5 _ (j + 1, _, setD 18446744073709551616 U3 (k + j) (addLo (lb U3 (k + j)) (lb D j) back)) ⟨by show j + 1 ≤ i; omega, hah, setD_lt hB _ _ _ _ hU3 (by omega) hal, hw3.set hB hal (by omega) (by omega), hstep⟩ (wkt [0, 1] (hh := ?_)) (by show i - (j + 1) < i - j; omega)
            dsimp only [renS, renH, renB, hbAt, List.getElem?_cons_zero, List.getElem?_cons_succ]
            simp only [Nat.mul_one]
            rw [set_dl hB (by omega) hal, renL_clean _ (clean_dl _ _ _), renL_clean _ (clean_dl _ _ _)]
          · obtain rfl : j = i := by omega
            have cam := add64_m
            have hlo := lb_lt U3 (k + j)
            have hadd := add_eq (lb U3 (k + j)) 0 back
            have hal := addLo_lt (lb U3 (k + j)) 0 back
            have hah := addHi_le hlo (Nat.succ_pos _ : 0 < 18446744073709551616) hback
            have hlast := back_last hD hI3 (dg_lb U3 (k + j)) hadd
            have hw4 := hw3.set hB hal (by omega) (show k + j < k + (j + 1) by omega)
            have hwin4 := hw4.eq (x := addHi (lb U3 (k + j)) 0 back * 18446744073709551616 ^ (j + 1)) (y := D) hB hlast
            have hU4 := setD_lt hB U3 (k + j) _ 5 hU3 (by omega) hal
            have hset := set_dl (B := 18446744073709551616) (n := 5) (M := U3) (j := k + j) hB (by omega) hal
            have hw5 : Win 18446744073709551616 k (k + (j + 1)) U (setD 18446744073709551616 U3 (k + j) (addLo (lb U3 (k + j)) 0 back)) := ⟨hw4.low.trans hw2.low, hw4.high.trans hw2.high⟩
            refine wk ?_
            ((first | refine aseq_fx (fun F hF => ?_) | refine aw_fx (fun F hF => ?_)); simp (disch := omega) only [Nat.mul_one, Nat.zero_add, nth_dl, dg_lb]; apply hF; clear hF F)
            refine wk ?_
            have hfin := give_back hg0 hah hwin hwin4
            refine hK4 _ (g - 1, 1 - addHi (lb U3 (k + j)) 0 back, setD 18446744073709551616 U3 (k + j) (addLo (lb U3 (k + j)) 0 back)) ⟨Nat.le_sub_one_of_lt hgt, by show g - 1 < 18446744073709551616; omega, by show 1 - _ ≤ 1; omega, hU4, hw5, hfin⟩ (wkt [0, 1] (hh := ?_)) (by show g - 1 < g; omega)
            dsimp only [renS, renH, renB, hbAt, List.getElem?_cons_zero, List.getElem?_cons_succ]
            simp only [Nat.mul_one]
            rw [hset, renL_clean _ (clean_dl _ _ _), renL_clean _ (clean_dl _ _ _)]
      · obtain ⟨hX1, hX2, hX3⟩ := hX
        refine wk ?_
        refine fin ?_
        exact ⟨rfl, X, rfl, hX1, hX2, hX3⟩
end Go.Abs
