/- Products: Mul64, Mul, the page's: walks. -/
import Derived.Test.YtemlnaipcdajeaaGreatM13
import Derived.Lib.Mul64
set_option linter.unusedVariables false
set_option linter.unusedSimpArgs false
namespace Go.Abs
open Go Go.Proofs

theorem and_nat {x y : Nat} (hx : x < 18446744073709551616) (hy : y < 18446744073709551616) : bitsOp .and .u64 (x : Int) (y : Int) = ((x &&& y : Nat) : Int) := by
  have l : x &&& y < 2 ^ 64 := Nat.lt_of_le_of_lt Nat.and_le_left (by simpa using hx)
  show IntKind.wrap .u64 (((BitVec.ofInt 64 (x : Int) &&& BitVec.ofInt 64 (y : Int)).toNat : Nat) : Int) = _
  rw [BitVec.toNat_and, BitVec.toNat_ofInt, BitVec.toNat_ofInt]
  have e1 : (((x : Nat) : Int) % ((2 ^ 64 : Nat) : Int)).toNat = x := by omega
  have e2 : (((y : Nat) : Int) % ((2 ^ 64 : Nat) : Int)).toNat = y := by omega
  rw [e1, e2, wu64 (by simp only [Nat.reducePow] at l; omega)]
/-- The lower half. -/
theorem and32 {x : Int} (h0 : 0 ≤ x) (h : x < 18446744073709551616) : bitsOp .and .u64 x 4294967295 = x % 4294967296 := by
  obtain ⟨n, rfl⟩ := Int.eq_ofNat_of_zero_le h0
  have := and_nat (x := n) (y := 4294967295) (by omega) (by omega)
  rw [show ((4294967295 : Nat) : Int) = 4294967295 from rfl] at this
  rw [this, show (4294967295 : Nat) = 2 ^ 32 - 1 from by decide, Nat.and_two_pow_sub_one_eq_mod]
  rfl

/-- A product's upper and lower half. -/
def mulHi (x y : Nat) : Nat := x * y / 18446744073709551616
def mulLo (x y : Nat) : Nat := x * y % 18446744073709551616
set_option maxHeartbeats 20000000 in
theorem mul64_c (x y : Nat) (hx : x < 18446744073709551616) (hy : y < 18446744073709551616) : Pure Tryz.prog 182 [.int .u64 x, .int .u64 y] (.tup [.int .u64 (mulHi x y), .int .u64 (mulLo x y)]) := by
  refine pure_ac ?_ (cleans_cons (.int _ _) (cleans_cons (.int _ _) cleans_nil)) (clean_tup (cleans_cons (.int _ _) (cleans_cons (.int _ _) cleans_nil)))
  (refine enter Tryz.func182 Tryz.results182 Tryz.ntmps182 ty_ok (hw := fun F hF => ?_); simp only [List.length_cons, List.length_nil, Nat.reduceAdd, Nat.reduceSub, List.replicate_succ, List.replicate_zero, List.cons_append, List.nil_append]; apply hF; clear hF F)
  refine wk ?_
  refine fin ?_
  obtain ⟨b1, b2, b3, b4⟩ := Lib.mul64_hi x y hx hy
  have m1 : ((x : Int) % 4294967296) * ((y : Int) % 4294967296) = (((x % 4294967296) * (y % 4294967296) : Nat) : Int) := by simp
  have m2 : ((x : Int) / 4294967296) * ((y : Int) % 4294967296) = (((x / 4294967296) * (y % 4294967296) : Nat) : Int) := by simp
  have m3 : ((x : Int) % 4294967296) * ((y : Int) / 4294967296) = (((x % 4294967296) * (y / 4294967296) : Nat) : Int) := by simp
  have m4 : ((x : Int) / 4294967296) * ((y : Int) / 4294967296) = (((x / 4294967296) * (y / 4294967296) : Nat) : Int) := by simp
  have m5 : (x : Int) * y = ((x * y : Nat) : Int) := by simp
  have q : x * y < 18446744073709551616 * 18446744073709551616 := Nat.mul_lt_mul_of_lt_of_lt hx hy
  unfold mulHi mulLo
  simp (disch := omega) only [and32, m1, m2, m3, m4, m5]
  generalize (x % 4294967296) * (y % 4294967296) = p1 at *
  generalize (x / 4294967296) * (y % 4294967296) = p2 at *
  generalize (x % 4294967296) * (y / 4294967296) = p3 at *
  generalize (x / 4294967296) * (y / 4294967296) = p4 at *
  generalize x * y = p5 at *
  refine congrArg V.tup (congr (congrArg List.cons (congrArg (V.int _) ?_)) (congrArg (· :: []) (congrArg (V.int _) ?_)))
  · omega
  · omega
/-! ### A limb is laid -/
def setL (M j c : Nat) : Nat := M - lb M j * 18446744073709551616 ^ j + c * 18446744073709551616 ^ j
theorem lb_parts (M j : Nat) : M = M % 18446744073709551616 ^ j + 18446744073709551616 ^ j * (lb M j + 18446744073709551616 * (M / 18446744073709551616 ^ (j + 1))) := by
  unfold lb
  rw [Nat.pow_succ, ← Nat.div_div_eq_div_mul]
  have h := Nat.mod_add_div M (18446744073709551616 ^ j)
  have h2 := Nat.mod_add_div (M / 18446744073709551616 ^ j) 18446744073709551616
  rw [h2]; exact h.symm
theorem setL_parts (M j c : Nat) : setL M j c = M % 18446744073709551616 ^ j + 18446744073709551616 ^ j * (c + 18446744073709551616 * (M / 18446744073709551616 ^ (j + 1))) := by
  have h := lb_parts M j
  have h1 : M - lb M j * 18446744073709551616 ^ j = M % 18446744073709551616 ^ j + 18446744073709551616 ^ j * (18446744073709551616 * (M / 18446744073709551616 ^ (j + 1))) := by
    have : M = (M % 18446744073709551616 ^ j + 18446744073709551616 ^ j * (18446744073709551616 * (M / 18446744073709551616 ^ (j + 1)))) + lb M j * 18446744073709551616 ^ j := by
      rw [Nat.mul_comm (lb M j), Nat.add_assoc, ← Nat.mul_add, Nat.add_comm (18446744073709551616 * _) (lb M j)]; exact h
    generalize M % 18446744073709551616 ^ j + 18446744073709551616 ^ j * (18446744073709551616 * (M / 18446744073709551616 ^ (j + 1))) = r at this ⊢
    omega
  unfold setL
  rw [h1, Nat.mul_add, Nat.mul_comm c]
  omega
theorem setL_eq (M j c : Nat) : setL M j c + lb M j * 18446744073709551616 ^ j = M + c * 18446744073709551616 ^ j := by
  have h := lb_parts M j
  have : lb M j * 18446744073709551616 ^ j ≤ M := by
    conv => rhs; rw [h]
    rw [Nat.mul_add, Nat.mul_comm (lb M j)]
    omega
  unfold setL; omega
theorem lb_set (M j c : Nat) (hc : c < 18446744073709551616) (q : Nat) : lb (setL M j c) q = if q = j then c else lb M q := by
  have hB : 0 < 18446744073709551616 := by omega
  have hs := setL_parts M j c
  have hm := lb_parts M j
  generalize M / 18446744073709551616 ^ (j + 1) = h at hs hm
  have hr : M % 18446744073709551616 ^ j < 18446744073709551616 ^ j := Nat.mod_lt _ (Nat.pow_pos hB)
  generalize M % 18446744073709551616 ^ j = r at hs hm hr
  have hl := lb_lt M j
  generalize lb M j = o at hm hl
  rcases Nat.lt_trichotomy q j with hq | rfl | hq
  · rw [if_neg (by omega)]
    obtain ⟨d, rfl⟩ : ∃ d, j = q + (d + 1) := ⟨j - q - 1, by omega⟩
    have e : ∀ z, lb (r + 18446744073709551616 ^ (q + (d + 1)) * z) q = lb r q := fun z => by
      unfold lb
      rw [show 18446744073709551616 ^ (q + (d + 1)) * z = 18446744073709551616 ^ q * (18446744073709551616 * (18446744073709551616 ^ d * z)) from by rw [Nat.pow_add, Nat.pow_succ]; ac_rfl, Nat.add_mul_div_left _ _ (Nat.pow_pos hB), Nat.add_mul_mod_self_left]
    rw [hs, e]; conv => rhs; rw [hm, e]
  · rw [if_pos rfl, hs]
    unfold lb
    rw [Nat.add_mul_div_left _ _ (Nat.pow_pos hB), Nat.div_eq_of_lt hr, Nat.zero_add, Nat.add_mul_mod_self_left, Nat.mod_eq_of_lt hc]
  · rw [if_neg (by omega)]
    obtain ⟨d, rfl⟩ : ∃ d, q = j + (1 + d) := ⟨q - j - 1, by omega⟩
    have e : ∀ z, z < 18446744073709551616 → lb (r + 18446744073709551616 ^ j * (z + 18446744073709551616 * h)) (j + (1 + d)) = lb h d := fun z hz => by
      unfold lb
      rw [Nat.pow_add, ← Nat.div_div_eq_div_mul, Nat.add_mul_div_left _ _ (Nat.pow_pos hB), Nat.div_eq_of_lt hr, Nat.zero_add, Nat.pow_add, Nat.pow_one, ← Nat.div_div_eq_div_mul, Nat.add_mul_div_left _ _ hB, Nat.div_eq_of_lt hz, Nat.zero_add]
    rw [hs, e c hc]; conv => rhs; rw [hm, e o hl]
theorem setL_lt (M j c n : Nat) (hM : M < 18446744073709551616 ^ n) (hj : j < n) (hc : c < 18446744073709551616) : setL M j c < 18446744073709551616 ^ n := by
  have hB : 0 < 18446744073709551616 := by omega
  rw [setL_parts]
  obtain ⟨d, rfl⟩ : ∃ d, n = j + (1 + d) := ⟨n - j - 1, by omega⟩
  have hr : M % 18446744073709551616 ^ j < 18446744073709551616 ^ j := Nat.mod_lt _ (Nat.pow_pos hB)
  have hh : M / 18446744073709551616 ^ (j + 1) < 18446744073709551616 ^ d := by rw [Nat.div_lt_iff_lt_mul (Nat.pow_pos hB), ← Nat.pow_add]; rwa [show d + (j + 1) = j + (1 + d) from by omega]
  generalize M / 18446744073709551616 ^ (j + 1) = h at hh ⊢
  generalize M % 18446744073709551616 ^ j = r at hr ⊢
  rw [Nat.pow_add, Nat.pow_add, Nat.pow_one]
  have h1 : c + 18446744073709551616 * h + 1 ≤ 18446744073709551616 * 18446744073709551616 ^ d := Nat.le_trans (by omega : c + 18446744073709551616 * h + 1 ≤ 18446744073709551616 * (h + 1)) (Nat.mul_le_mul_left _ hh)
  generalize c + 18446744073709551616 * h = z at h1 ⊢
  have h2 : 18446744073709551616 ^ j * (z + 1) ≤ 18446744073709551616 ^ j * (18446744073709551616 * 18446744073709551616 ^ d) := Nat.mul_le_mul_left _ h1
  rw [Nat.mul_succ] at h2
  omega

/-- Eight limbs. -/
@[reducible] def l8 (M : Nat) : List V := [.int .u64 (lb M 0), .int .u64 (lb M 1), .int .u64 (lb M 2), .int .u64 (lb M 3), .int .u64 (lb M 4), .int .u64 (lb M 5), .int .u64 (lb M 6), .int .u64 (lb M 7)]
theorem nth_l8 (M : Nat) {j : Nat} (h : j < 8) : nth (l8 M) j = .int .u64 (lb M j) := by
  have : j = 0 ∨ j = 1 ∨ j = 2 ∨ j = 3 ∨ j = 4 ∨ j = 5 ∨ j = 6 ∨ j = 7 := by omega
  rcases this with rfl | rfl | rfl | rfl | rfl | rfl | rfl | rfl <;> rfl
theorem set_l8 (M c : Nat) {j : Nat} (h : j < 8) (hc : c < 18446744073709551616) : (l8 M).set j (.int .u64 c) = l8 (setL M j c) := by
  unfold l8
  simp only [lb_set M j c hc]
  have : j = 0 ∨ j = 1 ∨ j = 2 ∨ j = 3 ∨ j = 4 ∨ j = 5 ∨ j = 6 ∨ j = 7 := by omega
  rcases this with rfl | rfl | rfl | rfl | rfl | rfl | rfl | rfl <;> rfl
/-- One step of a product's row. -/
theorem mul_step {x y o c : Nat} (hx : x < 18446744073709551616) (hy : y < 18446744073709551616) (ho : o < 18446744073709551616) (hc : c < 18446744073709551616) :
    x * y + o + c = addLo (addLo (mulLo x y) o 0) c 0 + 18446744073709551616 * (mulHi x y + addHi (mulLo x y) o 0 + addHi (addLo (mulLo x y) o 0) c 0) ∧
    mulHi x y + addHi (mulLo x y) o 0 + addHi (addLo (mulLo x y) o 0) c 0 < 18446744073709551616 := by
  have h1 : x * y = mulLo x y + 18446744073709551616 * mulHi x y := by unfold mulLo mulHi; exact (Nat.mod_add_div _ _).symm
  have h2 := add_eq (mulLo x y) o 0
  have h3 := add_eq (addLo (mulLo x y) o 0) c 0
  have h4 : x * y ≤ 18446744073709551615 * 18446744073709551615 := Nat.mul_le_mul (by omega) (by omega)
  generalize x * y = p at *
  omega
/-- The rows below the i-th, and of that k limbs. -/
theorem row_next (x y i k : Nat) : x % 18446744073709551616 ^ i * y + lb x i * (y % 18446744073709551616 ^ k) * 18446744073709551616 ^ i + lb x i * lb y k * 18446744073709551616 ^ (i + k) = x % 18446744073709551616 ^ i * y + lb x i * (y % 18446744073709551616 ^ (k + 1)) * 18446744073709551616 ^ i := by
  have : y % 18446744073709551616 ^ (k + 1) = y % 18446744073709551616 ^ k + 18446744073709551616 ^ k * lb y k := Nat.mod_pow_succ
  rw [this, Nat.mul_add, Nat.add_mul, Nat.pow_add, Nat.add_assoc]
  congr 2; ac_rfl
theorem row_end (x y i : Nat) (hy : y < 18446744073709551616 ^ 4) : x % 18446744073709551616 ^ i * y + lb x i * (y % 18446744073709551616 ^ 4) * 18446744073709551616 ^ i = x % 18446744073709551616 ^ (i + 1) * y := by
  have : x % 18446744073709551616 ^ (i + 1) = x % 18446744073709551616 ^ i + 18446744073709551616 ^ i * lb x i := Nat.mod_pow_succ
  rw [this, Nat.mod_eq_of_lt hy, Nat.add_mul]
  congr 1; ac_rfl
theorem carry_eq {S M old new p c car : Nat} {j : Nat} (h1 : S + old * 18446744073709551616 ^ j = M + new * 18446744073709551616 ^ j) (h2 : p + old + c = new + 18446744073709551616 * car) : S + car * 18446744073709551616 ^ (j + 1) = M + c * 18446744073709551616 ^ j + p * 18446744073709551616 ^ j := by
  have h3 : (p + old + c) * 18446744073709551616 ^ j = (new + 18446744073709551616 * car) * 18446744073709551616 ^ j := by rw [h2]
  rw [Nat.add_mul, Nat.add_mul, Nat.add_mul, Nat.mul_assoc] at h3
  rw [Nat.pow_succ, show car * (18446744073709551616 ^ j * 18446744073709551616) = 18446744073709551616 * (car * 18446744073709551616 ^ j) from by ac_rfl]
  omega
theorem lb_big {M n j : Nat} (h : M < 18446744073709551616 ^ n) (hj : n ≤ j) : lb M j = 0 := by
  unfold lb; rw [Nat.div_eq_of_lt (Nat.lt_of_lt_of_le h (Nat.pow_le_pow_right (by omega) hj)), Nat.zero_mod]

theorem or4 {a b c d : Nat} (ha : a < 18446744073709551616) (hb : b < 18446744073709551616) (hc : c < 18446744073709551616) (hd : d < 18446744073709551616) : bitsOp .or .u64 (bitsOp .or .u64 (bitsOp .or .u64 (a : Int) b) c) d = ((a ||| b ||| c ||| d : Nat) : Int) := by
  have l : ∀ {x y : Nat}, x < 18446744073709551616 → y < 18446744073709551616 → x ||| y < 18446744073709551616 := fun {x y} hx hy => by
    have := Nat.or_lt_two_pow (n := 64) (x := x) (y := y) (by simpa using hx) (by simpa using hy)
    simpa using this
  rw [or_nat ha hb, or_nat (l ha hb) hc, or_nat (l (l ha hb) hc) hd]
theorem or4_zero (a b c d : Nat) : (a ||| b ||| c ||| d) = 0 ↔ a = 0 ∧ b = 0 ∧ c = 0 ∧ d = 0 := by
  simp only [Nat.or_eq_zero_iff, and_assoc]
theorem hi4 {M : Nat} (h : M < 18446744073709551616 ^ 8) : (lb M 4 ||| lb M 5 ||| lb M 6 ||| lb M 7) = 0 ↔ M < 115792089237316195423570985008687907853269984665640564039457584007913129639936 := by
  rw [or4_zero]
  constructor
  · rintro ⟨h4, h5, h6, h7⟩
    unfold lb at h4 h5 h6 h7
    simp only [Nat.reducePow] at *
    omega
  · intro h
    have h' : M < 18446744073709551616 ^ 4 := by simpa using h
    exact ⟨lb_big h' (by omega), lb_big h' (by omega), lb_big h' (by omega), lb_big h' (by omega)⟩

/-- What a product answers. -/
def mulV (x y : Nat) : V := if x * y < 115792089237316195423570985008687907853269984665640564039457584007913129639936 then ue (x * y) 0 else ue 0 8
theorem clean_mulV (x y : Nat) : Clean (mulV x y) := by unfold mulV; split <;> exact clean_ue _ _

set_option maxHeartbeats 20000000 in
theorem mul_c (x y : Nat) (hx : x < 115792089237316195423570985008687907853269984665640564039457584007913129639936) (hy : y < 115792089237316195423570985008687907853269984665640564039457584007913129639936) : Pure Tryz.prog 170 [uv x, uv y] (mulV x y) := by
  refine pure_ac ?_ (cleans_cons (clean_uv _) (cleans_cons (clean_uv _) cleans_nil)) (clean_mulV _ _)
  have c0 := mul64_c
  have c1 := add64_0
  have hy4 : y < 18446744073709551616 ^ 4 := by simpa using hy
  (refine enter Tryz.func170 Tryz.results170 Tryz.ntmps170 ty_ok (hw := fun F hF => ?_); simp only [List.length_cons, List.length_nil, Nat.reduceAdd, Nat.reduceSub, List.replicate_succ, List.replicate_zero, List.cons_append, List.nil_append]; apply hF; clear hF F)
  refine wk ?_
  refine aw_loopI (fun (i : Nat) => ⟨(.any :: .any :: .any :: (.ptr 1 0) :: (.ptr 2 0) :: (.int .i64 0) :: (.ptr 3 0) :: .any :: .any :: .any :: .any :: .any :: .any :: .any :: .any :: .any :: (.agg (uvc x)) :: (.int .i64 i) :: .any :: .any :: .any :: .any :: .any :: .any :: .any :: .any :: .any :: .any :: .any :: .any :: .any :: .any :: .any :: .any :: .any :: .any :: .any :: .any :: .any :: .any :: .any :: .any :: .any :: .any :: .any :: .any :: .any :: .any :: .any :: .any :: .any :: .any :: .any :: .any :: .any :: .any :: .any :: .any :: .any :: .any :: .any :: .any :: .any :: .any :: .any :: .any :: .any :: .any :: .any :: .any :: .any :: .any :: .any :: .any :: .any :: .any :: .any :: .any :: .any :: .any :: .any :: .any :: .any :: .any :: .any :: .any :: .any :: .any :: []), [.live (uvc x), .live (uvc y), .live [.int .u64 0, .int .u64 0, .int .u64 0, .int .u64 0], .live (l8 (x % 18446744073709551616 ^ i * y))]⟩) (fun i => i ≤ 4) (fun i => 4 - i) 0 (by omega) (wkt [0, 1, 2, 3] (hh := by dsimp only [renS, renH, renL, renV, renB, hbAt, List.map_cons, List.map_nil, List.getElem?_cons_zero, List.getElem?_cons_succ]; rw [Nat.pow_zero, Nat.mod_one, Nat.zero_mul]; rfl)) ?_
  intro i hi K hK
  by_cases h1 : i < 4
  · have hn := nth_limbs x (j := i) h1
    have hM : x % 18446744073709551616 ^ i * y < 18446744073709551616 ^ (i + 4) := by
      rw [Nat.pow_add]; exact Nat.mul_lt_mul_of_lt_of_lt (Nat.mod_lt _ (Nat.pow_pos (by omega))) hy4
    refine wk ?_
    (refine aseq_fx (fun F hF => ?_); simp only [Int.toNat_natCast, Nat.mul_one, hn]; apply hF; clear hF F)
    refine wk ?_
    by_cases hz : lb x i = 0
    · have e1 := row_end x y i hy4
      rw [hz, Nat.zero_mul, Nat.zero_mul, Nat.add_zero] at e1
      refine wk ?_
      refine hK _ (i + 1) (by omega) ?_ (by omega)
      rw [← e1]
      exact wkt [0, 1, 2, 3]
    · refine wk ?_
      refine aw_loopI (fun (X : Nat × Nat × Nat) => ⟨(.any :: .any :: .any :: (.ptr 1 0) :: (.ptr 2 0) :: (.int .i64 0) :: (.ptr 3 0) :: (.int .i64 i) :: (.int .u64 (lb x i)) :: (.int .u64 X.2.1) :: .any :: .any :: .any :: .any :: .any :: .any :: (.agg (uvc x)) :: (.int .i64 i) :: .any :: .any :: .any :: .any :: .any :: (.agg (uvc y)) :: (.int .i64 X.1) :: .any :: .any :: .any :: .any :: .any :: .any :: .any :: .any :: .any :: .any :: .any :: .any :: .any :: .any :: .any :: .any :: .any :: .any :: .any :: .any :: .any :: .any :: .any :: .any :: .any :: .any :: .any :: .any :: .any :: .any :: .any :: .any :: .any :: .any :: .any :: .any :: .any :: .any :: .any :: .any :: .any :: .any :: .any :: .any :: .any :: .any :: .any :: .any :: .any :: .any :: .any :: .any :: .any :: .any :: .any :: .any :: .any :: .any :: .any :: .any :: .any :: .any :: .any :: []), [.live (uvc x), .live (uvc y), .live [.int .u64 0, .int .u64 0, .int .u64 0, .int .u64 0], .live (l8 X.2.2)]⟩) (fun X => X.1 ≤ 4 ∧ X.2.1 < 18446744073709551616 ∧ X.2.2 < 18446744073709551616 ^ (i + 4) ∧ X.2.2 + X.2.1 * 18446744073709551616 ^ (i + X.1) = x % 18446744073709551616 ^ i * y + lb x i * (y % 18446744073709551616 ^ X.1) * 18446744073709551616 ^ i) (fun X => 4 - X.1) (0, 0, x % 18446744073709551616 ^ i * y) ⟨by omega, Nat.succ_le_of_lt (Nat.succ_pos _), hM, by simp [Nat.mod_one]⟩ (wkt [0, 1, 2, 3]) ?_
      rintro ⟨k, c, M⟩ ⟨hk, hc, hM2, heq⟩ K2 hK2
      dsimp only at hk hc hM2 heq
      have hlx := lb_lt x i
      by_cases h2 : k < 4
      · have hny := nth_limbs y (j := k) h2
        have hly := lb_lt y k
        have hlo := lb_lt M (i + k)
        have hno := nth_l8 M (j := i + k) (by omega)
        have eidx : ((i : Int) + k).toNat * 1 = i + k := by omega
        obtain ⟨st1, st2⟩ := mul_step hlx hly hlo hc
        have b1 := addHi_le (x := mulLo (lb x i) (lb y k)) (y := lb M (i + k)) (c := 0) (Nat.mod_lt _ (by omega)) hlo (by omega)
        refine wk ?_
        (refine aseq_fx (fun F hF => ?_); simp only [Int.toNat_natCast, Nat.mul_one, hny]; apply hF; clear hF F)
        refine wk ?_
        (refine aseq_fx (fun F hF => ?_); simp only [eidx, Nat.zero_add, hno]; apply hF; clear hF F)
        refine wk ?_
        have hnew := addLo_lt (addLo (mulLo (lb x i) (lb y k)) (lb M (i + k)) 0) c 0
        generalize addLo (addLo (mulLo (lb x i) (lb y k)) (lb M (i + k)) 0) c 0 = new at *
        generalize hcar : mulHi (lb x i) (lb y k) + addHi (mulLo (lb x i) (lb y k)) (lb M (i + k)) 0 + addHi (addLo (mulLo (lb x i) (lb y k)) (lb M (i + k)) 0) c 0 = car at *
        have heq' : setL M (i + k) new + car * 18446744073709551616 ^ (i + (k + 1)) = x % 18446744073709551616 ^ i * y + lb x i * (y % 18446744073709551616 ^ (k + 1)) * 18446744073709551616 ^ i := by
          rw [← row_next, ← heq, show i + (k + 1) = (i + k) + 1 from by omega]
          exact carry_eq (setL_eq M (i + k) new) st1
        refine hK2 _ (k + 1, car, setL M (i + k) new) ⟨by show k + 1 ≤ 4; omega, st2, setL_lt M _ _ _ hM2 (by omega) hnew, heq'⟩ (wkt [0, 1, 2, 3] (hh := ?_)) (by show 4 - (k + 1) < 4 - k; omega)
        dsimp only [renS, renH, renB, hbAt, List.getElem?_cons_zero, List.getElem?_cons_succ]
        rw [eidx, Nat.zero_add, set_l8 M new (by omega) hnew]
        rfl
      · obtain rfl : k = 4 := by omega
        have eidx : ((i : Int) + 4).toNat * 1 = i + 4 := by omega
        have hz4 := lb_big hM2 (Nat.le_refl (i + 4))
        have hs := setL_eq M (i + 4) c
        rw [hz4, Nat.zero_mul, Nat.add_zero, heq, row_end x y i hy4] at hs
        refine wk ?_
        refine hK _ (i + 1) (by omega) ?_ (by omega)
        rw [← hs]
        refine wkt [0, 1, 2, 3] (hh := ?_)
        dsimp only [renS, renH, renB, hbAt, List.getElem?_cons_zero, List.getElem?_cons_succ]
        rw [eidx, Nat.zero_add, set_l8 M c (by omega) hc]
        rfl
  · obtain rfl : i = 4 := by omega
    rw [Nat.mod_eq_of_lt (show x < 18446744073709551616 ^ 4 by simpa using hx)]
    have hxy : x * y < 18446744073709551616 ^ 8 := by rw [show (8 : Nat) = 4 + 4 from rfl, Nat.pow_add]; exact Nat.mul_lt_mul_of_lt_of_lt (by simpa using hx) hy4
    have ho := or4 (lb_lt (x * y) 4) (lb_lt (x * y) 5) (lb_lt (x * y) 6) (lb_lt (x * y) 7)
    have hh := hi4 hxy
    refine wk ?_
    (refine aw_fx (fun F hF => ?_); simp only [ho]; apply hF; clear hF F)
    ((first | refine aw_ifd ?_ ?_ | refine aw_ife ?_ ?_ | refine aw_ifne ?_ ?_ | refine aw_ifn ?_ ?_ | refine aw_ifnb ?_ ?_ | refine aw_ifb ?_ ?_) <;> intro hb)
    · have hb' : ¬ x * y < 115792089237316195423570985008687907853269984665640564039457584007913129639936 := fun h => hb (by rw [hh.2 h]; rfl)
      refine wk ?_
      refine fin ?_
      rw [show mulV x y = ue 0 8 from if_neg hb']; rfl
    · have hb' : x * y < 115792089237316195423570985008687907853269984665640564039457584007913129639936 := hh.1 (by omega)
      refine wk ?_
      refine fin ?_
      rw [show mulV x y = ue (x * y) 0 from if_pos hb']; rfl
end Go.Abs
/- The page's product: walks. -/
namespace Go.Abs
open Go Go.Proofs

/-! ### A digit is laid: any base -/
/-- A digit of a number. -/
def dg (B n i : Nat) : Nat := n / B ^ i % B
theorem dg_lt {B : Nat} (hB : 0 < B) (n i : Nat) : dg B n i < B := Nat.mod_lt _ hB
def setD (B M j c : Nat) : Nat := M - dg B M j * B ^ j + c * B ^ j
theorem dg_parts (B M j : Nat) : M = M % B ^ j + B ^ j * (dg B M j + B * (M / B ^ (j + 1))) := by
  unfold dg
  rw [Nat.pow_succ, ← Nat.div_div_eq_div_mul]
  have h := Nat.mod_add_div M (B ^ j)
  have h2 := Nat.mod_add_div (M / B ^ j) B
  rw [h2]; exact h.symm
theorem setD_parts (B M j c : Nat) : setD B M j c = M % B ^ j + B ^ j * (c + B * (M / B ^ (j + 1))) := by
  have h := dg_parts B M j
  have h1 : M - dg B M j * B ^ j = M % B ^ j + B ^ j * (B * (M / B ^ (j + 1))) := by
    have : M = (M % B ^ j + B ^ j * (B * (M / B ^ (j + 1)))) + dg B M j * B ^ j := by
      rw [Nat.mul_comm (dg B M j), Nat.add_assoc, ← Nat.mul_add, Nat.add_comm (B * _) (dg B M j)]; exact h
    generalize M % B ^ j + B ^ j * (B * (M / B ^ (j + 1))) = r at this ⊢
    omega
  unfold setD
  rw [h1, Nat.mul_add, Nat.mul_comm c]
  omega
theorem setD_eq (B M j c : Nat) : setD B M j c + dg B M j * B ^ j = M + c * B ^ j := by
  have h := dg_parts B M j
  have : dg B M j * B ^ j ≤ M := by
    rw [Nat.mul_add (B ^ j), ← Nat.mul_comm (dg B M j)] at h
    generalize M % B ^ j = r at h
    omega
  unfold setD; omega
theorem dg_set {B : Nat} (hB : 0 < B) (M j c : Nat) (hc : c < B) (q : Nat) : dg B (setD B M j c) q = if q = j then c else dg B M q := by
  have hs := setD_parts B M j c
  have hm := dg_parts B M j
  generalize M / B ^ (j + 1) = h at hs hm
  have hr : M % B ^ j < B ^ j := Nat.mod_lt _ (Nat.pow_pos hB)
  generalize M % B ^ j = r at hs hm hr
  have hl := dg_lt hB M j
  generalize dg B M j = o at hm hl
  rcases Nat.lt_trichotomy q j with hq | rfl | hq
  · rw [if_neg (by omega)]
    obtain ⟨d, rfl⟩ : ∃ d, j = q + (d + 1) := ⟨j - q - 1, by omega⟩
    have e : ∀ z, dg B (r + B ^ (q + (d + 1)) * z) q = dg B r q := fun z => by
      unfold dg
      rw [show B ^ (q + (d + 1)) * z = B ^ q * (B * (B ^ d * z)) from by rw [Nat.pow_add, Nat.pow_succ]; ac_rfl, Nat.add_mul_div_left _ _ (Nat.pow_pos hB), Nat.add_mul_mod_self_left]
    rw [hs, e]; conv => rhs; rw [hm, e]
  · rw [if_pos rfl, hs]
    unfold dg
    rw [Nat.add_mul_div_left _ _ (Nat.pow_pos hB), Nat.div_eq_of_lt hr, Nat.zero_add, Nat.add_mul_mod_self_left, Nat.mod_eq_of_lt hc]
  · rw [if_neg (by omega)]
    obtain ⟨d, rfl⟩ : ∃ d, q = j + (1 + d) := ⟨q - j - 1, by omega⟩
    have e : ∀ z, z < B → dg B (r + B ^ j * (z + B * h)) (j + (1 + d)) = dg B h d := fun z hz => by
      unfold dg
      rw [Nat.pow_add, ← Nat.div_div_eq_div_mul, Nat.add_mul_div_left _ _ (Nat.pow_pos hB), Nat.div_eq_of_lt hr, Nat.zero_add, Nat.pow_add, Nat.pow_one, ← Nat.div_div_eq_div_mul, Nat.add_mul_div_left _ _ hB, Nat.div_eq_of_lt hz, Nat.zero_add]
    rw [hs, e c hc]; conv => rhs; rw [hm, e o hl]
theorem setD_lt {B : Nat} (hB : 0 < B) (M j c n : Nat) (hM : M < B ^ n) (hj : j < n) (hc : c < B) : setD B M j c < B ^ n := by
  rw [setD_parts]
  obtain ⟨d, rfl⟩ : ∃ d, n = j + (1 + d) := ⟨n - j - 1, by omega⟩
  have hr : M % B ^ j < B ^ j := Nat.mod_lt _ (Nat.pow_pos hB)
  have hh : M / B ^ (j + 1) < B ^ d := by rw [Nat.div_lt_iff_lt_mul (Nat.pow_pos hB), ← Nat.pow_add]; rwa [show d + (j + 1) = j + (1 + d) from by omega]
  generalize M / B ^ (j + 1) = h at hh ⊢
  generalize M % B ^ j = r at hr ⊢
  rw [Nat.pow_add, Nat.pow_add, Nat.pow_one]
  have h1 : c + B * h + 1 ≤ B * B ^ d := Nat.le_trans (by rw [Nat.mul_succ]; omega : c + B * h + 1 ≤ B * (h + 1)) (Nat.mul_le_mul_left _ hh)
  generalize c + B * h = z at h1 ⊢
  have h2 : B ^ j * (z + 1) ≤ B ^ j * (B * B ^ d) := Nat.mul_le_mul_left _ h1
  rw [Nat.mul_succ] at h2
  omega

/-- The rows below the i-th, and of that k limbs. -/
theorem dow_next (B x y i k : Nat) : x % B ^ i * y + dg B x i * (y % B ^ k) * B ^ i + dg B x i * dg B y k * B ^ (i + k) = x % B ^ i * y + dg B x i * (y % B ^ (k + 1)) * B ^ i := by
  have : y % B ^ (k + 1) = y % B ^ k + B ^ k * dg B y k := Nat.mod_pow_succ
  rw [this, Nat.mul_add, Nat.add_mul, Nat.pow_add, Nat.add_assoc]
  congr 2; ac_rfl
theorem dow_end (B x y i n : Nat) (hy : y < B ^ n) : x % B ^ i * y + dg B x i * (y % B ^ n) * B ^ i = x % B ^ (i + 1) * y := by
  have : x % B ^ (i + 1) = x % B ^ i + B ^ i * dg B x i := Nat.mod_pow_succ
  rw [this, Nat.mod_eq_of_lt hy, Nat.add_mul]
  congr 1; ac_rfl
theorem darry_eq {B S M old new p c car : Nat} {j : Nat} (h1 : S + old * B ^ j = M + new * B ^ j) (h2 : p + old + c = new + B * car) : S + car * B ^ (j + 1) = M + c * B ^ j + p * B ^ j := by
  have h3 : (p + old + c) * B ^ j = (new + B * car) * B ^ j := by rw [h2]
  rw [Nat.add_mul, Nat.add_mul, Nat.add_mul, Nat.mul_assoc] at h3
  rw [Nat.pow_succ, show car * (B ^ j * B) = B * (car * B ^ j) from by ac_rfl]
  omega
theorem dg_big {B M n j : Nat} (hB : 0 < B) (h : M < B ^ n) (hj : n ≤ j) : dg B M j = 0 := by
  unfold dg; rw [Nat.div_eq_of_lt (Nat.lt_of_lt_of_le h (Nat.pow_le_pow_right hB hj)), Nat.zero_mod]

/-- Digits as cells. -/
def dl (B n M : Nat) : List V := (List.range n).map fun j => .int .u64 (dg B M j)
theorem dl_length (B n M : Nat) : (dl B n M).length = n := by simp [dl]
theorem clean_dl (B n M : Nat) : Cleans (dl B n M) := by
  intro v hv; obtain ⟨j, _, rfl⟩ := List.mem_map.1 hv; exact .int _ _
theorem nth_dl {B n M j : Nat} (h : j < n) : nth (dl B n M) j = .int .u64 (dg B M j) := by
  rw [nth_eq, List.getD_eq_getElem?_getD]; simp [dl, h]
theorem set_dl {B n M j c : Nat} (hB : 0 < B) (h : j < n) (hc : c < B) : (dl B n M).set j (.int .u64 c) = dl B n (setD B M j c) := by
  apply List.ext_getElem?
  intro q
  by_cases e : j = q
  · subst e
    rw [List.getElem?_set_self (by rw [dl_length]; exact h)]
    simp [dl, h, dg_set hB M j c hc]
  · rw [List.getElem?_set_ne e]
    simp only [dl, List.getElem?_map]
    by_cases hq : q < n
    · simp [hq, dg_set hB M j c hc, Ne.symm e]
    · simp [List.getElem?_eq_none, hq]

/-- Bits ahead of a number's. -/
theorem lb_or (m b p w : Nat) (hm : m < 2 ^ p) (hb : b < 2 ^ w) (hw : p % 64 + w ≤ 64) : (∀ j, lb (m + b * 2 ^ p) j = if j = p / 64 then (lb m (p / 64) ||| b * 2 ^ (p % 64)) else lb m j) ∧ b * 2 ^ (p % 64) < 18446744073709551616 := by
  have e64 : (18446744073709551616 : Nat) = 2 ^ 64 := by decide
  have hp : 2 ^ p = 2 ^ (p % 64) * 18446744073709551616 ^ (p / 64) := by rw [e64, ← Nat.pow_mul, ← Nat.pow_add]; congr 1; omega
  have f1 : b * 2 ^ (p % 64) + 2 ^ (p % 64) ≤ 2 ^ (p % 64 + w) := by
    rw [Nat.pow_add, ← Nat.succ_mul, Nat.mul_comm]; exact Nat.mul_le_mul_left _ (by omega)
  have f2 : 2 ^ (p % 64 + w) ≤ 18446744073709551616 := by rw [e64]; exact Nat.pow_le_pow_right (by omega) hw
  have f3 := Nat.two_pow_pos (p % 64)
  have hl : lb m (p / 64) < 2 ^ (p % 64) := by
    refine Nat.lt_of_le_of_lt (Nat.mod_le _ _) ?_
    rw [Nat.div_lt_iff_lt_mul (Nat.pow_pos (by omega)), ← hp]; exact hm
  have e : lb m (p / 64) ||| b * 2 ^ (p % 64) = lb m (p / 64) + b * 2 ^ (p % 64) := by
    rw [Nat.or_comm, Nat.mul_comm b, ← Nat.two_pow_add_eq_or_of_lt hl, Nat.add_comm]
  refine ⟨fun j => ?_, by omega⟩
  rw [e, show b * 2 ^ p = b * 2 ^ (p % 64) * 18446744073709551616 ^ (p / 64) from by rw [hp]; ac_rfl]
  exact lb_add _ _ _ (by omega) j

abbrev D32 : Nat := 4294967296
theorem rdigit_c (x : Nat) (i : Int) (h0 : 0 ≤ i) (h1 : i < 8) : Pure Tryz.prog 153 [uv x, .int .i64 i] (.int .u64 (dg 4294967296 x i.toNat)) := by
  refine pure_ac ?_ (cleans_cons (clean_uv _) (cleans_cons (.int _ _) cleans_nil)) (.int _ _)
  obtain ⟨n, rfl⟩ := Int.eq_ofNat_of_zero_le h0
  have hj := nth_limbs x (j := n / 2) (by omega)
  have hl := lb_lt x (n / 2)
  have hs := lb_shift x (32 * n) 32 (by omega)
  rw [show 32 * n / 64 = n / 2 from by omega, show 32 * n % 64 = 32 * (n % 2) from by omega] at hs
  have ej : ((n : Int) / 2).toNat * 1 = n / 2 := by omega
  have er : (32 * ((n : Int) % 2)).toNat = 32 * (n % 2) := by omega
  have hq : lb x (n / 2) / 2 ^ (32 * (n % 2)) < 18446744073709551616 := Nat.lt_of_le_of_lt (Nat.div_le_self _ _) hl
  have hc : (lb x (n / 2) : Int) / 2 ^ (32 * (n % 2)) = ((lb x (n / 2) / 2 ^ (32 * (n % 2)) : Nat) : Int) := by simp
  (refine enter Tryz.func153 Tryz.results153 Tryz.ntmps153 ty_ok (hw := fun F hF => ?_); simp only [List.length_cons, List.length_nil, Nat.reduceAdd, Nat.reduceSub, List.replicate_succ, List.replicate_zero, List.cons_append, List.nil_append]; apply hF; clear hF F)
  refine wk ?_
  (refine aseq_fx (fun F hF => ?_); simp only [ej, Nat.zero_add, hj]; apply hF; clear hF F)
  refine wk ?_
  refine fin ?_
  rw [er, hc]
  generalize lb x (n / 2) / 2 ^ (32 * (n % 2)) = q at hq hs
  rw [and32 (by omega) (by omega)]
  refine congrArg (V.int _) ?_
  unfold dg
  rw [show (4294967296 : Nat) ^ n = 2 ^ (32 * n) from by rw [Nat.pow_mul]]
  rw [show (4294967296 : Nat) = 2 ^ 32 from by decide, ← hs]
  simp only [Nat.reducePow]; omega
def rmulV (x y : Nat) : V := if x * y < 115792089237316195423570985008687907853269984665640564039457584007913129639936 then ub (x * y) true else ub 0 false
theorem clean_rmulV (x y : Nat) : Clean (rmulV x y) := by unfold rmulV; split <;> exact clean_ub _ _
theorem dmul_step {x y o c : Nat} (hx : x < 4294967296) (hy : y < 4294967296) (ho : o < 4294967296) (hc : c < 4294967296) :
    x * y + o + c = (o + x * y + c) % 4294967296 + 4294967296 * ((o + x * y + c) / 4294967296) ∧ (o + x * y + c) / 4294967296 < 4294967296 ∧ o + x * y + c < 18446744073709551616 := by
  have h4 : x * y ≤ 4294967295 * 4294967295 := Nat.mul_le_mul (by omega) (by omega)
  generalize x * y = p at *
  omega
theorem dl_zero (B n : Nat) : dl B n 0 = List.replicate n (.int .u64 0) := by
  apply List.ext_getElem?
  intro j
  simp only [dl, List.getElem?_map, List.getElem?_replicate]
  by_cases h : j < n
  · simp [h, dg]
  · simp [h]

theorem shl_mod' {b k : Nat} (hy : b * 2 ^ k < 18446744073709551616) : ((b : Int) * 2 ^ k) % 18446744073709551616 = (b : Int) * 2 ^ k := by
  have e : ((b * 2 ^ k : Nat) : Int) = (b : Int) * 2 ^ k := by rw [Int.natCast_mul, Int.natCast_pow]; rfl
  rw [← e]; omega
theorem small8 {M : Nat} (h : M < 4294967296 ^ 16) (hz : ∀ j, j < 8 → dg 4294967296 M (8 + j) = 0) : M < 4294967296 ^ 8 := by
  have h0 := hz 0 (by omega)
  have h1 := hz 1 (by omega)
  have h2 := hz 2 (by omega)
  have h3 := hz 3 (by omega)
  have h4 := hz 4 (by omega)
  have h5 := hz 5 (by omega)
  have h6 := hz 6 (by omega)
  have h7 := hz 7 (by omega)
  unfold dg at *
  simp only [Nat.reducePow, Nat.reduceAdd] at *
  omega

set_option maxHeartbeats 20000000 in
theorem rmul_c (x y : Nat) (hx : x < 115792089237316195423570985008687907853269984665640564039457584007913129639936) (hy : y < 115792089237316195423570985008687907853269984665640564039457584007913129639936) : Pure Tryz.prog 115 [uv x, uv y] (rmulV x y) := by
  refine pure_ac ?_ (cleans_cons (clean_uv _) (cleans_cons (clean_uv _) cleans_nil)) (clean_rmulV _ _)
  have c0 := rdigit_c
  have hy8 : y < 4294967296 ^ 8 := by simpa using hy
  have hcd := clean_dl
  (refine enter Tryz.func115 Tryz.results115 Tryz.ntmps115 ty_ok (hw := fun F hF => ?_); simp only [List.length_cons, List.length_nil, Nat.reduceAdd, Nat.reduceSub, List.replicate_succ, List.replicate_zero, List.cons_append, List.nil_append]; apply hF; clear hF F)
  refine wk ?_
  refine aw_loopI (fun (i : Nat) => ⟨(.any :: .any :: (.ptr 0 0) :: (.ptr 1 0) :: (.ptr 2 0) :: (.bool false) :: (.ptr 3 0) :: (.int .i64 i) :: .any :: .any :: .any :: .any :: .any :: .any :: .any :: .any :: .any :: .any :: .any :: .any :: .any :: .any :: .any :: .any :: .any :: .any :: .any :: .any :: .any :: .any :: .any :: .any :: .any :: .any :: .any :: .any :: .any :: .any :: .any :: .any :: .any :: .any :: .any :: .any :: .any :: .any :: .any :: .any :: .any :: .any :: .any :: .any :: .any :: .any :: .any :: .any :: .any :: .any :: .any :: .any :: .any :: .any :: .any :: .any :: .any :: .any :: .any :: .any :: .any :: .any :: .any :: .any :: .any :: .any :: .any :: []), [.live (uvc x), .live (uvc y), .live [.int .u64 0, .int .u64 0, .int .u64 0, .int .u64 0], .live (dl 4294967296 16 (x % 4294967296 ^ i * y))]⟩) (fun i => i ≤ 8) (fun i => 8 - i) 0 (by omega) (wkt [0, 1, 2, 3] (hh := by dsimp only [renS, renH, renL, renV, renB, hbAt, List.map_cons, List.map_nil, List.getElem?_cons_zero, List.getElem?_cons_succ]; rw [Nat.pow_zero, Nat.mod_one, Nat.zero_mul, dl_zero]; rfl)) ?_
  intro i hi K hK
  by_cases h1 : i < 8
  · have hM : x % 4294967296 ^ i * y < 4294967296 ^ (i + 8) := by
      rw [Nat.pow_add]; exact Nat.mul_lt_mul_of_lt_of_lt (Nat.mod_lt _ (Nat.pow_pos (by omega))) hy8
    refine wk ?_
    refine aw_loopI (fun (X : Nat × Nat × Nat) => ⟨(.any :: .any :: (.ptr 0 0) :: (.ptr 1 0) :: (.ptr 2 0) :: (.bool false) :: (.ptr 3 0) :: (.int .i64 i) :: (.int .u64 X.2.1) :: (.int .i64 X.1) :: .any :: .any :: .any :: .any :: .any :: .any :: .any :: .any :: .any :: .any :: .any :: .any :: .any :: .any :: .any :: .any :: .any :: .any :: .any :: .any :: .any :: .any :: .any :: .any :: .any :: .any :: .any :: .any :: .any :: .any :: .any :: .any :: .any :: .any :: .any :: .any :: .any :: .any :: .any :: .any :: .any :: .any :: .any :: .any :: .any :: .any :: .any :: .any :: .any :: .any :: .any :: .any :: .any :: .any :: .any :: .any :: .any :: .any :: .any :: .any :: .any :: .any :: .any :: .any :: .any :: []), [.live (uvc x), .live (uvc y), .live [.int .u64 0, .int .u64 0, .int .u64 0, .int .u64 0], .live (dl 4294967296 16 X.2.2)]⟩) (fun X => X.1 ≤ 8 ∧ X.2.1 < 4294967296 ∧ X.2.2 < 4294967296 ^ (i + 8) ∧ X.2.2 + X.2.1 * 4294967296 ^ (i + X.1) = x % 4294967296 ^ i * y + dg 4294967296 x i * (y % 4294967296 ^ X.1) * 4294967296 ^ i) (fun X => 8 - X.1) (0, 0, x % 4294967296 ^ i * y) ⟨by omega, Nat.succ_le_of_lt (Nat.succ_pos _), hM, by simp [Nat.mod_one]⟩ (wkt [0, 1, 2, 3]) ?_
    rintro ⟨k, c, M⟩ ⟨hk, hc, hM2, heq⟩ K2 hK2
    dsimp only at hk hc hM2 heq
    have hlx := dg_lt (B := 4294967296) (by omega) x i
    by_cases h2 : k < 8
    · have hly := dg_lt (B := 4294967296) (by omega) y k
      have hlo := dg_lt (B := 4294967296) (by omega) M (i + k)
      have hno := nth_dl (B := 4294967296) (n := 16) (M := M) (j := i + k) (by omega)
      have hdl := dl_length 4294967296 16 M
      have eidx : ((i : Int) + k).toNat * 1 = i + k := by omega
      obtain ⟨st1, st2, st3⟩ := dmul_step hlx hly hlo hc
      refine wk ?_
      (refine aseq_fx (fun F hF => ?_); simp only [eidx, Nat.zero_add, hno]; apply hF; clear hF F)
      refine wk ?_
      have e32 : bitsOp .and .u64 ((dg 4294967296 M (i + k) : Int) + dg 4294967296 x i * dg 4294967296 y k + c) 4294967295 = (((dg 4294967296 M (i + k) + dg 4294967296 x i * dg 4294967296 y k + c) % 4294967296 : Nat) : Int) := by
        rw [and32 (by omega) (by omega)]; omega
      have heq' : setD 4294967296 M (i + k) ((dg 4294967296 M (i + k) + dg 4294967296 x i * dg 4294967296 y k + c) % 4294967296) + (dg 4294967296 M (i + k) + dg 4294967296 x i * dg 4294967296 y k + c) / 4294967296 * 4294967296 ^ (i + (k + 1)) = x % 4294967296 ^ i * y + dg 4294967296 x i * (y % 4294967296 ^ (k + 1)) * 4294967296 ^ i := by
        rw [← dow_next, ← heq, show i + (k + 1) = (i + k) + 1 from by omega]
        exact darry_eq (setD_eq 4294967296 M (i + k) _) st1
      refine hK2 _ (k + 1, (dg 4294967296 M (i + k) + dg 4294967296 x i * dg 4294967296 y k + c) / 4294967296, setD 4294967296 M (i + k) ((dg 4294967296 M (i + k) + dg 4294967296 x i * dg 4294967296 y k + c) % 4294967296)) ⟨by show k + 1 ≤ 8; omega, st2, setD_lt (by omega) M _ _ _ hM2 (by omega) (Nat.mod_lt _ (by omega)), heq'⟩ (wkt [0, 1, 2, 3] (hh := ?_)) (by show 8 - (k + 1) < 8 - k; omega)
      dsimp only [renS, renH, renB, hbAt, List.getElem?_cons_zero, List.getElem?_cons_succ]
      rw [eidx, Nat.zero_add, e32, set_dl (by omega) (by omega) (Nat.mod_lt _ (by omega)), renL_clean _ (clean_dl _ _ _)]
      rfl
    · obtain rfl : k = 8 := by omega
      have eidx : ((i : Int) + 8).toNat * 1 = i + 8 := by omega
      have hz4 := dg_big (B := 4294967296) (by omega) hM2 (Nat.le_refl (i + 8))
      have hs := setD_eq 4294967296 M (i + 8) c
      rw [hz4, Nat.zero_mul, Nat.add_zero, heq, dow_end 4294967296 x y i 8 hy8] at hs
      have hdl := dl_length 4294967296 16 M
      refine wk ?_
      refine hK _ (i + 1) (by omega) ?_ (by omega)
      rw [← hs]
      refine wkt [0, 1, 2, 3] (hh := ?_)
      dsimp only [renS, renH, renB, hbAt, List.getElem?_cons_zero, List.getElem?_cons_succ]
      rw [eidx, Nat.zero_add, set_dl (by omega) (by omega) hc, renL_clean _ (clean_dl _ _ _)]
      rfl
  · obtain rfl : i = 8 := by omega
    rw [Nat.mod_eq_of_lt (show x < 4294967296 ^ 8 by simpa using hx)]
    have hxy : x * y < 4294967296 ^ 16 := by rw [show (16 : Nat) = 8 + 8 from rfl, Nat.pow_add]; exact Nat.mul_lt_mul_of_lt_of_lt (by simpa using hx) hy8
    unfold rmulV
    generalize x * y = M at hxy ⊢
    have hdl := dl_length 4294967296 16 M
    refine wk ?_
    refine aw_loopI (fun (i : Nat) => ⟨(.any :: .any :: .any :: .any :: (.ptr 2 0) :: (.bool false) :: (.ptr 3 0) :: .any :: .any :: .any :: .any :: (.ptr 4 0) :: (.int .i64 i) :: .any :: .any :: .any :: .any :: .any :: .any :: .any :: .any :: .any :: .any :: .any :: .any :: .any :: .any :: .any :: .any :: .any :: .any :: .any :: .any :: .any :: .any :: .any :: .any :: .any :: .any :: .any :: .any :: .any :: .any :: .any :: .any :: .any :: .any :: .any :: .any :: .any :: .any :: .any :: .any :: .any :: .any :: .any :: .any :: .any :: .any :: .any :: .any :: .any :: .any :: .any :: .any :: .any :: .any :: .any :: .any :: .any :: .any :: .any :: .any :: .any :: .any :: []), [.live (uvc x), .live (uvc y), .live [.int .u64 0, .int .u64 0, .int .u64 0, .int .u64 0], .live (dl 4294967296 16 M), .live (uvc (M % 4294967296 ^ i))]⟩) (fun i => i ≤ 8 ∧ ∀ j, j < i → dg 4294967296 M (8 + j) = 0) (fun i => 8 - i) 0 ⟨by omega, by omega⟩ (wkt [0, 1, 2, 3, 4] (hh := by dsimp only [renS, renH, renL, renV, renB, hbAt, List.map_cons, List.map_nil, List.getElem?_cons_zero, List.getElem?_cons_succ]; rw [Nat.pow_zero, Nat.mod_one, renL_clean _ (clean_dl _ _ _)]; rfl)) ?_
    rintro i ⟨hi, hz⟩ K hK
    by_cases h1 : i < 8
    · have hn1 := nth_dl (B := 4294967296) (n := 16) (M := M) (j := i + 8) (by omega)
      have hn2 := nth_dl (B := 4294967296) (n := 16) (M := M) (j := i) (by omega)
      have e1 : ((i : Int) + 8).toNat * 1 = i + 8 := by omega
      have e2 : ((i : Int)).toNat * 1 = i := by omega
      have e3 : ((i : Int) / 2).toNat * 1 = i / 2 := by omega
      have e4 : (32 * ((i : Int) % 2)).toNat = 32 * (i % 2) := by omega
      have hj := nth_limbs (M % 4294967296 ^ i) (j := i / 2) (by omega)
      by_cases hd : dg 4294967296 M (i + 8) = 0
      · refine wk ?_
        (refine aseq_fx (fun F hF => ?_); simp only [e1, Nat.zero_add, hn1]; apply hF; clear hF F)
        refine wk ?_
        (refine aseq_fx (fun F hF => ?_); simp only [Nat.mul_one, e3, Nat.zero_add, hn2, hj]; apply hF; clear hF F)
        refine wk ?_
        obtain ⟨hu, hc⟩ := lb_or (M % 4294967296 ^ i) (dg 4294967296 M i) (32 * i) 32 (by rw [Nat.pow_mul]; exact Nat.mod_lt _ (Nat.pow_pos (by omega))) (dg_lt (by omega) M i) (by omega)
        simp only [show 32 * i % 64 = 32 * (i % 2) from by omega, show 32 * i / 64 = i / 2 from by omega] at hu hc
        rw [show M % 4294967296 ^ i + dg 4294967296 M i * 2 ^ (32 * i) = M % 4294967296 ^ (i + 1) from by rw [Nat.pow_mul, Nat.mod_pow_succ, Nat.mul_comm]; rfl] at hu
        have hl := lb_lt (M % 4294967296 ^ i) (i / 2)
        have ho := or_shl hl hc
        have hsm := shl_mod' hc
        refine hK _ (i + 1) ⟨by omega, fun j hj => ?_⟩ (wkt [0, 1, 2, 3, 4] (hh := ?_)) (by omega)
        · by_cases e : j = i
          · subst e; rw [Nat.add_comm]; exact hd
          · exact hz j (by omega)
        · dsimp only [renS, renH, renB, hbAt, List.getElem?_cons_zero, List.getElem?_cons_succ]
          rw [e4, e3, Nat.zero_add]
          first | rw [ho] | rw [hsm, ho]
          rw [limbs_set (m' := M % 4294967296 ^ (i + 1)) (by omega) (fun j _ => hu j), renL_clean _ (clean_dl _ _ _)]
          rfl
      · refine wk ?_
        (refine aseq_fx (fun F hF => ?_); simp only [e1, Nat.zero_add, hn1]; apply hF; clear hF F)
        refine wk ?_
        refine fin ?_
        rw [if_neg ?_]
        · rfl
        · intro h
          exact hd (dg_big (B := 4294967296) (n := 8) (by omega) (by simpa using h) (by omega))
    · obtain rfl : i = 8 := by omega
      have hM : M < 4294967296 ^ 8 := small8 hxy hz
      rw [Nat.mod_eq_of_lt hM]
      refine wk ?_
      refine fin ?_
      rw [if_pos (by simpa using hM)]
      rfl
end Go.Abs
