/- Quotients: Div: the walk. -/
import Derived.Test.YtpaehjjkfjgfiaaN13
import Derived.Test.YtpaehjjkfjgfiaaA17
set_option linter.unusedVariables false
set_option linter.unusedSimpArgs false
namespace Go.Abs
open Go Go.Proofs

/-- How many limbs a number needs. -/
def nl (y : Nat) : Nat := lims (lb y 0) (lb y 1) (lb y 2) (lb y 3)
theorem nl_spec {y : Nat} (hy : y < 115792089237316195423570985008687907853269984665640564039457584007913129639936) : nl y ≤ 4 ∧ y < 18446744073709551616 ^ nl y ∧ (nl y = 0 ↔ y = 0) ∧ (0 < nl y → 0 < lb y (nl y - 1)) := by
  have h4 := num4_lb hy
  unfold num4 at h4
  unfold nl lims
  by_cases h3 : lb y 3 = 0
  · by_cases h2 : lb y 2 = 0
    · by_cases h1 : lb y 1 = 0
      · by_cases h0 : lb y 0 = 0
        · simp only [h3, h2, h1, h0, ne_eq, not_true_eq_false, if_false]
          refine ⟨by omega, by simp; omega, by simp; omega, by omega⟩
        · simp only [h3, h2, h1, h0, ne_eq, not_true_eq_false, not_false_eq_true, if_false, if_true]
          have := lb_lt y 0
          refine ⟨by omega, by simp only [Nat.reducePow]; omega, by omega, fun _ => Nat.pos_of_ne_zero h0⟩
      · simp only [h3, h2, h1, ne_eq, not_true_eq_false, not_false_eq_true, if_false, if_true]
        have := lb_lt y 0
        have := lb_lt y 1
        refine ⟨by omega, by simp only [Nat.reducePow]; omega, by omega, fun _ => Nat.pos_of_ne_zero h1⟩
    · simp only [h3, h2, ne_eq, not_true_eq_false, not_false_eq_true, if_false, if_true]
      have := lb_lt y 0
      have := lb_lt y 1
      have := lb_lt y 2
      refine ⟨by omega, by simp only [Nat.reducePow]; omega, by omega, fun _ => Nat.pos_of_ne_zero h2⟩
  · simp only [h3, ne_eq, not_false_eq_true, if_true]
    refine ⟨by omega, by simpa using hy, by omega, fun _ => Nat.pos_of_ne_zero h3⟩

/-- What a quotient answers. -/
def divV (x y : Nat) : V := if y = 0 then .tup [uv 0, uv 0, errV 3] else .tup [uv (x / y), uv (x % y), errV 0]
theorem clean_tri (a b : Nat) (k : Nat) : Clean (.tup [uv a, uv b, errV k]) := clean_tup (cleans_cons (clean_uv _) (cleans_cons (clean_uv _) (cleans_cons (.int _ _) cleans_nil)))
theorem clean_divV (x y : Nat) : Clean (divV x y) := by unfold divV; split <;> exact clean_tri _ _ _
/-- One limb of a quotient by one limb. -/
theorem short_step {x y i : Nat} (hy : 0 < y) : x / 18446744073709551616 ^ i / y = x / 18446744073709551616 ^ (i + 1) / y * 18446744073709551616 + (x / 18446744073709551616 ^ (i + 1) % y * 18446744073709551616 + lb x i) / y ∧ x / 18446744073709551616 ^ i % y = (x / 18446744073709551616 ^ (i + 1) % y * 18446744073709551616 + lb x i) % y := by
  have e : x / 18446744073709551616 ^ i = x / 18446744073709551616 ^ (i + 1) * 18446744073709551616 + lb x i := by
    rw [Nat.pow_succ, ← Nat.div_div_eq_div_mul]; exact (Nat.div_add_mod' _ _).symm
  rw [e]
  generalize x / 18446744073709551616 ^ (i + 1) = A
  generalize lb x i = f
  have h := Nat.div_add_mod A y
  have e2 : A * 18446744073709551616 + f = (A % y * 18446744073709551616 + f) + y * (A / y * 18446744073709551616) := by
    conv => lhs; rw [← h]
    rw [Nat.add_mul, Nat.mul_assoc, Nat.add_comm (y * _), Nat.add_right_comm]
  rw [e2]
  constructor
  · rw [Nat.add_mul_div_left _ _ hy, Nat.add_comm]
  · rw [Nat.add_mul_mod_self_left]
theorem lb_mul_pow {z i j : Nat} (h : j < i) : lb (z * 18446744073709551616 ^ i) j = 0 := by
  unfold lb
  obtain ⟨d, rfl⟩ : ∃ d, i = j + (d + 1) := ⟨i - j - 1, by omega⟩
  rw [show z * 18446744073709551616 ^ (j + (d + 1)) = (z * 18446744073709551616 ^ d * 18446744073709551616) * 18446744073709551616 ^ j from by rw [Nat.pow_add, Nat.pow_succ]; ac_rfl, Nat.mul_div_cancel _ (Nat.pow_pos (by omega)), Nat.mul_mod_left]

/-- One limb of a quotient by many limbs. -/
theorem long_step {x D k : Nat} (hD : 0 < D) : x % (D * 18446744073709551616 ^ (k + 1)) % (D * 18446744073709551616 ^ k) = x % (D * 18446744073709551616 ^ k) ∧ x / (D * 18446744073709551616 ^ (k + 1)) * 18446744073709551616 ^ (k + 1) + x % (D * 18446744073709551616 ^ (k + 1)) / 18446744073709551616 ^ k / D * 18446744073709551616 ^ k = x / (D * 18446744073709551616 ^ k) * 18446744073709551616 ^ k := by
  have hB : 0 < 18446744073709551616 := by omega
  have hM : 0 < D * 18446744073709551616 ^ k := Nat.mul_pos hD (Nat.pow_pos hB)
  have e : D * 18446744073709551616 ^ (k + 1) = D * 18446744073709551616 ^ k * 18446744073709551616 := by rw [Nat.pow_succ, Nat.mul_assoc]
  rw [e, Nat.div_div_eq_div_mul, Nat.mul_comm (18446744073709551616 ^ k) D]
  refine ⟨Nat.mod_mod_of_dvd _ ⟨_, rfl⟩, ?_⟩
  obtain ⟨M, hMe⟩ : ∃ M, D * 18446744073709551616 ^ k = M := ⟨_, rfl⟩
  rw [hMe] at hM ⊢
  have h := Nat.div_add_mod x (M * 18446744073709551616)
  have h2 : x / M = x / (M * 18446744073709551616) * 18446744073709551616 + x % (M * 18446744073709551616) / M := by
    conv => lhs; rw [← h]
    rw [Nat.mul_assoc, Nat.add_comm, Nat.add_mul_div_left _ _ hM, Nat.add_comm, Nat.mul_comm 18446744073709551616]
  rw [h2, Nat.add_mul, Nat.pow_succ, Nat.mul_assoc _ 18446744073709551616, Nat.mul_comm (18446744073709551616 ^ k) 18446744073709551616]
theorem ac_mono {P : Program} {f : FuncId} {args : List V} {h : List HB} {R R' : V → List HB → Prop} (a : AC P f args h R) (k : ∀ v h', R v h' → R' v h') : AC P f args h R' := by
  intro ρ I w vs h1 h2 h3
  exact (a ρ I w vs h1 h2 h3).mono fun x w' ⟨v, h', ρ', I', q, r⟩ => ⟨v, h', ρ', I', k v h' q, r⟩
/-- One limb, and what is left. -/
theorem digit_u (U D k n c1 c2 : Nat) (hn : 2 ≤ n) (hkn : k + n ≤ 4) (hU : U < D * 18446744073709551616 ^ (k + 1)) (hD : D < 18446744073709551616 ^ n) (hdt : 0 < lb D (n - 1)) :
    AC Try.prog 66 [.slc 0 k 1 (n + 1) c1, .slc 1 0 1 n c2] [.live (dl 18446744073709551616 5 U), .live (dl 18446744073709551616 5 D)] fun v h' => v = .int .u64 (U / 18446744073709551616 ^ k / D : Nat) ∧ h' = [.live (dl 18446744073709551616 5 (U % (D * 18446744073709551616 ^ k))), .live (dl 18446744073709551616 5 D)] := by
  have hB : 0 < 18446744073709551616 := by omega
  have hUk : U / 18446744073709551616 ^ k < D * 18446744073709551616 := by
    rw [Nat.div_lt_iff_lt_mul (Nat.pow_pos hB), Nat.mul_assoc, ← Nat.pow_succ']; exact hU
  have hUn : U / 18446744073709551616 ^ k < 18446744073709551616 ^ (n + 1) := Nat.lt_of_lt_of_le hUk (by rw [Nat.pow_succ]; exact Nat.mul_le_mul_right _ (Nat.le_of_lt hD))
  have hw : win 18446744073709551616 k (n + 1) U = U / 18446744073709551616 ^ k := Nat.mod_eq_of_lt hUn
  have hU5 : U < 18446744073709551616 ^ (k + (n + 1)) := by
    rw [Nat.pow_add, Nat.mul_comm]; exact (Nat.div_lt_iff_lt_mul (Nat.pow_pos hB)).1 hUn
  have h5 : U < 18446744073709551616 ^ 5 := Nat.lt_of_lt_of_le hU5 (Nat.pow_le_pow_right hB (by omega))
  have h := digit_c U D k n c1 c2 hn hkn h5 hD hdt (by rw [hw]; exact hUk)
  rw [hw] at h
  refine ac_mono h ?_
  rintro v h' ⟨hv, U', rfl, W, hr, _⟩
  refine ⟨hv, ?_⟩
  have hhi := W.high
  have hlo := W.low
  rw [Nat.div_eq_of_lt hU5] at hhi
  have h2 : U' / 18446744073709551616 ^ k < 18446744073709551616 ^ (n + 1) := by
    rw [Nat.div_lt_iff_lt_mul (Nat.pow_pos hB), Nat.mul_comm, ← Nat.pow_add]
    rcases Nat.lt_or_ge U' (18446744073709551616 ^ (k + (n + 1))) with h | h
    · exact h
    · have := Nat.div_pos h (Nat.pow_pos hB); omega
  unfold win at hr
  rw [Nat.mod_eq_of_lt h2] at hr
  have : U' = U % (D * 18446744073709551616 ^ k) := by
    rw [Nat.mul_comm, Nat.mod_mul, ← hlo, ← hr]
    exact (Nat.mod_add_div _ _).symm
  rw [this]
/-- A call that is handed the last two of six blocks. -/
theorem calld_six {P : Program} {f : FuncId} {args args' : List V} {a b c d : HB} {D U U' : List V} {r : V} (hD : Cleans D) (hU : Cleans U) (hU' : Cleans U') (hr : Clean r) (ha : renL [5, 4] args = args')
    (h : AC P f args' [.live U, .live D] fun v h' => v = r ∧ h' = [.live U', .live D]) : CallD P f args [a, b, c, d, .live D, .live U] r [a, b, c, d, .live D, .live U'] := by
  refine calld_frame [5, 4] (h1 := [.live U', .live D]) (by decide) rfl ?_ hr ?_ ?_ rfl ?_
  · intro q hq
    rcases List.mem_cons.1 hq with rfl | hq
    · exact hU'
    · rcases List.mem_cons.1 hq with rfl | hq
      · exact hD
      · cases hq
  · intro j b h
    match j, h with
    | 0, h => cases h; rfl
    | 1, h => cases h; rfl
  · intro i hi
    match i, hi with
    | 0, _ => rfl
    | 1, _ => rfl
    | 2, _ => rfl
    | 3, _ => rfl
    | 4, hi => exact absurd (by simp) hi
    | 5, hi => exact absurd (by simp) hi
    | i + 6, _ => rfl
  · show AC _ _ (renL _ args) [.live (renL _ U), .live (renL _ D)] _
    rw [renL_clean _ hU, renL_clean _ hD, ha]
    exact h
set_option maxHeartbeats 20000000 in
theorem div_c (x y : Nat) (hx : x < 115792089237316195423570985008687907853269984665640564039457584007913129639936) (hy : y < 115792089237316195423570985008687907853269984665640564039457584007913129639936) : Pure Try.prog 50 [uv x, uv y] (divV x y) := by
  refine pure_ac ?_ (cleans_cons (clean_uv _) (cleans_cons (clean_uv _) cleans_nil)) (clean_divV _ _)
  obtain ⟨n1, n2, n3, n4⟩ := nl_spec hy
  have cl : Pure Try.prog 62 [uv y] (.int .i64 (nl y)) := limbs_c (lb y 0) (lb y 1) (lb y 2) (lb y 3)
  have cc := cmp_c x y hx hy
  generalize nl y = n at n1 n2 n3 n4 cl
  by_cases h0 : n = 0
  · rw [show divV x y = .tup [uv 0, uv 0, errV 3] from if_pos (n3.1 h0)]
    subst h0
    (refine enter Try.func50 Try.results50 Try.ntmps50 ty_ok (hw := fun F hF => ?_); simp only [List.length_cons, List.length_nil, Nat.reduceAdd, Nat.reduceSub, List.replicate_succ, List.replicate_zero, List.cons_append, List.nil_append]; apply hF; clear hF F)
    refine wk ?_
    refine fin ?_
    rfl
  · have hy0 : y ≠ 0 := fun e => h0 (n3.2 e)
    rw [show divV x y = .tup [uv (x / y), uv (x % y), errV 0] from if_neg hy0]
    by_cases hlt : x < y
    · rw [cmpN_lt hlt] at cc
      rw [Nat.div_eq_of_lt hlt, Nat.mod_eq_of_lt hlt]
      (refine enter Try.func50 Try.results50 Try.ntmps50 ty_ok (hw := fun F hF => ?_); simp only [List.length_cons, List.length_nil, Nat.reduceAdd, Nat.reduceSub, List.replicate_succ, List.replicate_zero, List.cons_append, List.nil_append]; apply hF; clear hF F)
      refine wk ?_
      refine fin ?_
      rfl
    · have hcc : ¬ cmpN x y < 0 := by rcases cmpN_cases x y with h | h | h <;> omega
      generalize cmpN x y = g at cc hcc
      by_cases h1 : n = 1
      · subst h1
        have hy1 : y < 18446744073709551616 := by simpa using n2
        have hly : lb y 0 = y := by unfold lb; simp; omega
        (refine enter Try.func50 Try.results50 Try.ntmps50 ty_ok (hw := fun F hF => ?_); simp only [List.length_cons, List.length_nil, Nat.reduceAdd, Nat.reduceSub, List.replicate_succ, List.replicate_zero, List.cons_append, List.nil_append]; apply hF; clear hF F)
        refine wk ?_
        refine aw_loopI (fun (X : Nat × Nat × Int) => ⟨(.any :: .any :: (.ptr 0 0) :: (.ptr 1 0) :: (.ptr 2 0) :: (.ptr 3 0) :: (.int .i64 0) :: (.int .i64 1) :: (.int .u64 X.2.1) :: (.int .i64 X.2.2) :: .any :: .any :: .any :: .any :: .any :: .any :: .any :: .any :: .any :: .any :: .any :: .any :: .any :: .any :: .any :: .any :: .any :: .any :: .any :: .any :: .any :: .any :: .any :: .any :: .any :: .any :: .any :: .any :: .any :: .any :: .any :: .any :: .any :: .any :: .any :: .any :: .any :: .any :: .any :: .any :: .any :: .any :: .any :: .any :: .any :: .any :: .any :: .any :: .any :: .any :: .any :: .any :: .any :: .any :: .any :: .any :: .any :: .any :: .any :: .any :: .any :: .any :: .any :: .any :: .any :: .any :: .any :: .any :: .any :: .any :: .any :: .any :: []), [.live (uvc x), .live (uvc y), .live (dl 18446744073709551616 4 (x / 18446744073709551616 ^ X.1 / y * 18446744073709551616 ^ X.1)), .live [.int .u64 0, .int .u64 0, .int .u64 0, .int .u64 0]]⟩) (fun X => X.1 ≤ 4 ∧ X.2.1 = x / 18446744073709551616 ^ X.1 % y ∧ X.2.2 = (X.1 : Int) - 1) (fun X => X.1) (4, 0, 3) ⟨Nat.le_refl 4, by rw [Nat.div_eq_of_lt (show x < 18446744073709551616 ^ 4 by simpa using hx), Nat.zero_mod], rfl⟩ (wkt [0, 1, 2, 3] (hh := by dsimp only [renS, renH, renL, renV, renB, hbAt, List.map_cons, List.map_nil, List.getElem?_cons_zero, List.getElem?_cons_succ]; rw [Nat.div_eq_of_lt (show x < 18446744073709551616 ^ 4 by simpa using hx), Nat.zero_div, Nat.zero_mul, dl_zero]; rfl)) ?_
        rintro ⟨j, r, t⟩ ⟨hj, hr1, ht1⟩ K hK
        dsimp only at hj hr1 ht1
        subst hr1; subst ht1
        by_cases h1 : 0 < j
        · obtain ⟨i, rfl⟩ : ∃ i, j = i + 1 := ⟨j - 1, by omega⟩
          have hj2 := nth_limbs x (j := i) (by omega)
          obtain ⟨st1, st2⟩ := short_step (x := x) (y := y) (i := i) (Nat.pos_of_ne_zero hy0)
          have hr : x / 18446744073709551616 ^ (i + 1) % y < y := Nat.mod_lt _ (Nat.pos_of_ne_zero hy0)
          have cd := div64_c (x / 18446744073709551616 ^ (i + 1) % y) (lb x i) y hr (lb_lt _ _) hy1
          have hq : (x / 18446744073709551616 ^ (i + 1) % y * 18446744073709551616 + lb x i) / y < 18446744073709551616 := by
            rw [Nat.div_lt_iff_lt_mul (Nat.pos_of_ne_zero hy0)]
            have h1 := lb_lt x i
            have h2 : (x / 18446744073709551616 ^ (i + 1) % y + 1) * 18446744073709551616 ≤ y * 18446744073709551616 := Nat.mul_le_mul_right _ hr
            rw [Nat.mul_comm 18446744073709551616]; omega
          have e0 : (((i + 1 : Nat) : Int) - 1) = (i : Int) := by omega
          rw [e0]
          have hdl := dl_length 18446744073709551616 4 (x / 18446744073709551616 ^ (i + 1) / y * 18446744073709551616 ^ (i + 1))
          refine wk ?_
          (refine aseq_fx (fun F hF => ?_); simp only [Nat.mul_one, Nat.zero_add, hj2, hly]; apply hF; clear hF F)
          refine wk ?_
          rw [← st2]
          refine hK _ (i, _, _) ⟨by show i ≤ 4; omega, rfl, rfl⟩ (wkt [0, 1, 2, 3] (hh := ?_)) (by show i < i + 1; omega)
          dsimp only [renS, renH, renB, hbAt, List.getElem?_cons_zero, List.getElem?_cons_succ]
          simp only [Nat.mul_one, Nat.zero_add]
          rw [set_dl (by omega) (by omega) hq, renL_clean _ (clean_dl _ _ _)]
          have hz := setD_add (B := 18446744073709551616) (M := x / 18446744073709551616 ^ (i + 1) / y * 18446744073709551616 ^ (i + 1)) (j := i) (t := (x / 18446744073709551616 ^ (i + 1) % y * 18446744073709551616 + lb x i) / y)
          rw [dg_lb, lb_mul_pow (by omega), Nat.zero_add] at hz
          rw [hz, st1, Nat.add_mul, Nat.mul_assoc _ 18446744073709551616, ← Nat.pow_succ']
          rfl
        · obtain rfl : j = 0 := by omega
          rw [Nat.pow_zero, Nat.div_one, Nat.mul_one]
          have he : dl 18446744073709551616 4 (x / y) = uvc (x / y) := rfl
          rw [he]
          refine wk ?_
          refine fin ?_
          have hm : x % y < 18446744073709551616 := Nat.lt_trans (Nat.mod_lt _ (Nat.pos_of_ne_zero hy0)) hy1
          have l0 : lb (x % y) 0 = x % y := by unfold lb; rw [Nat.pow_zero, Nat.div_one]; exact Nat.mod_eq_of_lt hm
          have l1 : ∀ j, 0 < j → lb (x % y) j = 0 := fun j hj => by
            unfold lb
            rw [Nat.div_eq_of_lt (Nat.lt_of_lt_of_le hm (by conv => lhs; rw [← Nat.pow_one 18446744073709551616]
                                                            exact Nat.pow_le_pow_right (by omega) hj)), Nat.zero_mod]
          have e : uv (x % y) = .agg [.int .u64 (x % y : Nat), .int .u64 0, .int .u64 0, .int .u64 0] := by
            show V.agg [.int .u64 (lb (x % y) 0), .int .u64 (lb (x % y) 1), .int .u64 (lb (x % y) 2), .int .u64 (lb (x % y) 3)] = _
            rw [l0, l1 1 (by omega), l1 2 (by omega), l1 3 (by omega)]; rfl
          rw [e]; rfl
      · have e1 : ((n : Int) - 1).toNat = n - 1 := by omega
        have hj2 := nth_limbs y (j := n - 1) (by omega)
        have cz := lz_c (lb y (n - 1)) (lb_lt _ _)
        have hbl := blen_le_of_lt (k := 64) (lb_lt y (n - 1))
        have hbl0 := blen_pos (Nat.ne_of_gt (n4 (by omega)))
        obtain ⟨s, hs⟩ : ∃ s, 64 - blen (lb y (n - 1)) = s := ⟨_, rfl⟩
        rw [hs] at cz
        have hs64 : s < 64 := by omega
        have cu := left_c x (s : Int) hx (by omega) (by omega)
        have cd := left_c y (s : Int) hy (by omega) (by omega)
        rw [Int.toNat_natCast] at cu cd
        obtain ⟨D, hDe⟩ : ∃ D, y * 2 ^ s = D := ⟨_, rfl⟩
        obtain ⟨X, hXe⟩ : ∃ X, x * 2 ^ s = X := ⟨_, rfl⟩
        rw [hXe] at cu
        rw [hDe] at cd
        replace cd : Pure Try.prog 65 [uv y, .int .i64 s] (.agg [.int .u64 (dg 18446744073709551616 D 0 : Nat), .int .u64 (dg 18446744073709551616 D 1 : Nat), .int .u64 (dg 18446744073709551616 D 2 : Nat), .int .u64 (dg 18446744073709551616 D 3 : Nat), .int .u64 (dg 18446744073709551616 D 4 : Nat)]) := cd
        replace cu : Pure Try.prog 65 [uv x, .int .i64 s] (.agg [.int .u64 (dg 18446744073709551616 X 0 : Nat), .int .u64 (dg 18446744073709551616 X 1 : Nat), .int .u64 (dg 18446744073709551616 X 2 : Nat), .int .u64 (dg 18446744073709551616 X 3 : Nat), .int .u64 (dg 18446744073709551616 X 4 : Nat)]) := cu
        have hcd := clean_dl
        (refine enter Try.func50 Try.results50 Try.ntmps50 ty_ok (hw := fun F hF => ?_); simp only [List.length_cons, List.length_nil, Nat.reduceAdd, Nat.reduceSub, List.replicate_succ, List.replicate_zero, List.cons_append, List.nil_append]; apply hF; clear hF F)
        refine wk ?_
        (refine aseq_fx (fun F hF => ?_); simp only [e1, Nat.mul_one, Nat.zero_add, hj2]; apply hF; clear hF F)
        refine wk ?_
        refine aw_join2 (fun (_ : Unit) => ⟨(.any :: .any :: (.ptr 0 0) :: (.ptr 1 0) :: (.ptr 2 0) :: (.ptr 3 0) :: (.int .i64 0) :: (.int .i64 n) :: .any :: .any :: (.int .i64 s) :: (.ptr 4 0) :: (.ptr 5 0) :: .any :: .any :: .any :: .any :: .any :: .any :: .any :: .any :: .any :: .any :: .any :: .any :: .any :: .any :: .any :: .any :: .any :: .any :: .any :: .any :: .any :: .any :: .any :: .any :: .any :: .any :: .any :: .any :: .any :: .any :: .any :: .any :: .any :: .any :: .any :: .any :: .any :: .any :: .any :: .any :: .any :: .any :: .any :: .any :: .any :: .any :: .any :: .any :: .any :: .any :: .any :: .any :: .any :: .any :: .any :: .any :: .any :: .any :: .any :: .any :: .any :: .any :: .any :: .any :: .any :: .any :: .any :: .any :: .any :: []), [.live (uvc x), .live (uvc y), .live (dl 18446744073709551616 4 0), .live [.int .u64 0, .int .u64 0, .int .u64 0, .int .u64 0], .live (dl 18446744073709551616 5 D), .live (dl 18446744073709551616 5 X)]⟩) (fun _ => True) (fun K hK => ?_) (fun _ _ => ?_)
        · refine aw_drawO ty_ok pureL 6 7 [0, 1, 2, 3, 4, 5, 6, 7, 8, 9] [0, 1, 2, 3, 4, 5, 7, 6, 8, 9] (by kernel_rfl) rfl rfl ?_ ?_ <;> simp only [pk, List.map_cons, List.map_nil, List.getD_cons_zero, List.getD_cons_succ]
          · refine wk ?_
            exact hK _ () trivial (wkt [0, 1, 2, 3, 4, 5])
          · refine wk ?_
            exact hK _ () trivial (wkt [0, 1, 2, 3, 5, 4])
        · have hB : 0 < 18446744073709551616 := by omega
          have l0 : 0 < lb y (n - 1) := n4 (by omega)
          have l1 := top_limb (D := y) (n := n) (by omega) n2
          have l2 := blen_lt (lb y (n - 1))
          have hy1 : 18446744073709551616 ^ (n - 1) ≤ y := by
            rcases Nat.lt_or_ge y (18446744073709551616 ^ (n - 1)) with h | h
            · rw [Nat.div_eq_of_lt h] at l1; omega
            · exact h
          have hy2 : y < 2 ^ blen (lb y (n - 1)) * 18446744073709551616 ^ (n - 1) := by
            rw [← Nat.div_lt_iff_lt_mul (Nat.pow_pos hB), l1]; exact l2
          have hDn : D < 18446744073709551616 ^ n := by
            rw [← hDe]
            have h3 : (18446744073709551616 : Nat) = 2 ^ blen (lb y (n - 1)) * 2 ^ s := by rw [← Nat.pow_add, show blen (lb y (n - 1)) + s = 64 from by omega]
            have h4 : 18446744073709551616 ^ n = 18446744073709551616 ^ (n - 1) * 18446744073709551616 := by rw [← Nat.pow_succ, show (n - 1).succ = n from by omega]
            rw [h4]
            conv => rhs; rhs; rw [h3]
            rw [← Nat.mul_assoc, Nat.mul_comm (18446744073709551616 ^ (n - 1))]
            exact Nat.mul_lt_mul_of_pos_right hy2 (Nat.two_pow_pos s)
          have hDy : y ≤ D := by rw [← hDe]; exact Nat.le_mul_of_pos_right _ (Nat.two_pow_pos s)
          have hD0 : 0 < D := by omega
          have hDt : 0 < lb D (n - 1) := by
            rw [← top_limb (by omega) hDn]; exact Nat.div_pos (Nat.le_trans hy1 hDy) (Nat.pow_pos hB)
          have hX0 : X < D * 18446744073709551616 ^ (5 - n) := by
            rw [← hXe, ← hDe, Nat.mul_right_comm]
            refine Nat.mul_lt_mul_of_pos_right ?_ (Nat.two_pow_pos s)
            have h5 : 18446744073709551616 ^ (n - 1) * 18446744073709551616 ^ (5 - n) = 18446744073709551616 ^ 4 := by rw [← Nat.pow_add, show n - 1 + (5 - n) = 4 from by omega]
            have h6 : x < 18446744073709551616 ^ 4 := by simpa using hx
            rw [← h5] at h6
            exact Nat.lt_of_lt_of_le h6 (Nat.mul_le_mul_right _ hy1)
          refine wk ?_
          refine aw_loopI (fun (Z : Nat × Int) => ⟨(.any :: .any :: (.ptr 0 0) :: (.ptr 1 0) :: (.ptr 2 0) :: (.ptr 3 0) :: (.int .i64 0) :: (.int .i64 n) :: .any :: .any :: (.int .i64 s) :: (.ptr 4 0) :: (.ptr 5 0) :: (.int .i64 Z.2) :: .any :: .any :: .any :: .any :: .any :: .any :: .any :: .any :: .any :: .any :: .any :: .any :: .any :: .any :: .any :: .any :: .any :: .any :: .any :: .any :: .any :: .any :: .any :: .any :: .any :: .any :: .any :: .any :: .any :: .any :: .any :: .any :: .any :: .any :: .any :: .any :: .any :: .any :: .any :: .any :: .any :: .any :: .any :: .any :: .any :: .any :: .any :: .any :: .any :: .any :: .any :: .any :: .any :: .any :: .any :: .any :: .any :: .any :: .any :: .any :: .any :: .any :: .any :: .any :: .any :: .any :: .any :: .any :: []), [.live (uvc x), .live (uvc y), .live (dl 18446744073709551616 4 (X / (D * 18446744073709551616 ^ Z.1) * 18446744073709551616 ^ Z.1)), .live [.int .u64 0, .int .u64 0, .int .u64 0, .int .u64 0], .live (dl 18446744073709551616 5 D), .live (dl 18446744073709551616 5 (X % (D * 18446744073709551616 ^ Z.1)))]⟩) (fun Z => Z.1 ≤ 5 - n ∧ Z.2 = (Z.1 : Int) - 1) (fun Z => Z.1) (5 - n, 4 - n) ⟨Nat.le_refl _, by show (4 : Int) - n = _; omega⟩ (wkt [0, 1, 2, 3, 4, 5] (hh := by dsimp only [renS, renH, renL, renV, renB, hbAt, List.map_cons, List.map_nil, List.getElem?_cons_zero, List.getElem?_cons_succ]; rw [Nat.div_eq_of_lt hX0, Nat.mod_eq_of_lt hX0, Nat.zero_mul]; rfl)) ?_
          rintro ⟨j, t⟩ ⟨hj, ht1⟩ K hK
          dsimp only at hj ht1
          subst ht1
          by_cases h1 : 0 < j
          · obtain ⟨k, rfl⟩ : ∃ k, j = k + 1 := ⟨j - 1, by omega⟩
            have e0 : (((k + 1 : Nat) : Int) - 1) = (k : Int) := by omega
            rw [e0]
            have hlD := dl_length 18446744073709551616 5 D
            have hlX := dl_length 18446744073709551616 5 (X % (D * 18446744073709551616 ^ (k + 1)))
            have hlQ := dl_length 18446744073709551616 4 (X / (D * 18446744073709551616 ^ (k + 1)) * 18446744073709551616 ^ (k + 1))
            obtain ⟨s1, s2⟩ := long_step (x := X) (D := D) (k := k) hD0
            have hM : 0 < D * 18446744073709551616 ^ (k + 1) := Nat.mul_pos hD0 (Nat.pow_pos hB)
            have hUl : X % (D * 18446744073709551616 ^ (k + 1)) < D * 18446744073709551616 ^ (k + 1) := Nat.mod_lt _ hM
            have hcall : CallD Try.prog 66 [.slc 5 k 1 (n + 1) (5 - k), .slc 4 0 1 n 5]
                [.live (uvc x), .live (uvc y), .live (dl 18446744073709551616 4 (X / (D * 18446744073709551616 ^ (k + 1)) * 18446744073709551616 ^ (k + 1))), .live [.int .u64 0, .int .u64 0, .int .u64 0, .int .u64 0], .live (dl 18446744073709551616 5 D), .live (dl 18446744073709551616 5 (X % (D * 18446744073709551616 ^ (k + 1))))]
                (.int .u64 (X % (D * 18446744073709551616 ^ (k + 1)) / 18446744073709551616 ^ k / D : Nat))
                [.live (uvc x), .live (uvc y), .live (dl 18446744073709551616 4 (X / (D * 18446744073709551616 ^ (k + 1)) * 18446744073709551616 ^ (k + 1))), .live [.int .u64 0, .int .u64 0, .int .u64 0, .int .u64 0], .live (dl 18446744073709551616 5 D), .live (dl 18446744073709551616 5 (X % (D * 18446744073709551616 ^ k)))] := by
              have hd := digit_u (X % (D * 18446744073709551616 ^ (k + 1))) D k n (5 - k) 5 (by omega) (by omega) hUl hDn hDt
              rw [s1] at hd
              exact calld_six (clean_dl _ _ _) (clean_dl _ _ _) (clean_dl _ _ _) (.int _ _) rfl hd
            have hq64 : X % (D * 18446744073709551616 ^ (k + 1)) / 18446744073709551616 ^ k / D < 18446744073709551616 := by
              rw [Nat.div_lt_iff_lt_mul hD0, Nat.div_lt_iff_lt_mul (Nat.pow_pos hB), Nat.mul_comm 18446744073709551616, Nat.mul_assoc, ← Nat.pow_succ']; exact hUl
            have e2 : ((k : Int) + (n : Int) + 1).toNat - k = n + 1 := by omega
            have e3 : lb (X / (D * 18446744073709551616 ^ (k + 1)) * 18446744073709551616 ^ (k + 1)) k = 0 := lb_mul_pow (Nat.lt_succ_self k)
            obtain ⟨Q, hQ⟩ : ∃ Q, X / (D * 18446744073709551616 ^ (k + 1)) * 18446744073709551616 ^ (k + 1) = Q := ⟨_, rfl⟩
            obtain ⟨U, hU⟩ : ∃ U, X % (D * 18446744073709551616 ^ (k + 1)) = U := ⟨_, rfl⟩
            obtain ⟨U2, hU2⟩ : ∃ U2, X % (D * 18446744073709551616 ^ k) = U2 := ⟨_, rfl⟩
            rw [hQ] at s2 hcall hlQ e3 ⊢
            rw [hU] at s2 hcall hlX hq64 ⊢
            rw [hU2] at hcall
            obtain ⟨q2, hq2⟩ : ∃ q2, U / 18446744073709551616 ^ k / D = q2 := ⟨_, rfl⟩
            rw [hq2] at s2 hcall hq64
            have hh := Left.mk (And.intro s2 (And.intro hq64 (And.intro hU2 e3)))
            clear hX0 s1 s2 hM hUl hq64 l0 l1 l2 hy1 hy2 hDn hDy hDt hQ hU hU2 hq2 e3
            refine wk ?_
            (refine aseq_fx (fun F hF => ?_); simp only [Nat.mul_one, Nat.zero_add, Nat.sub_zero, e2]; apply hF; clear hF F)
            refine st_call rfl rfl hcall ?_
            refine wk ?_
            have hk5 : k ≤ 5 - n := by omega
            have hk4 : k < 4 := by omega
            obtain ⟨s2, hq64, hU2, e3⟩ := hh.left
            refine hK _ (k, _) ⟨hk5, rfl⟩ (wkt [0, 1, 2, 3, 4, 5] (hh := ?_)) (Nat.lt_succ_self k)
            dsimp only [renS, renH, renB, hbAt, List.getElem?_cons_zero, List.getElem?_cons_succ]
            simp only [Nat.mul_one, Nat.zero_add]
            rw [set_dl hB hk4 hq64]
            have hz := setD_add (B := 18446744073709551616) (M := Q) (j := k) (t := q2)
            rw [dg_lb, e3, Nat.zero_add, s2] at hz
            rw [hz, hU2, renL_clean _ (clean_dl _ _ _), renL_clean _ (clean_dl _ _ _), renL_clean _ (clean_dl _ _ _)]
            rfl
          · obtain rfl : j = 0 := by omega
            rw [Nat.pow_zero, Nat.mul_one, Nat.mul_one, ← hXe, ← hDe, Nat.mul_div_mul_right _ _ (Nat.two_pow_pos s), Nat.mul_mod_mul_right]
            have hm : x % y < 115792089237316195423570985008687907853269984665640564039457584007913129639936 := Nat.lt_trans (Nat.mod_lt _ (Nat.pos_of_ne_zero hy0)) hy
            have cr := right_c (x % y * 2 ^ s) (s : Int) (by omega) (by omega) (by rw [Int.toNat_natCast]; exact Nat.mul_lt_mul_of_pos_right hm (Nat.two_pow_pos s))
            rw [Int.toNat_natCast, Nat.mul_div_cancel _ (Nat.two_pow_pos s)] at cr
            obtain ⟨M, hM⟩ : ∃ M, x % y * 2 ^ s = M := ⟨_, rfl⟩
            rw [hM] at cr ⊢
            rw [hDe]
            replace cr : Pure Try.prog 67 [.agg [.int .u64 (dg 18446744073709551616 M 0 : Nat), .int .u64 (dg 18446744073709551616 M 1 : Nat), .int .u64 (dg 18446744073709551616 M 2 : Nat), .int .u64 (dg 18446744073709551616 M 3 : Nat), .int .u64 (dg 18446744073709551616 M 4 : Nat)], .int .i64 s] (uv (x % y)) := cr
            have e5 : dl 18446744073709551616 5 M = [.int .u64 (dg 18446744073709551616 M 0 : Nat), .int .u64 (dg 18446744073709551616 M 1 : Nat), .int .u64 (dg 18446744073709551616 M 2 : Nat), .int .u64 (dg 18446744073709551616 M 3 : Nat), .int .u64 (dg 18446744073709551616 M 4 : Nat)] := rfl
            have he : dl 18446744073709551616 4 (x / y) = uvc (x / y) := rfl
            rw [e5, he]
            have hlD := dl_length 18446744073709551616 5 D
            clear hX0 l0 l1 l2 hy1 hy2 hDn hDy hDt hM
            refine wk ?_
            refine fin ?_
            rfl
end Go.Abs
