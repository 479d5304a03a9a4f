/- Transactions: what they cost, whether they may be: the walks. -/
import Derived.Test.YtpaehjjkfjgfiaaR1
import Derived.Test.YtpaehjjkfjgfiaaT2
set_option linter.unusedVariables false
set_option linter.unusedSimpArgs false
namespace Go.Abs
open Go Go.Proofs

/-- What a transaction costs. -/
def costN (t : Tx) : Nat := t.cap * t.gas.toNat + t.bc * (t.bs.length * 131072) + t.val
def costV (t : Tx) : V := if costN t < 115792089237316195423570985008687907853269984665640564039457584007913129639936 then ub (costN t) true else ub 0 false
theorem clean_costV (t : Tx) : Clean (costV t) := by unfold costV; split <;> exact clean_ub _ _
/-- May it be? -/
def txOk (t : Tx) : Bool := decide (0 ≤ t.fr ∧ t.fr ≤ 7 ∧ 0 ≤ t.no ∧ t.no ≤ 1099511627776 ∧ 0 ≤ t.gas ∧ t.gas ≤ 1073741824 ∧ t.tip ≤ t.cap ∧ fitsN t.hs t.bs = 0 ∧ costN t < 115792089237316195423570985008687907853269984665640564039457584007913129639936)
theorem fits_zero {hs : List Nat} {bs : List ByteArray} (h : fitsN hs bs = 0) : 1 ≤ bs.length ∧ bs.length ≤ 4 ∧ hs.length = bs.length := by
  unfold fitsN at h
  split at h
  · cases h
  · omega
theorem mulV_or (x y : Nat) : ∃ a e, mulV x y = ue a e ∧ a < 115792089237316195423570985008687907853269984665640564039457584007913129639936 ∧ ((e = 0 ∧ a = x * y ∧ x * y < 115792089237316195423570985008687907853269984665640564039457584007913129639936) ∨ (e = 8 ∧ a = 0 ∧ ¬ x * y < 115792089237316195423570985008687907853269984665640564039457584007913129639936)) := by
  unfold mulV
  by_cases h : x * y < 115792089237316195423570985008687907853269984665640564039457584007913129639936
  · rw [if_pos h]; exact ⟨_, _, rfl, h, .inl ⟨rfl, rfl, h⟩⟩
  · rw [if_neg h]; exact ⟨_, _, rfl, by omega, .inr ⟨rfl, rfl, h⟩⟩
theorem sumV_or (x y : Nat) : ∃ a e, sumV x y = ue a e ∧ a < 115792089237316195423570985008687907853269984665640564039457584007913129639936 ∧ ((e = 0 ∧ a = x + y ∧ x + y < 115792089237316195423570985008687907853269984665640564039457584007913129639936) ∨ (e = 8 ∧ a = 0 ∧ ¬ x + y < 115792089237316195423570985008687907853269984665640564039457584007913129639936)) := by
  unfold sumV
  by_cases h : x + y < 115792089237316195423570985008687907853269984665640564039457584007913129639936
  · rw [if_pos h]; exact ⟨_, _, rfl, h, .inl ⟨rfl, rfl, h⟩⟩
  · rw [if_neg h]; exact ⟨_, _, rfl, by omega, .inr ⟨rfl, rfl, h⟩⟩
theorem rmulV_or (x y : Nat) : ∃ a b, rmulV x y = ub a b ∧ a < 115792089237316195423570985008687907853269984665640564039457584007913129639936 ∧ ((b = true ∧ a = x * y ∧ x * y < 115792089237316195423570985008687907853269984665640564039457584007913129639936) ∨ (b = false ∧ a = 0 ∧ ¬ x * y < 115792089237316195423570985008687907853269984665640564039457584007913129639936)) := by
  unfold rmulV
  by_cases h : x * y < 115792089237316195423570985008687907853269984665640564039457584007913129639936
  · rw [if_pos h]; exact ⟨_, _, rfl, h, .inl ⟨rfl, rfl, h⟩⟩
  · rw [if_neg h]; exact ⟨_, _, rfl, by omega, .inr ⟨rfl, rfl, h⟩⟩
theorem rsumV_or (x y : Nat) : ∃ a b, rsumV x y = ub a b ∧ a < 115792089237316195423570985008687907853269984665640564039457584007913129639936 ∧ ((b = true ∧ a = x + y ∧ x + y < 115792089237316195423570985008687907853269984665640564039457584007913129639936) ∨ (b = false ∧ a = 0 ∧ ¬ x + y < 115792089237316195423570985008687907853269984665640564039457584007913129639936)) := by
  unfold rsumV
  by_cases h : x + y < 115792089237316195423570985008687907853269984665640564039457584007913129639936
  · rw [if_pos h]; exact ⟨_, _, rfl, h, .inl ⟨rfl, rfl, h⟩⟩
  · rw [if_neg h]; exact ⟨_, _, rfl, by omega, .inr ⟨rfl, rfl, h⟩⟩

theorem znum_c (n m : Int) : Pure Try.prog 8 [.int .i64 n, .int .i64 m] (.bool (decide (0 ≤ n ∧ n ≤ m))) := by
  refine pure_ac ?_ (cleans_cons (.int _ _) (cleans_cons (.int _ _) cleans_nil)) (.bool _)
  by_cases h1 : 0 ≤ n
  · rw [show decide (0 ≤ n ∧ n ≤ m) = decide (n ≤ m) from decide_eq_decide.2 ⟨fun h => h.2, fun h => ⟨h1, h⟩⟩]
    (refine enter Try.func8 Try.results8 Try.ntmps8 ty_ok (hw := fun F hF => ?_); simp only [List.length_cons, List.length_nil, Nat.reduceAdd, Nat.reduceSub, List.replicate_succ, List.replicate_zero, List.cons_append, List.nil_append]; apply hF; clear hF F)
    refine wk ?_
    refine fin ?_
    rfl
  · rw [decide_eq_false (fun h => h1 h.1)]
    (refine enter Try.func8 Try.results8 Try.ntmps8 ty_ok (hw := fun F hF => ?_); simp only [List.length_cons, List.length_nil, Nat.reduceAdd, Nat.reduceSub, List.replicate_succ, List.replicate_zero, List.cons_append, List.nil_append]; apply hF; clear hF F)
    refine wk ?_
    refine fin ?_
    rfl
set_option maxHeartbeats 20000000 in
theorem cost_c (t : Tx) (o : t.ok) (hg : 0 ≤ t.gas ∧ t.gas ≤ 1073741824) (h1 : 1 ≤ t.bs.length) (h4 : t.bs.length ≤ 4) : Pure Try.prog 42 [txV t] (costV t) := by
  refine pure_ac ?_ (cleans_cons (clean_txV t) cleans_nil) (clean_costV t)
  obtain ⟨G, hG⟩ := Int.eq_ofNat_of_zero_le hg.1
  have c0 := gas_c t.bs.length (by omega)
  have c1 := mul_c t.cap G o.cap (by omega)
  have c2 := mul_c t.bc (t.bs.length * 131072) o.bc (by omega)
  obtain ⟨a1, e1, q1, b1, k1⟩ := mulV_or t.cap G
  obtain ⟨a2, e2, q2, b2, k2⟩ := mulV_or t.bc (t.bs.length * 131072)
  obtain ⟨a3, e3, q3, b3, k3⟩ := sumV_or a1 a2
  obtain ⟨a4, e4, q4, b4, k4⟩ := sumV_or a3 t.val
  have c3 := add_c a1 a2 b1 b2
  have c4 := add_c a3 t.val b3 o.val
  rw [q1, uvs (m := G) (by omega), ← hG] at c1
  rw [q2, uvs (m := t.bs.length * 131072) (by omega), show ((t.bs.length * 131072 : Nat) : Int) = (t.bs.length : Int) * 131072 from by omega] at c2
  rw [q3] at c3
  rw [q4] at c4
  have hcost : costN t = t.cap * G + t.bc * (t.bs.length * 131072) + t.val := by unfold costN; rw [hG, Int.toNat_natCast]
  generalize t.cap * G = M1 at *
  generalize t.bc * (t.bs.length * 131072) = M2 at *
  unfold costV
  rw [hcost]
  (refine enter Try.func42 Try.results42 Try.ntmps42 ty_ok (hw := fun F hF => ?_); simp only [List.length_cons, List.length_nil, Nat.reduceAdd, Nat.reduceSub, List.replicate_succ, List.replicate_zero, List.cons_append, List.nil_append]; apply hF; clear hF F)
  refine wk ?_
  refine aw_rounds 5 ?_
  rcases k1 with ⟨rfl, rfl, k1⟩ | ⟨rfl, rfl, k1⟩
  · rcases k2 with ⟨rfl, rfl, k2⟩ | ⟨rfl, rfl, k2⟩
    · rcases k3 with ⟨rfl, rfl, k3⟩ | ⟨rfl, rfl, k3⟩
      · rcases k4 with ⟨rfl, rfl, k4⟩ | ⟨rfl, rfl, k4⟩
        · rw [if_pos k4]
          refine wk ?_
          refine fin ?_
          rfl
        · rw [if_neg k4]
          refine wk ?_
          refine fin ?_
          rfl
      · rw [if_neg (by omega)]
        refine wk ?_
        refine fin ?_
        rfl
    · rw [if_neg (by omega)]
      refine wk ?_
      refine fin ?_
      rfl
  · rw [if_neg (by omega)]
    refine wk ?_
    refine fin ?_
    rfl
set_option maxHeartbeats 20000000 in
theorem rcost_c (t : Tx) (o : t.ok) (hg : 0 ≤ t.gas ∧ t.gas ≤ 1073741824) (h4 : t.bs.length ≤ 4) : Pure Try.prog 26 [txV t] (costV t) := by
  refine pure_ac ?_ (cleans_cons (clean_txV t) cleans_nil) (clean_costV t)
  obtain ⟨G, hG⟩ := Int.eq_ofNat_of_zero_le hg.1
  have d1 := rof_c t.gas (by omega) (by omega)
  have d2 := rof_c (131072 * (t.bs.length : Int)) (by omega) (by omega)
  have c1 := rmul_c t.cap G o.cap (by omega)
  have c2 := rmul_c t.bc (t.bs.length * 131072) o.bc (by omega)
  obtain ⟨a1, e1, q1, b1, k1⟩ := rmulV_or t.cap G
  obtain ⟨a2, e2, q2, b2, k2⟩ := rmulV_or t.bc (t.bs.length * 131072)
  obtain ⟨a3, e3, q3, b3, k3⟩ := rsumV_or a1 a2
  obtain ⟨a4, e4, q4, b4, k4⟩ := rsumV_or a3 t.val
  have c3 := radd_c a1 a2 b1 b2
  have c4 := radd_c a3 t.val b3 o.val
  rw [show t.gas.toNat = G from by omega] at d1
  rw [show (131072 * (t.bs.length : Int)).toNat = t.bs.length * 131072 from by omega] at d2
  rw [q1] at c1
  rw [q2] at c2
  rw [q3] at c3
  rw [q4] at c4
  have hcost : costN t = t.cap * G + t.bc * (t.bs.length * 131072) + t.val := by unfold costN; rw [hG, Int.toNat_natCast]
  generalize t.cap * G = M1 at *
  generalize t.bc * (t.bs.length * 131072) = M2 at *
  unfold costV
  rw [hcost]
  (refine enter Try.func26 Try.results26 Try.ntmps26 ty_ok (hw := fun F hF => ?_); simp only [List.length_cons, List.length_nil, Nat.reduceAdd, Nat.reduceSub, List.replicate_succ, List.replicate_zero, List.cons_append, List.nil_append]; apply hF; clear hF F)
  refine wk ?_
  rcases k1 with ⟨rfl, rfl, k1⟩ | ⟨rfl, rfl, k1⟩
  · rcases k2 with ⟨rfl, rfl, k2⟩ | ⟨rfl, rfl, k2⟩
    · refine wk ?_
      rcases k3 with ⟨rfl, rfl, k3⟩ | ⟨rfl, rfl, k3⟩
      · refine wk ?_
        rcases k4 with ⟨rfl, rfl, k4⟩ | ⟨rfl, rfl, k4⟩
        · rw [if_pos k4]
          refine fin ?_
          rfl
        · rw [if_neg k4]
          refine fin ?_
          rfl
      · rw [if_neg (by omega)]
        refine wk ?_
        refine fin ?_
        rfl
    · rw [if_neg (by omega)]
      refine wk ?_
      refine fin ?_
      rfl
  · rw [if_neg (by omega)]
    refine wk ?_
    refine fin ?_
    rfl
set_option maxHeartbeats 20000000 in
theorem check_c (t : Tx) (o : t.ok) : Pure Try.prog 28 [txV t] (.int .i64 (if txOk t = true then 0 else 1)) := by
  refine pure_ac ?_ (cleans_cons (clean_txV t) cleans_nil) (.int _ _)
  have c1 := cmp_c t.tip t.cap o.tip o.cap
  have c2 := fits_c t.hs t.bs o.hl o.bl o.bs
  have hcm : (t.tip ≤ t.cap ∧ cmpN t.tip t.cap ≤ 0) ∨ (t.cap < t.tip ∧ 0 < cmpN t.tip t.cap) := by
    rcases cmpN_cases t.tip t.cap with ⟨h, h2⟩ | ⟨h, h2⟩ | ⟨h, h2⟩ <;> omega
  by_cases hp : 0 ≤ t.fr ∧ t.fr ≤ 7 ∧ 0 ≤ t.no ∧ t.no ≤ 1099511627776 ∧ 0 ≤ t.gas ∧ t.gas ≤ 1073741824 ∧ t.tip ≤ t.cap ∧ fitsN t.hs t.bs = 0
  · obtain ⟨p1, p2, p3, p4, p5, p6, p7, p8⟩ := hp
    obtain ⟨f1, f2, f3⟩ := fits_zero p8
    have cc := cost_c t o ⟨p5, p6⟩ f1 f2
    have hcm1 : cmpN t.tip t.cap ≤ 0 := by omega
    unfold costV at cc
    by_cases hc : costN t < 115792089237316195423570985008687907853269984665640564039457584007913129639936
    · rw [if_pos hc] at cc
      rw [if_pos (show txOk t = true from decide_eq_true ⟨p1, p2, p3, p4, p5, p6, p7, p8, hc⟩)]
      (refine enter Try.func28 Try.results28 Try.ntmps28 ty_ok (hw := fun F hF => ?_); simp only [List.length_cons, List.length_nil, Nat.reduceAdd, Nat.reduceSub, List.replicate_succ, List.replicate_zero, List.cons_append, List.nil_append]; apply hF; clear hF F)
      refine wk ?_
      refine fin ?_
      rfl
    · rw [if_neg hc] at cc
      rw [if_neg (show ¬ txOk t = true from fun h => hc (of_decide_eq_true h).2.2.2.2.2.2.2.2)]
      (refine enter Try.func28 Try.results28 Try.ntmps28 ty_ok (hw := fun F hF => ?_); simp only [List.length_cons, List.length_nil, Nat.reduceAdd, Nat.reduceSub, List.replicate_succ, List.replicate_zero, List.cons_append, List.nil_append]; apply hF; clear hF F)
      refine wk ?_
      refine fin ?_
      rfl
  · rw [if_neg (show ¬ txOk t = true from fun h => hp (by have := of_decide_eq_true h; exact ⟨this.1, this.2.1, this.2.2.1, this.2.2.2.1, this.2.2.2.2.1, this.2.2.2.2.2.1, this.2.2.2.2.2.2.1, this.2.2.2.2.2.2.2.1⟩))]
    obtain ⟨X, hX⟩ : ∃ X, fitsN t.hs t.bs = X := ⟨_, rfl⟩
    obtain ⟨C, hC⟩ : ∃ C, cmpN t.tip t.cap = C := ⟨_, rfl⟩
    rw [hX] at c2 hp
    rw [hC] at c1 hcm
    have hq : t.fr < 0 ∨ (0 ≤ t.fr ∧ 8 ≤ t.fr) ∨ ((0 ≤ t.fr ∧ t.fr < 8) ∧ t.no < 0) ∨ ((0 ≤ t.fr ∧ t.fr < 8) ∧ 0 ≤ t.no ∧ 1099511627776 < t.no) ∨ ((0 ≤ t.fr ∧ t.fr < 8) ∧ (0 ≤ t.no ∧ t.no ≤ 1099511627776) ∧ t.gas < 0)
        ∨ ((0 ≤ t.fr ∧ t.fr < 8) ∧ (0 ≤ t.no ∧ t.no ≤ 1099511627776) ∧ 0 ≤ t.gas ∧ 1073741824 < t.gas) ∨ ((0 ≤ t.fr ∧ t.fr < 8) ∧ (0 ≤ t.no ∧ t.no ≤ 1099511627776) ∧ (0 ≤ t.gas ∧ t.gas ≤ 1073741824) ∧ 0 < C)
        ∨ ((0 ≤ t.fr ∧ t.fr < 8) ∧ (0 ≤ t.no ∧ t.no ≤ 1099511627776) ∧ (0 ≤ t.gas ∧ t.gas ≤ 1073741824) ∧ C ≤ 0 ∧ X ≠ 0) := by omega
    clear hp hcm
    rcases hq with h | h | h | h | h | h | h | h
    all_goals
      (refine enter Try.func28 Try.results28 Try.ntmps28 ty_ok (hw := fun F hF => ?_); simp only [List.length_cons, List.length_nil, Nat.reduceAdd, Nat.reduceSub, List.replicate_succ, List.replicate_zero, List.cons_append, List.nil_append]; apply hF; clear hF F)
      refine wk ?_
      refine fin ?_
      rfl
set_option maxHeartbeats 20000000 in
theorem rtx_c (t : Tx) (o : t.ok) : Pure Try.prog 9 [txV t] (.bool (txOk t)) := by
  refine pure_ac ?_ (cleans_cons (clean_txV t) cleans_nil) (.bool _)
  have c1 := rcmp_c t.tip t.cap o.tip o.cap
  have c2 := rfits_c t.hs t.bs o.hl o.bl o.bs
  have n1 := znum_c t.fr 7
  have n2 := znum_c t.no 1099511627776
  have n3 := znum_c t.gas 1073741824
  have hcm : (t.tip ≤ t.cap ∧ cmpN t.tip t.cap ≤ 0) ∨ (t.cap < t.tip ∧ 0 < cmpN t.tip t.cap) := by
    rcases cmpN_cases t.tip t.cap with ⟨h, h2⟩ | ⟨h, h2⟩ | ⟨h, h2⟩ <;> omega
  by_cases hp : 0 ≤ t.fr ∧ t.fr ≤ 7 ∧ 0 ≤ t.no ∧ t.no ≤ 1099511627776 ∧ 0 ≤ t.gas ∧ t.gas ≤ 1073741824 ∧ t.tip ≤ t.cap ∧ fitsN t.hs t.bs = 0
  · obtain ⟨p1, p2, p3, p4, p5, p6, p7, p8⟩ := hp
    obtain ⟨f1, f2, f3⟩ := fits_zero p8
    have cc := rcost_c t o ⟨p5, p6⟩ f2
    have hcm1 : cmpN t.tip t.cap ≤ 0 := by omega
    rw [decide_eq_true ⟨p1, p2⟩] at n1
    rw [decide_eq_true ⟨p3, p4⟩] at n2
    rw [decide_eq_true ⟨p5, p6⟩] at n3
    unfold costV at cc
    by_cases hc : costN t < 115792089237316195423570985008687907853269984665640564039457584007913129639936
    · rw [if_pos hc] at cc
      rw [show txOk t = true from decide_eq_true ⟨p1, p2, p3, p4, p5, p6, p7, p8, hc⟩]
      (refine enter Try.func9 Try.results9 Try.ntmps9 ty_ok (hw := fun F hF => ?_); simp only [List.length_cons, List.length_nil, Nat.reduceAdd, Nat.reduceSub, List.replicate_succ, List.replicate_zero, List.cons_append, List.nil_append]; apply hF; clear hF F)
      refine wk ?_
      refine fin ?_
      rfl
    · rw [if_neg hc] at cc
      rw [show txOk t = false from decide_eq_false fun h => hc h.2.2.2.2.2.2.2.2]
      (refine enter Try.func9 Try.results9 Try.ntmps9 ty_ok (hw := fun F hF => ?_); simp only [List.length_cons, List.length_nil, Nat.reduceAdd, Nat.reduceSub, List.replicate_succ, List.replicate_zero, List.cons_append, List.nil_append]; apply hF; clear hF F)
      refine wk ?_
      refine fin ?_
      rfl
  · rw [show txOk t = false from decide_eq_false fun h => hp ⟨h.1, h.2.1, h.2.2.1, h.2.2.2.1, h.2.2.2.2.1, h.2.2.2.2.2.1, h.2.2.2.2.2.2.1, h.2.2.2.2.2.2.2.1⟩]
    obtain ⟨X, hX⟩ : ∃ X, fitsN t.hs t.bs = X := ⟨_, rfl⟩
    obtain ⟨C, hC⟩ : ∃ C, cmpN t.tip t.cap = C := ⟨_, rfl⟩
    rw [hX] at c2 hp
    rw [hC] at c1 hcm
    have hq : ¬ (0 ≤ t.fr ∧ t.fr ≤ 7) ∨ ((0 ≤ t.fr ∧ t.fr ≤ 7) ∧ ¬ (0 ≤ t.no ∧ t.no ≤ 1099511627776)) ∨ ((0 ≤ t.fr ∧ t.fr ≤ 7) ∧ (0 ≤ t.no ∧ t.no ≤ 1099511627776) ∧ ¬ (0 ≤ t.gas ∧ t.gas ≤ 1073741824))
        ∨ ((0 ≤ t.fr ∧ t.fr ≤ 7) ∧ (0 ≤ t.no ∧ t.no ≤ 1099511627776) ∧ (0 ≤ t.gas ∧ t.gas ≤ 1073741824) ∧ 0 < C) ∨ ((0 ≤ t.fr ∧ t.fr ≤ 7) ∧ (0 ≤ t.no ∧ t.no ≤ 1099511627776) ∧ (0 ≤ t.gas ∧ t.gas ≤ 1073741824) ∧ C ≤ 0 ∧ X ≠ 0) := by omega
    clear hp hcm
    rcases hq with h | ⟨h, h2⟩ | ⟨h, h2, h3⟩ | ⟨h, h2, h3, h4⟩ | ⟨h, h2, h3, h4, h5⟩
    · rw [decide_eq_false h] at n1
      (refine enter Try.func9 Try.results9 Try.ntmps9 ty_ok (hw := fun F hF => ?_); simp only [List.length_cons, List.length_nil, Nat.reduceAdd, Nat.reduceSub, List.replicate_succ, List.replicate_zero, List.cons_append, List.nil_append]; apply hF; clear hF F)
      refine wk ?_
      refine fin ?_
      rfl
    · rw [decide_eq_true h] at n1
      rw [decide_eq_false h2] at n2
      (refine enter Try.func9 Try.results9 Try.ntmps9 ty_ok (hw := fun F hF => ?_); simp only [List.length_cons, List.length_nil, Nat.reduceAdd, Nat.reduceSub, List.replicate_succ, List.replicate_zero, List.cons_append, List.nil_append]; apply hF; clear hF F)
      refine wk ?_
      refine fin ?_
      rfl
    · rw [decide_eq_true h] at n1
      rw [decide_eq_true h2] at n2
      rw [decide_eq_false h3] at n3
      (refine enter Try.func9 Try.results9 Try.ntmps9 ty_ok (hw := fun F hF => ?_); simp only [List.length_cons, List.length_nil, Nat.reduceAdd, Nat.reduceSub, List.replicate_succ, List.replicate_zero, List.cons_append, List.nil_append]; apply hF; clear hF F)
      refine wk ?_
      refine fin ?_
      rfl
    · rw [decide_eq_true h] at n1
      rw [decide_eq_true h2] at n2
      rw [decide_eq_true h3] at n3
      (refine enter Try.func9 Try.results9 Try.ntmps9 ty_ok (hw := fun F hF => ?_); simp only [List.length_cons, List.length_nil, Nat.reduceAdd, Nat.reduceSub, List.replicate_succ, List.replicate_zero, List.cons_append, List.nil_append]; apply hF; clear hF F)
      refine wk ?_
      refine fin ?_
      rfl
    · rw [decide_eq_true h] at n1
      rw [decide_eq_true h2] at n2
      rw [decide_eq_true h3] at n3
      (refine enter Try.func9 Try.results9 Try.ntmps9 ty_ok (hw := fun F hF => ?_); simp only [List.length_cons, List.length_nil, Nat.reduceAdd, Nat.reduceSub, List.replicate_succ, List.replicate_zero, List.cons_append, List.nil_append]; apply hF; clear hF F)
      refine wk ?_
      refine fin ?_
      rfl
/-- Transactions that come in. -/
abbrev tsV (l : List Tx) (x : Bool) : V := .vec (flat txc l) l.length x
theorem clean_tsV (l : List Tx) (x : Bool) : Clean (tsV l x) := .vec _ _ _ (cleans_flat l)
theorem all_step {α : Type} {p : α → Bool} {l : List α} {i : Nat} (h : i < l.length) (h1 : (l.take i).all p = true) (h2 : p l[i] = true) : (l.take (i + 1)).all p = true := by
  rw [List.take_succ_eq_append_getElem h, List.all_append, h1, Bool.true_and]; simpa using h2
theorem all_not {α : Type} {p : α → Bool} {l : List α} {i : Nat} (h : i < l.length) (h2 : p l[i] = false) : l.all p = false := by
  cases e : l.all p with
  | false => rfl
  | true =>
    have := List.all_eq_true.1 e _ (List.getElem_mem h)
    rw [h2] at this; cases this
set_option maxHeartbeats 20000000 in
theorem rtxs_c (l : List Tx) (x : Bool) (hl : l.length < 9223372036854775808) (o : ∀ t ∈ l, t.ok) : Pure Try.prog 34 [tsV l x] (.bool (l.all txOk)) := by
  refine pure_ac ?_ (cleans_cons (clean_tsV l x) cleans_nil) (.bool _)
  (refine enter Try.func34 Try.results34 Try.ntmps34 ty_ok (hw := fun F hF => ?_); simp only [List.length_cons, List.length_nil, Nat.reduceAdd, Nat.reduceSub, List.replicate_succ, List.replicate_zero, List.cons_append, List.nil_append]; apply hF; clear hF F)
  refine wk ?_
  refine aw_loopI (fun (i : Nat) => ⟨((tsV l x) :: .any :: .any :: (.int .i64 i) :: .any :: .any :: .any :: .any :: .any :: .any :: .any :: .any :: .any :: .any :: .any :: .any :: []), []⟩) (fun i => i ≤ l.length ∧ (l.take i).all txOk = true) (fun i => l.length - i) 0 ⟨by omega, by simp⟩ (wkt []) ?_
  rintro i ⟨hi, ha⟩ K hK
  by_cases h1 : i < l.length
  · have c1 := rtx_c l[i] (o _ (List.getElem_mem h1))
    cases h2 : txOk l[i] with
    | true =>
      rw [h2] at c1
      refine wk ?_
      exact hK _ (i + 1) ⟨by omega, all_step h1 ha h2⟩ (wkt []) (by omega)
    | false =>
      rw [h2] at c1
      rw [all_not h1 h2]
      refine wk ?_
      refine fin ?_
      rfl
  · obtain rfl : i = l.length := by omega
    rw [List.take_length] at ha
    rw [ha]
    refine wk ?_
    refine fin ?_
    rfl
end Go.Abs
