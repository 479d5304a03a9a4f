/- Transactions: what they cost, whether they may be: the walks. -/
import Derived.Test.YtemlnaipcdajeaaGreatM15
import Derived.Test.YtemlnaipcdajeaaGreatM14
import Derived.Test.YtemlnaipcdajeaaGreatM13
set_option linter.unusedVariables false
set_option linter.unusedSimpArgs false
namespace Go.Abs
open Go Go.Proofs

/-- What a transaction costs. -/
def costN (t : Tx) : Nat := t.cap * t.gas.toNat + t.bc * (t.bs.length * 131072) + t.val
def costV (t : Tx) : V := if costN t < 115792089237316195423570985008687907853269984665640564039457584007913129639936 then ub (costN t) true else ub 0 false
theorem clean_costV (t : Tx) : Clean (costV t) := by unfold costV; split <;> exact clean_ub _ _
/-- May it be? -/
def txOk (t : Tx) : Bool := decide (0 ≤ t.fr ∧ t.fr ≤ 7 ∧ 0 ≤ t.no ∧ t.no ≤ 1099511627776 ∧ 0 ≤ t.gas ∧ t.gas ≤ 1073741824 ∧ t.tip ≤ t.cap ∧ fitsN t.hs t.bs = 0 ∧ costN t < 115792089237316195423570985008687907853269984665640564039457584007913129639936)
theorem fits_zero {hs : List Nat} {bs : List ByteArray} (h : fitsN hs bs = 0) : 1 ≤ bs.length ∧ bs.length ≤ 4 ∧ hs.length = bs.length := by
  unfold fitsN at h
  split at h
  · cases h
  · omega
theorem mulV_or (x y : Nat) : ∃ a e, mulV x y = ue a e ∧ a < 115792089237316195423570985008687907853269984665640564039457584007913129639936 ∧ ((e = 0 ∧ a = x * y ∧ x * y < 115792089237316195423570985008687907853269984665640564039457584007913129639936) ∨ (e = 8 ∧ a = 0 ∧ ¬ x * y < 115792089237316195423570985008687907853269984665640564039457584007913129639936)) := by
  unfold mulV
  by_cases h : x * y < 115792089237316195423570985008687907853269984665640564039457584007913129639936
  · rw [if_pos h]; exact ⟨_, _, rfl, h, .inl ⟨rfl, rfl, h⟩⟩
  · rw [if_neg h]; exact ⟨_, _, rfl, by omega, .inr ⟨rfl, rfl, h⟩⟩
theorem sumV_or (x y : Nat) : ∃ a e, sumV x y = ue a e ∧ a < 115792089237316195423570985008687907853269984665640564039457584007913129639936 ∧ ((e = 0 ∧ a = x + y ∧ x + y < 115792089237316195423570985008687907853269984665640564039457584007913129639936) ∨ (e = 8 ∧ a = 0 ∧ ¬ x + y < 115792089237316195423570985008687907853269984665640564039457584007913129639936)) := by
  unfold sumV
  by_cases h : x + y < 115792089237316195423570985008687907853269984665640564039457584007913129639936
  · rw [if_pos h]; exact ⟨_, _, rfl, h, .inl ⟨rfl, rfl, h⟩⟩
  · rw [if_neg h]; exact ⟨_, _, rfl, by omega, .inr ⟨rfl, rfl, h⟩⟩
theorem rmulV_or (x y : Nat) : ∃ a b, rmulV x y = ub a b ∧ a < 115792089237316195423570985008687907853269984665640564039457584007913129639936 ∧ ((b = true ∧ a = x * y ∧ x * y < 115792089237316195423570985008687907853269984665640564039457584007913129639936) ∨ (b = false ∧ a = 0 ∧ ¬ x * y < 115792089237316195423570985008687907853269984665640564039457584007913129639936)) := by
  unfold rmulV
  by_cases h : x * y < 115792089237316195423570985008687907853269984665640564039457584007913129639936
  · rw [if_pos h]; exact ⟨_, _, rfl, h, .inl ⟨rfl, rfl, h⟩⟩
  · rw [if_neg h]; exact ⟨_, _, rfl, by omega, .inr ⟨rfl, rfl, h⟩⟩
theorem rsumV_or (x y : Nat) : ∃ a b, rsumV x y = ub a b ∧ a < 115792089237316195423570985008687907853269984665640564039457584007913129639936 ∧ ((b = true ∧ a = x + y ∧ x + y < 115792089237316195423570985008687907853269984665640564039457584007913129639936) ∨ (b = false ∧ a = 0 ∧ ¬ x + y < 115792089237316195423570985008687907853269984665640564039457584007913129639936)) := by
  unfold rsumV
  by_cases h : x + y < 115792089237316195423570985008687907853269984665640564039457584007913129639936
  · rw [if_pos h]; exact ⟨_, _, rfl, h, .inl ⟨rfl, rfl, h⟩⟩
  · rw [if_neg h]; exact ⟨_, _, rfl, by omega, .inr ⟨rfl, rfl, h⟩⟩

theorem znum_c (n m : Int) : Pure Tryz.prog 66 [.int .i64 n, .int .i64 m] (.bool (decide (0 ≤ n ∧ n ≤ m))) := by
  refine pure_ac ?_ (cleans_cons (.int _ _) (cleans_cons (.int _ _) cleans_nil)) (.bool _)
  by_cases h1 : 0 ≤ n
  · rw [show decide (0 ≤ n ∧ n ≤ m) = decide (n ≤ m) from decide_eq_decide.2 ⟨fun h => h.2, fun h => ⟨h1, h⟩⟩]
    (refine enter Tryz.func66 Tryz.results66 Tryz.ntmps66 ty_ok (hw := fun F hF => ?_); simp only [List.length_cons, List.length_nil, Nat.reduceAdd, Nat.reduceSub, List.replicate_succ, List.replicate_zero, List.cons_append, List.nil_append]; apply hF; clear hF F)
    refine wk ?_
    refine fin ?_
    rfl
  · rw [decide_eq_false (fun h => h1 h.1)]
    (refine enter Tryz.func66 Tryz.results66 Tryz.ntmps66 ty_ok (hw := fun F hF => ?_); simp only [List.length_cons, List.length_nil, Nat.reduceAdd, Nat.reduceSub, List.replicate_succ, List.replicate_zero, List.cons_append, List.nil_append]; apply hF; clear hF F)
    refine wk ?_
    refine fin ?_
    rfl
set_option maxHeartbeats 20000000 in
theorem cost_c (t : Tx) (o : t.ok) (hg : 0 ≤ t.gas ∧ t.gas ≤ 1073741824) (h1 : 1 ≤ t.bs.length) (h4 : t.bs.length ≤ 4) : Pure Tryz.prog 136 [txV t] (costV t) := by
  refine pure_ac ?_ (cleans_cons (clean_txV t) cleans_nil) (clean_costV t)
  obtain ⟨G, hG⟩ := Int.eq_ofNat_of_zero_le hg.1
  have c0 := gas_c t.bs.length (by omega)
  have c1 := mul_c t.cap G o.cap (by omega)
  have c2 := mul_c t.bc (t.bs.length * 131072) o.bc (by omega)
  obtain ⟨a1, e1, q1, b1, k1⟩ := mulV_or t.cap G
  obtain ⟨a2, e2, q2, b2, k2⟩ := mulV_or t.bc (t.bs.length * 131072)
  obtain ⟨a3, e3, q3, b3, k3⟩ := sumV_or a1 a2
  obtain ⟨a4, e4, q4, b4, k4⟩ := sumV_or a3 t.val
  have c3 := add_c a1 a2 b1 b2
  have c4 := add_c a3 t.val b3 o.val
  rw [q1, uvs (m := G) (by omega), ← hG] at c1
  rw [q2, uvs (m := t.bs.length * 131072) (by omega), show ((t.bs.length * 131072 : Nat) : Int) = (t.bs.length : Int) * 131072 from by omega] at c2
  rw [q3] at c3
  rw [q4] at c4
  have hcost : costN t = t.cap * G + t.bc * (t.bs.length * 131072) + t.val := by unfold costN; rw [hG, Int.toNat_natCast]
  generalize t.cap * G = M1 at *
  generalize t.bc * (t.bs.length * 131072) = M2 at *
  unfold costV
  rw [hcost]
  (refine enter Tryz.func136 Tryz.results136 Tryz.ntmps136 ty_ok (hw := fun F hF => ?_); simp only [List.length_cons, List.length_nil, Nat.reduceAdd, Nat.reduceSub, List.replicate_succ, List.replicate_zero, List.cons_append, List.nil_append]; apply hF; clear hF F)
  refine wk ?_
  refine aw_rounds 5 ?_
  rcases k1 with ⟨rfl, rfl, k1⟩ | ⟨rfl, rfl, k1⟩
  · rcases k2 with ⟨rfl, rfl, k2⟩ | ⟨rfl, rfl, k2⟩
    · rcases k3 with ⟨rfl, rfl, k3⟩ | ⟨rfl, rfl, k3⟩
      · rcases k4 with ⟨rfl, rfl, k4⟩ | ⟨rfl, rfl, k4⟩
        · rw [if_pos k4]
          refine wk ?_
          refine fin ?_
          rfl
        · rw [if_neg k4]
          refine wk ?_
          refine fin ?_
          rfl
      · rw [if_neg (by omega)]
        refine wk ?_
        refine fin ?_
        rfl
    · rw [if_neg (by omega)]
      refine wk ?_
      refine fin ?_
      rfl
  · rw [if_neg (by omega)]
    refine wk ?_
    refine fin ?_
    rfl
set_option maxHeartbeats 20000000 in
theorem rcost_c (t : Tx) (o : t.ok) (hg : 0 ≤ t.gas ∧ t.gas ≤ 1073741824) (h4 : t.bs.length ≤ 4) : Pure Tryz.prog 68 [txV t] (costV t) := by
  refine pure_ac ?_ (cleans_cons (clean_txV t) cleans_nil) (clean_costV t)
  obtain ⟨G, hG⟩ := Int.eq_ofNat_of_zero_le hg.1
  have d1 := rof_c t.gas (by omega) (by omega)
  have d2 := rof_c (131072 * (t.bs.length : Int)) (by omega) (by omega)
  have c1 := rmul_c t.cap G o.cap (by omega)
  have c2 := rmul_c t.bc (t.bs.length * 131072) o.bc (by omega)
  obtain ⟨a1, e1, q1, b1, k1⟩ := rmulV_or t.cap G
  obtain ⟨a2, e2, q2, b2, k2⟩ := rmulV_or t.bc (t.bs.length * 131072)
  obtain ⟨a3, e3, q3, b3, k3⟩ := rsumV_or a1 a2
  obtain ⟨a4, e4, q4, b4, k4⟩ := rsumV_or a3 t.val
  have c3 := radd_c a1 a2 b1 b2
  have c4 := radd_c a3 t.val b3 o.val
  rw [show t.gas.toNat = G from by omega] at d1
  rw [show (131072 * (t.bs.length : Int)).toNat = t.bs.length * 131072 from by omega] at d2
  rw [q1] at c1
  rw [q2] at c2
  rw [q3] at c3
  rw [q4] at c4
  have hcost : costN t = t.cap * G + t.bc * (t.bs.length * 131072) + t.val := by unfold costN; rw [hG, Int.toNat_natCast]
  generalize t.cap * G = M1 at *
  generalize t.bc * (t.bs.length * 131072) = M2 at *
  unfold costV
  rw [hcost]
  (refine enter Tryz.func68 Tryz.results68 Tryz.ntmps68 ty_ok (hw := fun F hF => ?_); simp only [List.length_cons, List.length_nil, Nat.reduceAdd, Nat.reduceSub, List.replicate_succ, List.replicate_zero, List.cons_append, List.nil_append]; apply hF; clear hF F)
  refine wk ?_
  rcases k1 with ⟨rfl, rfl, k1⟩ | ⟨rfl, rfl, k1⟩
  · rcases k2 with ⟨rfl, rfl, k2⟩ | ⟨rfl, rfl, k2⟩
    · refine wk ?_
      rcases k3 with ⟨rfl, rfl, k3⟩ | ⟨rfl, rfl, k3⟩
      · refine wk ?_
        rcases k4 with ⟨rfl, rfl, k4⟩ | ⟨rfl, rfl, k4⟩
        · rw [if_pos k4]
          refine fin ?_
          rfl
        · rw [if_neg k4]
          refine fin ?_
          rfl
      · rw [if_neg (by omega)]
        refine wk ?_
        refine fin ?_
        rfl
    · rw [if_neg (by omega)]
      refine wk ?_
      refine fin ?_
      rfl
  · rw [if_neg (by omega)]
    refine wk ?_
    refine fin ?_
    rfl
set_option maxHeartbeats 20000000 in
theorem check_c (t : Tx) (o : t.ok) : Pure Tryz.prog 96 [txV t] (.int .i64 (if txOk t = true then 0 else 1)) := by
  refine pure_ac ?_ (cleans_cons (clean_txV t) cleans_nil) (.int _ _)
  have c1 := cmp_c t.tip t.cap o.tip o.cap
  have c2 := fits_c t.hs t.bs o.hl o.bl o.bs
  have hcm : (t.tip ≤ t.cap ∧ cmpN t.tip t.cap ≤ 0) ∨ (t.cap < t.tip ∧ 0 < cmpN t.tip t.cap) := by
    rcases cmpN_cases t.tip t.cap with ⟨h, h2⟩ | ⟨h, h2⟩ | ⟨h, h2⟩ <;> omega
  by_cases hp : 0 ≤ t.fr ∧ t.fr ≤ 7 ∧ 0 ≤ t.no ∧ t.no ≤ 1099511627776 ∧ 0 ≤ t.gas ∧ t.gas ≤ 1073741824 ∧ t.tip ≤ t.cap ∧ fitsN t.hs t.bs = 0
  · obtain ⟨p1, p2, p3, p4, p5, p6, p7, p8⟩ := hp
    obtain ⟨f1, f2, f3⟩ := fits_zero p8
    have cc := cost_c t o ⟨p5, p6⟩ f1 f2
    have hcm1 : cmpN t.tip t.cap ≤ 0 := by omega
    unfold costV at cc
    by_cases hc : costN t < 115792089237316195423570985008687907853269984665640564039457584007913129639936
    · rw [if_pos hc] at cc
      rw [if_pos (show txOk t = true from decide_eq_true ⟨p1, p2, p3, p4, p5, p6, p7, p8, hc⟩)]
      (refine enter Tryz.func96 Tryz.results96 Tryz.ntmps96 ty_ok (hw := fun F hF => ?_); simp only [List.length_cons, List.length_nil, Nat.reduceAdd, Nat.reduceSub, List.replicate_succ, List.replicate_zero, List.cons_append, List.nil_append]; apply hF; clear hF F)
      refine wk ?_
      refine fin ?_
      rfl
    · rw [if_neg hc] at cc
      rw [if_neg (show ¬ txOk t = true from fun h => hc (of_decide_eq_true h).2.2.2.2.2.2.2.2)]
      (refine enter Tryz.func96 Tryz.results96 Tryz.ntmps96 ty_ok (hw := fun F hF => ?_); simp only [List.length_cons, List.length_nil, Nat.reduceAdd, Nat.reduceSub, List.replicate_succ, List.replicate_zero, List.cons_append, List.nil_append]; apply hF; clear hF F)
      refine wk ?_
      refine fin ?_
      rfl
  · rw [if_neg (show ¬ txOk t = true from fun h => hp (by have := of_decide_eq_true h; exact ⟨this.1, this.2.1, this.2.2.1, this.2.2.2.1, this.2.2.2.2.1, this.2.2.2.2.2.1, this.2.2.2.2.2.2.1, this.2.2.2.2.2.2.2.1⟩))]
    obtain ⟨X, hX⟩ : ∃ X, fitsN t.hs t.bs = X := ⟨_, rfl⟩
    obtain ⟨C, hC⟩ : ∃ C, cmpN t.tip t.cap = C := ⟨_, rfl⟩
    rw [hX] at c2 hp
    rw [hC] at c1 hcm
    have hq : t.fr < 0 ∨ (0 ≤ t.fr ∧ 8 ≤ t.fr) ∨ ((0 ≤ t.fr ∧ t.fr < 8) ∧ t.no < 0) ∨ ((0 ≤ t.fr ∧ t.fr < 8) ∧ 0 ≤ t.no ∧ 1099511627776 < t.no) ∨ ((0 ≤ t.fr ∧ t.fr < 8) ∧ (0 ≤ t.no ∧ t.no ≤ 1099511627776) ∧ t.gas < 0)
        ∨ ((0 ≤ t.fr ∧ t.fr < 8) ∧ (0 ≤ t.no ∧ t.no ≤ 1099511627776) ∧ 0 ≤ t.gas ∧ 1073741824 < t.gas) ∨ ((0 ≤ t.fr ∧ t.fr < 8) ∧ (0 ≤ t.no ∧ t.no ≤ 1099511627776) ∧ (0 ≤ t.gas ∧ t.gas ≤ 1073741824) ∧ 0 < C)
        ∨ ((0 ≤ t.fr ∧ t.fr < 8) ∧ (0 ≤ t.no ∧ t.no ≤ 1099511627776) ∧ (0 ≤ t.gas ∧ t.gas ≤ 1073741824) ∧ C ≤ 0 ∧ X ≠ 0) := by omega
    clear hp hcm
    rcases hq with h | h | h | h | h | h | h | h
    all_goals
      (refine enter Tryz.func96 Tryz.results96 Tryz.ntmps96 ty_ok (hw := fun F hF => ?_); simp only [List.length_cons, List.length_nil, Nat.reduceAdd, Nat.reduceSub, List.replicate_succ, List.replicate_zero, List.cons_append, List.nil_append]; apply hF; clear hF F)
      refine wk ?_
      refine fin ?_
      rfl
set_option maxHeartbeats 20000000 in
theorem rtx_c (t : Tx) (o : t.ok) : Pure Tryz.prog 31 [txV t] (.bool (txOk t)) := by
  refine pure_ac ?_ (cleans_cons (clean_txV t) cleans_nil) (.bool _)
  have c1 := rcmp_c t.tip t.cap o.tip o.cap
  have c2 := rfits_c t.hs t.bs o.hl o.bl o.bs
  have n1 := znum_c t.fr 7
  have n2 := znum_c t.no 1099511627776
  have n3 := znum_c t.gas 1073741824
  have hcm : (t.tip ≤ t.cap ∧ cmpN t.tip t.cap ≤ 0) ∨ (t.cap < t.tip ∧ 0 < cmpN t.tip t.cap) := by
    rcases cmpN_cases t.tip t.cap with ⟨h, h2⟩ | ⟨h, h2⟩ | ⟨h, h2⟩ <;> omega
  by_cases hp : 0 ≤ t.fr ∧ t.fr ≤ 7 ∧ 0 ≤ t.no ∧ t.no ≤ 1099511627776 ∧ 0 ≤ t.gas ∧ t.gas ≤ 1073741824 ∧ t.tip ≤ t.cap ∧ fitsN t.hs t.bs = 0
  · obtain ⟨p1, p2, p3, p4, p5, p6, p7, p8⟩ := hp
    obtain ⟨f1, f2, f3⟩ := fits_zero p8
    have cc := rcost_c t o ⟨p5, p6⟩ f2
    have hcm1 : cmpN t.tip t.cap ≤ 0 := by omega
    rw [decide_eq_true ⟨p1, p2⟩] at n1
    rw [decide_eq_true ⟨p3, p4⟩] at n2
    rw [decide_eq_true ⟨p5, p6⟩] at n3
    unfold costV at cc
    by_cases hc : costN t < 115792089237316195423570985008687907853269984665640564039457584007913129639936
    · rw [if_pos hc] at cc
      rw [show txOk t = true from decide_eq_true ⟨p1, p2, p3, p4, p5, p6, p7, p8, hc⟩]
      (refine enter Tryz.func31 Tryz.results31 Tryz.ntmps31 ty_ok (hw := fun F hF => ?_); simp only [List.length_cons, List.length_nil, Nat.reduceAdd, Nat.reduceSub, List.replicate_succ, List.replicate_zero, List.cons_append, List.nil_append]; apply hF; clear hF F)
      refine wk ?_
      refine fin ?_
      rfl
    · rw [if_neg hc] at cc
      rw [show txOk t = false from decide_eq_false fun h => hc h.2.2.2.2.2.2.2.2]
      (refine enter Tryz.func31 Tryz.results31 Tryz.ntmps31 ty_ok (hw := fun F hF => ?_); simp only [List.length_cons, List.length_nil, Nat.reduceAdd, Nat.reduceSub, List.replicate_succ, List.replicate_zero, List.cons_append, List.nil_append]; apply hF; clear hF F)
      refine wk ?_
      refine fin ?_
      rfl
  · rw [show txOk t = false from decide_eq_false fun h => hp ⟨h.1, h.2.1, h.2.2.1, h.2.2.2.1, h.2.2.2.2.1, h.2.2.2.2.2.1, h.2.2.2.2.2.2.1, h.2.2.2.2.2.2.2.1⟩]
    obtain ⟨X, hX⟩ : ∃ X, fitsN t.hs t.bs = X := ⟨_, rfl⟩
    obtain ⟨C, hC⟩ : ∃ C, cmpN t.tip t.cap = C := ⟨_, rfl⟩
    rw [hX] at c2 hp
    rw [hC] at c1 hcm
    have hq : ¬ (0 ≤ t.fr ∧ t.fr ≤ 7) ∨ ((0 ≤ t.fr ∧ t.fr ≤ 7) ∧ ¬ (0 ≤ t.no ∧ t.no ≤ 1099511627776)) ∨ ((0 ≤ t.fr ∧ t.fr ≤ 7) ∧ (0 ≤ t.no ∧ t.no ≤ 1099511627776) ∧ ¬ (0 ≤ t.gas ∧ t.gas ≤ 1073741824))
        ∨ ((0 ≤ t.fr ∧ t.fr ≤ 7) ∧ (0 ≤ t.no ∧ t.no ≤ 1099511627776) ∧ (0 ≤ t.gas ∧ t.gas ≤ 1073741824) ∧ 0 < C) ∨ ((0 ≤ t.fr ∧ t.fr ≤ 7) ∧ (0 ≤ t.no ∧ t.no ≤ 1099511627776) ∧ (0 ≤ t.gas ∧ t.gas ≤ 1073741824) ∧ C ≤ 0 ∧ X ≠ 0) := by omega
    clear hp hcm
    rcases hq with h | ⟨h, h2⟩ | ⟨h, h2, h3⟩ | ⟨h, h2, h3, h4⟩ | ⟨h, h2, h3, h4, h5⟩
    · rw [decide_eq_false h] at n1
      (refine enter Tryz.func31 Tryz.results31 Tryz.ntmps31 ty_ok (hw := fun F hF => ?_); simp only [List.length_cons, List.length_nil, Nat.reduceAdd, Nat.reduceSub, List.replicate_succ, List.replicate_zero, List.cons_append, List.nil_append]; apply hF; clear hF F)
      refine wk ?_
      refine fin ?_
      rfl
    · rw [decide_eq_true h] at n1
      rw [decide_eq_false h2] at n2
      (refine enter Tryz.func31 Tryz.results31 Tryz.ntmps31 ty_ok (hw := fun F hF => ?_); simp only [List.length_cons, List.length_nil, Nat.reduceAdd, Nat.reduceSub, List.replicate_succ, List.replicate_zero, List.cons_append, List.nil_append]; apply hF; clear hF F)
      refine wk ?_
      refine fin ?_
      rfl
    · rw [decide_eq_true h] at n1
      rw [decide_eq_true h2] at n2
      rw [decide_eq_false h3] at n3
      (refine enter Tryz.func31 Tryz.results31 Tryz.ntmps31 ty_ok (hw := fun F hF => ?_); simp only [List.length_cons, List.length_nil, Nat.reduceAdd, Nat.reduceSub, List.replicate_succ, List.replicate_zero, List.cons_append, List.nil_append]; apply hF; clear hF F)
      refine wk ?_
      refine fin ?_
      rfl
    · rw [decide_eq_true h] at n1
      rw [decide_eq_true h2] at n2
      rw [decide_eq_true h3] at n3
      (refine enter Tryz.func31 Tryz.results31 Tryz.ntmps31 ty_ok (hw := fun F hF => ?_); simp only [List.length_cons, List.length_nil, Nat.reduceAdd, Nat.reduceSub, List.replicate_succ, List.replicate_zero, List.cons_append, List.nil_append]; apply hF; clear hF F)
      refine wk ?_
      refine fin ?_
      rfl
    · rw [decide_eq_true h] at n1
      rw [decide_eq_true h2] at n2
      rw [decide_eq_true h3] at n3
      (refine enter Tryz.func31 Tryz.results31 Tryz.ntmps31 ty_ok (hw := fun F hF => ?_); simp only [List.length_cons, List.length_nil, Nat.reduceAdd, Nat.reduceSub, List.replicate_succ, List.replicate_zero, List.cons_append, List.nil_append]; apply hF; clear hF F)
      refine wk ?_
      refine fin ?_
      rfl
/-- Transactions that come in. -/
abbrev tsV (l : List Tx) (x : Bool) : V := .vec (flat txc l) l.length x
theorem clean_tsV (l : List Tx) (x : Bool) : Clean (tsV l x) := .vec _ _ _ (cleans_flat l)
theorem all_step {α : Type} {p : α → Bool} {l : List α} {i : Nat} (h : i < l.length) (h1 : (l.take i).all p = true) (h2 : p l[i] = true) : (l.take (i + 1)).all p = true := by
  rw [List.take_succ_eq_append_getElem h, List.all_append, h1, Bool.true_and]; simpa using h2
theorem all_not {α : Type} {p : α → Bool} {l : List α} {i : Nat} (h : i < l.length) (h2 : p l[i] = false) : l.all p = false := by
  cases e : l.all p with
  | false => rfl
  | true =>
    have := List.all_eq_true.1 e _ (List.getElem_mem h)
    rw [h2] at this; cases this
set_option maxHeartbeats 20000000 in
theorem rtxs_c (l : List Tx) (x : Bool) (hl : l.length < 9223372036854775808) (o : ∀ t ∈ l, t.ok) : Pure Tryz.prog 83 [tsV l x] (.bool (l.all txOk)) := by
  refine pure_ac ?_ (cleans_cons (clean_tsV l x) cleans_nil) (.bool _)
  (refine enter Tryz.func83 Tryz.results83 Tryz.ntmps83 ty_ok (hw := fun F hF => ?_); simp only [List.length_cons, List.length_nil, Nat.reduceAdd, Nat.reduceSub, List.replicate_succ, List.replicate_zero, List.cons_append, List.nil_append]; apply hF; clear hF F)
  refine wk ?_
  refine aw_loopI (fun (i : Nat) => ⟨((tsV l x) :: .any :: .any :: (.int .i64 i) :: .any :: .any :: .any :: .any :: .any :: .any :: .any :: .any :: .any :: .any :: .any :: .any :: []), []⟩) (fun i => i ≤ l.length ∧ (l.take i).all txOk = true) (fun i => l.length - i) 0 ⟨by omega, by simp⟩ (wkt []) ?_
  rintro i ⟨hi, ha⟩ K hK
  by_cases h1 : i < l.length
  · have c1 := rtx_c l[i] (o _ (List.getElem_mem h1))
    cases h2 : txOk l[i] with
    | true =>
      rw [h2] at c1
      refine wk ?_
      exact hK _ (i + 1) ⟨by omega, all_step h1 ha h2⟩ (wkt []) (by omega)
    | false =>
      rw [h2] at c1
      rw [all_not h1 h2]
      refine wk ?_
      refine fin ?_
      rfl
  · obtain rfl : i = l.length := by omega
    rw [List.take_length] at ha
    rw [ha]
    refine wk ?_
    refine fin ?_
    rfl
end Go.Abs
/- Books: what may be: plain laws. -/
namespace Go.Abs
open Go Go.Proofs

/-- An account; one that is held; a book. -/
structure Acct where
  no : Int
  bal : Nat
  deriving Inhabited
structure Held where
  t : Tx
  blk : Int
  deriving Inhabited
structure Book where
  room : Int
  n : Int
  b : Nat
  e : Int
  ac : List Acct
  tx : List Tx
  li : List Held
  deriving Inhabited

/-- In order: by account, then nonce. -/
def ltT (p t : Tx) : Prop := p.fr < t.fr ∨ (p.fr = t.fr ∧ p.no < t.no)
def SortedT : List Tx → Prop
  | [] => True
  | [_] => True
  | a :: b :: l => ltT a b ∧ SortedT (b :: l)
def ofA (a : Int) (l : List Tx) : List Tx := l.filter fun t => t.fr == a
def spentN (l : List Tx) : Nat := (l.map costN).sum
/-- Nonces one behind the other, of one account. -/
def NextT (f : Int) : List Tx → Prop
  | [] => True
  | [a] => a.fr = f
  | a :: b :: l => a.fr = f ∧ b.no = a.no + 1 ∧ NextT f (b :: l)
def ChainP (l : List Tx) : Prop := l.length ≤ 6 ∧ (∀ t ∈ l, txOk t = true) ∧ NextT (l.headD default).fr l ∧ spentN l < 115792089237316195423570985008687907853269984665640564039457584007913129639936
def AcctP (ac : List Acct) (a : Int) (l : List Tx) : Prop := ChainP l ∧ (l ≠ [] → (l.headD default).no = (ac.getD a.toNat default).no) ∧ spentN l ≤ (ac.getD a.toNat default).bal
/-- How many of the first are of this account. -/
def runN (f : Int) : List Tx → Nat
  | [] => 0
  | t :: l => if t.fr = f then runN f l + 1 else 0
theorem runN_le (f : Int) : ∀ l, runN f l ≤ l.length
  | [] => Nat.le_refl _
  | t :: l => by
    have := runN_le f l
    unfold runN; split <;> simp only [List.length_cons] <;> omega
theorem runN_take (f : Int) : ∀ (l : List Tx), ∀ (t : Tx), t ∈ l.take (runN f l) → t.fr = f
  | [], t, h => by simp [runN] at h
  | a :: l, t, h => by
    unfold runN at h
    split at h
    · rename_i e
      rw [List.take_succ_cons] at h
      rcases List.mem_cons.1 h with rfl | h
      · exact e
      · exact runN_take f l t h
    · simp at h
theorem runN_drop (f : Int) : ∀ (l : List Tx) (t : Tx) (r : List Tx), l.drop (runN f l) = t :: r → t.fr ≠ f
  | [], t, r, h => by simp [runN] at h
  | a :: l, t, r, h => by
    unfold runN at h
    split at h
    · rw [List.drop_succ_cons] at h; exact runN_drop f l t r h
    · rename_i e
      simp at h; rw [← h.1]; exact e
/-- The chains, one behind the other. -/
def Groups (ac : List Acct) : Nat → Int → List Tx → Prop
  | _, _, [] => True
  | 0, _, _ :: _ => False
  | k + 1, last, t :: l => (last < t.fr ∧ t.fr < 8) ∧ AcctP ac t.fr ((t :: l).take (runN t.fr (t :: l))) ∧ Groups ac k t.fr ((t :: l).drop (runN t.fr (t :: l)))

theorem sorted_append {g r : List Tx} {f : Int} (hg : ∀ t ∈ g, t.fr = f) (hr : ∀ t ∈ r, f < t.fr) (h1 : SortedT g) (h2 : SortedT r) : SortedT (g ++ r) := by
  induction g with
  | nil => exact h2
  | cons a g ih =>
    cases g with
    | nil =>
      cases r with
      | nil => exact True.intro
      | cons b r => exact ⟨.inl (by rw [hg a (by simp)]; exact hr b (by simp)), h2⟩
    | cons b g => exact ⟨h1.1, ih (fun t ht => hg t (by simp [List.mem_cons.1 ht])) h1.2⟩
theorem sorted_tail {a : Tx} {l : List Tx} (h : SortedT (a :: l)) : SortedT l := by
  cases l with
  | nil => exact True.intro
  | cons b l => exact h.2
theorem sorted_fr {a : Tx} {l : List Tx} (h : SortedT (a :: l)) : ∀ t ∈ l, a.fr ≤ t.fr := by
  induction l generalizing a with
  | nil => simp
  | cons b l ih =>
    have hab : a.fr ≤ b.fr := by rcases h.1 with h | h <;> omega
    intro t ht
    rcases List.mem_cons.1 ht with rfl | ht
    · exact hab
    · have := ih h.2 t ht; omega
theorem sorted_drop {l : List Tx} (h : SortedT l) : ∀ n, SortedT (l.drop n)
  | 0 => h
  | n + 1 => by
    cases l with
    | nil => simpa using h
    | cons a l => rw [List.drop_succ_cons]; exact sorted_drop (sorted_tail h) n
theorem next_sorted {f : Int} : ∀ {l : List Tx}, NextT f l → SortedT l
  | [], _ => True.intro
  | [a], _ => True.intro
  | a :: b :: l, h => by
    have hb : b.fr = f := by
      have := h.2.2
      cases l with
      | nil => exact this
      | cons c l => exact this.1
    exact ⟨.inr ⟨by rw [h.1, hb], by have := h.2.1; omega⟩, next_sorted h.2.2⟩
theorem ofA_all {a : Int} {l : List Tx} (h : ∀ t ∈ l, t.fr = a) : ofA a l = l := by
  unfold ofA; exact List.filter_eq_self.2 fun t ht => beq_iff_eq.2 (h t ht)
theorem ofA_none {a : Int} {l : List Tx} (h : ∀ t ∈ l, t.fr ≠ a) : ofA a l = [] := by
  unfold ofA; exact List.filter_eq_nil_iff.2 fun t ht => by simpa using h t ht
theorem ofA_append (a : Int) (l r : List Tx) : ofA a (l ++ r) = ofA a l ++ ofA a r := List.filter_append ..
theorem acctP_nil (ac : List Acct) (a : Int) : AcctP ac a [] := ⟨⟨Nat.zero_le _, by simp, True.intro, by show 0 < _; omega⟩, fun h => absurd rfl h, Nat.zero_le _⟩

/-- **The chains of a row are those of its accounts.** -/
theorem groups_iff (ac : List Acct) : ∀ (k : Nat) (last : Int) (l : List Tx), l.length ≤ k → -1 ≤ last →
    (Groups ac k last l ↔ SortedT l ∧ (∀ t ∈ l, last < t.fr) ∧ (∀ t ∈ l, txOk t = true) ∧ ∀ a, 0 ≤ a → a < 8 → AcctP ac a (ofA a l))
  | k, last, [], hk, hl => by
    refine ⟨fun _ => ⟨True.intro, by simp, by simp, fun a _ _ => by exact acctP_nil ac a⟩, fun _ => ?_⟩
    cases k <;> exact True.intro
  | 0, last, t :: l, hk, hl => by simp at hk
  | k + 1, last, t :: l, hk, hl => by
    obtain ⟨n, hn⟩ : ∃ n, runN t.fr (t :: l) = n := ⟨_, rfl⟩
    have hn0 : 0 < n := by rw [← hn]; unfold runN; rw [if_pos rfl]; omega
    obtain ⟨g, hg⟩ : ∃ g, (t :: l).take n = g := ⟨_, rfl⟩
    obtain ⟨r, hr⟩ : ∃ r, (t :: l).drop n = r := ⟨_, rfl⟩
    have hgr : t :: l = g ++ r := by rw [← hg, ← hr, List.take_append_drop]
    have hgf : ∀ u ∈ g, u.fr = t.fr := by rw [← hg, ← hn]; exact runN_take t.fr (t :: l)
    have hrf : ∀ u v, r = u :: v → u.fr ≠ t.fr := fun u v e => runN_drop t.fr (t :: l) u v (by rw [hn, hr, e])
    have hrk : r.length ≤ k := by
      have : r.length = (t :: l).length - n := by rw [← hr, List.length_drop]
      simp only [List.length_cons] at this hk
      omega
    have ht : t ∈ g := by
      rw [← hg]
      obtain ⟨m, rfl⟩ : ∃ m, n = m + 1 := ⟨n - 1, by omega⟩
      simp
    unfold Groups
    rw [hn, hg, hr]
    constructor
    · rintro ⟨⟨h1, h2⟩, h3, h4⟩
      obtain ⟨s, q1, q2, q3⟩ := (groups_iff ac k t.fr r hrk (by omega)).1 h4
      have hgd : (g.headD default).fr = t.fr := by
        cases g with
        | nil => cases ht
        | cons a g => exact hgf a (by simp)
      have hgs : SortedT g := next_sorted h3.1.2.2.1
      rw [hgr]
      refine ⟨sorted_append hgf q1 hgs s, ?_, ?_, ?_⟩
      · intro u hu
        rcases List.mem_append.1 hu with hu | hu
        · rw [hgf u hu]; exact h1
        · have := q1 u hu; omega
      · intro u hu
        rcases List.mem_append.1 hu with hu | hu
        · exact h3.1.2.1 u hu
        · exact q2 u hu
      · intro a ha0 ha8
        rw [ofA_append]
        by_cases e : a = t.fr
        · subst e
          rw [ofA_all hgf, ofA_none (fun u hu => by have := q1 u hu; omega), List.append_nil]
          exact h3
        · rw [ofA_none (fun u hu => by rw [hgf u hu]; exact fun e' => e e'.symm), List.nil_append]
          exact q3 a ha0 ha8
    · rintro ⟨s, q1, q2, q3⟩
      have hs2 := sorted_fr s
      have hr1 : ∀ u ∈ r, t.fr < u.fr := by
        intro u hu
        have hsr : SortedT r := by rw [← hr]; exact sorted_drop s n
        have hge : ∀ u ∈ r, t.fr ≤ u.fr := by
          intro u hu
          have : u ∈ t :: l := by rw [hgr]; exact List.mem_append_right _ hu
          rcases List.mem_cons.1 this with rfl | h
          · omega
          · exact hs2 u h
        cases r with
        | nil => cases hu
        | cons v r =>
          have h1 := hrf v r rfl
          have h2 := hge v (by simp)
          have h3 : v.fr ≤ u.fr := by
            rcases List.mem_cons.1 hu with rfl | h
            · omega
            · exact sorted_fr hsr u h
          omega
      have hto := q2 t (by simp)
      have hfr : 0 ≤ t.fr ∧ t.fr ≤ 7 := by
        have := of_decide_eq_true hto
        exact ⟨this.1, this.2.1⟩
      have hofg : ofA t.fr (t :: l) = g := by
        rw [hgr, ofA_append, ofA_all hgf, ofA_none (fun u hu => by have := hr1 u hu; omega), List.append_nil]
      refine ⟨⟨q1 t (by simp), by omega⟩, ?_, ?_⟩
      · have := q3 t.fr hfr.1 (by omega)
        rw [hofg] at this; exact this
      · refine (groups_iff ac k t.fr r hrk (by omega)).2 ⟨by rw [← hr]; exact sorted_drop s n, hr1, fun u hu => q2 u (by rw [hgr]; exact List.mem_append_right _ hu), fun a ha0 ha8 => ?_⟩
        by_cases e : a = t.fr
        · subst e
          rw [ofA_none (fun u hu => by have := hr1 u hu; omega)]
          exact acctP_nil _ _
        · have := q3 a ha0 ha8
          rw [hgr, ofA_append, ofA_none (fun u hu => by rw [hgf u hu]; exact fun e' => e e'.symm), List.nil_append] at this
          exact this

/-! ### Marks that differ -/
/-- One of each run. -/
def compactN : List Nat → List Nat
  | [] => []
  | [a] => [a]
  | a :: b :: l => if a = b then compactN (b :: l) else a :: compactN (b :: l)
theorem compactN_le : ∀ l, (compactN l).length ≤ l.length
  | [] => Nat.le_refl _
  | [a] => Nat.le_refl _
  | a :: b :: l => by
    have := compactN_le (b :: l)
    unfold compactN
    split <;> simp only [List.length_cons] at * <;> omega
theorem compactN_len : ∀ {l : List Nat}, l.Pairwise (· ≤ ·) → ((compactN l).length = l.length ↔ l.Nodup)
  | [], _ => by simp [compactN]
  | [a], _ => by simp [compactN]
  | a :: b :: l, h => by
    have hp := List.pairwise_cons.1 h
    have ih := compactN_len hp.2
    unfold compactN
    by_cases e : a = b
    · rw [if_pos e]
      have := compactN_le (b :: l)
      constructor
      · intro h2; simp only [List.length_cons] at h2 this; omega
      · intro h2; subst e; simp at h2
    · rw [if_neg e]
      have hab := hp.1 b (by simp)
      have hbl := List.pairwise_cons.1 hp.2
      simp only [List.length_cons, Nat.add_right_cancel_iff] at ih ⊢
      rw [List.nodup_cons, ← ih]
      constructor
      · intro h2
        refine ⟨fun hm => ?_, h2⟩
        rcases List.mem_cons.1 hm with h3 | h3
        · exact e h3
        · have := hbl.1 a h3; omega
      · exact fun h2 => h2.2
theorem compact_sorted {l s : List Nat} (hp : s.Perm l) (hs : s.Pairwise (· ≤ ·)) : (compactN s).length = l.length ↔ l.Nodup := by
  rw [← hp.length_eq, compactN_len hs]; exact hp.nodup_iff
end Go.Abs
/- Items as bytes; a transaction's bytes, its mark, its room: what they are. -/
namespace Go.Abs
open Go Go.Proofs

theorem strCells_append (a b : ByteArray) : strCells (a ++ b) = strCells a ++ strCells b := by simp [strCells, ByteArray.data_append]
theorem strCells_size (s : ByteArray) : (strCells s).length = s.size := by simp [strCells]
theorem clean_strCells (s : ByteArray) : Cleans (strCells s) := fun v hv => by
  obtain ⟨b, _, rfl⟩ := List.mem_map.1 hv
  exact .int _ _
theorem one_strCells (s : ByteArray) : ∀ v ∈ strCells s, v.one = true := fun v hv => by
  obtain ⟨b, _, rfl⟩ := List.mem_map.1 hv
  rfl
/-- One byte. -/
def oneB (n : Nat) : ByteArray := ⟨#[UInt8.ofNat n]⟩
theorem strCells_one {n : Nat} (h : n < 256) : strCells (oneB n) = [.int .u8 (n : Nat)] := by
  simp only [strCells, oneB, List.map_cons, List.map_nil]
  congr 2
  rw [UInt8.toNat_ofNat']
  omega
theorem oneB_size (n : Nat) : (oneB n).size = 1 := rfl
theorem bytesOf_list : ∀ l : List UInt8, bytesOf (l.map fun b => .int .u8 (b.toNat : Int)) = some l
  | [] => rfl
  | b :: l => by
    rw [List.map_cons, bytesOf, bytesOf_list l, Option.map_some, Int.toNat_natCast]
    congr 2
    exact UInt8.ofNat_toNat
theorem bytesOf_str (s : ByteArray) : bytesOf (strCells s) = some s.data.toList := bytesOf_list _
/-- What stands ahead of so many bytes. -/
def headB (base n : Nat) : ByteArray := if n ≤ 55 then oneB (base + n) else oneB (base + 55 + nb n) ++ textS n
def aheadN (n : Nat) : Nat := if n ≤ 55 then 1 else 1 + nb n
def aloneB (s : ByteArray) : Bool := decide (s.size = 1 ∧ bt s 0 < 128)
/-- A text's bytes; a list's. -/
def rawT (s : ByteArray) : ByteArray := if aloneB s = true then s else headB 128 s.size ++ s
def catB : List ByteArray → ByteArray
  | [] => ByteArray.empty
  | a :: l => a ++ catB l
def rawL (l : List ByteArray) : ByteArray := headB 192 (catB l).size ++ catB l
/-- A mark's bytes. -/
def markT (m : Nat) : ByteArray := ⟨(bes m 8).toArray⟩
def hashesB (t : Tx) : ByteArray := rawL (t.hs.map fun h => rawT (markT h))
def blobsB (t : Tx) : ByteArray := rawL (t.bs.map rawT)
def partsB (t : Tx) : List ByteArray := [rawT (textS t.fr.toNat), rawT (textS t.no.toNat), rawT (textS t.tip), rawT (textS t.cap), rawT (textS t.bc), rawT (textS t.val), rawT (textS t.gas.toNat), hashesB t, blobsB t]
/-- A transaction's bytes; its mark; its slot. -/
def bytesB (t : Tx) : ByteArray := rawL (partsB t)
def idN (t : Tx) : Nat := markN (bytesB t)
def slotN (n : Nat) : Nat := if n ≤ 112 then 128 else if n ≤ 240 then 256 else if n ≤ 496 then 512 else 1024
def roomN (t : Tx) : Nat := slotN (bytesB t).size

theorem catB_append : ∀ a b : List ByteArray, catB (a ++ b) = catB a ++ catB b
  | [], b => by rw [List.nil_append]; show catB b = ByteArray.empty ++ catB b; rw [ByteArray.empty_append]
  | x :: a, b => by rw [List.cons_append, catB, catB, catB_append a b, ByteArray.append_assoc]
theorem catB_one (a : ByteArray) : catB [a] = a := by show a ++ ByteArray.empty = a; rw [ByteArray.append_empty]
theorem catB_take {l : List ByteArray} {i : Nat} (h : i < l.length) : catB (l.take (i + 1)) = catB (l.take i) ++ l[i] := by
  rw [List.take_succ_eq_append_getElem h, catB_append, catB_one]
theorem catB_size_le : ∀ {l : List ByteArray} {m : Nat}, (∀ a ∈ l, a.size ≤ m) → (catB l).size ≤ l.length * m
  | [], m, _ => by show ByteArray.empty.size ≤ _; simp
  | a :: l, m, h => by
    have h1 := h a (by simp)
    have h2 := catB_size_le (l := l) (m := m) fun b hb => h b (by simp [hb])
    rw [catB, ByteArray.size_append, List.length_cons, Nat.succ_mul]; omega
theorem textS_sz (n : Nat) : (textS n).size = nb n := by
  have : ∀ k, (bes n k).length = k := fun k => by induction k with
    | zero => rfl
    | succ k ih => simp [bes, ih]
  show (bes n (nb n)).toArray.size = _
  simp [this]
theorem nb_small {n k : Nat} (h : n < 256 ^ k) : nb n ≤ k := by
  by_cases h0 : n = 0
  · subst h0; rw [nb_zero]; exact Nat.zero_le _
  · obtain ⟨h1, h2⟩ := nb_low h0
    have := (Nat.pow_lt_pow_iff_right (by omega : 1 < 256)).1 (Nat.lt_of_le_of_lt h2 h)
    omega
theorem headB_size (b n : Nat) : (headB b n).size = aheadN n := by
  unfold headB aheadN
  split
  · rfl
  · rw [ByteArray.size_append, oneB_size, textS_sz]
theorem rawT_size_le {s : ByteArray} (h : s.size ≤ 64) : (rawT s).size ≤ s.size + 2 := by
  unfold rawT
  split
  · omega
  · rw [ByteArray.size_append, headB_size]
    unfold aheadN
    split
    · omega
    · have := nb_small (n := s.size) (k := 1) (by omega); omega
theorem rawT_size_le1 {s : ByteArray} (h : s.size ≤ 55) : (rawT s).size ≤ s.size + 1 := by
  unfold rawT
  split
  · omega
  · rw [ByteArray.size_append, headB_size]
    unfold aheadN
    rw [if_pos h]; omega
theorem markT_size (m : Nat) : (markT m).size = 8 := rfl
theorem rawL_size {l : List ByteArray} : (rawL l).size = aheadN (catB l).size + (catB l).size := by unfold rawL; rw [ByteArray.size_append, headB_size]
theorem aheadN_le {n : Nat} (h : n < 65536) : aheadN n ≤ 3 := by
  unfold aheadN
  split
  · omega
  · have := nb_small (n := n) (k := 2) (by omega); omega
/-- How long the parts are. -/
theorem parts_le {t : Tx} (o : t.ok) (h : txOk t = true) : (catB (t.hs.map fun h => rawT (markT h))).size ≤ 36 ∧ (catB (t.bs.map rawT)).size ≤ 264 ∧ (catB (partsB t)).size ≤ 600 := by
  have hk := of_decide_eq_true h
  obtain ⟨f1, f2, f3⟩ := fits_zero hk.2.2.2.2.2.2.2.1
  have hb : ∀ b ∈ t.bs, b.size ≤ 64 := by
    intro b hb
    have hf := hk.2.2.2.2.2.2.2.1
    unfold fitsN at hf
    rw [if_neg (by omega)] at hf
    by_cases hx : ∃ b ∈ t.bs, 64 < b.size
    · rw [if_pos hx] at hf; cases hf
    · exact Nat.le_of_not_lt fun hlt => hx ⟨b, hb, hlt⟩
  have a1 : (catB (t.hs.map fun h => rawT (markT h))).size ≤ 36 := by
    have := catB_size_le (l := t.hs.map fun h => rawT (markT h)) (m := 9) (by
      intro a ha
      obtain ⟨m, _, rfl⟩ := List.mem_map.1 ha
      have := rawT_size_le1 (s := markT m) (by rw [markT_size]; omega)
      rw [markT_size] at this; exact this)
    rw [List.length_map] at this; omega
  have a2 : (catB (t.bs.map rawT)).size ≤ 264 := by
    have := catB_size_le (l := t.bs.map rawT) (m := 66) (by
      intro a ha
      obtain ⟨b, hb', rfl⟩ := List.mem_map.1 ha
      have h1 := hb b hb'
      have := rawT_size_le h1; omega)
    rw [List.length_map] at this; omega
  refine ⟨a1, a2, ?_⟩
  have num : ∀ n : Nat, n < 115792089237316195423570985008687907853269984665640564039457584007913129639936 → (rawT (textS n)).size ≤ 33 := by
    intro n hn
    have h1 := nb_le hn
    have := rawT_size_le1 (s := textS n) (by rw [textS_sz]; omega)
    rw [textS_sz] at this; omega
  have n1 := num t.fr.toNat (by omega)
  have n2 := num t.no.toNat (by omega)
  have n3 := num t.tip o.tip
  have n4 := num t.cap o.cap
  have n5 := num t.bc o.bc
  have n6 := num t.val o.val
  have n7 := num t.gas.toNat (by omega)
  have l1 : (hashesB t).size ≤ 39 := by unfold hashesB; rw [rawL_size]; have := aheadN_le (n := (catB (t.hs.map fun h => rawT (markT h))).size) (by omega); omega
  have l2 : (blobsB t).size ≤ 267 := by unfold blobsB; rw [rawL_size]; have := aheadN_le (n := (catB (t.bs.map rawT)).size) (by omega); omega
  simp only [partsB, catB, ByteArray.size_append, show ByteArray.empty.size = 0 from rfl]
  omega
theorem bytesB_le {t : Tx} (o : t.ok) (h : txOk t = true) : (bytesB t).size ≤ 603 := by
  have := (parts_le o h).2.2
  unfold bytesB
  rw [rawL_size]
  have := aheadN_le (n := (catB (partsB t)).size) (by omega)
  omega
end Go.Abs
