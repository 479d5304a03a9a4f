/- Let in or not: the next nonce, who pays twice as much, what is covered: the walks. -/
import Derived.Test.YtemlnaipcdajeaaGreatM39
set_option linter.unusedVariables false
set_option linter.unusedSimpArgs false
namespace Go.Abs
open Go Go.Proofs

set_option maxRecDepth 20000 in
set_option maxHeartbeats 20000000 in
theorem cnext_c (l : List Tx) (x : Bool) (n : Int) (hl : l.length < 1000000) (o : ∀ t ∈ l, t.ok) (h : chainB l = true) (hn : 0 ≤ n ∧ n ≤ 1099511627776) (hno : ∀ j (hj : j < l.length), l[j].no = n + j) : Pure Tryz.prog 77 [tsV l x, .int .i64 n] (.tup [.int .i64 (n + l.length), errV 0]) := by
  refine pure_ac ?_ (cleans_cons (clean_tsV l x) (cleans_cons (.int _ _) cleans_nil)) (clean_tup (cleans_cons (.int _ _) (cleans_cons (.int _ _) cleans_nil)))
  have c1 := chcheck_c l x (by omega) o
  rw [if_pos h] at c1
  clear o h
  by_cases h0 : 0 < l.length
  · have e := hno (l.length - 1) (by omega)
    obtain ⟨z, hz⟩ : ∃ z, (l[l.length - 1]'(by omega)).no = z := ⟨_, rfl⟩
    have ez : z + 1 = n + l.length := by omega
    clear hno e
    (refine enter Tryz.func77 Tryz.results77 Tryz.ntmps77 ty_ok (hw := fun F hF => ?_); simp only [List.length_cons, List.length_nil, Nat.reduceAdd, Nat.reduceSub, List.replicate_succ, List.replicate_zero, List.cons_append, List.nil_append]; apply hF; clear hF F)
    refine wkn ?_
    refine fin ?_
    subst hz; rw [← ez]; rfl
  · have e0 : l.length = 0 := by omega
    obtain rfl := List.eq_nil_of_length_eq_zero e0
    clear hno
    have en : n + (([] : List Tx).length : Int) = n := by simp
    rw [en]
    (refine enter Tryz.func77 Tryz.results77 Tryz.ntmps77 ty_ok (hw := fun F hF => ?_); simp only [List.length_cons, List.length_nil, Nat.reduceAdd, Nat.reduceSub, List.replicate_succ, List.replicate_zero, List.cons_append, List.nil_append]; apply hF; clear hF F)
    refine wkn ?_
    refine fin ?_
    rfl
theorem dbl_c (x : Nat) (hx : x < 115792089237316195423570985008687907853269984665640564039457584007913129639936) : Pure Tryz.prog 129 [uv x] (sumV x x) := by
  refine pure_ac ?_ (cleans_cons (clean_uv _) cleans_nil) (clean_sumV _ _)
  have c1 := add_c x x hx hx
  unfold sumV at c1 ⊢
  by_cases h : x + x < 115792089237316195423570985008687907853269984665640564039457584007913129639936
  · rw [if_pos h] at c1 ⊢
    (refine enter Tryz.func129 Tryz.results129 Tryz.ntmps129 ty_ok (hw := fun F hF => ?_); simp only [List.length_cons, List.length_nil, Nat.reduceAdd, Nat.reduceSub, List.replicate_succ, List.replicate_zero, List.cons_append, List.nil_append]; apply hF; clear hF F)
    refine wk ?_
    refine fin ?_
    rfl
  · rw [if_neg h] at c1 ⊢
    (refine enter Tryz.func129 Tryz.results129 Tryz.ntmps129 ty_ok (hw := fun F hF => ?_); simp only [List.length_cons, List.length_nil, Nat.reduceAdd, Nat.reduceSub, List.replicate_succ, List.replicate_zero, List.cons_append, List.nil_append]; apply hF; clear hF F)
    refine wk ?_
    refine fin ?_
    rfl
abbrev fees3 (t : Tx) : List V := [.int .u64 (lb t.bc 0), .int .u64 (lb t.bc 1), .int .u64 (lb t.bc 2), .int .u64 (lb t.bc 3), .int .u64 (lb t.cap 0), .int .u64 (lb t.cap 1), .int .u64 (lb t.cap 2), .int .u64 (lb t.cap 3), .int .u64 (lb t.tip 0), .int .u64 (lb t.tip 1), .int .u64 (lb t.tip 2), .int .u64 (lb t.tip 3)]
theorem cleans_fees3 (t : Tx) : Cleans (fees3 t) := by
  repeat (first | exact cleans_nil | refine cleans_cons (.int _ _) ?_)
theorem bfees_c (t : Tx) : Pure Tryz.prog 128 [txV t] (.agg (fees3 t)) := by
  refine pure_ac ?_ (cleans_cons (clean_txV t) cleans_nil) (clean_agg (cleans_fees3 t))
  (refine enter Tryz.func128 Tryz.results128 Tryz.ntmps128 ty_ok (hw := fun F hF => ?_); simp only [List.length_cons, List.length_nil, Nat.reduceAdd, Nat.reduceSub, List.replicate_succ, List.replicate_zero, List.cons_append, List.nil_append]; apply hF; clear hF F)
  refine wk ?_
  refine fin ?_
  rfl
theorem rivals_c (a b : Tx) (oa : a.ok) (ob : b.ok) (ka : txOk a = true) (kb : txOk b = true) (h1 : a.fr = b.fr) (h2 : a.no = b.no) : Pure Tryz.prog 127 [txV a, txV b] (.bool true) := by
  refine pure_ac ?_ (cleans_cons (clean_txV a) (cleans_cons (clean_txV b) cleans_nil)) (.bool _)
  have c1 := check_c a oa
  rw [if_pos ka] at c1
  have c2 := check_c b ob
  rw [if_pos kb] at c2
  clear oa ob ka kb
  (refine enter Tryz.func127 Tryz.results127 Tryz.ntmps127 ty_ok (hw := fun F hF => ?_); simp only [List.length_cons, List.length_nil, Nat.reduceAdd, Nat.reduceSub, List.replicate_succ, List.replicate_zero, List.cons_append, List.nil_append]; apply hF; clear hF F)
  refine wk ?_
  refine fin ?_
  rw [beq_iff_eq.2 h2]
/-- Does it pay twice as much? -/
def paysB (a b : Tx) : Bool := decide (a.bc + a.bc ≤ b.bc) && decide (a.cap + a.cap ≤ b.cap) && decide (a.tip + a.tip ≤ b.tip)
theorem twice_yes {x y : Nat} (hx : x < 115792089237316195423570985008687907853269984665640564039457584007913129639936) (hy : y < 115792089237316195423570985008687907853269984665640564039457584007913129639936) (h : x + x ≤ y) : ∃ z k, Pure Tryz.prog 129 [uv x] (ue z 0) ∧ Pure Tryz.prog 90 [uv y, uv z] (.int .i64 k) ∧ 0 ≤ k := by
  have c1 := dbl_c x hx
  unfold sumV at c1
  rw [if_pos (by omega)] at c1
  have c2 := cmp_c y (x + x) hy (by omega)
  refine ⟨_, _, c1, c2, ?_⟩
  by_cases e : x + x = y
  · rw [cmpN_eq (by omega)]; omega
  · rw [cmpN_gt (by omega)]; omega
theorem twice_no {x y : Nat} (hx : x < 115792089237316195423570985008687907853269984665640564039457584007913129639936) (hy : y < 115792089237316195423570985008687907853269984665640564039457584007913129639936) (h : ¬ x + x ≤ y) : Pure Tryz.prog 129 [uv x] (ue 0 8) ∨ ∃ z k, Pure Tryz.prog 129 [uv x] (ue z 0) ∧ Pure Tryz.prog 90 [uv y, uv z] (.int .i64 k) ∧ k < 0 := by
  have c1 := dbl_c x hx
  unfold sumV at c1
  by_cases h2 : x + x < 115792089237316195423570985008687907853269984665640564039457584007913129639936
  · rw [if_pos h2] at c1
    have c2 := cmp_c y (x + x) hy h2
    refine .inr ⟨_, _, c1, c2, ?_⟩
    rw [cmpN_lt (by omega)]; omega
  · rw [if_neg h2] at c1
    exact .inl c1
set_option maxRecDepth 20000 in
set_option maxHeartbeats 20000000 in
theorem bmay_c (a b : Tx) (oa : a.ok) (ob : b.ok) (ka : txOk a = true) (kb : txOk b = true) (h1 : a.fr = b.fr) (h2 : a.no = b.no) : Pure Tryz.prog 79 [txV a, txV b] (errV (if paysB a b = true then 0 else 11)) := by
  refine pure_ac ?_ (cleans_cons (clean_txV a) (cleans_cons (clean_txV b) cleans_nil)) (.int _ _)
  have c1 := rivals_c a b oa ob ka kb h1 h2
  have c2 := bfees_c a
  have c3 := bfees_c b
  have d1 := fun h => twice_yes oa.bc ob.bc h
  have d2 := fun h => twice_yes oa.cap ob.cap h
  have d3 := fun h => twice_yes oa.tip ob.tip h
  have n1 := fun h => twice_no oa.bc ob.bc h
  have n2 := fun h => twice_no oa.cap ob.cap h
  have n3 := fun h => twice_no oa.tip ob.tip h
  unfold paysB
  clear oa ob ka kb h1 h2
  by_cases g1 : a.bc + a.bc ≤ b.bc
  · obtain ⟨z1, k1, p1, q1, r1⟩ := d1 g1
    rw [decide_eq_true g1, Bool.true_and]
    by_cases g2 : a.cap + a.cap ≤ b.cap
    · obtain ⟨z2, k2, p2, q2, r2⟩ := d2 g2
      rw [decide_eq_true g2, Bool.true_and]
      by_cases g3 : a.tip + a.tip ≤ b.tip
      · obtain ⟨z3, k3, p3, q3, r3⟩ := d3 g3
        rw [decide_eq_true g3, if_pos rfl]
        clear d1 d2 d3 n1 n2 n3 g1 g2 g3
        (refine enter Tryz.func79 Tryz.results79 Tryz.ntmps79 ty_ok (hw := fun F hF => ?_); simp only [List.length_cons, List.length_nil, Nat.reduceAdd, Nat.reduceSub, List.replicate_succ, List.replicate_zero, List.cons_append, List.nil_append]; apply hF; clear hF F)
        refine wk ?_
        refine aw_rounds 4 ?_
        refine wk ?_
        refine fin ?_
        rfl
      · rw [decide_eq_false g3, if_neg (by simp)]
        rcases n3 g3 with p3 | ⟨z3, k3, p3, q3, r3⟩
        · clear d1 d2 d3 n1 n2 n3 g1 g2 g3
          (refine enter Tryz.func79 Tryz.results79 Tryz.ntmps79 ty_ok (hw := fun F hF => ?_); simp only [List.length_cons, List.length_nil, Nat.reduceAdd, Nat.reduceSub, List.replicate_succ, List.replicate_zero, List.cons_append, List.nil_append]; apply hF; clear hF F)
          refine wk ?_
          refine aw_rounds 4 ?_
          refine wk ?_
          refine fin ?_
          rfl
        · clear d1 d2 d3 n1 n2 n3 g1 g2 g3
          (refine enter Tryz.func79 Tryz.results79 Tryz.ntmps79 ty_ok (hw := fun F hF => ?_); simp only [List.length_cons, List.length_nil, Nat.reduceAdd, Nat.reduceSub, List.replicate_succ, List.replicate_zero, List.cons_append, List.nil_append]; apply hF; clear hF F)
          refine wk ?_
          refine aw_rounds 4 ?_
          refine wk ?_
          refine fin ?_
          rfl
    · rw [decide_eq_false g2, Bool.false_and, if_neg (by simp)]
      rcases n2 g2 with p2 | ⟨z2, k2, p2, q2, r2⟩
      · clear d1 d2 d3 n1 n2 n3 g1 g2
        (refine enter Tryz.func79 Tryz.results79 Tryz.ntmps79 ty_ok (hw := fun F hF => ?_); simp only [List.length_cons, List.length_nil, Nat.reduceAdd, Nat.reduceSub, List.replicate_succ, List.replicate_zero, List.cons_append, List.nil_append]; apply hF; clear hF F)
        refine wk ?_
        refine aw_rounds 4 ?_
        refine wk ?_
        refine fin ?_
        rfl
      · clear d1 d2 d3 n1 n2 n3 g1 g2
        (refine enter Tryz.func79 Tryz.results79 Tryz.ntmps79 ty_ok (hw := fun F hF => ?_); simp only [List.length_cons, List.length_nil, Nat.reduceAdd, Nat.reduceSub, List.replicate_succ, List.replicate_zero, List.cons_append, List.nil_append]; apply hF; clear hF F)
        refine wk ?_
        refine aw_rounds 4 ?_
        refine wk ?_
        refine fin ?_
        rfl
  · rw [decide_eq_false g1, Bool.false_and, Bool.false_and, if_neg (by simp)]
    rcases n1 g1 with p1 | ⟨z1, k1, p1, q1, r1⟩
    · clear d1 d2 d3 n1 n2 n3 g1
      (refine enter Tryz.func79 Tryz.results79 Tryz.ntmps79 ty_ok (hw := fun F hF => ?_); simp only [List.length_cons, List.length_nil, Nat.reduceAdd, Nat.reduceSub, List.replicate_succ, List.replicate_zero, List.cons_append, List.nil_append]; apply hF; clear hF F)
      refine wk ?_
      refine aw_rounds 4 ?_
      refine wk ?_
      refine fin ?_
      rfl
    · clear d1 d2 d3 n1 n2 n3 g1
      (refine enter Tryz.func79 Tryz.results79 Tryz.ntmps79 ty_ok (hw := fun F hF => ?_); simp only [List.length_cons, List.length_nil, Nat.reduceAdd, Nat.reduceSub, List.replicate_succ, List.replicate_zero, List.cons_append, List.nil_append]; apply hF; clear hF F)
      refine wk ?_
      refine aw_rounds 4 ?_
      refine wk ?_
      refine fin ?_
      rfl
set_option maxRecDepth 20000 in
set_option maxHeartbeats 20000000 in
theorem covered_c (l : List Tx) (x : Bool) (bal : Nat) (hb : bal < 115792089237316195423570985008687907853269984665640564039457584007913129639936) (hl : l.length < 1000000) (o : ∀ t ∈ l, t.ok) (k : ∀ t ∈ l, txOk t = true) : Pure Tryz.prog 80 [tsV l x, uv bal] (.bool (decide (spentN l ≤ bal))) := by
  refine pure_ac ?_ (cleans_cons (clean_tsV l x) (cleans_cons (clean_uv _) cleans_nil)) (.bool _)
  (refine enter Tryz.func80 Tryz.results80 Tryz.ntmps80 ty_ok (hw := fun F hF => ?_); simp only [List.length_cons, List.length_nil, Nat.reduceAdd, Nat.reduceSub, List.replicate_succ, List.replicate_zero, List.cons_append, List.nil_append]; apply hF; clear hF F)
  refine wk ?_
  refine aw_loopI (fun (i : Nat) => ⟨((tsV l x) :: .any :: .any :: (.ptr 0 0) :: (.bool false) :: (.ptr 1 0) :: .any :: .any :: .any :: .any :: (tsV l x) :: (.int .i64 l.length) :: (.int .i64 i) :: .any :: .any :: .any :: .any :: .any :: .any :: .any :: .any :: .any :: .any :: .any :: .any :: .any :: .any :: .any :: .any :: .any :: .any :: .any :: .any :: .any :: .any :: .any :: []), [.live (uvc bal), .live (uvc (spentN (l.take i)))]⟩) (fun i => i ≤ l.length ∧ spentN (l.take i) < 115792089237316195423570985008687907853269984665640564039457584007913129639936) (fun i => l.length - i) 0 ⟨by omega, by show (0 : Nat) < _; omega⟩ (wkt [0, 1]) ?_
  rintro i ⟨hi, hsum⟩ K hK
  by_cases h1 : i < l.length
  · have hone : ∀ v ∈ txc l[i], v.one = true := Rows.one (f := txc) l[i]
    have e1 := spentN_take h1
    have hle := spentN_le l (i + 1)
    have hoi := o l[i] (List.getElem_mem h1)
    have ht := k l[i] (List.getElem_mem h1)
    have c1 := txcost_c l[i] hoi ht
    have hk := of_decide_eq_true ht
    have hcl : costN l[i] < 115792089237316195423570985008687907853269984665640564039457584007913129639936 := hk.2.2.2.2.2.2.2.2
    have c2 := add_c (spentN (l.take i)) (costN l[i]) hsum hcl
    unfold sumV at c2
    rw [← e1] at c2
    by_cases hs : spentN (l.take (i + 1)) < 115792089237316195423570985008687907853269984665640564039457584007913129639936
    · rw [if_pos hs] at c2
      clear hk o k ht hoi e1 hle
      refine wk ?_
      exact hK _ (i + 1) ⟨by omega, hs⟩ (wkt [0, 1]) (by omega)
    · rw [if_neg hs] at c2
      rw [decide_eq_false (by omega)]
      clear hk o k ht hoi e1 hle
      refine wk ?_
      refine fin ?_
      rfl
  · obtain rfl : i = l.length := by omega
    rw [List.take_length] at hsum ⊢
    have c1 := cmp_c (spentN l) bal hsum hb
    by_cases hc : spentN l ≤ bal
    · have hz : cmpN (spentN l) bal ≤ 0 := by
        by_cases e : spentN l = bal
        · rw [cmpN_eq (by omega)]; omega
        · rw [cmpN_lt (by omega)]; omega
      rw [decide_eq_true hc]
      clear o k
      refine wk ?_
      refine fin ?_
      rw [decide_eq_true (by omega)]
    · have hz : ¬ cmpN (spentN l) bal ≤ 0 := by rw [cmpN_gt (by omega)]; omega
      rw [decide_eq_false hc]
      clear o k
      refine wk ?_
      refine fin ?_
      rw [decide_eq_false (by omega)]
end Go.Abs
