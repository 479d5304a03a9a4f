/- Fees: the law FeeNexts: the walk. -/
import Derived.Test.YtdhonccddoaeiaaT5
set_option linter.unusedVariables false
set_option linter.unusedSimpArgs false
namespace Go.Abs
open Go Go.Proofs

set_option maxRecDepth 4000 in
set_option maxHeartbeats 20000000 in
theorem feeNexts_c (ns : List Ask) (x : Bool) (hns : ns.length < 9223372036854775808) (hok : ∀ n ∈ ns, n.ok) : Pure Try.prog 8 [vecA ns x] (.bool true) := by
  refine pure_ac ?_ (cleans_cons (clean_vecA _ _) cleans_nil) (.bool _)
  unfold vecA
  have hw := wakes2_c
  have hnum := num2_c
  (refine enter Try.func8 Try.results8 Try.ntmps8 ty_ok (hw := fun F hF => ?_); simp only [List.length_cons, List.length_nil, Nat.reduceAdd, Nat.reduceSub, List.replicate_succ, List.replicate_zero, List.cons_append, List.nil_append]; apply hF; clear hF F)
  refine wk ?_
  refine aw_loopI (fun (i : Nat) => ⟨((.vec (flat askc ns) ns.length x) :: .any :: (.bool false) :: (.int .i64 i) :: .any :: .any :: .any :: .any :: .any :: .any :: .any :: .any :: .any :: .any :: .any :: .any :: .any :: .any :: .any :: .any :: .any :: .any :: .any :: .any :: .any :: .any :: .any :: .any :: .any :: .any :: .any :: .any :: .any :: .any :: .any :: .any :: .any :: .any :: .any :: .any :: .any :: .any :: .any :: .any :: .any :: .any :: .any :: .any :: .any :: .any :: .any :: .any :: .any :: .any :: .any :: .any :: .any :: .any :: .any :: .any :: .any :: .any :: .any :: .any :: .any :: .any :: .any :: .any :: .any :: .any :: .any :: .any :: .any :: .any :: .any :: .any :: .any :: .any :: .any :: .any :: .any :: .any :: .any :: .any :: .any :: .any :: .any :: .any :: .any :: .any :: .any :: .any :: .any :: .any :: .any :: .any :: .any :: .any :: .any :: .any :: .any :: .any :: .any :: .any :: .any :: .any :: .any :: .any :: []), []⟩) (fun i => i ≤ ns.length ∧ i ≤ 8) (fun i => 8 - i) 0 (by omega) (wkt []) ?_
  rintro i ⟨hi, hi8⟩ K hK
  by_cases h1 : i < ns.length
  · by_cases h2 : i < 8
    · obtain ⟨oa, ob, oc, oe, ou, ot⟩ := hok ns[i] (List.getElem_mem h1)
      have x1 := excess_c ns[i].e ns[i].u ns[i].t oe ou ot
      have z1 := znum_c ns[i].e 1099511627776
      have z2 := znum_c ns[i].u 1073741824
      have z3 := znum_c ns[i].t 1073741824
      unfold exV at x1
      have n1 := next_c ns[i].a ns[i].u ns[i].t oa ou ot
      have m1 := may_c ns[i].u ns[i].t ou ot
      unfold nextV at n1
      by_cases hbad : ns[i].t < 1 ∨ 1073741824 < ns[i].t ∨ ns[i].u < 0 ∨ 2 * ns[i].t < ns[i].u
      · rw [if_pos hbad] at n1
        rw [decide_eq_false (fun h => h hbad)] at m1
        by_cases g1 : 0 ≤ ns[i].e ∧ ns[i].e ≤ 1099511627776
        · rw [decide_eq_true g1] at z1
          by_cases g2 : 0 ≤ ns[i].u ∧ ns[i].u ≤ 1073741824
          · rw [decide_eq_true g2] at z2
            by_cases g3 : 0 ≤ ns[i].t ∧ ns[i].t ≤ 1073741824
            · rw [decide_eq_true g3] at z3
              rw [if_neg (by omega)] at x1
              first | (exfalso; omega) | (refine wk ?_; exact hK _ (i + 1) (by omega) (wkt []) (by omega))
            · rw [decide_eq_false g3] at z3
              rw [if_pos (by omega)] at x1
              first | (exfalso; omega) | (refine wk ?_; exact hK _ (i + 1) (by omega) (wkt []) (by omega))
          · rw [decide_eq_false g2] at z2
            rw [if_pos (by omega)] at x1
            first | (exfalso; omega) | (refine wk ?_; exact hK _ (i + 1) (by omega) (wkt []) (by omega))
        · rw [decide_eq_false g1] at z1
          rw [if_pos (by omega)] at x1
          first | (exfalso; omega) | (refine wk ?_; exact hK _ (i + 1) (by omega) (wkt []) (by omega))
      · rw [if_neg hbad] at n1
        rw [decide_eq_true hbad] at m1
        obtain ⟨U, hU⟩ := Int.eq_ofNat_of_zero_le (show 0 ≤ ns[i].u by omega)
        obtain ⟨T, hT⟩ := Int.eq_ofNat_of_zero_le (show 0 ≤ ns[i].t by omega)
        have n2 : Pure Try.prog 22 [uv ns[i].a, .int .i64 ns[i].u, .int .i64 ns[i].t] (rnextV ns[i].a ns[i].u.toNat ns[i].t.toNat) := by
          rw [hU, hT, Int.toNat_natCast, Int.toNat_natCast]; exact rnext_c _ U T oa (by omega) (by omega) (by omega)
        unfold rnextV at n2
        cases hN : nextN ns[i].a ns[i].u.toNat ns[i].t.toNat with
        | none =>
          rw [hN] at n1 n2
          replace n1 : Pure Try.prog 20 [uv ns[i].a, .int .i64 ns[i].u, .int .i64 ns[i].t] (ue 0 8) := n1
          replace n2 : Pure Try.prog 22 [uv ns[i].a, .int .i64 ns[i].u, .int .i64 ns[i].t] (ub 0 false) := n2
          by_cases g1 : 0 ≤ ns[i].e ∧ ns[i].e ≤ 1099511627776
          · rw [decide_eq_true g1] at z1
            by_cases g2 : 0 ≤ ns[i].u ∧ ns[i].u ≤ 1073741824
            · rw [decide_eq_true g2] at z2
              by_cases g3 : 0 ≤ ns[i].t ∧ ns[i].t ≤ 1073741824
              · rw [decide_eq_true g3] at z3
                rw [if_neg (by omega)] at x1
                first | (exfalso; omega) | (refine wk ?_; exact hK _ (i + 1) (by omega) (wkt []) (by omega))
              · rw [decide_eq_false g3] at z3
                rw [if_pos (by omega)] at x1
                first | (exfalso; omega) | (refine wk ?_; exact hK _ (i + 1) (by omega) (wkt []) (by omega))
            · rw [decide_eq_false g2] at z2
              rw [if_pos (by omega)] at x1
              first | (exfalso; omega) | (refine wk ?_; exact hK _ (i + 1) (by omega) (wkt []) (by omega))
          · rw [decide_eq_false g1] at z1
            rw [if_pos (by omega)] at x1
            first | (exfalso; omega) | (refine wk ?_; exact hK _ (i + 1) (by omega) (wkt []) (by omega))
        | some v =>
          rw [hN] at n1 n2
          replace n1 : Pure Try.prog 20 [uv ns[i].a, .int .i64 ns[i].u, .int .i64 ns[i].t] (ue v 0) := n1
          replace n2 : Pure Try.prog 22 [uv ns[i].a, .int .i64 ns[i].u, .int .i64 ns[i].t] (ub v true) := n2
          by_cases g1 : 0 ≤ ns[i].e ∧ ns[i].e ≤ 1099511627776
          · rw [decide_eq_true g1] at z1
            by_cases g2 : 0 ≤ ns[i].u ∧ ns[i].u ≤ 1073741824
            · rw [decide_eq_true g2] at z2
              by_cases g3 : 0 ≤ ns[i].t ∧ ns[i].t ≤ 1073741824
              · rw [decide_eq_true g3] at z3
                rw [if_neg (by omega)] at x1
                first | (exfalso; omega) | (refine wk ?_; (refine aseq_fx (fun F hF => ?_); simp only [List.drop_succ_cons, List.drop_zero, List.take_succ_cons, List.take_zero, splice, List.set_cons_zero, List.set_cons_succ, Nat.reduceAdd, Nat.zero_add]; apply hF; clear hF F); refine wk ?_; exact hK _ (i + 1) (by omega) (wkt []) (by omega))
              · rw [decide_eq_false g3] at z3
                rw [if_pos (by omega)] at x1
                first | (exfalso; omega) | (refine wk ?_; (refine aseq_fx (fun F hF => ?_); simp only [List.drop_succ_cons, List.drop_zero, List.take_succ_cons, List.take_zero, splice, List.set_cons_zero, List.set_cons_succ, Nat.reduceAdd, Nat.zero_add]; apply hF; clear hF F); refine wk ?_; exact hK _ (i + 1) (by omega) (wkt []) (by omega))
            · rw [decide_eq_false g2] at z2
              rw [if_pos (by omega)] at x1
              first | (exfalso; omega) | (refine wk ?_; (refine aseq_fx (fun F hF => ?_); simp only [List.drop_succ_cons, List.drop_zero, List.take_succ_cons, List.take_zero, splice, List.set_cons_zero, List.set_cons_succ, Nat.reduceAdd, Nat.zero_add]; apply hF; clear hF F); refine wk ?_; exact hK _ (i + 1) (by omega) (wkt []) (by omega))
          · rw [decide_eq_false g1] at z1
            rw [if_pos (by omega)] at x1
            first | (exfalso; omega) | (refine wk ?_; (refine aseq_fx (fun F hF => ?_); simp only [List.drop_succ_cons, List.drop_zero, List.take_succ_cons, List.take_zero, splice, List.set_cons_zero, List.set_cons_succ, Nat.reduceAdd, Nat.zero_add]; apply hF; clear hF F); refine wk ?_; exact hK _ (i + 1) (by omega) (wkt []) (by omega))
    · refine wk ?_
      refine fin ?_
      rfl
  · refine wk ?_
    refine fin ?_
    rfl
end Go.Abs
