/- Fees: the laws: the walks. -/
import Derived.Test.YtdhonccddoaeiaaT4
import Derived.Test.YtdhonccddoaeiaaG3
set_option linter.unusedVariables false
set_option linter.unusedSimpArgs false
namespace Go.Abs
open Go Go.Proofs

theorem next_ok {b U T : Nat} {u t : Int} (hb : b < 6277101735386680763835789423207666416102355444464034512896) (hu : u = (U : Nat)) (ht : t = (T : Nat)) (h1 : 1 ≤ T) (h2 : T ≤ 1073741824) (h3 : U ≤ 2 * T) : nextV b u t = ue (nx b U T) 0 := by
  subst hu ht
  unfold nextV
  rw [if_neg (by omega), Int.toNat_natCast, Int.toNat_natCast, (next_some hb h2 h3).1]
theorem num2_c (n : Int) : Pure Try.prog 12 [.int .i64 n] (.int .i64 n) := by
  refine pure_ac ?_ (cleans_cons (.int _ _) cleans_nil) (.int _ _)
  (refine enter Try.func12 Try.results12 Try.ntmps12 ty_ok (hw := fun F hF => ?_); simp only [List.length_cons, List.length_nil, Nat.reduceAdd, Nat.reduceSub, List.replicate_succ, List.replicate_zero, List.cons_append, List.nil_append]; apply hF; clear hF F)
  refine wk ?_
  refine fin ?_
  rfl
theorem znum_c (n m : Int) : Pure Try.prog 15 [.int .i64 n, .int .i64 m] (.bool (decide (0 ≤ n ∧ n ≤ m))) := by
  refine pure_ac ?_ (cleans_cons (.int _ _) (cleans_cons (.int _ _) cleans_nil)) (.bool _)
  by_cases h1 : 0 ≤ n
  · rw [show decide (0 ≤ n ∧ n ≤ m) = decide (n ≤ m) from decide_eq_decide.2 ⟨fun h => h.2, fun h => ⟨h1, h⟩⟩]
    (refine enter Try.func15 Try.results15 Try.ntmps15 ty_ok (hw := fun F hF => ?_); simp only [List.length_cons, List.length_nil, Nat.reduceAdd, Nat.reduceSub, List.replicate_succ, List.replicate_zero, List.cons_append, List.nil_append]; apply hF; clear hF F)
    refine wk ?_
    refine fin ?_
    rfl
  · rw [decide_eq_false (fun h => h1 h.1)]
    (refine enter Try.func15 Try.results15 Try.ntmps15 ty_ok (hw := fun F hF => ?_); simp only [List.length_cons, List.length_nil, Nat.reduceAdd, Nat.reduceSub, List.replicate_succ, List.replicate_zero, List.cons_append, List.nil_append]; apply hF; clear hF F)
    refine wk ?_
    refine fin ?_
    rfl
theorem within_c (i n : Int) (h : -9223372036854775808 ≤ i ∧ i < 9223372036854775808) (hn : 0 < n ∧ n < 9223372036854775808) : Pure Try.prog 18 [.int .i64 i, .int .i64 n] (.int .i64 (i % 18446744073709551616 % n)) := by
  refine pure_ac ?_ (cleans_cons (.int _ _) (cleans_cons (.int _ _) cleans_nil)) (.int _ _)
  have hm1 := Int.emod_nonneg (i % 18446744073709551616) (show n ≠ 0 by omega)
  have hm2 := Int.emod_lt_of_pos (i % 18446744073709551616) hn.1
  obtain ⟨z, hz⟩ : ∃ z, i % 18446744073709551616 % n = z := ⟨_, rfl⟩
  (refine enter Try.func18 Try.results18 Try.ntmps18 ty_ok (hw := fun F hF => ?_); simp only [List.length_cons, List.length_nil, Nat.reduceAdd, Nat.reduceSub, List.replicate_succ, List.replicate_zero, List.cons_append, List.nil_append]; apply hF; clear hF F)
  refine wk ?_
  rw [hz]
  refine fin ?_
  rfl
theorem may_c (u t : Int) (hu : -9223372036854775808 ≤ u ∧ u < 9223372036854775808) (ht : -9223372036854775808 ≤ t ∧ t < 9223372036854775808) : Pure Try.prog 21 [.int .i64 u, .int .i64 t] (.bool (decide (¬ (t < 1 ∨ 1073741824 < t ∨ u < 0 ∨ 2 * t < u)))) := by
  refine pure_ac ?_ (cleans_cons (.int _ _) (cleans_cons (.int _ _) cleans_nil)) (.bool _)
  by_cases h1 : t ≥ 1
  · by_cases h2 : t ≤ 1073741824
    · by_cases h3 : u ≥ 0
      · rw [show decide (¬ (t < 1 ∨ 1073741824 < t ∨ u < 0 ∨ 2 * t < u)) = decide (u ≤ 2 * t) from decide_eq_decide.2 (by omega)]
        (refine enter Try.func21 Try.results21 Try.ntmps21 ty_ok (hw := fun F hF => ?_); simp only [List.length_cons, List.length_nil, Nat.reduceAdd, Nat.reduceSub, List.replicate_succ, List.replicate_zero, List.cons_append, List.nil_append]; apply hF; clear hF F)
        refine wk ?_
        refine fin ?_
        rfl
      · rw [decide_eq_false (by omega)]
        (refine enter Try.func21 Try.results21 Try.ntmps21 ty_ok (hw := fun F hF => ?_); simp only [List.length_cons, List.length_nil, Nat.reduceAdd, Nat.reduceSub, List.replicate_succ, List.replicate_zero, List.cons_append, List.nil_append]; apply hF; clear hF F)
        refine wk ?_
        refine fin ?_
        rfl
    · rw [decide_eq_false (by omega)]
      (refine enter Try.func21 Try.results21 Try.ntmps21 ty_ok (hw := fun F hF => ?_); simp only [List.length_cons, List.length_nil, Nat.reduceAdd, Nat.reduceSub, List.replicate_succ, List.replicate_zero, List.cons_append, List.nil_append]; apply hF; clear hF F)
      refine wk ?_
      refine fin ?_
      rfl
  · rw [decide_eq_false (by omega)]
    (refine enter Try.func21 Try.results21 Try.ntmps21 ty_ok (hw := fun F hF => ?_); simp only [List.length_cons, List.length_nil, Nat.reduceAdd, Nat.reduceSub, List.replicate_succ, List.replicate_zero, List.cons_append, List.nil_append]; apply hF; clear hF F)
    refine wk ?_
    refine fin ?_
    rfl
theorem wakes2_c : Pure Try.prog 13 [] (.bool true) := by
  refine pure_ac ?_ cleans_nil (.bool _)
  have c0 := blob_c 0 (by omega)
  have hb : blobN 0 = 1 := by
    unfold blobN
    rw [show fakeV 1 0 3338477 = some 1 from fake_flat (by omega) (by omega) (by omega)]; rfl
  rw [show blobV 0 = ue 1 0 from by unfold blobV; rw [if_neg (by omega), show (0 : Int).toNat = 0 from rfl, hb]] at c0
  have c1 := num2_c
  (refine enter Try.func13 Try.results13 Try.ntmps13 ty_ok (hw := fun F hF => ?_); simp only [List.length_cons, List.length_nil, Nat.reduceAdd, Nat.reduceSub, List.replicate_succ, List.replicate_zero, List.cons_append, List.nil_append]; apply hF; clear hF F)
  refine wk ?_
  refine fin ?_
  rfl
end Go.Abs
