/- Fees: the law FeeSteps: the walk. -/
import Derived.Test.YtdhonccddoaeiaaT5
set_option linter.unusedVariables false
set_option linter.unusedSimpArgs false
namespace Go.Abs
open Go Go.Proofs

set_option maxRecDepth 4000 in
set_option maxHeartbeats 20000000 in
theorem feeSteps_c (ns : List Ask) (x : Bool) (hns : ns.length < 9223372036854775808) (hok : ∀ n ∈ ns, n.ok) : Pure Try.prog 7 [vecA ns x] (.bool true) := by
  refine pure_ac ?_ (cleans_cons (clean_vecA _ _) cleans_nil) (.bool _)
  unfold vecA
  have hw := wakes2_c
  have hnum := num2_c
  (refine enter Try.func7 Try.results7 Try.ntmps7 ty_ok (hw := fun F hF => ?_); simp only [List.length_cons, List.length_nil, Nat.reduceAdd, Nat.reduceSub, List.replicate_succ, List.replicate_zero, List.cons_append, List.nil_append]; apply hF; clear hF F)
  refine wk ?_
  refine aw_loopI (fun (i : Nat) => ⟨((.vec (flat askc ns) ns.length x) :: .any :: (.bool false) :: (.int .i64 i) :: .any :: .any :: .any :: .any :: .any :: .any :: .any :: .any :: .any :: .any :: .any :: .any :: .any :: .any :: .any :: .any :: .any :: .any :: .any :: .any :: .any :: .any :: .any :: .any :: .any :: .any :: .any :: .any :: .any :: .any :: .any :: .any :: .any :: .any :: .any :: .any :: .any :: .any :: .any :: .any :: .any :: .any :: .any :: .any :: .any :: .any :: .any :: .any :: .any :: .any :: .any :: .any :: .any :: .any :: .any :: .any :: .any :: .any :: .any :: .any :: .any :: .any :: .any :: .any :: .any :: .any :: .any :: .any :: .any :: .any :: .any :: .any :: .any :: .any :: .any :: .any :: .any :: []), []⟩) (fun i => i ≤ ns.length ∧ i ≤ 8) (fun i => 8 - i) 0 (by omega) (wkt []) ?_
  rintro i ⟨hi, hi8⟩ K hK
  by_cases h1 : i < ns.length
  · by_cases h2 : i < 8
    · obtain ⟨oa, ob, oc, oe, ou, ot⟩ := hok ns[i] (List.getElem_mem h1)
      obtain ⟨w, hw0, hw2⟩ : ∃ a : Nat, ns[i].t % 18446744073709551616 % 536870912 = a ∧ a < 536870912 := ⟨(ns[i].t % 18446744073709551616 % 536870912).toNat, by omega, by omega⟩
      have w3 := within_c ns[i].t 536870912 ot (by omega)
      rw [hw0] at w3
      have hl := lb_lt ns[i].a 0
      obtain ⟨m, hm⟩ : ∃ m, lb ns[i].a 0 / 16 = m := ⟨_, rfl⟩
      have hml : m < 1152921504606846976 := by omega
      have hmi : ((lb ns[i].a 0 : Nat) : Int) / 16 = (m : Nat) := by omega
      have n3 := next_c m (2 * (1 + (w : Int))) (1 + (w : Int)) (by omega) (by omega) (by omega)
      have n4 := next_c m 0 (1 + (w : Int)) (by omega) (by omega) (by omega)
      rw [next_ok (U := 2 * (1 + w)) (T := 1 + w) (by omega) (by omega) (by omega) (by omega) (by omega) (by omega), (nx_full (b := m) (t := 1 + w) (by omega)).1] at n3
      rw [next_ok (u := 0) (U := 0) (T := 1 + w) (by omega) (show (0 : Int) = ((0 : Nat) : Int) from rfl) (by omega) (by omega) (by omega) (by omega), (nx_full (b := m) (t := 1 + w) (by omega)).2] at n4
      obtain ⟨v3, e3⟩ : ∃ v, m + max 1 (m / 8) = v := ⟨_, rfl⟩
      obtain ⟨v4, e4⟩ : ∃ v, m - m / 8 = v := ⟨_, rfl⟩
      rw [e3] at n3; rw [e4] at n4
      unfold ue at n3 n4
      rw [uvs (m := m) (by omega), uvs (m := v3) (by omega)] at n3
      rw [uvs (m := m) (by omega), uvs (m := v4) (by omega)] at n4
      have x3 : (m : Int) + (if (m : Int) / 8 > 1 then (m : Int) / 8 else 1) = (v3 : Nat) := by omega
      have x4 : (m : Int) - (m : Int) / 8 = (v4 : Nat) := by omega
      refine wk ?_
      (refine aseq_fx (fun F hF => ?_); simp only [hmi]; apply hF; clear hF F)
      refine wk ?_
      (refine aseq_fx (fun F hF => ?_); simp only [x3, beq_self_eq_true, Bool.not_true]; apply hF; clear hF F)
      refine wk ?_
      (refine aw_fx (fun F hF => ?_); simp only [x4, beq_self_eq_true, Bool.not_true]; apply hF; clear hF F)
      refine wk ?_
      exact hK _ (i + 1) (by omega) (wkt []) (by omega)
    · refine wk ?_
      refine fin ?_
      rfl
  · refine wk ?_
    refine fin ?_
    rfl
end Go.Abs
