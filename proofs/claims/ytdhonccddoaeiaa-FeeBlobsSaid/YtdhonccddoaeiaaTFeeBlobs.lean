/- Fees: the law FeeBlobs: the walk. -/
import Derived.Test.YtdhonccddoaeiaaT5
set_option linter.unusedVariables false
set_option linter.unusedSimpArgs false
namespace Go.Abs
open Go Go.Proofs

set_option maxRecDepth 4000 in
set_option maxHeartbeats 20000000 in
theorem feeBlobs_c (ns : List Ask) (x : Bool) (hns : ns.length < 9223372036854775808) (hok : ∀ n ∈ ns, n.ok) : Pure Try.prog 4 [vecA ns x] (.bool true) := by
  refine pure_ac ?_ (cleans_cons (clean_vecA _ _) cleans_nil) (.bool _)
  unfold vecA
  have hw := wakes2_c
  have hnum := num2_c
  (refine enter Try.func4 Try.results4 Try.ntmps4 ty_ok (hw := fun F hF => ?_); simp only [List.length_cons, List.length_nil, Nat.reduceAdd, Nat.reduceSub, List.replicate_succ, List.replicate_zero, List.cons_append, List.nil_append]; apply hF; clear hF F)
  refine wk ?_
  refine aw_loopI (fun (i : Nat) => ⟨((.vec (flat askc ns) ns.length x) :: .any :: (.bool false) :: (.int .i64 i) :: .any :: .any :: .any :: .any :: .any :: .any :: .any :: .any :: .any :: .any :: .any :: .any :: .any :: .any :: .any :: .any :: .any :: .any :: .any :: .any :: .any :: .any :: .any :: .any :: .any :: .any :: .any :: .any :: .any :: .any :: .any :: .any :: .any :: .any :: .any :: .any :: .any :: .any :: .any :: .any :: .any :: .any :: .any :: .any :: .any :: .any :: .any :: .any :: .any :: .any :: []), []⟩) (fun i => i ≤ ns.length ∧ i ≤ 8) (fun i => 8 - i) 0 (by omega) (wkt []) ?_
  rintro i ⟨hi, hi8⟩ K hK
  by_cases h1 : i < ns.length
  · by_cases h2 : i < 8
    · obtain ⟨oa, ob, oc, oe, ou, ot⟩ := hok ns[i] (List.getElem_mem h1)
      have c1 := blob_c ns[i].e oe
      have c2 := znum_c ns[i].e 1099511627776
      unfold blobV at c1
      by_cases hb : ns[i].e < 0 ∨ 1099511627776 < ns[i].e
      · rw [if_pos hb] at c1
        rw [decide_eq_false (by omega)] at c2
        refine wk ?_
        exact hK _ (i + 1) (by omega) (wkt []) (by omega)
      · rw [if_neg hb] at c1
        rw [decide_eq_true (by omega)] at c2
        obtain ⟨m, hm⟩ := Int.eq_ofNat_of_zero_le (show 0 ≤ ns[i].e by omega)
        have c3 : Pure Try.prog 16 [.int .i64 ns[i].e] (uv (blobN ns[i].e.toNat)) := by
          rw [hm, Int.toNat_natCast]; exact rblob_c m (by omega)
        obtain ⟨B, hB⟩ : ∃ B, blobN ns[i].e.toNat = B := ⟨_, rfl⟩
        rw [hB] at c1 c3
        refine wk ?_
        exact hK _ (i + 1) (by omega) (wkt []) (by omega)
    · refine wk ?_
      refine fin ?_
      rfl
  · refine wk ?_
    refine fin ?_
    rfl
end Go.Abs
