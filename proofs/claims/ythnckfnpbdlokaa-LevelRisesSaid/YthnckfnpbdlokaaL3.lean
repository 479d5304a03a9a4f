/- The law LevelTells: the walk. -/
import Derived.Test.YthnckfnpbdlokaaL2
set_option linter.unusedVariables false
set_option linter.unusedSimpArgs false
namespace Go.Abs
open Go Go.Proofs

set_option maxHeartbeats 20000000 in
theorem levelTells_c (ns : List Nat) (x : Bool) (hns : ns.length < 9223372036854775808) (hlt : ∀ n ∈ ns, n < 115792089237316195423570985008687907853269984665640564039457584007913129639936) : Pure Try.prog 8 [vecU ns x] (.bool true) := by
  refine pure_ac ?_ (cleans_cons (clean_vecU _ _) cleans_nil) (.bool _)
  unfold vecU
  have hw := wakes3_c
  have hnum := num3_c
  (refine enter Try.func8 Try.results8 Try.ntmps8 ty_ok (hw := fun F hF => ?_); simp only [List.length_cons, List.length_nil, Nat.reduceAdd, Nat.reduceSub, List.replicate_succ, List.replicate_zero, List.cons_append, List.nil_append]; apply hF; clear hF F)
  refine wk ?_
  refine aw_loopI (fun (i : Nat) => ⟨((.vec (fl ns) ns.length x) :: .any :: (.bool false) :: (.int .i64 i) :: .any :: .any :: .any :: .any :: .any :: .any :: .any :: .any :: .any :: .any :: .any :: .any :: .any :: .any :: .any :: .any :: .any :: .any :: .any :: .any :: .any :: .any :: .any :: .any :: .any :: .any :: .any :: .any :: .any :: .any :: .any :: .any :: .any :: .any :: .any :: .any :: .any :: .any :: .any :: .any :: .any :: .any :: .any :: .any :: .any :: .any :: .any :: .any :: .any :: .any :: .any :: .any :: .any :: .any :: .any :: .any :: .any :: .any :: .any :: .any :: .any :: .any :: .any :: .any :: .any :: .any :: .any :: .any :: .any :: .any :: .any :: .any :: .any :: .any :: .any :: .any :: .any :: .any :: .any :: .any :: .any :: .any :: .any :: .any :: .any :: .any :: .any :: .any :: .any :: .any :: .any :: .any :: .any :: .any :: []), []⟩) (fun i => i ≤ ns.length ∧ i ≤ 15) (fun i => 15 - i) 0 (by omega) (wkt []) ?_
  rintro i ⟨hi, hi8⟩ K hK
  by_cases h1 : i < ns.length
  · by_cases h2 : i < 15
    · have hmi := hlt ns[i] (List.getElem_mem h1)
      have b1 := lvN_bd hmi
      have r1 := rlevel_c ns[i] hmi
      have r0 := level_c ns[i] hmi
      have c1 := double_c ns[i] hmi
      have c2 := radd_c ns[i] ns[i] hmi hmi
      obtain ⟨a, e, bb, e1, e2, e3⟩ : ∃ a e bb, sumV ns[i] ns[i] = ue a e ∧ rsumV ns[i] ns[i] = ub a bb ∧ ((e = 0 ∧ bb = true) ∨ (e = 8 ∧ bb = false)) := by
        unfold sumV rsumV
        by_cases hs : ns[i] + ns[i] < 115792089237316195423570985008687907853269984665640564039457584007913129639936
        · rw [if_pos hs, if_pos hs]; exact ⟨_, _, _, rfl, rfl, .inl ⟨rfl, rfl⟩⟩
        · rw [if_neg hs, if_neg hs]; exact ⟨_, _, _, rfl, rfl, .inr ⟨rfl, rfl⟩⟩
      rw [e1] at c1; rw [e2] at c2
      obtain ⟨A, hA⟩ : ∃ A, lvN ns[i] = A := ⟨_, rfl⟩
      rw [hA] at r1 r0 b1
      rcases e3 with ⟨rfl, rfl⟩ | ⟨rfl, rfl⟩
      · refine wk ?_
        refine aw_loopI (fun (k : Nat) => ⟨((.vec (fl ns) ns.length x) :: .any :: (.bool false) :: (.int .i64 i) :: .any :: .any :: .any :: .any :: (.int .i64 k) :: .any :: .any :: .any :: .any :: .any :: .any :: .any :: .any :: .any :: .any :: .any :: .any :: .any :: .any :: .any :: .any :: .any :: .any :: .any :: .any :: .any :: .any :: .any :: .any :: .any :: .any :: .any :: .any :: .any :: .any :: .any :: .any :: .any :: .any :: .any :: .any :: .any :: .any :: .any :: .any :: .any :: .any :: .any :: .any :: .any :: .any :: .any :: .any :: .any :: .any :: .any :: .any :: .any :: .any :: .any :: .any :: .any :: .any :: .any :: .any :: .any :: .any :: .any :: .any :: .any :: .any :: .any :: .any :: .any :: .any :: .any :: .any :: .any :: .any :: .any :: .any :: .any :: .any :: .any :: .any :: .any :: .any :: .any :: .any :: .any :: .any :: .any :: .any :: .any :: []), []⟩) (fun k => k ≤ i) (fun k => i - k) 0 (by omega) (wkt []) ?_
        intro k hk K2 hK2
        by_cases h3 : k < i
        · have hkl : k < ns.length := by omega
          have hmk := hlt ns[k] (List.getElem_mem hkl)
          have b2 := lvN_bd hmk
          have d2 := dist_c ns[i] ns[k] hmi hmk
          have r2 := rlevel_c ns[k] hmk
          obtain ⟨B, hB⟩ : ∃ B, lvN ns[k] = B := ⟨_, rfl⟩
          rw [hA, hB] at d2
          rw [hB] at r2 b2
          refine wk ?_
          exact hK2 _ (k + 1) (by omega) (wkt []) (by omega)
        · refine wk ?_
          exact hK _ (i + 1) (by omega) (wkt []) (by omega)
      · refine wk ?_
        refine aw_loopI (fun (k : Nat) => ⟨((.vec (fl ns) ns.length x) :: .any :: (.bool false) :: (.int .i64 i) :: .any :: .any :: .any :: .any :: (.int .i64 k) :: .any :: .any :: .any :: .any :: .any :: .any :: .any :: .any :: .any :: .any :: .any :: .any :: .any :: .any :: .any :: .any :: .any :: .any :: .any :: .any :: .any :: .any :: .any :: .any :: .any :: .any :: .any :: .any :: .any :: .any :: .any :: .any :: .any :: .any :: .any :: .any :: .any :: .any :: .any :: .any :: .any :: .any :: .any :: .any :: .any :: .any :: .any :: .any :: .any :: .any :: .any :: .any :: .any :: .any :: .any :: .any :: .any :: .any :: .any :: .any :: .any :: .any :: .any :: .any :: .any :: .any :: .any :: .any :: .any :: .any :: .any :: .any :: .any :: .any :: .any :: .any :: .any :: .any :: .any :: .any :: .any :: .any :: .any :: .any :: .any :: .any :: .any :: .any :: .any :: []), []⟩) (fun k => k ≤ i) (fun k => i - k) 0 (by omega) (wkt []) ?_
        intro k hk K2 hK2
        by_cases h3 : k < i
        · have hkl : k < ns.length := by omega
          have hmk := hlt ns[k] (List.getElem_mem hkl)
          have b2 := lvN_bd hmk
          have d2 := dist_c ns[i] ns[k] hmi hmk
          have r2 := rlevel_c ns[k] hmk
          obtain ⟨B, hB⟩ : ∃ B, lvN ns[k] = B := ⟨_, rfl⟩
          rw [hA, hB] at d2
          rw [hB] at r2 b2
          refine wk ?_
          exact hK2 _ (k + 1) (by omega) (wkt []) (by omega)
        · refine wk ?_
          exact hK _ (i + 1) (by omega) (wkt []) (by omega)
    · refine wk ?_
      refine fin ?_
      rfl
  · refine wk ?_
    refine fin ?_
    rfl
end Go.Abs
