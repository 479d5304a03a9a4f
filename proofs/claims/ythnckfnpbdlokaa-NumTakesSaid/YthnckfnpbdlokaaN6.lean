/- The laws of layer 1 on sums, differences and which is greater: the walks. -/
import Derived.Test.YthnckfnpbdlokaaN5
set_option linter.unusedVariables false
set_option linter.unusedSimpArgs false
namespace Go.Abs
open Go Go.Proofs

set_option maxHeartbeats 20000000 in
theorem pairs0_c (ns : List Nat) (x : Bool) (hns : ns.length < 9223372036854775808) (hlt : ∀ n ∈ ns, n < 115792089237316195423570985008687907853269984665640564039457584007913129639936) : Pure Try.prog 43 [vecU ns x, .int .i64 0] (.bool true) := by
  refine pure_ac ?_ (cleans_cons (clean_vecU _ _) (cleans_cons (.int _ _) cleans_nil)) (.bool _)
  have hall := all_c ns x hns
  have hm := alls_lt hlt
  have hml := alls_len ns
  generalize alls ns = m at hall hm hml
  unfold vecU at hall ⊢
  have hw := wakes1_c
  (refine enter Try.func43 Try.results43 Try.ntmps43 ty_ok (hw := fun F hF => ?_); simp only [List.length_cons, List.length_nil, Nat.reduceAdd, Nat.reduceSub, List.replicate_succ, List.replicate_zero, List.cons_append, List.nil_append]; apply hF; clear hF F)
  refine wk ?_
  refine aw_loopI (fun (i : Nat) => ⟨(.any :: (.int .i64 0) :: .any :: .any :: (.bool false) :: (.vec (fl m) m.length false) :: (.int .i64 i) :: .any :: .any :: .any :: .any :: .any :: .any :: .any :: .any :: .any :: .any :: .any :: .any :: .any :: .any :: .any :: .any :: .any :: .any :: .any :: .any :: .any :: .any :: .any :: .any :: .any :: .any :: .any :: .any :: .any :: .any :: .any :: .any :: .any :: .any :: .any :: .any :: .any :: .any :: .any :: .any :: .any :: .any :: .any :: .any :: .any :: .any :: .any :: .any :: .any :: .any :: .any :: .any :: .any :: .any :: .any :: .any :: .any :: .any :: .any :: .any :: .any :: .any :: .any :: .any :: .any :: .any :: .any :: .any :: .any :: .any :: .any :: .any :: .any :: .any :: .any :: .any :: .any :: .any :: .any :: .any :: .any :: .any :: .any :: .any :: .any :: .any :: .any :: .any :: .any :: .any :: .any :: .any :: .any :: .any :: .any :: .any :: .any :: .any :: .any :: .any :: .any :: .any :: .any :: .any :: .any :: .any :: .any :: .any :: .any :: .any :: .any :: .any :: .any :: .any :: .any :: .any :: .any :: .any :: .any :: .any :: .any :: .any :: .any :: .any :: .any :: .any :: .any :: .any :: .any :: .any :: .any :: .any :: .any :: []), []⟩) (fun i => i ≤ m.length) (fun i => m.length - i) 0 (by omega) (wkt []) ?_
  intro i hi K hK
  by_cases h1 : i < m.length
  · have hmi := hm m[i] (List.getElem_mem h1)
    refine wk ?_
    refine aw_loopI (fun (k : Nat) => ⟨(.any :: (.int .i64 0) :: .any :: .any :: (.bool false) :: (.vec (fl m) m.length false) :: (.int .i64 i) :: (.int .i64 k) :: .any :: .any :: .any :: .any :: .any :: .any :: .any :: .any :: .any :: .any :: .any :: .any :: .any :: .any :: .any :: .any :: .any :: .any :: .any :: .any :: .any :: .any :: .any :: .any :: .any :: .any :: .any :: .any :: .any :: .any :: .any :: .any :: .any :: .any :: .any :: .any :: .any :: .any :: .any :: .any :: .any :: .any :: .any :: .any :: .any :: .any :: .any :: .any :: .any :: .any :: .any :: .any :: .any :: .any :: .any :: .any :: .any :: .any :: .any :: .any :: .any :: .any :: .any :: .any :: .any :: .any :: .any :: .any :: .any :: .any :: .any :: .any :: .any :: .any :: .any :: .any :: .any :: .any :: .any :: .any :: .any :: .any :: .any :: .any :: .any :: .any :: .any :: .any :: .any :: .any :: .any :: .any :: .any :: .any :: .any :: .any :: .any :: .any :: .any :: .any :: .any :: .any :: .any :: .any :: .any :: .any :: .any :: .any :: .any :: .any :: .any :: .any :: .any :: .any :: .any :: .any :: .any :: .any :: .any :: .any :: .any :: .any :: .any :: .any :: .any :: .any :: .any :: .any :: .any :: .any :: .any :: .any :: []), []⟩) (fun k => k ≤ m.length) (fun k => m.length - k) 0 (by omega) (wkt []) ?_
    intro k hk K2 hK2
    by_cases h2 : k < m.length
    · have hmk := hm m[k] (List.getElem_mem h2)
      have c1 := add_c m[i] m[k] hmi hmk
      have c2 := radd_c m[i] m[k] hmi hmk
      obtain ⟨a, e, w, b, e1, e2, c3⟩ := told_sum m[i] m[k]
      rw [e1] at c1; rw [e2] at c2
      refine wk ?_
      exact hK2 _ (k + 1) (by omega) (wkt []) (by omega)
    · refine wk ?_
      exact hK _ (i + 1) (by omega) (wkt []) (by omega)
  · refine wk ?_
    refine fin ?_
    rfl
set_option maxHeartbeats 20000000 in
theorem pairs1_c (ns : List Nat) (x : Bool) (hns : ns.length < 9223372036854775808) (hlt : ∀ n ∈ ns, n < 115792089237316195423570985008687907853269984665640564039457584007913129639936) : Pure Try.prog 43 [vecU ns x, .int .i64 1] (.bool true) := by
  refine pure_ac ?_ (cleans_cons (clean_vecU _ _) (cleans_cons (.int _ _) cleans_nil)) (.bool _)
  have hall := all_c ns x hns
  have hm := alls_lt hlt
  have hml := alls_len ns
  generalize alls ns = m at hall hm hml
  unfold vecU at hall ⊢
  have hw := wakes1_c
  (refine enter Try.func43 Try.results43 Try.ntmps43 ty_ok (hw := fun F hF => ?_); simp only [List.length_cons, List.length_nil, Nat.reduceAdd, Nat.reduceSub, List.replicate_succ, List.replicate_zero, List.cons_append, List.nil_append]; apply hF; clear hF F)
  refine wk ?_
  refine aw_loopI (fun (i : Nat) => ⟨(.any :: (.int .i64 1) :: .any :: .any :: (.bool false) :: (.vec (fl m) m.length false) :: (.int .i64 i) :: .any :: .any :: .any :: .any :: .any :: .any :: .any :: .any :: .any :: .any :: .any :: .any :: .any :: .any :: .any :: .any :: .any :: .any :: .any :: .any :: .any :: .any :: .any :: .any :: .any :: .any :: .any :: .any :: .any :: .any :: .any :: .any :: .any :: .any :: .any :: .any :: .any :: .any :: .any :: .any :: .any :: .any :: .any :: .any :: .any :: .any :: .any :: .any :: .any :: .any :: .any :: .any :: .any :: .any :: .any :: .any :: .any :: .any :: .any :: .any :: .any :: .any :: .any :: .any :: .any :: .any :: .any :: .any :: .any :: .any :: .any :: .any :: .any :: .any :: .any :: .any :: .any :: .any :: .any :: .any :: .any :: .any :: .any :: .any :: .any :: .any :: .any :: .any :: .any :: .any :: .any :: .any :: .any :: .any :: .any :: .any :: .any :: .any :: .any :: .any :: .any :: .any :: .any :: .any :: .any :: .any :: .any :: .any :: .any :: .any :: .any :: .any :: .any :: .any :: .any :: .any :: .any :: .any :: .any :: .any :: .any :: .any :: .any :: .any :: .any :: .any :: .any :: .any :: .any :: .any :: .any :: .any :: .any :: []), []⟩) (fun i => i ≤ m.length) (fun i => m.length - i) 0 (by omega) (wkt []) ?_
  intro i hi K hK
  by_cases h1 : i < m.length
  · have hmi := hm m[i] (List.getElem_mem h1)
    refine wk ?_
    refine aw_loopI (fun (k : Nat) => ⟨(.any :: (.int .i64 1) :: .any :: .any :: (.bool false) :: (.vec (fl m) m.length false) :: (.int .i64 i) :: (.int .i64 k) :: .any :: .any :: .any :: .any :: .any :: .any :: .any :: .any :: .any :: .any :: .any :: .any :: .any :: .any :: .any :: .any :: .any :: .any :: .any :: .any :: .any :: .any :: .any :: .any :: .any :: .any :: .any :: .any :: .any :: .any :: .any :: .any :: .any :: .any :: .any :: .any :: .any :: .any :: .any :: .any :: .any :: .any :: .any :: .any :: .any :: .any :: .any :: .any :: .any :: .any :: .any :: .any :: .any :: .any :: .any :: .any :: .any :: .any :: .any :: .any :: .any :: .any :: .any :: .any :: .any :: .any :: .any :: .any :: .any :: .any :: .any :: .any :: .any :: .any :: .any :: .any :: .any :: .any :: .any :: .any :: .any :: .any :: .any :: .any :: .any :: .any :: .any :: .any :: .any :: .any :: .any :: .any :: .any :: .any :: .any :: .any :: .any :: .any :: .any :: .any :: .any :: .any :: .any :: .any :: .any :: .any :: .any :: .any :: .any :: .any :: .any :: .any :: .any :: .any :: .any :: .any :: .any :: .any :: .any :: .any :: .any :: .any :: .any :: .any :: .any :: .any :: .any :: .any :: .any :: .any :: .any :: .any :: []), []⟩) (fun k => k ≤ m.length) (fun k => m.length - k) 0 (by omega) (wkt []) ?_
    intro k hk K2 hK2
    by_cases h2 : k < m.length
    · have hmk := hm m[k] (List.getElem_mem h2)
      have c1 := sub_c m[i] m[k] hmi hmk
      have c2 := rsub_c m[i] m[k] hmi hmk
      obtain ⟨a, e, w, b, e1, e2, c3⟩ := told_diff m[i] m[k]
      rw [e1] at c1; rw [e2] at c2
      refine wk ?_
      exact hK2 _ (k + 1) (by omega) (wkt []) (by omega)
    · refine wk ?_
      exact hK _ (i + 1) (by omega) (wkt []) (by omega)
  · refine wk ?_
    refine fin ?_
    rfl
set_option maxHeartbeats 20000000 in
theorem pairs2_c (ns : List Nat) (x : Bool) (hns : ns.length < 9223372036854775808) (hlt : ∀ n ∈ ns, n < 115792089237316195423570985008687907853269984665640564039457584007913129639936) : Pure Try.prog 43 [vecU ns x, .int .i64 2] (.bool true) := by
  refine pure_ac ?_ (cleans_cons (clean_vecU _ _) (cleans_cons (.int _ _) cleans_nil)) (.bool _)
  have hall := all_c ns x hns
  have hm := alls_lt hlt
  have hml := alls_len ns
  generalize alls ns = m at hall hm hml
  unfold vecU at hall ⊢
  have hw := wakes1_c
  (refine enter Try.func43 Try.results43 Try.ntmps43 ty_ok (hw := fun F hF => ?_); simp only [List.length_cons, List.length_nil, Nat.reduceAdd, Nat.reduceSub, List.replicate_succ, List.replicate_zero, List.cons_append, List.nil_append]; apply hF; clear hF F)
  refine wk ?_
  refine aw_loopI (fun (i : Nat) => ⟨(.any :: (.int .i64 2) :: .any :: .any :: (.bool false) :: (.vec (fl m) m.length false) :: (.int .i64 i) :: .any :: .any :: .any :: .any :: .any :: .any :: .any :: .any :: .any :: .any :: .any :: .any :: .any :: .any :: .any :: .any :: .any :: .any :: .any :: .any :: .any :: .any :: .any :: .any :: .any :: .any :: .any :: .any :: .any :: .any :: .any :: .any :: .any :: .any :: .any :: .any :: .any :: .any :: .any :: .any :: .any :: .any :: .any :: .any :: .any :: .any :: .any :: .any :: .any :: .any :: .any :: .any :: .any :: .any :: .any :: .any :: .any :: .any :: .any :: .any :: .any :: .any :: .any :: .any :: .any :: .any :: .any :: .any :: .any :: .any :: .any :: .any :: .any :: .any :: .any :: .any :: .any :: .any :: .any :: .any :: .any :: .any :: .any :: .any :: .any :: .any :: .any :: .any :: .any :: .any :: .any :: .any :: .any :: .any :: .any :: .any :: .any :: .any :: .any :: .any :: .any :: .any :: .any :: .any :: .any :: .any :: .any :: .any :: .any :: .any :: .any :: .any :: .any :: .any :: .any :: .any :: .any :: .any :: .any :: .any :: .any :: .any :: .any :: .any :: .any :: .any :: .any :: .any :: .any :: .any :: .any :: .any :: .any :: []), []⟩) (fun i => i ≤ m.length) (fun i => m.length - i) 0 (by omega) (wkt []) ?_
  intro i hi K hK
  by_cases h1 : i < m.length
  · have hmi := hm m[i] (List.getElem_mem h1)
    refine wk ?_
    refine aw_loopI (fun (k : Nat) => ⟨(.any :: (.int .i64 2) :: .any :: .any :: (.bool false) :: (.vec (fl m) m.length false) :: (.int .i64 i) :: (.int .i64 k) :: .any :: .any :: .any :: .any :: .any :: .any :: .any :: .any :: .any :: .any :: .any :: .any :: .any :: .any :: .any :: .any :: .any :: .any :: .any :: .any :: .any :: .any :: .any :: .any :: .any :: .any :: .any :: .any :: .any :: .any :: .any :: .any :: .any :: .any :: .any :: .any :: .any :: .any :: .any :: .any :: .any :: .any :: .any :: .any :: .any :: .any :: .any :: .any :: .any :: .any :: .any :: .any :: .any :: .any :: .any :: .any :: .any :: .any :: .any :: .any :: .any :: .any :: .any :: .any :: .any :: .any :: .any :: .any :: .any :: .any :: .any :: .any :: .any :: .any :: .any :: .any :: .any :: .any :: .any :: .any :: .any :: .any :: .any :: .any :: .any :: .any :: .any :: .any :: .any :: .any :: .any :: .any :: .any :: .any :: .any :: .any :: .any :: .any :: .any :: .any :: .any :: .any :: .any :: .any :: .any :: .any :: .any :: .any :: .any :: .any :: .any :: .any :: .any :: .any :: .any :: .any :: .any :: .any :: .any :: .any :: .any :: .any :: .any :: .any :: .any :: .any :: .any :: .any :: .any :: .any :: .any :: .any :: []), []⟩) (fun k => k ≤ m.length) (fun k => m.length - k) 0 (by omega) (wkt []) ?_
    intro k hk K2 hK2
    by_cases h2 : k < m.length
    · have hmk := hm m[k] (List.getElem_mem h2)
      have c1 := cmp_c m[i] m[k] hmi hmk
      have c2 := rcmp_c m[i] m[k] hmi hmk
      have c3 := cmp_c m[k] m[i] hmk hmi
      have hneg : cmpN m[i] m[k] = 0 - cmpN m[k] m[i] := by unfold cmpN; split <;> split <;> (try split) <;> omega
      have hr : -1 ≤ cmpN m[k] m[i] ∧ cmpN m[k] m[i] ≤ 1 := by unfold cmpN; split <;> (try split) <;> omega
      rw [hneg] at c1 c2
      generalize cmpN m[k] m[i] = g at c1 c2 c3 hr
      refine wk ?_
      exact hK2 _ (k + 1) (by omega) (wkt []) (by omega)
    · refine wk ?_
      exact hK _ (i + 1) (by omega) (wkt []) (by omega)
  · refine wk ?_
    refine fin ?_
    rfl
set_option maxHeartbeats 20000000 in
theorem numSums_c (ns : List Nat) (x : Bool) (hns : ns.length < 9223372036854775808) (hlt : ∀ n ∈ ns, n < 115792089237316195423570985008687907853269984665640564039457584007913129639936) : Pure Try.prog 10 [vecU ns x] (.bool true) := by
  refine pure_ac ?_ (cleans_cons (clean_vecU _ _) cleans_nil) (.bool _)
  have hall := all_c ns x hns
  have hm := alls_lt hlt
  have hml := alls_len ns
  generalize alls ns = m at hall hm hml
  unfold vecU at hall ⊢
  have hw := wakes1_c
  (refine enter Try.func10 Try.results10 Try.ntmps10 ty_ok (hw := fun F hF => ?_); simp only [List.length_cons, List.length_nil, Nat.reduceAdd, Nat.reduceSub, List.replicate_succ, List.replicate_zero, List.cons_append, List.nil_append]; apply hF; clear hF F)
  refine wk ?_
  refine aw_loopI (fun (i : Nat) => ⟨(.any :: .any :: (.bool false) :: (.vec (fl m) m.length false) :: (.int .i64 i) :: .any :: .any :: .any :: .any :: .any :: .any :: .any :: .any :: .any :: .any :: .any :: .any :: .any :: .any :: .any :: .any :: .any :: .any :: .any :: .any :: .any :: .any :: .any :: .any :: .any :: .any :: .any :: .any :: .any :: .any :: .any :: .any :: .any :: .any :: .any :: .any :: .any :: .any :: .any :: .any :: .any :: .any :: .any :: .any :: .any :: .any :: .any :: .any :: .any :: .any :: .any :: .any :: .any :: .any :: .any :: .any :: .any :: .any :: .any :: .any :: .any :: .any :: .any :: .any :: .any :: .any :: .any :: .any :: .any :: .any :: .any :: .any :: .any :: .any :: .any :: .any :: .any :: .any :: .any :: .any :: .any :: .any :: .any :: .any :: .any :: .any :: .any :: .any :: .any :: .any :: .any :: .any :: .any :: .any :: .any :: .any :: .any :: .any :: .any :: .any :: .any :: .any :: .any :: .any :: .any :: .any :: .any :: []), []⟩) (fun i => i ≤ m.length) (fun i => m.length - i) 0 (by omega) (wkt []) ?_
  intro i hi K hK
  by_cases h1 : i < m.length
  · have hmi := hm m[i] (List.getElem_mem h1)
    refine wk ?_
    refine aw_loopI (fun (k : Nat) => ⟨(.any :: .any :: (.bool false) :: (.vec (fl m) m.length false) :: (.int .i64 i) :: (.int .i64 k) :: .any :: .any :: .any :: .any :: .any :: .any :: .any :: .any :: .any :: .any :: .any :: .any :: .any :: .any :: .any :: .any :: .any :: .any :: .any :: .any :: .any :: .any :: .any :: .any :: .any :: .any :: .any :: .any :: .any :: .any :: .any :: .any :: .any :: .any :: .any :: .any :: .any :: .any :: .any :: .any :: .any :: .any :: .any :: .any :: .any :: .any :: .any :: .any :: .any :: .any :: .any :: .any :: .any :: .any :: .any :: .any :: .any :: .any :: .any :: .any :: .any :: .any :: .any :: .any :: .any :: .any :: .any :: .any :: .any :: .any :: .any :: .any :: .any :: .any :: .any :: .any :: .any :: .any :: .any :: .any :: .any :: .any :: .any :: .any :: .any :: .any :: .any :: .any :: .any :: .any :: .any :: .any :: .any :: .any :: .any :: .any :: .any :: .any :: .any :: .any :: .any :: .any :: .any :: .any :: .any :: .any :: []), []⟩) (fun k => k ≤ m.length) (fun k => m.length - k) 0 (by omega) (wkt []) ?_
    intro k hk K2 hK2
    by_cases h2 : k < m.length
    · have hmk := hm m[k] (List.getElem_mem h2)
      have c1 := add_c m[i] m[k] hmi hmk
      have c2 := radd_c m[i] m[k] hmi hmk
      obtain ⟨a, e, w, b, e1, e2, c3⟩ := told_sum m[i] m[k]
      rw [e1] at c1; rw [e2] at c2
      have d1 := sub_c m[i] m[k] hmi hmk
      have d2 := rsub_c m[i] m[k] hmi hmk
      obtain ⟨a', e', w', b', e1', e2', d3⟩ := told_diff m[i] m[k]
      rw [e1'] at d1; rw [e2'] at d2
      have g1 := cmp_c m[i] m[k] hmi hmk
      have g2 := rcmp_c m[i] m[k] hmi hmk
      generalize cmpN m[i] m[k] = g at g1 g2
      refine wk ?_
      exact hK2 _ (k + 1) (by omega) (wkt []) (by omega)
    · refine wk ?_
      exact hK _ (i + 1) (by omega) (wkt []) (by omega)
  · refine wk ?_
    refine fin ?_
    rfl
end Go.Abs
