/- The law NumQuotients: the walk. -/
import Derived.Test.YthnckfnpbdlokaaN10
import Derived.Test.YthnckfnpbdlokaaN15
set_option linter.unusedVariables false
set_option linter.unusedSimpArgs false
namespace Go.Abs
open Go Go.Proofs

theorem lbs_zero {n : Nat} (h : n < 115792089237316195423570985008687907853269984665640564039457584007913129639936) : ((lb n 0 : Int) == 0 && ((lb n 1 : Int) == 0 && ((lb n 2 : Int) == 0 && (lb n 3 : Int) == 0))) = decide (n = 0) := by
  have h4 := num4_lb h
  unfold num4 at h4
  rw [Bool.eq_iff_iff]
  simp only [Bool.and_eq_true, beq_iff_eq, decide_eq_true_eq]
  omega
set_option maxHeartbeats 20000000 in
theorem numQuotients_c (ns : List Nat) (x : Bool) (hns : ns.length < 9223372036854775808) (hlt : ∀ n ∈ ns, n < 115792089237316195423570985008687907853269984665640564039457584007913129639936) : Pure Try.prog 14 [vecU ns x] (.bool true) := by
  refine pure_ac ?_ (cleans_cons (clean_vecU _ _) cleans_nil) (.bool _)
  have hall := all_c ns x hns
  have hm := alls_lt hlt
  have hml := alls_len ns
  generalize alls ns = m at hall hm hml
  unfold vecU at hall ⊢
  have hw := wakes1_c
  have hnum := num1_c
  (refine enter Try.func14 Try.results14 Try.ntmps14 ty_ok (hw := fun F hF => ?_); simp only [List.length_cons, List.length_nil, Nat.reduceAdd, Nat.reduceSub, List.replicate_succ, List.replicate_zero, List.cons_append, List.nil_append]; apply hF; clear hF F)
  refine wk ?_
  refine aw_loopI (fun (i : Nat) => ⟨(.any :: .any :: (.bool false) :: (.vec (fl m) m.length false) :: (.int .i64 i) :: .any :: .any :: .any :: .any :: .any :: .any :: .any :: .any :: .any :: .any :: .any :: .any :: .any :: .any :: .any :: .any :: .any :: .any :: .any :: .any :: .any :: .any :: .any :: .any :: .any :: .any :: .any :: .any :: .any :: .any :: .any :: .any :: .any :: .any :: .any :: .any :: .any :: .any :: .any :: .any :: .any :: .any :: .any :: .any :: .any :: .any :: .any :: .any :: .any :: .any :: .any :: .any :: .any :: .any :: .any :: .any :: .any :: .any :: .any :: .any :: .any :: .any :: .any :: .any :: .any :: .any :: .any :: .any :: .any :: .any :: .any :: .any :: .any :: .any :: .any :: .any :: .any :: .any :: []), []⟩) (fun i => i ≤ m.length) (fun i => m.length - i) 0 (by omega) (wkt []) ?_
  intro i hi K hK
  by_cases h1 : i < m.length
  · have hmi := hm m[i] (List.getElem_mem h1)
    refine wk ?_
    refine aw_loopI (fun (k : Nat) => ⟨(.any :: .any :: (.bool false) :: (.vec (fl m) m.length false) :: (.int .i64 i) :: (.int .i64 k) :: .any :: .any :: .any :: .any :: .any :: .any :: .any :: .any :: .any :: .any :: .any :: .any :: .any :: .any :: .any :: .any :: .any :: .any :: .any :: .any :: .any :: .any :: .any :: .any :: .any :: .any :: .any :: .any :: .any :: .any :: .any :: .any :: .any :: .any :: .any :: .any :: .any :: .any :: .any :: .any :: .any :: .any :: .any :: .any :: .any :: .any :: .any :: .any :: .any :: .any :: .any :: .any :: .any :: .any :: .any :: .any :: .any :: .any :: .any :: .any :: .any :: .any :: .any :: .any :: .any :: .any :: .any :: .any :: .any :: .any :: .any :: .any :: .any :: .any :: .any :: .any :: .any :: []), []⟩) (fun k => k ≤ m.length) (fun k => m.length - k) 0 (by omega) (wkt []) ?_
    intro k hk K2 hK2
    by_cases h2 : k < m.length
    · have hmk := hm m[k] (List.getElem_mem h2)
      have c1 := div_c m[i] m[k] hmi hmk
      by_cases h0 : m[k] = 0
      · rw [show divV m[i] m[k] = .tup [uv 0, uv 0, errV 3] from if_pos h0] at c1
        refine wk ?_
        refine aw_join2 (fun (_ : Unit) => ⟨(.any :: .any :: (.bool false) :: (.vec (fl m) m.length false) :: (.int .i64 i) :: (.int .i64 k) :: (.ptr 0 0) :: (.ptr 1 0) :: (errV 3) :: .any :: .any :: .any :: .any :: .any :: .any :: .any :: .any :: .any :: .any :: .any :: .any :: .any :: .any :: .any :: .any :: .any :: .any :: .any :: .any :: .any :: .any :: .any :: .any :: .any :: .any :: .any :: .any :: .any :: .any :: .any :: .any :: .any :: .any :: .any :: .any :: .any :: .any :: .any :: .any :: .any :: .any :: .any :: .any :: .any :: .any :: .any :: .any :: .any :: .any :: .any :: .any :: .any :: .any :: .any :: .any :: .any :: .any :: .any :: .any :: .any :: .any :: .any :: .any :: .any :: .any :: .any :: .any :: .any :: .any :: .any :: .any :: .any :: .any :: []), [.live [.int .u64 0, .int .u64 0, .int .u64 0, .int .u64 0], .live [.int .u64 0, .int .u64 0, .int .u64 0, .int .u64 0]]⟩) (fun _ => True) (fun K3 hK3 => ?_) (fun _ _ => ?_)
        · (refine aw_drawN ty_ok pureL [[0, 1, 2, 3, 4, 5, 6, 7, 8, 9, 10, 11, 12, 13, 14, 15, 16, 17], [0, 1, 2, 3, 4, 5, 6, 7, 8, 9, 10, 11, 12, 14, 13, 15, 16, 17]] (by kernel_rfl) (by repeat (first | exact List.forall_mem_nil _ | refine List.forall_mem_cons.2 ⟨rfl, ?_⟩)) ?_; simp only [List.forall_mem_cons, List.forall_mem_nil, and_true, List.not_mem_nil, false_implies, implies_true, pk, List.map_cons, List.map_nil, List.getD_cons_zero, List.getD_cons_succ])
          refine ⟨?_, ?_⟩
          · refine wk ?_
            exact hK3 _ () trivial (wkt [0, 1])
          · refine wk ?_
            exact hK3 _ () trivial (wkt [1, 0])
        have hz := lbs_zero hmk
        rw [decide_eq_true h0] at hz
        refine wk ?_
        exact hK2 _ (k + 1) (by omega) (wkt []) (by omega)
      · rw [show divV m[i] m[k] = .tup [uv (m[i] / m[k]), uv (m[i] % m[k]), errV 0] from if_neg h0] at c1
        have c2 := rdiv_c m[i] m[k] hmi hmk (Nat.pos_of_ne_zero h0)
        unfold rdivV at c2
        refine wk ?_
        refine aw_join2 (fun (_ : Unit) => ⟨(.any :: .any :: (.bool false) :: (.vec (fl m) m.length false) :: (.int .i64 i) :: (.int .i64 k) :: (.ptr 0 0) :: (.ptr 1 0) :: (errV 0) :: .any :: .any :: .any :: .any :: .any :: .any :: .any :: .any :: .any :: .any :: .any :: .any :: .any :: .any :: .any :: .any :: .any :: .any :: .any :: .any :: .any :: .any :: .any :: .any :: .any :: .any :: .any :: .any :: .any :: .any :: .any :: .any :: .any :: .any :: .any :: .any :: .any :: .any :: .any :: .any :: .any :: .any :: .any :: .any :: .any :: .any :: .any :: .any :: .any :: .any :: .any :: .any :: .any :: .any :: .any :: .any :: .any :: .any :: .any :: .any :: .any :: .any :: .any :: .any :: .any :: .any :: .any :: .any :: .any :: .any :: .any :: .any :: .any :: .any :: []), [.live (uvc (m[i] / m[k])), .live (uvc (m[i] % m[k]))]⟩) (fun _ => True) (fun K3 hK3 => ?_) (fun _ _ => ?_)
        · (refine aw_drawN ty_ok pureL [[0, 1, 2, 3, 4, 5, 6, 7, 8, 9, 10, 11, 12, 13, 14, 15, 16, 17], [0, 1, 2, 3, 4, 5, 6, 7, 8, 9, 10, 11, 12, 14, 13, 15, 16, 17]] (by kernel_rfl) (by repeat (first | exact List.forall_mem_nil _ | refine List.forall_mem_cons.2 ⟨rfl, ?_⟩)) ?_; simp only [List.forall_mem_cons, List.forall_mem_nil, and_true, List.not_mem_nil, false_implies, implies_true, pk, List.map_cons, List.map_nil, List.getD_cons_zero, List.getD_cons_succ])
          refine ⟨?_, ?_⟩
          · refine wk ?_
            exact hK3 _ () trivial (wkt [0, 1])
          · refine wk ?_
            exact hK3 _ () trivial (wkt [1, 0])
        have hz := lbs_zero hmk
        rw [decide_eq_false h0] at hz
        refine wk ?_
        refine aw_join2 (fun (_ : Unit) => ⟨(.any :: .any :: (.bool false) :: (.vec (fl m) m.length false) :: (.int .i64 i) :: (.int .i64 k) :: (.ptr 0 0) :: (.ptr 1 0) :: (errV 0) :: (.ptr 2 0) :: (.ptr 3 0) :: .any :: .any :: .any :: .any :: .any :: .any :: .any :: .any :: .any :: .any :: .any :: .any :: .any :: .any :: .any :: .any :: .any :: .any :: .any :: .any :: .any :: .any :: .any :: .any :: .any :: .any :: .any :: .any :: .any :: .any :: .any :: .any :: .any :: .any :: .any :: .any :: .any :: .any :: .any :: .any :: .any :: .any :: .any :: .any :: .any :: .any :: .any :: .any :: .any :: .any :: .any :: .any :: .any :: .any :: .any :: .any :: .any :: .any :: .any :: .any :: .any :: .any :: .any :: .any :: .any :: .any :: .any :: .any :: .any :: .any :: .any :: .any :: []), [.live (uvc (m[i] / m[k])), .live (uvc (m[i] % m[k])), .live (uvc (m[i] / m[k])), .live (uvc (m[i] % m[k]))]⟩) (fun _ => True) (fun K3 hK3 => ?_) (fun _ _ => ?_)
        · (refine aw_drawN ty_ok pureL [[0, 1, 2, 3, 4, 5, 6, 7, 8, 9, 10, 11, 12, 13, 14, 15], [0, 1, 2, 3, 4, 5, 6, 7, 8, 9, 10, 11, 13, 12, 14, 15]] (by kernel_rfl) (by repeat (first | exact List.forall_mem_nil _ | refine List.forall_mem_cons.2 ⟨rfl, ?_⟩)) ?_; simp only [List.forall_mem_cons, List.forall_mem_nil, and_true, List.not_mem_nil, false_implies, implies_true, pk, List.map_cons, List.map_nil, List.getD_cons_zero, List.getD_cons_succ])
          refine ⟨?_, ?_⟩
          · refine wk ?_
            exact hK3 _ () trivial (wkt [0, 1, 2, 3])
          · refine wk ?_
            exact hK3 _ () trivial (wkt [0, 1, 3, 2])
        refine wk ?_
        exact hK2 _ (k + 1) (by omega) (wkt []) (by omega)
    · refine wk ?_
      exact hK _ (i + 1) (by omega) (wkt []) (by omega)
  · refine wk ?_
    refine fin ?_
    rfl
end Go.Abs
