/- The law RankOrders: the walk. -/
import Derived.Test.YtpaehjjkfjgfiaaR5
set_option linter.unusedVariables false
set_option linter.unusedSimpArgs false
namespace Go.Abs
open Go Go.Proofs

set_option maxHeartbeats 20000000 in
theorem rankOrders_c (ns : List RAsk) (x : Bool) (hns : ns.length < 9223372036854775808) (hok : ∀ n ∈ ns, n.ok) : Pure Try.prog 4 [vecR ns x] (.bool true) := by
  refine pure_ac ?_ (cleans_cons (clean_vecR _ _) cleans_nil) (.bool _)
  unfold vecR
  have hw := wakes12_c
  have hnum := num12_c
  (refine enter Try.func4 Try.results4 Try.ntmps4 ty_ok (hw := fun F hF => ?_); simp only [List.length_cons, List.length_nil, Nat.reduceAdd, Nat.reduceSub, List.replicate_succ, List.replicate_zero, List.cons_append, List.nil_append]; apply hF; clear hF F)
  refine wk ?_
  refine aw_loopI (fun (i : Nat) => ⟨((.vec (flat raskc ns) ns.length x) :: .any :: (.bool false) :: (.int .i64 i) :: .any :: .any :: .any :: .any :: .any :: .any :: .any :: .any :: .any :: .any :: .any :: .any :: .any :: .any :: .any :: .any :: .any :: .any :: .any :: .any :: .any :: .any :: .any :: .any :: .any :: .any :: .any :: .any :: .any :: .any :: .any :: .any :: .any :: .any :: .any :: .any :: .any :: .any :: .any :: .any :: .any :: .any :: .any :: .any :: .any :: .any :: .any :: .any :: .any :: .any :: .any :: .any :: .any :: .any :: .any :: .any :: .any :: .any :: .any :: .any :: .any :: .any :: .any :: .any :: .any :: .any :: .any :: .any :: .any :: .any :: .any :: .any :: .any :: .any :: .any :: .any :: .any :: []), []⟩) (fun i => i ≤ ns.length ∧ i ≤ 10) (fun i => 10 - i) 0 (by omega) (wkt []) ?_
  rintro i ⟨hi, hi8⟩ K hK
  by_cases h1 : i < ns.length
  · by_cases h2 : i < 10
    · have o := hok ns[i] (List.getElem_mem h1)
      have c1 := rkcmp_c ns[i].rd ns[i].rt ns[i].sd ns[i].st o.rt o.st
      have c2 := rkcmp_c ns[i].sd ns[i].st ns[i].rd ns[i].rt o.st o.rt
      have d1 := rrkcmp_c ns[i].rd ns[i].rt ns[i].sd ns[i].st o.rt o.st
      have e1 := rkcheck_c ns[i].rd ns[i].rt
      have e2 := rrank_c ns[i].rd ns[i].rt
      rw [rcmp_turn] at c2
      have bx := rcmp_bd ns[i].rd ns[i].rt ns[i].sd ns[i].st
      obtain ⟨X, hX⟩ : ∃ X, rcmp ns[i].rd ns[i].rt ns[i].sd ns[i].st = X := ⟨_, rfl⟩
      rw [hX] at c1 c2 d1 bx
      refine wk ?_
      refine aw_join2 (fun (_ : Unit) => ⟨((.vec (flat raskc ns) ns.length x) :: .any :: (.bool false) :: (.int .i64 i) :: (.ptr 0 0) :: (.ptr 1 0) :: .any :: .any :: .any :: .any :: .any :: .any :: .any :: .any :: .any :: .any :: .any :: .any :: .any :: .any :: .any :: .any :: .any :: .any :: .any :: .any :: .any :: .any :: .any :: .any :: .any :: .any :: .any :: .any :: .any :: .any :: .any :: .any :: .any :: .any :: .any :: .any :: .any :: .any :: .any :: .any :: .any :: .any :: .any :: .any :: .any :: .any :: .any :: .any :: .any :: .any :: .any :: .any :: .any :: .any :: .any :: .any :: .any :: .any :: .any :: .any :: .any :: .any :: .any :: .any :: .any :: .any :: .any :: .any :: .any :: .any :: .any :: .any :: .any :: .any :: .any :: []), [.live [.int .i64 ns[i].rd, .int .u64 (lb ns[i].rt 0), .int .u64 (lb ns[i].rt 1), .int .u64 (lb ns[i].rt 2), .int .u64 (lb ns[i].rt 3)], .live [.int .i64 ns[i].sd, .int .u64 (lb ns[i].st 0), .int .u64 (lb ns[i].st 1), .int .u64 (lb ns[i].st 2), .int .u64 (lb ns[i].st 3)]]⟩) (fun _ => True) (fun K3 hK3 => ?_) (fun _ _ => ?_)
      · (refine aw_drawN ty_ok pureL [[0, 1, 2, 3, 4, 5, 6, 7, 8, 9, 10, 11, 12, 13], [0, 1, 2, 3, 4, 5, 6, 7, 8, 9, 11, 10, 12, 13]] (by kernel_rfl) (by repeat (first | exact List.forall_mem_nil _ | refine List.forall_mem_cons.2 ⟨rfl, ?_⟩)) ?_; simp only [List.forall_mem_cons, List.forall_mem_nil, and_true, List.not_mem_nil, false_implies, implies_true, pk, List.map_cons, List.map_nil, List.getD_cons_zero, List.getD_cons_succ])
        refine ⟨?_, ?_⟩
        · refine wk ?_
          exact hK3 _ () trivial (wkt [0, 1])
        · refine wk ?_
          exact hK3 _ () trivial (wkt [1, 0])
      have hb2 : (if ns[i].rd < -4096 ∨ 0 < ns[i].rd then (1 : Int) else 0) = if decide (-4096 ≤ ns[i].rd ∧ ns[i].rd ≤ 0) = true then 0 else 1 := by
        by_cases h : -4096 ≤ ns[i].rd ∧ ns[i].rd ≤ 0
        · rw [decide_eq_true h, if_neg (by omega), if_pos rfl]
        · rw [decide_eq_false h, if_pos (by omega), if_neg (by simp)]
      rw [hb2] at e1
      obtain ⟨B, hB⟩ : ∃ B, decide (-4096 ≤ ns[i].rd ∧ ns[i].rd ≤ 0) = B := ⟨_, rfl⟩
      rw [hB] at e1 e2
      clear hb2 hB
      refine aw_seq ?_
      refine aw_join2 (fun (_ : Unit) => ⟨((.vec (flat raskc ns) ns.length x) :: .any :: (.bool false) :: (.int .i64 i) :: (.ptr 0 0) :: (.ptr 1 0) :: .any :: .any :: .any :: .any :: .any :: .any :: .any :: .any :: .any :: .any :: .any :: .any :: .any :: .any :: .any :: .any :: .any :: .any :: .any :: .any :: .any :: .any :: .any :: .any :: .any :: .any :: .any :: .any :: .any :: .any :: .any :: .any :: .any :: .any :: .any :: .any :: .any :: .any :: .any :: .any :: .any :: .any :: .any :: .any :: .any :: .any :: .any :: .any :: .any :: .any :: .any :: .any :: .any :: .any :: .any :: .any :: .any :: .any :: .any :: .any :: .any :: .any :: .any :: .any :: .any :: .any :: .any :: .any :: .any :: .any :: .any :: .any :: .any :: .any :: .any :: []), [.live [.int .i64 ns[i].rd, .int .u64 (lb ns[i].rt 0), .int .u64 (lb ns[i].rt 1), .int .u64 (lb ns[i].rt 2), .int .u64 (lb ns[i].rt 3)], .live [.int .i64 ns[i].sd, .int .u64 (lb ns[i].st 0), .int .u64 (lb ns[i].st 1), .int .u64 (lb ns[i].st 2), .int .u64 (lb ns[i].st 3)]]⟩) (fun _ => True) (fun K3 hK3 => ?_) (fun _ _ => ?_)
      · cases B with
        | true =>
          rw [if_pos rfl] at e1
          refine wk ?_
          exact hK3 _ () trivial (wkt [0, 1])
        | false =>
          rw [if_neg (by simp)] at e1
          refine wk ?_
          exact hK3 _ () trivial (wkt [0, 1])
      clear e1 e2 c2 d1
      refine wk ?_
      refine aw_loopI (fun (k : Nat) => ⟨((.vec (flat raskc ns) ns.length x) :: .any :: (.bool false) :: (.int .i64 i) :: (.ptr 0 0) :: (.ptr 1 0) :: (.int .i64 k) :: .any :: .any :: .any :: .any :: .any :: .any :: .any :: .any :: .any :: .any :: .any :: .any :: .any :: .any :: .any :: .any :: .any :: .any :: .any :: .any :: .any :: .any :: .any :: .any :: .any :: .any :: .any :: .any :: .any :: .any :: .any :: .any :: .any :: .any :: .any :: .any :: .any :: .any :: .any :: .any :: .any :: .any :: .any :: .any :: .any :: .any :: .any :: .any :: .any :: .any :: .any :: .any :: .any :: .any :: .any :: .any :: .any :: .any :: .any :: .any :: .any :: .any :: .any :: .any :: .any :: .any :: .any :: .any :: .any :: .any :: .any :: .any :: .any :: .any :: []), [.live [.int .i64 ns[i].rd, .int .u64 (lb ns[i].rt 0), .int .u64 (lb ns[i].rt 1), .int .u64 (lb ns[i].rt 2), .int .u64 (lb ns[i].rt 3)], .live [.int .i64 ns[i].sd, .int .u64 (lb ns[i].st 0), .int .u64 (lb ns[i].st 1), .int .u64 (lb ns[i].st 2), .int .u64 (lb ns[i].st 3)]]⟩) (fun k => k ≤ i) (fun k => i - k) 0 (by omega) (wkt [0, 1]) ?_
      intro k hk K2 hK2
      by_cases h3 : k < i
      · have hkl : k < ns.length := by omega
        have p := hok ns[k] (List.getElem_mem hkl)
        have f1 := rkcmp_c ns[i].sd ns[i].st ns[k].rd ns[k].rt o.st p.rt
        have f2 := rkcmp_c ns[i].rd ns[i].rt ns[k].rd ns[k].rt o.rt p.rt
        have htr : X ≤ 0 → rcmp ns[i].sd ns[i].st ns[k].rd ns[k].rt ≤ 0 → rcmp ns[i].rd ns[i].rt ns[k].rd ns[k].rt ≤ 0 := by rw [← hX]; exact rcmp_trans
        obtain ⟨Y, hY⟩ : ∃ Y, rcmp ns[i].sd ns[i].st ns[k].rd ns[k].rt = Y := ⟨_, rfl⟩
        obtain ⟨Z, hZ⟩ : ∃ Z, rcmp ns[i].rd ns[i].rt ns[k].rd ns[k].rt = Z := ⟨_, rfl⟩
        rw [hY, hZ] at htr
        rw [hY] at f1
        rw [hZ] at f2
        clear hX hY hZ
        refine wk ?_
        (refine aseq_fx (fun F hF => ?_); simp only [List.drop_succ_cons, List.drop_zero, List.take_succ_cons, List.take_zero, splice, List.set_cons_succ, List.set_cons_zero]; apply hF; clear hF F)
        by_cases hx : X ≤ 0
        · by_cases hy : Y ≤ 0
          · have hz := htr hx hy
            refine wk ?_
            exact hK2 _ (k + 1) (by omega) (wkt [0, 1]) (by omega)
          · refine wk ?_
            exact hK2 _ (k + 1) (by omega) (wkt [0, 1]) (by omega)
        · refine wk ?_
          exact hK2 _ (k + 1) (by omega) (wkt [0, 1]) (by omega)
      · refine wk ?_
        exact hK _ (i + 1) (by omega) (wkt []) (by omega)
    · refine wk ?_
      refine fin ?_
      rfl
  · refine wk ?_
    refine fin ?_
    rfl
end Go.Abs
