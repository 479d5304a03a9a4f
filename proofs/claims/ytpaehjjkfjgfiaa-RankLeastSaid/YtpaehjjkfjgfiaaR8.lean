/- The law RankTells: the walk. -/
import Derived.Test.YtpaehjjkfjgfiaaR7
set_option linter.unusedVariables false
set_option linter.unusedSimpArgs false
namespace Go.Abs
open Go Go.Proofs

theorem mayB_true {l : List Tx} {e : Int} (h : mayB l e = true) : 0 < l.length ∧ l.all txOk = true ∧ 0 ≤ e ∧ e ≤ 1099511627776 := by
  unfold mayB at h
  simp only [Bool.and_eq_true, decide_eq_true_eq] at h
  exact ⟨h.1.1, h.1.2, h.2⟩
set_option maxHeartbeats 20000000 in
theorem rankTells_c (ns : List RAsk) (x : Bool) (hns : ns.length < 9223372036854775808) (hok : ∀ n ∈ ns, n.ok) : Pure Try.prog 5 [vecR ns x] (.bool true) := by
  refine pure_ac ?_ (cleans_cons (clean_vecR _ _) cleans_nil) (.bool _)
  unfold vecR
  have hw := wakes12_c
  have hnum := num12_c
  (refine enter Try.func5 Try.results5 Try.ntmps5 ty_ok (hw := fun F hF => ?_); simp only [List.length_cons, List.length_nil, Nat.reduceAdd, Nat.reduceSub, List.replicate_succ, List.replicate_zero, List.cons_append, List.nil_append]; apply hF; clear hF F)
  refine wk ?_
  refine aw_loopI (fun (i : Nat) => ⟨((.vec (flat raskc ns) ns.length x) :: .any :: (.bool false) :: (.int .i64 i) :: .any :: .any :: .any :: .any :: .any :: .any :: .any :: .any :: .any :: .any :: .any :: .any :: .any :: .any :: .any :: .any :: .any :: .any :: .any :: .any :: .any :: .any :: .any :: .any :: .any :: .any :: .any :: .any :: .any :: .any :: .any :: .any :: .any :: .any :: .any :: .any :: .any :: .any :: .any :: .any :: .any :: .any :: .any :: .any :: .any :: .any :: .any :: .any :: .any :: .any :: .any :: .any :: .any :: .any :: .any :: .any :: .any :: .any :: .any :: .any :: .any :: .any :: .any :: .any :: .any :: .any :: .any :: .any :: .any :: .any :: .any :: .any :: .any :: .any :: .any :: .any :: .any :: .any :: .any :: .any :: .any :: .any :: .any :: .any :: .any :: .any :: .any :: .any :: .any :: .any :: .any :: .any :: .any :: .any :: .any :: .any :: .any :: .any :: .any :: .any :: .any :: .any :: .any :: .any :: .any :: .any :: .any :: []), []⟩) (fun i => i ≤ ns.length ∧ i ≤ 10) (fun i => 10 - i) 0 (by omega) (wkt []) ?_
  rintro i ⟨hi, hi8⟩ K hK
  by_cases h1 : i < ns.length
  · by_cases h2 : i < 10
    · have o := hok ns[i] (List.getElem_mem h1)
      have hv := heavy12_c ns[i] o
      by_cases hh : txsW ns[i].l > 3000
      · rw [decide_eq_true hh] at hv
        refine wk ?_
        refine fin ?_
        rfl
      · rw [decide_eq_false hh] at hv
        clear hh
        have ol := o.ll
        have hz := znum_c ns[i].e 1099511627776
        refine wk ?_
        refine aw_loopI (fun (k : Nat) => ⟨((.vec (flat raskc ns) ns.length x) :: .any :: (.bool false) :: (.int .i64 i) :: (.ptr 0 0) :: (.int .i64 k) :: .any :: .any :: .any :: .any :: .any :: .any :: .any :: .any :: .any :: .any :: .any :: .any :: .any :: .any :: .any :: .any :: .any :: .any :: .any :: .any :: .any :: .any :: .any :: .any :: .any :: .any :: .any :: .any :: .any :: .any :: .any :: .any :: .any :: .any :: .any :: .any :: .any :: .any :: .any :: .any :: .any :: .any :: .any :: .any :: .any :: .any :: .any :: .any :: .any :: .any :: .any :: .any :: .any :: .any :: .any :: .any :: .any :: .any :: .any :: .any :: .any :: .any :: .any :: .any :: .any :: .any :: .any :: .any :: .any :: .any :: .any :: .any :: .any :: .any :: .any :: .any :: .any :: .any :: .any :: .any :: .any :: .any :: .any :: .any :: .any :: .any :: .any :: .any :: .any :: .any :: .any :: .any :: .any :: .any :: .any :: .any :: .any :: .any :: .any :: .any :: .any :: .any :: .any :: .any :: .any :: []), [.live (raskc ns[i])]⟩) (fun k => k ≤ ns[i].l.length ∧ k ≤ 6) (fun k => 6 - k) 0 (by omega) (wkt [0]) ?_
        rintro k ⟨hk, hk6⟩ K2 hK2
        dsimp only [raskc]
        by_cases h3 : k < ns[i].l.length
        · by_cases h4 : k < 6
          · have ot := o.l _ (List.getElem_mem h3)
            have c1 := one_c ns[i].l[k] ns[i].n ns[i].b ns[i].e ot o.b o.e
            have c2 := rtx_c ns[i].l[k] ot
            unfold oneV at c1
            cases ht : txOk ns[i].l[k] with
            | false =>
              rw [ht] at c2
              rw [if_neg (fun h => by rw [ht] at h; cases h.2)] at c1
              refine wk ?_
              exact hK2 _ (k + 1) (by omega) (wkt [0]) (by omega)
            | true =>
              rw [ht] at c2
              by_cases he : 0 ≤ ns[i].e ∧ ns[i].e ≤ 1099511627776
              · rw [if_pos ⟨he, ht⟩] at c1
                rw [decide_eq_true he] at hz
                have c3 := pOne_c ns[i].l[k] ns[i].n ns[i].b ns[i].e ot o.b he
                generalize rkD ns[i].b (blobN ns[i].e.toNat) ns[i].l[k] = D at *
                generalize ns[i].l[k].tip = T at *
                refine wk ?_
                exact hK2 _ (k + 1) (by omega) (wkt [0]) (by omega)
              · rw [if_neg (fun h => he h.1)] at c1
                rw [decide_eq_false he] at hz
                refine wk ?_
                exact hK2 _ (k + 1) (by omega) (wkt [0]) (by omega)
          · have c5 := of_rc ns[i].l false ns[i].n ns[i].b ns[i].e o.ll o.l o.b o.e
            have c6 := mayof_c ns[i].l false ns[i].n ns[i].b ns[i].e o.ll o.l
            unfold ofV at c5
            cases hm : mayB ns[i].l ns[i].e with
            | false =>
              rw [hm] at c5 c6
              rw [if_neg (by simp)] at c5
              refine wk ?_
              exact hK _ (i + 1) (by omega) (wkt []) (by omega)
            | true =>
              rw [hm] at c5 c6
              rw [if_pos rfl] at c5
              obtain ⟨m1, _, m2⟩ := mayB_true hm
              have c7 := pof_c ns[i].l false ns[i].n ns[i].b ns[i].e o.ll o.l m1 o.b m2
              generalize minD (dAt ns[i].b (blobN ns[i].e.toNat) ns[i].l) ns[i].l.length = D at *
              generalize minT (tAt ns[i].l) ns[i].l.length = T at *
              refine wk ?_
              exact hK _ (i + 1) (by omega) (wkt []) (by omega)
        · have c5 := of_rc ns[i].l false ns[i].n ns[i].b ns[i].e o.ll o.l o.b o.e
          have c6 := mayof_c ns[i].l false ns[i].n ns[i].b ns[i].e o.ll o.l
          unfold ofV at c5
          cases hm : mayB ns[i].l ns[i].e with
          | false =>
            rw [hm] at c5 c6
            rw [if_neg (by simp)] at c5
            refine wk ?_
            exact hK _ (i + 1) (by omega) (wkt []) (by omega)
          | true =>
            rw [hm] at c5 c6
            rw [if_pos rfl] at c5
            obtain ⟨m1, _, m2⟩ := mayB_true hm
            have c7 := pof_c ns[i].l false ns[i].n ns[i].b ns[i].e o.ll o.l m1 o.b m2
            generalize minD (dAt ns[i].b (blobN ns[i].e.toNat) ns[i].l) ns[i].l.length = D at *
            generalize minT (tAt ns[i].l) ns[i].l.length = T at *
            refine wk ?_
            exact hK _ (i + 1) (by omega) (wkt []) (by omega)
    · refine wk ?_
      refine fin ?_
      rfl
  · refine wk ?_
    refine fin ?_
    rfl
end Go.Abs
