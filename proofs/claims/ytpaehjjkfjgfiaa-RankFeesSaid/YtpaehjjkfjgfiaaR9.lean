/- The law RankFees: the walk. -/
import Derived.Test.YtpaehjjkfjgfiaaR8
set_option linter.unusedVariables false
set_option linter.unusedSimpArgs false
namespace Go.Abs
open Go Go.Proofs

set_option maxHeartbeats 20000000 in
theorem rankFees_c (ns : List RAsk) (x : Bool) (hns : ns.length < 9223372036854775808) (hok : ∀ n ∈ ns, n.ok) : Pure Try.prog 3 [vecR ns x] (.bool true) := by
  refine pure_ac ?_ (cleans_cons (clean_vecR _ _) cleans_nil) (.bool _)
  unfold vecR
  have hw := wakes12_c
  have hnum := num12_c
  have hmost := most_c
  (refine enter Try.func3 Try.results3 Try.ntmps3 ty_ok (hw := fun F hF => ?_); simp only [List.length_cons, List.length_nil, Nat.reduceAdd, Nat.reduceSub, List.replicate_succ, List.replicate_zero, List.cons_append, List.nil_append]; apply hF; clear hF F)
  refine wk ?_
  refine aw_loopI (fun (i : Nat) => ⟨((.vec (flat raskc ns) ns.length x) :: .any :: (.bool false) :: (.int .i64 i) :: .any :: .any :: .any :: .any :: .any :: .any :: .any :: .any :: .any :: .any :: .any :: .any :: .any :: .any :: .any :: .any :: .any :: .any :: .any :: .any :: .any :: .any :: .any :: .any :: .any :: .any :: .any :: .any :: .any :: .any :: .any :: .any :: .any :: .any :: .any :: .any :: .any :: .any :: .any :: .any :: .any :: .any :: .any :: .any :: .any :: .any :: .any :: .any :: .any :: .any :: .any :: .any :: .any :: .any :: .any :: .any :: .any :: .any :: .any :: .any :: .any :: .any :: .any :: .any :: .any :: .any :: .any :: .any :: .any :: .any :: .any :: .any :: .any :: .any :: .any :: .any :: .any :: .any :: .any :: .any :: .any :: .any :: .any :: .any :: .any :: .any :: .any :: .any :: .any :: .any :: .any :: .any :: .any :: .any :: .any :: .any :: .any :: .any :: .any :: .any :: .any :: .any :: .any :: .any :: .any :: .any :: .any :: .any :: .any :: .any :: .any :: .any :: .any :: .any :: .any :: .any :: .any :: .any :: .any :: .any :: .any :: .any :: .any :: .any :: .any :: .any :: .any :: .any :: .any :: .any :: .any :: .any :: .any :: .any :: .any :: .any :: .any :: .any :: .any :: .any :: .any :: []), []⟩) (fun i => i ≤ ns.length ∧ i ≤ 10) (fun i => 10 - i) 0 (by omega) (wkt []) ?_
  rintro i ⟨hi, hi8⟩ K hK
  by_cases h1 : i < ns.length
  · by_cases h2 : i < 10
    · have o := hok ns[i] (List.getElem_mem h1)
      have hv := heavy12_c ns[i] o
      have hz := znum_c ns[i].e 1099511627776
      by_cases hh : txsW ns[i].l > 3000
      · rw [decide_eq_true hh] at hv
        refine wk ?_
        exact hK _ (i + 1) (by omega) (wkt []) (by omega)
      · rw [decide_eq_false hh] at hv
        clear hh
        by_cases he : 0 ≤ ns[i].e ∧ ns[i].e ≤ 1099511627776
        · rw [decide_eq_true he] at hz
          have ol := o.ll
          refine wk ?_
          refine aw_loopI (fun (k : Nat) => ⟨((.vec (flat raskc ns) ns.length x) :: .any :: (.bool false) :: (.int .i64 i) :: (.ptr 0 0) :: (.int .i64 k) :: .any :: .any :: .any :: .any :: .any :: .any :: .any :: .any :: .any :: .any :: .any :: .any :: .any :: .any :: .any :: .any :: .any :: .any :: .any :: .any :: .any :: .any :: .any :: .any :: .any :: .any :: .any :: .any :: .any :: .any :: .any :: .any :: .any :: .any :: .any :: .any :: .any :: .any :: .any :: .any :: .any :: .any :: .any :: .any :: .any :: .any :: .any :: .any :: .any :: .any :: .any :: .any :: .any :: .any :: .any :: .any :: .any :: .any :: .any :: .any :: .any :: .any :: .any :: .any :: .any :: .any :: .any :: .any :: .any :: .any :: .any :: .any :: .any :: .any :: .any :: .any :: .any :: .any :: .any :: .any :: .any :: .any :: .any :: .any :: .any :: .any :: .any :: .any :: .any :: .any :: .any :: .any :: .any :: .any :: .any :: .any :: .any :: .any :: .any :: .any :: .any :: .any :: .any :: .any :: .any :: .any :: .any :: .any :: .any :: .any :: .any :: .any :: .any :: .any :: .any :: .any :: .any :: .any :: .any :: .any :: .any :: .any :: .any :: .any :: .any :: .any :: .any :: .any :: .any :: .any :: .any :: .any :: .any :: .any :: .any :: .any :: .any :: .any :: .any :: []), [.live (raskc ns[i])]⟩) (fun k => k ≤ ns[i].l.length ∧ k ≤ 4) (fun k => 4 - k) 0 (by omega) (wkt [0]) ?_
          rintro k ⟨hk, hk6⟩ K2 hK2
          dsimp only [raskc]
          by_cases h3 : k < ns[i].l.length
          · by_cases h4 : k < 4
            · have ot := o.l _ (List.getElem_mem h3)
              have ob := o.b
              have c2 := rtx_c ns[i].l[k] ot
              cases ht : txOk ns[i].l[k] with
              | false =>
                rw [ht] at c2
                refine wk ?_
                exact hK2 _ (k + 1) (by omega) (wkt [0]) (by omega)
              | true =>
                rw [ht] at c2
                have c3 := pOne_c ns[i].l[k] ns[i].n ns[i].b ns[i].e ot ob he
                have c1 : ∀ b, b < 115792089237316195423570985008687907853269984665640564039457584007913129639936 → Pure Try.prog 10 [txV ns[i].l[k], hdV ns[i].n b ns[i].e] (.tup [rkV (rkD b (blobN ns[i].e.toNat) ns[i].l[k]) ns[i].l[k].tip, errV 0]) := by
                  intro b hb
                  have := one_c ns[i].l[k] ns[i].n b ns[i].e ot hb o.e
                  unfold oneV at this
                  rw [if_pos ⟨he, ht⟩] at this
                  exact this
                have a1 := c1 ns[i].b ob
                have a3 := c1 0 (by omega)
                have m3 : rkD ns[i].b (blobN ns[i].e.toNat) ns[i].l[k] ≤ rkD 0 (blobN ns[i].e.toNat) ns[i].l[k] := rkD_base (Nat.zero_le _)
                have cad := radd_c ns[i].b ns[i].b ob ob
                unfold rsumV at cad
                by_cases hb2 : ns[i].b + ns[i].b < 115792089237316195423570985008687907853269984665640564039457584007913129639936
                · rw [if_pos hb2] at cad
                  have a2 := c1 (ns[i].b + ns[i].b) hb2
                  have m2 : rkD (ns[i].b + ns[i].b) (blobN ns[i].e.toNat) ns[i].l[k] ≤ rkD ns[i].b (blobN ns[i].e.toNat) ns[i].l[k] := rkD_base (by omega)
                  have ccm := rcmp_c (ns[i].b + ns[i].b) ns[i].b hb2 ob
                  have hc0 : ¬ cmpN (ns[i].b + ns[i].b) ns[i].b < 0 := fun h => by have := cmpN_neg.1 h; omega
                  clear c1
                  generalize rkD ns[i].b (blobN ns[i].e.toNat) ns[i].l[k] = D1 at *
                  generalize rkD (ns[i].b + ns[i].b) (blobN ns[i].e.toNat) ns[i].l[k] = D2 at *
                  generalize rkD 0 (blobN ns[i].e.toNat) ns[i].l[k] = D3 at *
                  replace a3 : Pure Try.prog 10 [txV ns[i].l[k], .agg [.int .i64 ns[i].n, .int .u64 0, .int .u64 0, .int .u64 0, .int .u64 0, .int .i64 ns[i].e]] (.tup [rkV D3 ns[i].l[k].tip, errV 0]) := a3
                  generalize ns[i].b + ns[i].b = B2 at *
                  refine wk ?_
                  (refine aseq_fx (fun F hF => ?_); simp only [List.drop_succ_cons, List.drop_zero, List.take_succ_cons, List.take_zero, splice, List.set_cons_succ, List.set_cons_zero]; apply hF; clear hF F)
                  refine wk ?_
                  (refine aseq_fx (fun F hF => ?_); simp only [List.drop_succ_cons, List.drop_zero, List.take_succ_cons, List.take_zero, splice, List.set_cons_succ, List.set_cons_zero]; apply hF; clear hF F)
                  refine wk ?_
                  exact hK2 _ (k + 1) (by omega) (wkt [0]) (by omega)
                · rw [if_neg hb2] at cad
                  have a2 := c1 115792089237316195423570985008687907853269984665640564039457584007913129639935 (by omega)
                  have m2 : rkD 115792089237316195423570985008687907853269984665640564039457584007913129639935 (blobN ns[i].e.toNat) ns[i].l[k] ≤ rkD ns[i].b (blobN ns[i].e.toNat) ns[i].l[k] := rkD_base (by omega)
                  have ccm := rcmp_c 0 ns[i].b (by omega) ob
                  have hc0 : cmpN 0 ns[i].b < 0 := cmpN_neg.2 (by omega)
                  clear c1
                  generalize rkD ns[i].b (blobN ns[i].e.toNat) ns[i].l[k] = D1 at *
                  generalize rkD 115792089237316195423570985008687907853269984665640564039457584007913129639935 (blobN ns[i].e.toNat) ns[i].l[k] = D2 at *
                  generalize rkD 0 (blobN ns[i].e.toNat) ns[i].l[k] = D3 at *
                  replace a3 : Pure Try.prog 10 [txV ns[i].l[k], .agg [.int .i64 ns[i].n, .int .u64 0, .int .u64 0, .int .u64 0, .int .u64 0, .int .i64 ns[i].e]] (.tup [rkV D3 ns[i].l[k].tip, errV 0]) := a3
                  obtain ⟨M, hM⟩ : ∃ M, M = 115792089237316195423570985008687907853269984665640564039457584007913129639935 := ⟨_, rfl⟩
                  rw [← hM] at hmost a2
                  clear hM
                  refine wk ?_
                  (refine aseq_fx (fun F hF => ?_); simp only [List.drop_succ_cons, List.drop_zero, List.take_succ_cons, List.take_zero, splice, List.set_cons_succ, List.set_cons_zero]; apply hF; clear hF F)
                  refine wk ?_
                  (refine aseq_fx (fun F hF => ?_); simp only [List.drop_succ_cons, List.drop_zero, List.take_succ_cons, List.take_zero, splice, List.set_cons_succ, List.set_cons_zero]; apply hF; clear hF F)
                  refine wk ?_
                  exact hK2 _ (k + 1) (by omega) (wkt [0]) (by omega)
            · refine wk ?_
              exact hK _ (i + 1) (by omega) (wkt []) (by omega)
          · refine wk ?_
            exact hK _ (i + 1) (by omega) (wkt []) (by omega)
        · rw [decide_eq_false he] at hz
          refine wk ?_
          exact hK _ (i + 1) (by omega) (wkt []) (by omega)
    · refine wk ?_
      refine fin ?_
      rfl
  · refine wk ?_
    refine fin ?_
    rfl
end Go.Abs
