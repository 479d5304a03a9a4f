/- Fees: the law FeeFlat: the walk. -/
import Derived.Test.YtdhonccddoaeiaaT5
set_option linter.unusedVariables false
set_option linter.unusedSimpArgs false
namespace Go.Abs
open Go Go.Proofs

set_option maxRecDepth 4000 in
set_option maxHeartbeats 20000000 in
theorem feeFlat_c (ns : List Ask) (x : Bool) (hns : ns.length < 9223372036854775808) (hok : ∀ n ∈ ns, n.ok) : Pure Try.prog 9 [vecA ns x] (.bool true) := by
  refine pure_ac ?_ (cleans_cons (clean_vecA _ _) cleans_nil) (.bool _)
  unfold vecA
  have hw := wakes2_c
  have hnum := num2_c
  have may : Pure Try.prog 21 [.int .i64 1, .int .i64 1] (.bool true) := by
    have := may_c 1 1 (by omega) (by omega)
    rw [decide_eq_true (by omega)] at this; exact this
  (refine enter Try.func9 Try.results9 Try.ntmps9 ty_ok (hw := fun F hF => ?_); simp only [List.length_cons, List.length_nil, Nat.reduceAdd, Nat.reduceSub, List.replicate_succ, List.replicate_zero, List.cons_append, List.nil_append]; apply hF; clear hF F)
  refine wk ?_
  refine aw_loopI (fun (i : Nat) => ⟨((.vec (flat askc ns) ns.length x) :: .any :: (.bool false) :: (.int .i64 i) :: .any :: .any :: .any :: .any :: .any :: .any :: .any :: .any :: .any :: .any :: .any :: .any :: .any :: .any :: .any :: .any :: .any :: .any :: .any :: .any :: .any :: .any :: .any :: .any :: .any :: .any :: .any :: .any :: .any :: .any :: .any :: .any :: .any :: .any :: .any :: .any :: .any :: .any :: .any :: .any :: .any :: .any :: .any :: .any :: .any :: .any :: .any :: .any :: .any :: .any :: .any :: .any :: .any :: .any :: .any :: .any :: .any :: .any :: .any :: .any :: .any :: .any :: .any :: .any :: .any :: .any :: .any :: .any :: .any :: .any :: .any :: .any :: .any :: .any :: .any :: .any :: .any :: .any :: .any :: .any :: .any :: .any :: .any :: .any :: .any :: .any :: .any :: .any :: .any :: .any :: .any :: .any :: .any :: .any :: .any :: .any :: .any :: .any :: .any :: .any :: .any :: .any :: .any :: .any :: .any :: .any :: .any :: .any :: .any :: .any :: .any :: .any :: .any :: .any :: .any :: .any :: .any :: .any :: .any :: .any :: .any :: .any :: .any :: .any :: .any :: .any :: .any :: .any :: .any :: .any :: .any :: .any :: .any :: .any :: .any :: .any :: .any :: .any :: .any :: .any :: .any :: .any :: .any :: .any :: .any :: .any :: .any :: []), []⟩) (fun i => i ≤ ns.length ∧ i ≤ 8) (fun i => 8 - i) 0 (by omega) (wkt []) ?_
  rintro i ⟨hi, hi8⟩ K hK
  by_cases h1 : i < ns.length
  · by_cases h2 : i < 8
    · obtain ⟨oa, ob, oc, oe, ou, ot⟩ := hok ns[i] (List.getElem_mem h1)
      obtain ⟨w, hw0, hw2⟩ : ∃ a : Nat, ns[i].t % 18446744073709551616 % 1073741824 = a ∧ a < 1073741824 := ⟨(ns[i].t % 18446744073709551616 % 1073741824).toNat, by omega, by omega⟩
      have w3 := within_c ns[i].t 1073741824 ot (by omega)
      rw [hw0] at w3
      have la0 := lb_lt ns[i].a 0
      have la1 := lb_lt ns[i].a 1
      have hl := lb_lt ns[i].c 0
      have hA := uv_congr la0 la1 (show 0 < 18446744073709551616 by omega) (show 0 < 18446744073709551616 by omega) rfl
      have hAl : num4 (lb ns[i].a 0) (lb ns[i].a 1) 0 0 < 340282366920938463463374607431768211456 := by unfold num4; omega
      obtain ⟨A, hAe⟩ : ∃ A, num4 (lb ns[i].a 0) (lb ns[i].a 1) 0 0 = A := ⟨_, rfl⟩
      rw [hAe] at hA hAl
      clear hAe
      have hor := or_nat hl (show 1 < 18446744073709551616 by omega)
      have hDl : lb ns[i].c 0 ||| 1 < 18446744073709551616 := by
        have := Nat.or_lt_two_pow (n := 64) (x := lb ns[i].c 0) (y := 1) (by simpa using hl) (by omega)
        simpa using this
      have hD0 : 0 < lb ns[i].c 0 ||| 1 := by have := Nat.right_le_or (n := lb ns[i].c 0) (m := 1); omega
      obtain ⟨D, hDe⟩ : ∃ D, lb ns[i].c 0 ||| 1 = D := ⟨_, rfl⟩
      rw [hDe] at hor hDl hD0
      replace hor : bitsOp .or .u64 ((lb ns[i].c 0 : Nat) : Int) 1 = (D : Nat) := hor
      clear hDe
      have hAD : A * D < 115792089237316195423570985008687907853269984665640564039457584007913129639936 := by
        have := Nat.mul_lt_mul'' hAl hDl
        omega
      have f1 := fake_c A 0 D (by omega) (by omega) (by omega)
      have f2 := fake_c 0 ns[i].b D (by omega) ob (by omega)
      have f3 := fake_c A ns[i].b 0 (by omega) ob (by omega)
      rw [show fakeR A 0 D = ue A 0 from by unfold fakeR; rw [if_neg (by omega), fake_flat hD0 hAD (by omega)]] at f1
      rw [show fakeR 0 ns[i].b D = ue 0 0 from by unfold fakeR; rw [if_neg (by omega), fake_nil]] at f2
      rw [show fakeR A ns[i].b 0 = ue 0 1 from by unfold fakeR; rw [if_pos rfl]] at f3
      unfold ue at f1
      rw [← hA, uvs hDl] at f1
      rw [uvs hDl] at f2
      rw [← hA] at f3
      replace f1 : Pure Try.prog 10 [.agg [.int .u64 (lb ns[i].a 0), .int .u64 (lb ns[i].a 1), .int .u64 0, .int .u64 0], .agg [.int .u64 0, .int .u64 0, .int .u64 0, .int .u64 0], .agg [.int .u64 D, .int .u64 0, .int .u64 0, .int .u64 0]] (.tup [.agg [.int .u64 (lb ns[i].a 0), .int .u64 (lb ns[i].a 1), .int .u64 0, .int .u64 0], errV 0]) := f1
      replace f2 : Pure Try.prog 10 [.agg [.int .u64 0, .int .u64 0, .int .u64 0, .int .u64 0], uv ns[i].b, .agg [.int .u64 D, .int .u64 0, .int .u64 0, .int .u64 0]] (.tup [.agg [.int .u64 0, .int .u64 0, .int .u64 0, .int .u64 0], errV 0]) := f2
      replace f3 : Pure Try.prog 10 [.agg [.int .u64 (lb ns[i].a 0), .int .u64 (lb ns[i].a 1), .int .u64 0, .int .u64 0], uv ns[i].b, .agg [.int .u64 0, .int .u64 0, .int .u64 0, .int .u64 0]] (ue 0 1) := f3
      have n1 := next_c ns[i].b (1 + (w : Int)) (1 + (w : Int)) ob (by omega) (by omega)
      rw [show nextV ns[i].b (1 + (w : Int)) (1 + (w : Int)) = ue ns[i].b 0 from by unfold nextV nextN; rw [if_neg (by omega), if_pos rfl]] at n1
      have x1 := excess_c (1 + (w : Int)) (1 + (w : Int)) (1 + (w : Int)) (by omega) (by omega) (by omega)
      rw [show exV (1 + (w : Int)) (1 + (w : Int)) (1 + (w : Int)) = .tup [.int .i64 (1 + (w : Int)), errV 0] from by
        unfold exV; rw [if_neg (by omega), show (if (1099511627776 : Int) < (if 0 > 1 + (w : Int) + (1 + (w : Int)) - (1 + (w : Int)) then 0 else 1 + (w : Int) + (1 + (w : Int)) - (1 + (w : Int))) then 1099511627776 else if 0 > 1 + (w : Int) + (1 + (w : Int)) - (1 + (w : Int)) then 0 else 1 + (w : Int) + (1 + (w : Int)) - (1 + (w : Int))) = 1 + (w : Int) from by omega]] at x1
      refine wk ?_
      (refine aseq_fx (fun F hF => ?_); simp only [List.drop_succ_cons, List.drop_zero, List.take_succ_cons, List.take_zero, splice, List.set_cons_zero, List.set_cons_succ, Nat.reduceAdd, Nat.zero_add]; apply hF; clear hF F)
      refine wk ?_
      (refine aseq_fx (fun F hF => ?_); simp only [hor]; apply hF; clear hF F)
      refine wk ?_
      exact hK _ (i + 1) (by omega) (wkt []) (by omega)
    · refine wk ?_
      refine fin ?_
      rfl
  · refine wk ?_
    refine fin ?_
    rfl
end Go.Abs
