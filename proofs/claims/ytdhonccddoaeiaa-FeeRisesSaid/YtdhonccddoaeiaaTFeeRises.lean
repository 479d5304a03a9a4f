/- Fees: the law FeeRises: the walk. -/
import Derived.Test.YtdhonccddoaeiaaT5
set_option linter.unusedVariables false
set_option linter.unusedSimpArgs false
namespace Go.Abs
open Go Go.Proofs

set_option maxRecDepth 4000 in
set_option maxHeartbeats 20000000 in
theorem feeRises_c (ns : List Ask) (x : Bool) (hns : ns.length < 9223372036854775808) (hok : ∀ n ∈ ns, n.ok) : Pure Try.prog 6 [vecA ns x] (.bool true) := by
  refine pure_ac ?_ (cleans_cons (clean_vecA _ _) cleans_nil) (.bool _)
  unfold vecA
  have hw := wakes2_c
  have hnum := num2_c
  (refine enter Try.func6 Try.results6 Try.ntmps6 ty_ok (hw := fun F hF => ?_); simp only [List.length_cons, List.length_nil, Nat.reduceAdd, Nat.reduceSub, List.replicate_succ, List.replicate_zero, List.cons_append, List.nil_append]; apply hF; clear hF F)
  refine wk ?_
  refine aw_loopI (fun (i : Nat) => ⟨((.vec (flat askc ns) ns.length x) :: .any :: (.bool false) :: (.int .i64 i) :: .any :: .any :: .any :: .any :: .any :: .any :: .any :: .any :: .any :: .any :: .any :: .any :: .any :: .any :: .any :: .any :: .any :: .any :: .any :: .any :: .any :: .any :: .any :: .any :: .any :: .any :: .any :: .any :: .any :: .any :: .any :: .any :: .any :: .any :: .any :: .any :: .any :: .any :: .any :: .any :: .any :: .any :: .any :: .any :: .any :: .any :: .any :: .any :: .any :: .any :: .any :: .any :: .any :: .any :: .any :: .any :: .any :: .any :: .any :: .any :: .any :: .any :: .any :: .any :: .any :: .any :: .any :: .any :: .any :: .any :: .any :: .any :: .any :: .any :: .any :: .any :: .any :: .any :: .any :: .any :: .any :: .any :: .any :: .any :: .any :: .any :: .any :: .any :: .any :: .any :: .any :: .any :: .any :: .any :: .any :: .any :: .any :: .any :: .any :: .any :: .any :: .any :: .any :: .any :: .any :: .any :: .any :: .any :: .any :: .any :: .any :: .any :: .any :: .any :: .any :: .any :: .any :: .any :: .any :: .any :: .any :: .any :: .any :: .any :: .any :: .any :: .any :: .any :: .any :: .any :: .any :: .any :: .any :: .any :: .any :: .any :: .any :: .any :: .any :: .any :: .any :: .any :: .any :: .any :: .any :: .any :: .any :: .any :: .any :: .any :: .any :: .any :: .any :: []), []⟩) (fun i => i ≤ ns.length ∧ i ≤ 8) (fun i => 8 - i) 0 (by omega) (wkt []) ?_
  rintro i ⟨hi, hi8⟩ K hK
  by_cases h1 : i < ns.length
  · by_cases h2 : i < 8
    · obtain ⟨oa, ob, oc, oe, ou, ot⟩ := hok ns[i] (List.getElem_mem h1)
      obtain ⟨a, ha, ha2⟩ : ∃ a : Nat, ns[i].e % 18446744073709551616 % 1073741824 = a ∧ a < 1073741824 := ⟨(ns[i].e % 18446744073709551616 % 1073741824).toNat, by omega, by omega⟩
      obtain ⟨b0, hb0, hb2⟩ : ∃ a : Nat, ns[i].u % 18446744073709551616 % 268435456 = a ∧ a < 268435456 := ⟨(ns[i].u % 18446744073709551616 % 268435456).toNat, by omega, by omega⟩
      obtain ⟨w, hw0, hw2⟩ : ∃ a : Nat, ns[i].t % 18446744073709551616 % 536870912 = a ∧ a < 536870912 := ⟨(ns[i].t % 18446744073709551616 % 536870912).toNat, by omega, by omega⟩
      have w1 := within_c ns[i].e 1073741824 oe (by omega)
      have w2 := within_c ns[i].u 268435456 ou (by omega)
      have w3 := within_c ns[i].t 536870912 ot (by omega)
      rw [ha] at w1; rw [hb0] at w2; rw [hw0] at w3
      have w4 := within_c ns[i].u (1 + (w : Int) + 1) ou (by omega)
      have w5 := within_c ns[i].e (1 + (w : Int) + 1) oe (by omega)
      have p1 := Int.emod_nonneg (ns[i].u % 18446744073709551616) (show 1 + (w : Int) + 1 ≠ 0 by omega)
      have p2 := Int.emod_lt_of_pos (ns[i].u % 18446744073709551616) (show 0 < 1 + (w : Int) + 1 by omega)
      have p3 := Int.emod_nonneg (ns[i].e % 18446744073709551616) (show 1 + (w : Int) + 1 ≠ 0 by omega)
      have p4 := Int.emod_lt_of_pos (ns[i].e % 18446744073709551616) (show 0 < 1 + (w : Int) + 1 by omega)
      obtain ⟨z4, q4⟩ := Int.eq_ofNat_of_zero_le p1
      obtain ⟨z5, q5⟩ := Int.eq_ofNat_of_zero_le p3
      rw [q4] at w4 p2; rw [q5] at w5 p4
      clear p1 p3 q4 q5 ha hb0 hw0
      have b1 := blob_c (a : Int) (by omega)
      rw [show blobV (a : Int) = ue (blobN a) 0 from by unfold blobV; rw [if_neg (by omega), Int.toNat_natCast]] at b1
      have b2 := blob_c ((a : Int) + b0) (by omega)
      rw [show blobV ((a : Int) + b0) = ue (blobN (a + b0)) 0 from by unfold blobV; rw [if_neg (by omega), show ((a : Int) + b0).toNat = a + b0 from by omega]] at b2
      have hm := blob_mono (Nat.le_add_right a b0)
      have hX := blobN_lt a
      have hY := blobN_lt (a + b0)
      obtain ⟨X, hXe⟩ : ∃ X, blobN a = X := ⟨_, rfl⟩
      obtain ⟨Y, hYe⟩ : ∃ Y, blobN (a + b0) = Y := ⟨_, rfl⟩
      rw [hXe] at b1 hm hX; rw [hYe] at b2 hm hY
      have g1 := cmp_c X Y hX hY
      have k1 : ¬ cmpN X Y > 0 := by rcases cmpN_cases X Y with h | h | h <;> omega
      obtain ⟨g1', e1⟩ : ∃ g, cmpN X Y = g := ⟨_, rfl⟩
      rw [e1] at g1 k1
      clear hXe hYe e1
      have hB := uv_congr (lb_lt ns[i].a 0) (lb_lt ns[i].a 1) (lb_lt ns[i].a 2) (show 0 < 18446744073709551616 by omega) rfl
      have hBl : num4 (lb ns[i].a 0) (lb ns[i].a 1) (lb ns[i].a 2) 0 < 6277101735386680763835789423207666416102355444464034512896 := by
        have := lb_lt ns[i].a 0
        have := lb_lt ns[i].a 1
        have := lb_lt ns[i].a 2
        unfold num4; omega
      obtain ⟨B, hBe⟩ : ∃ B, num4 (lb ns[i].a 0) (lb ns[i].a 1) (lb ns[i].a 2) 0 = B := ⟨_, rfl⟩
      rw [hBe] at hB hBl
      clear hBe
      have hB256 : B < 115792089237316195423570985008687907853269984665640564039457584007913129639936 := by omega
      have n1 := next_c B (z4 : Int) (1 + (w : Int)) hB256 (by omega) (by omega)
      have n2 := next_c B (1 + (w : Int) + z5) (1 + (w : Int)) hB256 (by omega) (by omega)
      have n3 := next_c B (2 * (1 + (w : Int))) (1 + (w : Int)) hB256 (by omega) (by omega)
      have n4 := next_c B 0 (1 + (w : Int)) hB256 (by omega) (by omega)
      rw [next_ok (U := z4) (T := 1 + w) hBl rfl (by omega) (by omega) (by omega) (by omega)] at n1
      rw [next_ok (U := 1 + w + z5) (T := 1 + w) hBl (by omega) (by omega) (by omega) (by omega) (by omega)] at n2
      rw [next_ok (U := 2 * (1 + w)) (T := 1 + w) hBl (by omega) (by omega) (by omega) (by omega) (by omega)] at n3
      rw [next_ok (u := 0) (U := 0) (T := 1 + w) hBl (show (0 : Int) = ((0 : Nat) : Int) from rfl) (by omega) (by omega) (by omega) (by omega)] at n4
      obtain ⟨l1, l2⟩ := nx_low (b := B) (u := z4) (t := 1 + w) (by omega) (by omega)
      obtain ⟨l3, l4⟩ := nx_high (b := B) (u := 1 + w + z5) (t := 1 + w) (by omega) (by omega) (by omega)
      have r1 := (next_some (b := B) (u := z4) (t := 1 + w) hBl (by omega) (by omega)).2
      have r2 := (next_some (b := B) (u := 1 + w + z5) (t := 1 + w) hBl (by omega) (by omega)).2
      have r3 := (next_some (b := B) (u := 2 * (1 + w)) (t := 1 + w) hBl (by omega) (by omega)).2
      have r4 := (next_some (b := B) (u := 0) (t := 1 + w) hBl (by omega) (by omega)).2
      obtain ⟨v1, e1⟩ : ∃ v, nx B z4 (1 + w) = v := ⟨_, rfl⟩
      obtain ⟨v2, e2⟩ : ∃ v, nx B (1 + w + z5) (1 + w) = v := ⟨_, rfl⟩
      obtain ⟨v3, e3⟩ : ∃ v, nx B (2 * (1 + w)) (1 + w) = v := ⟨_, rfl⟩
      obtain ⟨v4, e4⟩ : ∃ v, nx B 0 (1 + w) = v := ⟨_, rfl⟩
      rw [e1] at n1 l1 l2 r1; rw [e2] at n2 l3 l4 r2; rw [e3] at n3 l4 r3; rw [e4] at n4 l2 r4
      clear e1 e2 e3 e4
      have c1 := cmp_c v1 B r1 hB256
      have c2 := cmp_c v2 B r2 hB256
      have c3 := cmp_c v1 v4 r1 r4
      have c4 := cmp_c v2 v3 r2 r3
      have k2 : ¬ cmpN v1 B > 0 := by rcases cmpN_cases v1 B with h | h | h <;> omega
      have k3 : ¬ cmpN v2 B < 0 := by rcases cmpN_cases v2 B with h | h | h <;> omega
      have k4 : ¬ cmpN v1 v4 < 0 := by rcases cmpN_cases v1 v4 with h | h | h <;> omega
      have k5 : ¬ cmpN v2 v3 > 0 := by rcases cmpN_cases v2 v3 with h | h | h <;> omega
      obtain ⟨G1, e1⟩ : ∃ g, cmpN v1 B = g := ⟨_, rfl⟩
      obtain ⟨G2, e2⟩ : ∃ g, cmpN v2 B = g := ⟨_, rfl⟩
      obtain ⟨G3, e3⟩ : ∃ g, cmpN v1 v4 = g := ⟨_, rfl⟩
      obtain ⟨G4, e4⟩ : ∃ g, cmpN v2 v3 = g := ⟨_, rfl⟩
      rw [e1] at c1 k2; rw [e2] at c2 k3; rw [e3] at c3 k4; rw [e4] at c4 k5
      clear e1 e2 e3 e4 l1 l2 l3 l4 r1 r2 r3 r4
      rw [← hB] at n1 n2 n3 n4 c1 c2
      refine wk ?_
      (refine aseq_fx (fun F hF => ?_); simp only [List.drop_succ_cons, List.drop_zero, List.take_succ_cons, List.take_zero, splice, List.set_cons_zero, List.set_cons_succ, Nat.reduceAdd, Nat.zero_add]; apply hF; clear hF F)
      refine wk ?_
      exact hK _ (i + 1) (by omega) (wkt []) (by omega)
    · refine wk ?_
      refine fin ?_
      rfl
  · refine wk ?_
    refine fin ?_
    rfl
end Go.Abs
