/- The laws of layer 3 on levels and distances: the walks. -/
import Derived.Test.YthnckfnpbdlokaaL1
set_option linter.unusedVariables false
set_option linter.unusedSimpArgs false
namespace Go.Abs
open Go Go.Proofs

theorem uvs3 {m : Nat} (h : m < 18446744073709551616) : uv m = .agg [.int .u64 (m : Nat), .int .u64 0, .int .u64 0, .int .u64 0] :=
  (uv_congr (a := m) (b := 0) (c := 0) (d := 0) (n := m) h (by omega) (by omega) (by omega) (by unfold num4; omega)).symm
theorem wakes3_c : Pure Try.prog 31 [] (.bool true) := by
  refine pure_ac ?_ cleans_nil (.bool _)
  have c1 := level_c 3 (by omega)
  have h3 : lvN 3 = 13 := by decide
  rw [h3] at c1
  replace c1 : Pure Try.prog 35 [.agg [.int .u64 3, .int .u64 0, .int .u64 0, .int .u64 0]] (.int .i64 13) := c1
  (refine enter Try.func31 Try.results31 Try.ntmps31 ty_ok (hw := fun F hF => ?_); simp only [List.length_cons, List.length_nil, Nat.reduceAdd, Nat.reduceSub, List.replicate_succ, List.replicate_zero, List.cons_append, List.nil_append]; apply hF; clear hF F)
  refine wk ?_
  refine fin ?_
  rfl
set_option maxHeartbeats 20000000 in
theorem levelDoubles_c (ns : List Nat) (x : Bool) (hns : ns.length < 9223372036854775808) (hlt : ∀ n ∈ ns, n < 115792089237316195423570985008687907853269984665640564039457584007913129639936) : Pure Try.prog 7 [vecU ns x] (.bool true) := by
  refine pure_ac ?_ (cleans_cons (clean_vecU _ _) cleans_nil) (.bool _)
  unfold vecU
  have hw := wakes3_c
  have hnum := num3_c
  (refine enter Try.func7 Try.results7 Try.ntmps7 ty_ok (hw := fun F hF => ?_); simp only [List.length_cons, List.length_nil, Nat.reduceAdd, Nat.reduceSub, List.replicate_succ, List.replicate_zero, List.cons_append, List.nil_append]; apply hF; clear hF F)
  refine wk ?_
  refine aw_loopI (fun (i : Nat) => ⟨((.vec (fl ns) ns.length x) :: .any :: (.bool false) :: (.int .i64 i) :: .any :: .any :: .any :: .any :: .any :: .any :: .any :: .any :: .any :: .any :: .any :: .any :: .any :: .any :: .any :: .any :: .any :: .any :: .any :: .any :: .any :: .any :: .any :: .any :: .any :: .any :: .any :: .any :: .any :: .any :: .any :: .any :: .any :: .any :: .any :: .any :: .any :: .any :: .any :: .any :: .any :: .any :: .any :: .any :: .any :: .any :: .any :: .any :: .any :: .any :: .any :: .any :: .any :: .any :: .any :: .any :: .any :: .any :: .any :: []), []⟩) (fun i => i ≤ ns.length ∧ i ≤ 15) (fun i => 15 - i) 0 (by omega) (wkt []) ?_
  rintro i ⟨hi, hi8⟩ K hK
  by_cases h1 : i < ns.length
  · by_cases h2 : i < 15
    · have hmi := hlt ns[i] (List.getElem_mem h1)
      have c1 := double_c ns[i] hmi
      have c2 := radd_c ns[i] ns[i] hmi hmi
      unfold sumV at c1
      unfold rsumV at c2
      by_cases hs : ns[i] + ns[i] < 115792089237316195423570985008687907853269984665640564039457584007913129639936
      · rw [if_pos hs] at c1 c2
        refine wk ?_
        exact hK _ (i + 1) (by omega) (wkt []) (by omega)
      · rw [if_neg hs] at c1 c2
        refine wk ?_
        exact hK _ (i + 1) (by omega) (wkt []) (by omega)
    · refine wk ?_
      refine fin ?_
      rfl
  · refine wk ?_
    refine fin ?_
    rfl
set_option maxHeartbeats 20000000 in
theorem levelDists_c (ns : List Nat) (x : Bool) (hns : ns.length < 9223372036854775808) (hlt : ∀ n ∈ ns, n < 115792089237316195423570985008687907853269984665640564039457584007913129639936) : Pure Try.prog 6 [vecU ns x] (.bool true) := by
  refine pure_ac ?_ (cleans_cons (clean_vecU _ _) cleans_nil) (.bool _)
  unfold vecU
  have hw := wakes3_c
  (refine enter Try.func6 Try.results6 Try.ntmps6 ty_ok (hw := fun F hF => ?_); simp only [List.length_cons, List.length_nil, Nat.reduceAdd, Nat.reduceSub, List.replicate_succ, List.replicate_zero, List.cons_append, List.nil_append]; apply hF; clear hF F)
  refine wk ?_
  refine aw_loopI (fun (i : Nat) => ⟨((.vec (fl ns) ns.length x) :: .any :: (.bool false) :: (.int .i64 i) :: .any :: .any :: .any :: .any :: .any :: .any :: .any :: .any :: .any :: .any :: .any :: .any :: .any :: .any :: .any :: .any :: .any :: .any :: .any :: .any :: .any :: .any :: .any :: .any :: .any :: .any :: .any :: .any :: .any :: .any :: .any :: .any :: .any :: .any :: .any :: .any :: .any :: .any :: .any :: .any :: .any :: .any :: .any :: .any :: .any :: .any :: .any :: .any :: .any :: .any :: .any :: .any :: .any :: .any :: .any :: .any :: .any :: .any :: .any :: .any :: .any :: .any :: .any :: .any :: .any :: .any :: .any :: .any :: .any :: .any :: .any :: .any :: .any :: .any :: .any :: []), []⟩) (fun i => i ≤ ns.length ∧ i ≤ 15) (fun i => 15 - i) 0 (by omega) (wkt []) ?_
  rintro i ⟨hi, hi8⟩ K hK
  by_cases h1 : i < ns.length
  · by_cases h2 : i < 15
    · have hmi := hlt ns[i] (List.getElem_mem h1)
      have h0l : 0 < ns.length := by omega
      have hm0 := hlt ns[0] (List.getElem_mem h0l)
      have ht0 : List.take 4 (fl ns) = uvc ns[0] := by
        have := flat_take (f := uvc) ns 0 h0l
        rw [Nat.zero_mul, List.drop_zero] at this
        exact this
      have b1 := lvN_bd hmi
      have b0 := lvN_bd hm0
      have d1 := dist_c ns[i] ns[0] hmi hm0
      have r1 := rlevel_c ns[i] hmi
      replace d1 : Pure Try.prog 29 [uv ns[i], .agg (List.take 4 (fl ns))] (.int .i64 (lvN ns[i] - lvN ns[0])) := by rw [ht0]; exact d1
      refine wk ?_
      refine aw_loopI (fun (k : Nat) => ⟨((.vec (fl ns) ns.length x) :: .any :: (.bool false) :: (.int .i64 i) :: (.int .i64 k) :: .any :: .any :: .any :: .any :: .any :: .any :: .any :: .any :: .any :: .any :: .any :: .any :: .any :: .any :: .any :: .any :: .any :: .any :: .any :: .any :: .any :: .any :: .any :: .any :: .any :: .any :: .any :: .any :: .any :: .any :: .any :: .any :: .any :: .any :: .any :: .any :: .any :: .any :: .any :: .any :: .any :: .any :: .any :: .any :: .any :: .any :: .any :: .any :: .any :: .any :: .any :: .any :: .any :: .any :: .any :: .any :: .any :: .any :: .any :: .any :: .any :: .any :: .any :: .any :: .any :: .any :: .any :: .any :: .any :: .any :: .any :: .any :: .any :: .any :: []), []⟩) (fun k => k ≤ i) (fun k => i - k) 0 (by omega) (wkt []) ?_
      intro k hk K2 hK2
      by_cases h3 : k < i
      · have hkl : k < ns.length := by omega
        have hmk := hlt ns[k] (List.getElem_mem hkl)
        have b2 := lvN_bd hmk
        have d2 := dist_c ns[i] ns[k] hmi hmk
        have d3 := dist_c ns[k] ns[i] hmk hmi
        have d4 := dist_c ns[0] ns[k] hm0 hmk
        replace d4 : Pure Try.prog 29 [.agg (List.take 4 (fl ns)), uv ns[k]] (.int .i64 (lvN ns[0] - lvN ns[k])) := by rw [ht0]; exact d4
        have r2 := rlevel_c ns[k] hmk
        obtain ⟨A, hA⟩ : ∃ A, lvN ns[i] = A := ⟨_, rfl⟩
        obtain ⟨B, hB⟩ : ∃ B, lvN ns[k] = B := ⟨_, rfl⟩
        obtain ⟨C, hC⟩ : ∃ C, lvN ns[0] = C := ⟨_, rfl⟩
        rw [hA] at d1 d2 d3 r1 b1
        rw [hB] at d2 d3 d4 r2 b2
        rw [hC] at d1 d4 b0
        clear hA hB hC ht0
        refine wk ?_
        exact hK2 _ (k + 1) (by omega) (wkt []) (by omega)
      · refine wk ?_
        exact hK _ (i + 1) (by omega) (wkt []) (by omega)
    · refine wk ?_
      refine fin ?_
      rfl
  · refine wk ?_
    refine fin ?_
    rfl
end Go.Abs
