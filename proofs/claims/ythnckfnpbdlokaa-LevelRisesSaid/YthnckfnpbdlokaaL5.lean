/- The law LevelRises: the walk. -/
import Derived.Test.YthnckfnpbdlokaaL4
import Derived.Test.YthnckfnpbdlokaaN14
set_option linter.unusedVariables false
set_option linter.unusedSimpArgs false
namespace Go.Abs
open Go Go.Proofs

theorem lbs_zeroL {n : Nat} (h : n < 115792089237316195423570985008687907853269984665640564039457584007913129639936) : ((lb n 0 : Int) == 0 && ((lb n 1 : Int) == 0 && ((lb n 2 : Int) == 0 && (lb n 3 : Int) == 0))) = decide (n = 0) := by
  have h4 := num4_lb h
  unfold num4 at h4
  rw [Bool.eq_iff_iff]
  simp only [Bool.and_eq_true, beq_iff_eq, decide_eq_true_eq]
  omega
theorem withinL_c (i n : Int) (h : -9223372036854775808 ≤ i ∧ i < 9223372036854775808) (hn : 0 < n ∧ n < 9223372036854775808) : Pure Try.prog 46 [.int .i64 i, .int .i64 n] (.int .i64 (i % 18446744073709551616 % n)) := by
  refine pure_ac ?_ (cleans_cons (.int _ _) (cleans_cons (.int _ _) cleans_nil)) (.int _ _)
  have hm1 := Int.emod_nonneg (i % 18446744073709551616) (show n ≠ 0 by omega)
  have hm2 := Int.emod_lt_of_pos (i % 18446744073709551616) hn.1
  obtain ⟨z, hz⟩ : ∃ z, i % 18446744073709551616 % n = z := ⟨_, rfl⟩
  (refine enter Try.func46 Try.results46 Try.ntmps46 ty_ok (hw := fun F hF => ?_); simp only [List.length_cons, List.length_nil, Nat.reduceAdd, Nat.reduceSub, List.replicate_succ, List.replicate_zero, List.cons_append, List.nil_append]; apply hF; clear hF F)
  refine wk ?_
  rw [hz]
  refine fin ?_
  rfl
set_option maxRecDepth 4000 in
set_option maxHeartbeats 20000000 in
theorem levelRises_c (ns : List Nat) (x : Bool) (hns : ns.length < 9223372036854775808) (hlt : ∀ n ∈ ns, n < 115792089237316195423570985008687907853269984665640564039457584007913129639936) : Pure Try.prog 15 [vecU ns x] (.bool true) := by
  refine pure_ac ?_ (cleans_cons (clean_vecU _ _) cleans_nil) (.bool _)
  unfold vecU
  have hw := wakes3_c
  have hnum := num3_c
  have hz0 := level_c 0 (by omega)
  rw [lv_zero] at hz0
  replace hz0 : Pure Try.prog 35 [.agg [.int .u64 0, .int .u64 0, .int .u64 0, .int .u64 0]] (.int .i64 0) := hz0
  (refine enter Try.func15 Try.results15 Try.ntmps15 ty_ok (hw := fun F hF => ?_); simp only [List.length_cons, List.length_nil, Nat.reduceAdd, Nat.reduceSub, List.replicate_succ, List.replicate_zero, List.cons_append, List.nil_append]; apply hF; clear hF F)
  refine wk ?_
  refine aw_loopI (fun (i : Nat) => ⟨((.vec (fl ns) ns.length x) :: .any :: (.bool false) :: (.int .i64 i) :: .any :: .any :: .any :: .any :: .any :: .any :: .any :: .any :: .any :: .any :: .any :: .any :: .any :: .any :: .any :: .any :: .any :: .any :: .any :: .any :: .any :: .any :: .any :: .any :: .any :: .any :: .any :: .any :: .any :: .any :: .any :: .any :: .any :: .any :: .any :: .any :: .any :: .any :: .any :: .any :: .any :: .any :: .any :: .any :: .any :: .any :: .any :: .any :: .any :: .any :: .any :: .any :: .any :: .any :: .any :: .any :: .any :: .any :: .any :: .any :: .any :: .any :: .any :: .any :: .any :: .any :: .any :: .any :: .any :: .any :: .any :: .any :: .any :: .any :: .any :: .any :: .any :: .any :: .any :: .any :: .any :: .any :: .any :: .any :: .any :: .any :: .any :: .any :: .any :: .any :: .any :: .any :: .any :: .any :: .any :: .any :: .any :: .any :: .any :: .any :: .any :: .any :: .any :: .any :: .any :: .any :: .any :: .any :: .any :: .any :: .any :: .any :: .any :: .any :: .any :: .any :: .any :: .any :: .any :: .any :: .any :: .any :: .any :: .any :: .any :: .any :: .any :: .any :: .any :: .any :: .any :: .any :: .any :: .any :: .any :: .any :: .any :: .any :: .any :: .any :: .any :: .any :: []), []⟩) (fun i => i ≤ ns.length ∧ i ≤ 15) (fun i => 15 - i) 0 (by omega) (wkt []) ?_
  rintro i ⟨hi, hi8⟩ K hK
  by_cases h1 : i < ns.length
  · by_cases h2 : i < 15
    · have hmi := hlt ns[i] (List.getElem_mem h1)
      have wi := withinL_c i 3 (by omega) (by omega)
      have l0 := lb_lt ns[i] 0
      have l1 := lb_lt ns[i] 1
      have l2 := lb_lt ns[i] 2
      have l3 := lb_lt ns[i] 3
      have h3i : ((lb ns[i] 3 : Nat) : Int) / 4 = (lb ns[i] 3 / 4 : Nat) := by omega
      have u1 := uv_congr l0 l1 l2 (show lb ns[i] 3 / 4 < 18446744073709551616 by omega) rfl
      have u2 := uv_congr l0 (show 0 < 18446744073709551616 by omega) (show 0 < 18446744073709551616 by omega) (show 0 < 18446744073709551616 by omega) rfl
      have z1 : num4 (lb ns[i] 0) (lb ns[i] 1) (lb ns[i] 2) (lb ns[i] 3 / 4) < 28948022309329048855892746252171976963317496166410141009864396001978282409984 := by unfold num4; omega
      have z2 : num4 (lb ns[i] 0) 0 0 0 < 28948022309329048855892746252171976963317496166410141009864396001978282409984 := by unfold num4; omega
      obtain ⟨A1, hA1⟩ : ∃ A, num4 (lb ns[i] 0) (lb ns[i] 1) (lb ns[i] 2) (lb ns[i] 3 / 4) = A := ⟨_, rfl⟩
      obtain ⟨A2, hA2⟩ : ∃ A, num4 (lb ns[i] 0) 0 0 0 = A := ⟨_, rfl⟩
      rw [hA1] at u1 z1; rw [hA2] at u2 z2
      replace u1 : uvc A1 = [.int .u64 (lb ns[i] 0 : Nat), .int .u64 (lb ns[i] 1 : Nat), .int .u64 (lb ns[i] 2 : Nat), .int .u64 (lb ns[i] 3 / 4 : Nat)] := (V.agg.inj u1).symm
      replace u2 : uvc A2 = [.int .u64 (lb ns[i] 0 : Nat), .int .u64 0, .int .u64 0, .int .u64 0] := (V.agg.inj u2).symm
      clear hA1 hA2
      refine wk ?_
      (refine aw_fx (fun F hF => ?_); simp only [h3i]; apply hF; clear hF F)
      refine aw_joinR (fun (A : Nat) => ⟨((.vec (fl ns) ns.length x) :: .any :: (.bool false) :: (.int .i64 i) :: (.ptr 0 0) :: .any :: .any :: .any :: .any :: .any :: .any :: .any :: .any :: .any :: .any :: .any :: .any :: .any :: .any :: .any :: .any :: .any :: .any :: .any :: .any :: .any :: .any :: .any :: .any :: .any :: .any :: .any :: .any :: .any :: .any :: .any :: .any :: .any :: .any :: .any :: .any :: .any :: .any :: .any :: .any :: .any :: .any :: .any :: .any :: .any :: .any :: .any :: .any :: .any :: .any :: .any :: .any :: .any :: .any :: .any :: .any :: .any :: .any :: .any :: .any :: .any :: .any :: .any :: .any :: .any :: .any :: .any :: .any :: .any :: .any :: .any :: .any :: .any :: .any :: .any :: .any :: .any :: .any :: .any :: .any :: .any :: .any :: .any :: .any :: .any :: .any :: .any :: .any :: .any :: .any :: .any :: .any :: .any :: .any :: .any :: .any :: .any :: .any :: .any :: .any :: .any :: .any :: .any :: .any :: .any :: .any :: .any :: .any :: .any :: .any :: .any :: .any :: .any :: .any :: .any :: .any :: .any :: .any :: .any :: .any :: .any :: .any :: .any :: .any :: .any :: .any :: .any :: .any :: .any :: .any :: .any :: .any :: .any :: .any :: .any :: .any :: .any :: .any :: .any :: .any :: .any :: []), [.live (uvc A)]⟩) (fun A => A < 28948022309329048855892746252171976963317496166410141009864396001978282409984) (fun K3 hK3 => ?_) (fun A hA => ?_)
      · by_cases hwi : ((i : Int) % 18446744073709551616 % 3) = 1
        · rw [hwi] at wi
          refine wk ?_
          exact hK3 _ A2 z2 (wkt [0] (hh := by dsimp only [renS, renH, renL, renV, renB, hbAt, List.map_cons, List.map_nil, List.getElem?_cons_zero, List.getElem?_cons_succ]; rw [u2]; try rfl))
        · refine wk ?_
          exact hK3 _ A1 z1 (wkt [0] (hh := by dsimp only [renS, renH, renL, renV, renB, hbAt, List.map_cons, List.map_nil, List.getElem?_cons_zero, List.getElem?_cons_succ]; rw [u1]; try rfl))
      · have hA256 : A < 115792089237316195423570985008687907853269984665640564039457584007913129639936 := by omega
        have hz := lbs_zeroL hA256
        clear u1 u2 z1 z2
        by_cases h0 : A = 0
        · rw [decide_eq_true h0] at hz
          refine wk ?_
          exact hK _ (i + 1) (by omega) (wkt []) (by omega)
        · rw [decide_eq_false h0] at hz
          have hA0 : 0 < A := by omega
          have cD := double_c A hA256
          rw [show sumV A A = ue (A + A) 0 from if_pos (by omega)] at cD
          have cV := div_c A 16 hA256 (by omega)
          rw [show divV A 16 = .tup [uv (A / 16), uv (A % 16), errV 0] from if_neg (by omega)] at cV
          replace cV : Pure Try.prog 44 [uv A, .agg [.int .u64 16, .int .u64 0, .int .u64 0, .int .u64 0]] (.tup [uv (A / 16), uv (A % 16), errV 0]) := cV
          have cA := add_c A (A / 16) hA256 (by omega)
          rw [show sumV A (A / 16) = ue (A + A / 16) 0 from if_pos (by omega)] at cA
          have y1 := level_c (A + A) (by omega)
          have y2 := level_c A hA256
          have y3 := dist_c (A + A / 16) A (by omega) hA256
          have f1 := lv_double hA0
          have f2 := lv_pos hA0
          have f3 := lv_more hA0
          have f4 := lvN_bd hA256
          have hmono : ∀ k : Nat, k < 115792089237316195423570985008687907853269984665640564039457584007913129639936 → ∃ g m : Int, cmpN k A = g ∧ lvN k - lvN A = m ∧ ¬ (g > 0 ∧ m < 0) ∧ ¬ (g < 0 ∧ m > 0) ∧ ¬ (g = 0 ∧ m ≠ 0) := by
            intro k _
            refine ⟨_, _, rfl, rfl, ?_⟩
            rcases cmpN_cases k A with ⟨a, b⟩ | ⟨a, b⟩ | ⟨a, b⟩
            · have := lv_mono (Nat.le_of_lt a); omega
            · have := lv_mono (Nat.le_of_lt a); omega
            · subst a; omega
          rw [f1] at y1
          obtain ⟨D2, hD2⟩ : ∃ d, A + A = d := ⟨_, rfl⟩
          obtain ⟨q, hq⟩ : ∃ d, A / 16 = d := ⟨_, rfl⟩
          obtain ⟨B, hB⟩ : ∃ d, A + q = d := ⟨_, rfl⟩
          rw [hD2] at cD y1
          rw [hq] at cV cA y3 f3
          rw [hB] at cA y3 f3
          obtain ⟨m0, hm0⟩ : ∃ m, lvN B - lvN A = m := ⟨_, rfl⟩
          rw [hm0] at y3 f3
          obtain ⟨LA, hLA⟩ : ∃ m, lvN A = m := ⟨_, rfl⟩
          have hdist : ∀ k : Nat, k < 115792089237316195423570985008687907853269984665640564039457584007913129639936 → Pure Try.prog 29 [uv k, uv A] (.int .i64 (lvN k - lvN A)) := fun k hk => dist_c k A hk hA256
          have hcmp : ∀ k : Nat, k < 115792089237316195423570985008687907853269984665640564039457584007913129639936 → Pure Try.prog 28 [uv k, uv A] (.int .i64 (cmpN k A)) := fun k hk => cmp_c k A hk hA256
          rw [hLA] at y1 y2 f2 f4
          have keep := Left.mk (And.intro hmono (And.intro hdist hcmp))
          clear hD2 hq hB hm0 hLA f1 hmono hdist hcmp
          refine wk ?_
          refine aw_loopI (fun (k : Nat) => ⟨((.vec (fl ns) ns.length x) :: .any :: (.bool false) :: (.int .i64 i) :: (.ptr 0 0) :: .any :: .any :: .any :: .any :: .any :: .any :: .any :: .any :: (.int .i64 k) :: .any :: .any :: .any :: .any :: .any :: .any :: .any :: .any :: .any :: .any :: .any :: .any :: .any :: .any :: .any :: .any :: .any :: .any :: .any :: .any :: .any :: .any :: .any :: .any :: .any :: .any :: .any :: .any :: .any :: .any :: .any :: .any :: .any :: .any :: .any :: .any :: .any :: .any :: .any :: .any :: .any :: .any :: .any :: .any :: .any :: .any :: .any :: .any :: .any :: .any :: .any :: .any :: .any :: .any :: .any :: .any :: .any :: .any :: .any :: .any :: .any :: .any :: .any :: .any :: .any :: .any :: .any :: .any :: .any :: .any :: .any :: .any :: .any :: .any :: .any :: .any :: .any :: .any :: .any :: .any :: .any :: .any :: .any :: .any :: .any :: .any :: .any :: .any :: .any :: .any :: .any :: .any :: .any :: .any :: .any :: .any :: .any :: .any :: .any :: .any :: .any :: .any :: .any :: .any :: .any :: .any :: .any :: .any :: .any :: .any :: .any :: .any :: .any :: .any :: .any :: .any :: .any :: .any :: .any :: .any :: .any :: .any :: .any :: .any :: .any :: .any :: .any :: .any :: .any :: .any :: .any :: .any :: []), [.live (uvc A)]⟩) (fun k => k ≤ ns.length ∧ k ≤ 15) (fun k => 15 - k) 0 (by omega) (wkt [0]) ?_
          rintro k ⟨hk, hk15⟩ K2 hK2
          by_cases h4 : k < ns.length
          · by_cases h5 : k < 15
            · have hmk := hlt ns[k] (List.getElem_mem h4)
              obtain ⟨hmono, hdist, hcmp⟩ := keep.left
              obtain ⟨g, m, e1, e2, e3, e4, e5⟩ := hmono ns[k] hmk
              have d1 := hdist ns[k] hmk
              have d2 := hcmp ns[k] hmk
              rw [e1] at d2; rw [e2] at d1
              clear hmono hdist hcmp e1 e2 y3
              by_cases g1 : g > 0
              · have : ¬ m < 0 := fun h => e3 ⟨g1, h⟩
                have : ¬ g < 0 := by omega
                have : ¬ g = 0 := by omega
                refine wk ?_
                exact hK2 _ (k + 1) (by omega) (wkt [0]) (by omega)
              · by_cases g2 : g < 0
                · have : ¬ m > 0 := fun h => e4 ⟨g2, h⟩
                  have : ¬ g = 0 := by omega
                  refine wk ?_
                  exact hK2 _ (k + 1) (by omega) (wkt [0]) (by omega)
                · obtain rfl : g = 0 := by omega
                  have : m = 0 := by apply Classical.byContradiction; intro h; exact e5 ⟨rfl, h⟩
                  refine wk ?_
                  exact hK2 _ (k + 1) (by omega) (wkt [0]) (by omega)
            · refine wk ?_
              exact hK _ (i + 1) (by omega) (wkt []) (by omega)
          · refine wk ?_
            exact hK _ (i + 1) (by omega) (wkt []) (by omega)
    · refine wk ?_
      refine fin ?_
      rfl
  · refine wk ?_
    refine fin ?_
    rfl
end Go.Abs
