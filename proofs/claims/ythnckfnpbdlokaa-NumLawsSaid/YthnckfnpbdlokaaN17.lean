/- The law NumLaws: the walk. -/
import Derived.Test.YthnckfnpbdlokaaN16
set_option linter.unusedVariables false
set_option linter.unusedSimpArgs false
namespace Go.Abs
open Go Go.Proofs

theorem within_c (i n : Int) (h : -9223372036854775808 ≤ i ∧ i < 9223372036854775808) (hn : 0 < n ∧ n < 9223372036854775808) : Pure Try.prog 46 [.int .i64 i, .int .i64 n] (.int .i64 (i % 18446744073709551616 % n)) := by
  refine pure_ac ?_ (cleans_cons (.int _ _) (cleans_cons (.int _ _) cleans_nil)) (.int _ _)
  have hm1 := Int.emod_nonneg (i % 18446744073709551616) (show n ≠ 0 by omega)
  have hm2 := Int.emod_lt_of_pos (i % 18446744073709551616) hn.1
  obtain ⟨z, hz⟩ : ∃ z, i % 18446744073709551616 % n = z := ⟨_, rfl⟩
  have hwz : IntKind.wrap .i64 z = z := wi64 (by omega)
  (refine enter Try.func46 Try.results46 Try.ntmps46 ty_ok (hw := fun F hF => ?_); simp only [List.length_cons, List.length_nil, Nat.reduceAdd, Nat.reduceSub, List.replicate_succ, List.replicate_zero, List.cons_append, List.nil_append]; apply hF; clear hF F)
  refine wk ?_
  rw [hz]
  refine fin ?_
  rfl
theorem mulV_ue (x y : Nat) : ∃ A e, mulV x y = ue A e := by unfold mulV; split <;> exact ⟨_, _, rfl⟩
theorem laws_one (a b d : Nat) (ha : a < 115792089237316195423570985008687907853269984665640564039457584007913129639936) (hb : b < 115792089237316195423570985008687907853269984665640564039457584007913129639936) (hd : d < 115792089237316195423570985008687907853269984665640564039457584007913129639936) :
    (Pure Try.prog 39 [uv a, uv b] (ue 0 8) ∧ Pure Try.prog 39 [uv b, uv a] (ue 0 8)) ∨
    ∃ s g, Pure Try.prog 39 [uv a, uv b] (ue s 0) ∧ Pure Try.prog 39 [uv b, uv a] (ue s 0) ∧ Pure Try.prog 40 [uv s, uv b] (ue a 0) ∧ Pure Try.prog 28 [uv s, uv a] (.int .i64 g) ∧ ¬ g < 0 ∧
      ((∃ A e B f, Pure Try.prog 36 [uv s, uv d] (ue 0 8) ∧ Pure Try.prog 36 [uv a, uv d] (ue A e) ∧ Pure Try.prog 36 [uv b, uv d] (ue B f)) ∨
       ∃ M A B, Pure Try.prog 36 [uv s, uv d] (ue M 0) ∧ Pure Try.prog 36 [uv a, uv d] (ue A 0) ∧ Pure Try.prog 36 [uv b, uv d] (ue B 0) ∧ Pure Try.prog 39 [uv A, uv B] (ue M 0)) := by
  have c1 := add_c a b ha hb
  have c2 := add_c b a hb ha
  unfold sumV at c1 c2
  rw [Nat.add_comm b a] at c2
  by_cases hs : a + b < 115792089237316195423570985008687907853269984665640564039457584007913129639936
  · rw [if_pos hs] at c1 c2
    obtain ⟨s, hse⟩ : ∃ s, a + b = s := ⟨_, rfl⟩
    rw [hse] at c1 c2 hs
    have c3 := sub_c s b hs hb
    rw [show diffV s b = ue a 0 from by unfold diffV; rw [if_neg (by omega), show s - b = a from by omega]] at c3
    have c4 := cmp_c s a hs ha
    have hg : ¬ cmpN s a < 0 := by rcases cmpN_cases s a with h | h | h <;> omega
    refine .inr ⟨s, _, c1, c2, c3, c4, hg, ?_⟩
    have m1 := mul_c s d hs hd
    have m2 := mul_c a d ha hd
    have m3 := mul_c b d hb hd
    have he : s * d = a * d + b * d := by rw [← hse, Nat.add_mul]
    by_cases hm : s * d < 115792089237316195423570985008687907853269984665640564039457584007913129639936
    · rw [show mulV s d = ue (s * d) 0 from if_pos hm] at m1
      rw [show mulV a d = ue (a * d) 0 from if_pos (by omega)] at m2
      rw [show mulV b d = ue (b * d) 0 from if_pos (by omega)] at m3
      have c5 := add_c (a * d) (b * d) (by omega) (by omega)
      rw [show sumV (a * d) (b * d) = ue (s * d) 0 from by unfold sumV; rw [if_pos (by omega), he]] at c5
      exact .inr ⟨_, _, _, m1, m2, m3, c5⟩
    · rw [show mulV s d = ue 0 8 from if_neg hm] at m1
      obtain ⟨A, e, h2⟩ := mulV_ue a d
      obtain ⟨B, f, h3⟩ := mulV_ue b d
      rw [h2] at m2; rw [h3] at m3
      exact .inl ⟨A, e, B, f, m1, m2, m3⟩
  · rw [if_neg hs] at c1 c2
    exact .inl ⟨c1, c2⟩
theorem laws_two (a b : Nat) (ha : a < 115792089237316195423570985008687907853269984665640564039457584007913129639936) (hb : b < 115792089237316195423570985008687907853269984665640564039457584007913129639936) :
    Pure Try.prog 44 [uv a, uv b] (.tup [uv 0, uv 0, errV 3]) ∨
    ∃ q r m g, Pure Try.prog 44 [uv a, uv b] (.tup [uv q, uv r, errV 0]) ∧ Pure Try.prog 36 [uv q, uv b] (ue m 0) ∧ Pure Try.prog 39 [uv m, uv r] (ue a 0) ∧ Pure Try.prog 28 [uv r, uv b] (.int .i64 g) ∧ g < 0 := by
  have c1 := div_c a b ha hb
  unfold divV at c1
  by_cases h0 : b = 0
  · rw [if_pos h0] at c1; exact .inl c1
  · rw [if_neg h0] at c1
    have hr : a % b < b := Nat.mod_lt _ (Nat.pos_of_ne_zero h0)
    have hq : a / b ≤ a := Nat.div_le_self _ _
    have hm : a / b * b + a % b = a := Nat.div_add_mod' a b
    have m1 := mul_c (a / b) b (by omega) hb
    rw [show mulV (a / b) b = ue (a / b * b) 0 from if_pos (by omega)] at m1
    have c2 := add_c (a / b * b) (a % b) (by omega) (by omega)
    rw [show sumV (a / b * b) (a % b) = ue a 0 from by unfold sumV; rw [hm, if_pos ha]] at c2
    have c3 := cmp_c (a % b) b (by omega) hb
    exact .inr ⟨_, _, _, _, c1, m1, c2, c3, by rw [cmpN_lt hr]; omega⟩
set_option maxRecDepth 4000 in
set_option maxHeartbeats 20000000 in
theorem numLaws_c (ns : List Nat) (x : Bool) (hns : ns.length < 9223372036854775808) (hlt : ∀ n ∈ ns, n < 115792089237316195423570985008687907853269984665640564039457584007913129639936) : Pure Try.prog 16 [vecU ns x] (.bool true) := by
  refine pure_ac ?_ (cleans_cons (clean_vecU _ _) cleans_nil) (.bool _)
  unfold vecU
  have hw := wakes1_c
  have hnum := num1_c
  have hwi := within_c 5 3 (by omega) (by omega)
  (refine enter Try.func16 Try.results16 Try.ntmps16 ty_ok (hw := fun F hF => ?_); simp only [List.length_cons, List.length_nil, Nat.reduceAdd, Nat.reduceSub, List.replicate_succ, List.replicate_zero, List.cons_append, List.nil_append]; apply hF; clear hF F)
  refine wk ?_
  refine aw_loopI (fun (i : Nat) => ⟨((.vec (fl ns) ns.length x) :: .any :: (.bool false) :: (.int .i64 i) :: .any :: .any :: .any :: .any :: .any :: .any :: .any :: .any :: .any :: .any :: .any :: .any :: .any :: .any :: .any :: .any :: .any :: .any :: .any :: .any :: .any :: .any :: .any :: .any :: .any :: .any :: .any :: .any :: .any :: .any :: .any :: .any :: .any :: .any :: .any :: .any :: .any :: .any :: .any :: .any :: .any :: .any :: .any :: .any :: .any :: .any :: .any :: .any :: .any :: .any :: .any :: .any :: .any :: .any :: .any :: .any :: .any :: .any :: .any :: .any :: .any :: .any :: .any :: .any :: .any :: .any :: .any :: .any :: .any :: .any :: .any :: .any :: .any :: .any :: .any :: .any :: .any :: .any :: .any :: .any :: .any :: .any :: .any :: .any :: .any :: .any :: .any :: .any :: .any :: .any :: .any :: .any :: .any :: .any :: .any :: .any :: .any :: .any :: .any :: .any :: .any :: .any :: .any :: .any :: .any :: .any :: .any :: .any :: .any :: .any :: .any :: .any :: .any :: .any :: .any :: .any :: .any :: .any :: .any :: .any :: .any :: .any :: .any :: .any :: .any :: .any :: .any :: .any :: .any :: .any :: .any :: .any :: .any :: .any :: .any :: .any :: .any :: .any :: .any :: .any :: .any :: .any :: .any :: .any :: .any :: .any :: .any :: .any :: .any :: .any :: .any :: .any :: .any :: .any :: .any :: .any :: .any :: .any :: .any :: .any :: .any :: .any :: .any :: .any :: .any :: .any :: .any :: .any :: .any :: .any :: .any :: .any :: .any :: .any :: .any :: .any :: .any :: .any :: .any :: .any :: .any :: .any :: .any :: .any :: .any :: []), []⟩) (fun i => i ≤ ns.length ∧ i ≤ 12) (fun i => 12 - i) 0 (by omega) (wkt []) ?_
  rintro i ⟨hi, hi12⟩ K hK
  by_cases h1 : i + 2 < ns.length
  · by_cases h2 : i < 12
    · obtain ⟨a, ha⟩ : ∃ a, ns[i] = a := ⟨_, rfl⟩
      obtain ⟨b, hb⟩ : ∃ b, ns[i + 1] = b := ⟨_, rfl⟩
      obtain ⟨d, hd⟩ : ∃ d, ns[i + 2] = d := ⟨_, rfl⟩
      have hb' : ∀ h : ((i : Int) + 1).toNat < ns.length, ns[((i : Int) + 1).toNat] = b := by
        intro h; have e : ((i : Int) + 1).toNat = i + 1 := by omega
        simp only [e]; exact hb
      have hd' : ∀ h : ((i : Int) + 2).toNat < ns.length, ns[((i : Int) + 2).toNat] = d := by
        intro h; have e : ((i : Int) + 2).toNat = i + 2 := by omega
        simp only [e]; exact hd
      have hal : a < 115792089237316195423570985008687907853269984665640564039457584007913129639936 := by rw [← ha]; exact hlt _ (List.getElem_mem _)
      have hbl : b < 115792089237316195423570985008687907853269984665640564039457584007913129639936 := by rw [← hb]; exact hlt _ (List.getElem_mem _)
      have hdl : d < 115792089237316195423570985008687907853269984665640564039457584007913129639936 := by rw [← hd]; exact hlt _ (List.getElem_mem _)
      refine wk ?_
      refine aw_join2 (fun (_ : Unit) => ⟨((.vec (fl ns) ns.length x) :: .any :: (.bool false) :: (.int .i64 i) :: (.ptr 0 0) :: (.ptr 1 0) :: (.ptr 2 0) :: .any :: .any :: .any :: .any :: .any :: .any :: .any :: .any :: .any :: .any :: .any :: .any :: .any :: .any :: .any :: .any :: .any :: .any :: .any :: .any :: .any :: .any :: .any :: .any :: .any :: .any :: .any :: .any :: .any :: .any :: .any :: .any :: .any :: .any :: .any :: .any :: .any :: .any :: .any :: .any :: .any :: .any :: .any :: .any :: .any :: .any :: .any :: .any :: .any :: .any :: .any :: .any :: .any :: .any :: .any :: .any :: .any :: .any :: .any :: .any :: .any :: .any :: .any :: .any :: .any :: .any :: .any :: .any :: .any :: .any :: .any :: .any :: .any :: .any :: .any :: .any :: .any :: .any :: .any :: .any :: .any :: .any :: .any :: .any :: .any :: .any :: .any :: .any :: .any :: .any :: .any :: .any :: .any :: .any :: .any :: .any :: .any :: .any :: .any :: .any :: .any :: .any :: .any :: .any :: .any :: .any :: .any :: .any :: .any :: .any :: .any :: .any :: .any :: .any :: .any :: .any :: .any :: .any :: .any :: .any :: .any :: .any :: .any :: .any :: .any :: .any :: .any :: .any :: .any :: .any :: .any :: .any :: .any :: .any :: .any :: .any :: .any :: .any :: .any :: .any :: .any :: .any :: .any :: .any :: .any :: .any :: .any :: .any :: .any :: .any :: .any :: .any :: .any :: .any :: .any :: .any :: .any :: .any :: .any :: .any :: .any :: .any :: .any :: .any :: .any :: .any :: .any :: .any :: .any :: .any :: .any :: .any :: .any :: .any :: .any :: .any :: .any :: .any :: .any :: .any :: .any :: .any :: []), [.live (uvc a), .live (uvc b), .live (uvc d)]⟩) (fun _ => True) (fun K3 hK3 => ?_) (fun _ _ => ?_)
      · (refine aw_drawN ty_ok pureL [[0, 1, 2, 3, 4, 5, 6, 7, 8, 9, 10, 11, 12, 13, 14, 15, 16, 17, 18, 19], [0, 1, 2, 3, 4, 5, 6, 7, 8, 9, 10, 11, 12, 13, 14, 16, 15, 17, 18, 19], [0, 1, 2, 3, 4, 5, 6, 7, 8, 9, 10, 11, 12, 13, 15, 14, 16, 17, 18, 19], [0, 1, 2, 3, 4, 5, 6, 7, 8, 9, 10, 11, 12, 13, 15, 16, 14, 17, 18, 19], [0, 1, 2, 3, 4, 5, 6, 7, 8, 9, 10, 11, 12, 13, 16, 14, 15, 17, 18, 19], [0, 1, 2, 3, 4, 5, 6, 7, 8, 9, 10, 11, 12, 13, 16, 15, 14, 17, 18, 19]] (by kernel_rfl) (by repeat (first | exact List.forall_mem_nil _ | refine List.forall_mem_cons.2 ⟨rfl, ?_⟩)) ?_; simp only [List.forall_mem_cons, List.forall_mem_nil, and_true, List.not_mem_nil, false_implies, implies_true, pk, List.map_cons, List.map_nil, List.getD_cons_zero, List.getD_cons_succ])
        refine ⟨?_, ?_, ?_, ?_, ?_, ?_⟩
        · refine wk ?_
          rw [ha, hb', hd']
          exact hK3 _ () trivial (wkt [0, 1, 2])
        · refine wk ?_
          rw [ha, hb', hd']
          exact hK3 _ () trivial (wkt [0, 2, 1])
        · refine wk ?_
          rw [ha, hb', hd']
          exact hK3 _ () trivial (wkt [1, 0, 2])
        · refine wk ?_
          rw [ha, hb', hd']
          exact hK3 _ () trivial (wkt [2, 0, 1])
        · refine wk ?_
          rw [ha, hb', hd']
          exact hK3 _ () trivial (wkt [1, 2, 0])
        · refine wk ?_
          rw [ha, hb', hd']
          exact hK3 _ () trivial (wkt [2, 1, 0])
      clear ha hb hd hb' hd'
      rcases laws_one a b d hal hbl hdl with ⟨q1, q2⟩ | ⟨s, g, q1, q2, q3, q4, q5, ⟨A, e, B, f, q6, q7, q8⟩ | ⟨M, A, B, q6, q7, q8, q9⟩⟩ <;> rcases laws_two a b hal hbl with r1 | ⟨q, r, m, gg, r1, r2, r3, r4, r5⟩
      · refine wk ?_
        exact hK _ (i + 1) ⟨by omega, by omega⟩ (wkt []) (by omega)
      · refine wk ?_
        exact hK _ (i + 1) ⟨by omega, by omega⟩ (wkt []) (by omega)
      · refine wk ?_
        exact hK _ (i + 1) ⟨by omega, by omega⟩ (wkt []) (by omega)
      · refine wk ?_
        exact hK _ (i + 1) ⟨by omega, by omega⟩ (wkt []) (by omega)
      · refine wk ?_
        exact hK _ (i + 1) ⟨by omega, by omega⟩ (wkt []) (by omega)
      · refine wk ?_
        exact hK _ (i + 1) ⟨by omega, by omega⟩ (wkt []) (by omega)
    · refine wk ?_
      refine fin ?_
      rfl
  · refine wk ?_
    refine fin ?_
    rfl
end Go.Abs
