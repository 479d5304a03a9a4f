/- Fees: the factor: the walks. -/
import Derived.Test.YtpaehjjkfjgfiaaN15
set_option linter.unusedVariables false
set_option linter.unusedSimpArgs false
namespace Go.Abs
open Go Go.Proofs

theorem lbs_zero {n : Nat} (h : n < 115792089237316195423570985008687907853269984665640564039457584007913129639936) : ((lb n 0 : Int) == 0 && ((lb n 1 : Int) == 0 && ((lb n 2 : Int) == 0 && (lb n 3 : Int) == 0))) = decide (n = 0) := by
  have h4 := num4_lb h
  unfold num4 at h4
  rw [Bool.eq_iff_iff]
  simp only [Bool.and_eq_true, beq_iff_eq, decide_eq_true_eq]
  omega
/-- The sum of the terms: none, where it is over. -/
def fakeN (num den : Nat) : Nat → Nat → Nat → Nat → Option Nat
  | 0, _, _, _ => none
  | fuel + 1, out, acc, i => if acc = 0 then some out else if 4096 < i then none else if out + acc < 115792089237316195423570985008687907853269984665640564039457584007913129639936 ∧ acc * num < 115792089237316195423570985008687907853269984665640564039457584007913129639936 ∧ den * i < 115792089237316195423570985008687907853269984665640564039457584007913129639936 then fakeN num den fuel (out + acc) (acc * num / (den * i)) (i + 1) else none
def fakeV (f n d : Nat) : Option Nat := if f * d < 115792089237316195423570985008687907853269984665640564039457584007913129639936 then (fakeN n d 4097 0 (f * d) 1).map (· / d) else none
/-- What a factor comes to. -/
def fakeR (f n d : Nat) : V := if d = 0 then ue 0 1 else match fakeV f n d with
  | none => ue 0 8
  | some q => ue q 0
theorem clean_fakeR (f n d : Nat) : Clean (fakeR f n d) := by unfold fakeR; split; exact clean_ue _ _; split <;> exact clean_ue _ _
theorem rof_c (n : Int) (h0 : 0 ≤ n) (hn : n < 9223372036854775808) : Pure Try.prog 39 [.int .i64 n] (uv n.toNat) := by
  refine pure_ac ?_ (cleans_cons (.int _ _) cleans_nil) (clean_uv _)
  obtain ⟨m, rfl⟩ := Int.eq_ofNat_of_zero_le h0
  have hm : m < 18446744073709551616 := by omega
  have e := uv_congr (a := m) (b := 0) (c := 0) (d := 0) (n := m) hm (by omega) (by omega) (by omega) (by unfold num4; omega)
  rw [Int.toNat_natCast, ← e]
  (refine enter Try.func39 Try.results39 Try.ntmps39 ty_ok (hw := fun F hF => ?_); simp only [List.length_cons, List.length_nil, Nat.reduceAdd, Nat.reduceSub, List.replicate_succ, List.replicate_zero, List.cons_append, List.nil_append]; apply hF; clear hF F)
  refine wk ?_
  refine fin ?_
  rfl
def stepV (out acc num den i : Nat) : V := if out + acc < 115792089237316195423570985008687907853269984665640564039457584007913129639936 ∧ acc * num < 115792089237316195423570985008687907853269984665640564039457584007913129639936 ∧ den * i < 115792089237316195423570985008687907853269984665640564039457584007913129639936 then .tup [uv (out + acc), uv (acc * num / (den * i)), errV 0] else .tup [uv 0, uv 0, errV 8]
theorem clean_stepV (out acc num den i : Nat) : Clean (stepV out acc num den i) := by unfold stepV; split <;> exact clean_tri _ _ _
set_option maxHeartbeats 20000000 in
theorem step_c (out acc num den i : Nat) (h1 : out < 115792089237316195423570985008687907853269984665640564039457584007913129639936) (h2 : acc < 115792089237316195423570985008687907853269984665640564039457584007913129639936) (h3 : num < 115792089237316195423570985008687907853269984665640564039457584007913129639936) (h4 : den < 115792089237316195423570985008687907853269984665640564039457584007913129639936) (hd : 0 < den) (hi : 0 < i ∧ i ≤ 4096) : Pure Try.prog 49 [uv out, uv acc, uv num, uv den, .int .i64 i] (stepV out acc num den i) := by
  refine pure_ac ?_ (cleans_cons (clean_uv _) (cleans_cons (clean_uv _) (cleans_cons (clean_uv _) (cleans_cons (clean_uv _) (cleans_cons (.int _ _) cleans_nil))))) (clean_stepV _ _ _ _ _)
  have co := of_c i (by omega) (by omega)
  rw [Int.toNat_natCast] at co
  have ca := add_c out acc h1 h2
  have cm := mul_c acc num h2 h3
  have cn := mul_c den i h4 (by omega)
  unfold sumV at ca
  unfold mulV at cm cn
  unfold stepV
  by_cases a1 : out + acc < 115792089237316195423570985008687907853269984665640564039457584007913129639936
  · rw [if_pos a1] at ca
    by_cases a2 : acc * num < 115792089237316195423570985008687907853269984665640564039457584007913129639936
    · rw [if_pos a2] at cm
      by_cases a3 : den * i < 115792089237316195423570985008687907853269984665640564039457584007913129639936
      · rw [if_pos a3] at cn
        rw [if_pos ⟨a1, a2, a3⟩]
        have hp : 0 < den * i := Nat.mul_pos hd hi.1
        have cd := div_c (acc * num) (den * i) a2 a3
        rw [show divV (acc * num) (den * i) = .tup [uv (acc * num / (den * i)), uv (acc * num % (den * i)), errV 0] from if_neg (by omega)] at cd
        obtain ⟨p, hp'⟩ : ∃ p, acc * num = p := ⟨_, rfl⟩
        obtain ⟨r, hr'⟩ : ∃ r, den * i = r := ⟨_, rfl⟩
        rw [hp'] at cm; rw [hr'] at cn; rw [hp', hr'] at cd ⊢
        clear hp' hr' a2 a3 hp
        (refine enter Try.func49 Try.results49 Try.ntmps49 ty_ok (hw := fun F hF => ?_); simp only [List.length_cons, List.length_nil, Nat.reduceAdd, Nat.reduceSub, List.replicate_succ, List.replicate_zero, List.cons_append, List.nil_append]; apply hF; clear hF F)
        refine wk ?_
        refine fin ?_
        rfl
      · rw [if_neg a3] at cn
        rw [if_neg (fun h => a3 h.2.2)]
        obtain ⟨p, hp'⟩ : ∃ p, acc * num = p := ⟨_, rfl⟩
        rw [hp'] at cm
        clear hp' a2 a3
        (refine enter Try.func49 Try.results49 Try.ntmps49 ty_ok (hw := fun F hF => ?_); simp only [List.length_cons, List.length_nil, Nat.reduceAdd, Nat.reduceSub, List.replicate_succ, List.replicate_zero, List.cons_append, List.nil_append]; apply hF; clear hF F)
        refine wk ?_
        refine fin ?_
        rfl
    · rw [if_neg a2] at cm
      rw [if_neg (fun h => a2 h.2.1)]
      obtain ⟨A, e, he⟩ : ∃ A e, (if den * i < 115792089237316195423570985008687907853269984665640564039457584007913129639936 then ue (den * i) 0 else ue 0 8) = ue A e := by split <;> exact ⟨_, _, rfl⟩
      rw [he] at cn
      clear he a2
      (refine enter Try.func49 Try.results49 Try.ntmps49 ty_ok (hw := fun F hF => ?_); simp only [List.length_cons, List.length_nil, Nat.reduceAdd, Nat.reduceSub, List.replicate_succ, List.replicate_zero, List.cons_append, List.nil_append]; apply hF; clear hF F)
      refine wk ?_
      refine fin ?_
      rfl
  · rw [if_neg a1] at ca
    rw [if_neg (fun h => a1 h.1)]
    obtain ⟨A, e, he⟩ : ∃ A e, (if den * i < 115792089237316195423570985008687907853269984665640564039457584007913129639936 then ue (den * i) 0 else ue 0 8) = ue A e := by split <;> exact ⟨_, _, rfl⟩
    rw [he] at cn
    obtain ⟨A', e', he'⟩ : ∃ A e, (if acc * num < 115792089237316195423570985008687907853269984665640564039457584007913129639936 then ue (acc * num) 0 else ue 0 8) = ue A e := by split <;> exact ⟨_, _, rfl⟩
    rw [he'] at cm
    clear he he'
    (refine enter Try.func49 Try.results49 Try.ntmps49 ty_ok (hw := fun F hF => ?_); simp only [List.length_cons, List.length_nil, Nat.reduceAdd, Nat.reduceSub, List.replicate_succ, List.replicate_zero, List.cons_append, List.nil_append]; apply hF; clear hF F)
    refine wk ?_
    refine fin ?_
    rfl
set_option maxHeartbeats 20000000 in
theorem fake_c (f n d : Nat) (hf : f < 115792089237316195423570985008687907853269984665640564039457584007913129639936) (hn : n < 115792089237316195423570985008687907853269984665640564039457584007913129639936) (hd : d < 115792089237316195423570985008687907853269984665640564039457584007913129639936) : Pure Try.prog 40 [uv f, uv n, uv d] (fakeR f n d) := by
  refine pure_ac ?_ (cleans_cons (clean_uv _) (cleans_cons (clean_uv _) (cleans_cons (clean_uv _) cleans_nil))) (clean_fakeR _ _ _)
  have hz := lbs_zero hd
  unfold fakeR
  by_cases h0 : d = 0
  · rw [if_pos h0]
    rw [decide_eq_true h0] at hz
    (refine enter Try.func40 Try.results40 Try.ntmps40 ty_ok (hw := fun F hF => ?_); simp only [List.length_cons, List.length_nil, Nat.reduceAdd, Nat.reduceSub, List.replicate_succ, List.replicate_zero, List.cons_append, List.nil_append]; apply hF; clear hF F)
    refine wk ?_
    refine fin ?_
    rfl
  · rw [if_neg h0]
    rw [decide_eq_false h0] at hz
    have hd0 : 0 < d := Nat.pos_of_ne_zero h0
    have cm := mul_c f d hf hd
    unfold mulV at cm
    obtain ⟨T, hT⟩ : ∃ T, (if f * d < 115792089237316195423570985008687907853269984665640564039457584007913129639936 then fakeN n d 4097 0 (f * d) 1 else none) = T := ⟨_, rfl⟩
    have hV : fakeV f n d = T.map (· / d) := by
      unfold fakeV; rw [← hT]; split <;> rfl
    rw [hV]
    obtain ⟨a0, e0, he, hA⟩ : ∃ a0 e0, (if f * d < 115792089237316195423570985008687907853269984665640564039457584007913129639936 then ue (f * d) 0 else ue 0 8) = ue a0 e0 ∧ ((e0 = 0 ∧ a0 < 115792089237316195423570985008687907853269984665640564039457584007913129639936 ∧ fakeN n d 4097 0 a0 1 = T) ∨ (e0 = 8 ∧ T = none)) := by
      by_cases h : f * d < 115792089237316195423570985008687907853269984665640564039457584007913129639936
      · rw [if_pos h] at hT ⊢; exact ⟨_, _, rfl, .inl ⟨rfl, h, hT⟩⟩
      · rw [if_neg h] at hT ⊢; exact ⟨_, _, rfl, .inr ⟨rfl, hT.symm⟩⟩
    rw [he] at cm
    clear hT hV he
    (refine enter Try.func40 Try.results40 Try.ntmps40 ty_ok (hw := fun F hF => ?_); simp only [List.length_cons, List.length_nil, Nat.reduceAdd, Nat.reduceSub, List.replicate_succ, List.replicate_zero, List.cons_append, List.nil_append]; apply hF; clear hF F)
    refine wk ?_
    refine aw_loopI (fun (Z : Nat × Nat × Nat × Nat) => ⟨(.any :: .any :: .any :: (.ptr 0 0) :: (.ptr 1 0) :: (.ptr 2 0) :: (.ptr 3 0) :: (.int .i64 0) :: (.ptr 4 0) :: (.ptr 5 0) :: (.ptr 6 0) :: (errV Z.2.2.2) :: (.int .i64 Z.1) :: .any :: .any :: .any :: .any :: .any :: .any :: .any :: .any :: .any :: .any :: .any :: .any :: .any :: .any :: .any :: .any :: .any :: .any :: .any :: .any :: .any :: .any :: .any :: .any :: .any :: .any :: .any :: .any :: .any :: .any :: .any :: .any :: .any :: .any :: .any :: .any :: .any :: .any :: .any :: .any :: .any :: .any :: .any :: .any :: .any :: .any :: .any :: .any :: .any :: .any :: []), [.live (uvc f), .live (uvc n), .live (uvc d), .live [.int .u64 0, .int .u64 0, .int .u64 0, .int .u64 0], .live [.int .u64 0, .int .u64 0, .int .u64 0, .int .u64 0], .live (uvc Z.2.1), .live (uvc Z.2.2.1)]⟩) (fun Z => 1 ≤ Z.1 ∧ ((Z.2.2.2 = 0 ∧ Z.1 ≤ 4097 ∧ Z.2.1 < 115792089237316195423570985008687907853269984665640564039457584007913129639936 ∧ Z.2.2.1 < 115792089237316195423570985008687907853269984665640564039457584007913129639936 ∧ fakeN n d (4098 - Z.1) Z.2.1 Z.2.2.1 Z.1 = T) ∨ (Z.2.2.2 = 8 ∧ Z.1 ≤ 4098 ∧ T = none))) (fun Z => 4098 - Z.1) (1, 0, a0, e0) ?_ (wkt [0, 1, 2, 3, 4, 5, 6]) ?_
    · rcases hA with ⟨rfl, h, h'⟩ | ⟨rfl, h⟩
      · exact ⟨Nat.le_refl _, .inl ⟨rfl, by show 1 ≤ 4097; omega, by show 0 < 115792089237316195423570985008687907853269984665640564039457584007913129639936; omega, h, h'⟩⟩
      · exact ⟨Nat.le_refl _, .inr ⟨rfl, by show 1 ≤ 4098; omega, h⟩⟩
    · rintro ⟨i, out, acc, e⟩ ⟨hi, hI⟩ K hK
      dsimp only at hi hI
      clear cm
      rcases hI with ⟨rfl, hi2, ho, ha, hN⟩ | ⟨rfl, hi2, rfl⟩
      · have hza := lbs_zero ha
        by_cases hac : acc = 0
        · rw [decide_eq_true hac] at hza
          have hT : T = some out := by
            rw [← hN, show 4098 - i = (4097 - i) + 1 from by omega, fakeN, if_pos hac]
          subst hT
          have cd := div_c out d ho hd
          rw [show divV out d = .tup [uv (out / d), uv (out % d), errV 0] from if_neg h0] at cd
          refine wk ?_
          refine fin ?_
          rfl
        · rw [decide_eq_false hac] at hza
          by_cases hi3 : 4096 < i
          · have hT : T = none := by
              rw [← hN, show 4098 - i = (4097 - i) + 1 from by omega, fakeN, if_neg hac, if_pos hi3]
            subst hT
            refine wk ?_
            refine fin ?_
            rfl
          · have cs := step_c out acc n d i ho ha hn hd hd0 ⟨by omega, by omega⟩
            unfold stepV at cs
            rw [show 4098 - i = (4097 - i) + 1 from by omega, fakeN, if_neg hac, if_neg hi3] at hN
            by_cases hs : out + acc < 115792089237316195423570985008687907853269984665640564039457584007913129639936 ∧ acc * n < 115792089237316195423570985008687907853269984665640564039457584007913129639936 ∧ d * i < 115792089237316195423570985008687907853269984665640564039457584007913129639936
            · rw [if_pos hs] at cs hN
              have hnx : acc * n / (d * i) < 115792089237316195423570985008687907853269984665640564039457584007913129639936 := Nat.lt_of_le_of_lt (Nat.div_le_self _ _) hs.2.1
              obtain ⟨x2, hx2⟩ : ∃ x, acc * n / (d * i) = x := ⟨_, rfl⟩
              rw [hx2] at cs hN hnx
              obtain ⟨o2, ho2⟩ : ∃ x, out + acc = x := ⟨_, rfl⟩
              rw [ho2] at cs hN hs
              have ho2l := hs.1
              clear hs hx2 ho2
              refine wk ?_
              exact hK _ (i + 1, o2, x2, 0) ⟨by show 1 ≤ i + 1; omega, .inl ⟨rfl, by show i + 1 ≤ 4097; omega, ho2l, hnx, by show fakeN n d (4098 - (i + 1)) o2 x2 (i + 1) = T; rw [show 4098 - (i + 1) = 4097 - i from by omega]; exact hN⟩⟩ (wkt [0, 1, 2, 3, 4, 5, 6]) (by show 4098 - (i + 1) < 4098 - i; omega)
            · rw [if_neg hs] at cs hN
              clear hs
              refine wk ?_
              exact hK _ (i + 1, 0, 0, 8) ⟨by show 1 ≤ i + 1; omega, .inr ⟨rfl, by show i + 1 ≤ 4098; omega, hN.symm⟩⟩ (wkt [0, 1, 2, 3, 4, 5, 6]) (by show 4098 - (i + 1) < 4098 - i; omega)
      · refine wk ?_
        refine fin ?_
        rfl
set_option maxHeartbeats 20000000 in
theorem rfake_c (f n d : Nat) (hf : f < 115792089237316195423570985008687907853269984665640564039457584007913129639936) (hn : n < 115792089237316195423570985008687907853269984665640564039457584007913129639936) (hd : d < 115792089237316195423570985008687907853269984665640564039457584007913129639936) : Pure Try.prog 58 [uv f, uv n, uv d] (fakeR f n d) := by
  refine pure_ac ?_ (cleans_cons (clean_uv _) (cleans_cons (clean_uv _) (cleans_cons (clean_uv _) cleans_nil))) (clean_fakeR _ _ _)
  have hz := lbs_zero hd
  unfold fakeR
  by_cases h0 : d = 0
  · rw [if_pos h0]
    rw [decide_eq_true h0] at hz
    (refine enter Try.func58 Try.results58 Try.ntmps58 ty_ok (hw := fun F hF => ?_); simp only [List.length_cons, List.length_nil, Nat.reduceAdd, Nat.reduceSub, List.replicate_succ, List.replicate_zero, List.cons_append, List.nil_append]; apply hF; clear hF F)
    refine wk ?_
    refine fin ?_
    rfl
  · rw [if_neg h0]
    rw [decide_eq_false h0] at hz
    have hd0 : 0 < d := Nat.pos_of_ne_zero h0
    have cm := rmul_c f d hf hd
    unfold rmulV at cm
    by_cases hfd : f * d < 115792089237316195423570985008687907853269984665640564039457584007913129639936
    · obtain ⟨T, hT⟩ : ∃ T, fakeN n d 4097 0 (f * d) 1 = T := ⟨_, rfl⟩
      have hV : fakeV f n d = T.map (· / d) := by
        unfold fakeV; rw [if_pos hfd, hT]
      rw [hV]
      rw [if_pos hfd] at cm
      obtain ⟨a0, ha0⟩ : ∃ a0, f * d = a0 := ⟨_, rfl⟩
      rw [ha0] at cm hfd hT
      clear hV ha0
      (refine enter Try.func58 Try.results58 Try.ntmps58 ty_ok (hw := fun F hF => ?_); simp only [List.length_cons, List.length_nil, Nat.reduceAdd, Nat.reduceSub, List.replicate_succ, List.replicate_zero, List.cons_append, List.nil_append]; apply hF; clear hF F)
      refine wk ?_
      refine aw_loopI (fun (Z : Nat × Nat × Nat) => ⟨(.any :: .any :: .any :: (.ptr 0 0) :: (.ptr 1 0) :: (.ptr 2 0) :: (.ptr 3 0) :: (.int .i64 0) :: (.ptr 4 0) :: (.ptr 5 0) :: .any :: (.ptr 6 0) :: (.int .i64 Z.1) :: .any :: .any :: .any :: .any :: .any :: .any :: .any :: .any :: .any :: .any :: .any :: .any :: .any :: .any :: .any :: .any :: .any :: .any :: .any :: .any :: .any :: .any :: .any :: .any :: .any :: .any :: .any :: .any :: .any :: .any :: .any :: .any :: .any :: .any :: .any :: .any :: .any :: .any :: .any :: .any :: .any :: .any :: .any :: .any :: .any :: .any :: .any :: .any :: .any :: .any :: .any :: .any :: .any :: .any :: .any :: .any :: .any :: .any :: .any :: .any :: .any :: .any :: .any :: .any :: .any :: .any :: .any :: .any :: .any :: .any :: .any :: []), [.live (uvc f), .live (uvc n), .live (uvc d), .live [.int .u64 0, .int .u64 0, .int .u64 0, .int .u64 0], .live [.int .u64 0, .int .u64 0, .int .u64 0, .int .u64 0], .live (uvc Z.2.2), .live (uvc Z.2.1)]⟩) (fun Z => 1 ≤ Z.1 ∧ Z.1 ≤ 4097 ∧ Z.2.1 < 115792089237316195423570985008687907853269984665640564039457584007913129639936 ∧ Z.2.2 < 115792089237316195423570985008687907853269984665640564039457584007913129639936 ∧ fakeN n d (4098 - Z.1) Z.2.1 Z.2.2 Z.1 = T) (fun Z => 4098 - Z.1) (1, 0, a0) ⟨Nat.le_refl _, by show 1 ≤ 4097; omega, by show 0 < 115792089237316195423570985008687907853269984665640564039457584007913129639936; omega, hfd, hT⟩ (wkt [0, 1, 2, 3, 4, 5, 6]) ?_
      rintro ⟨i, out, acc⟩ ⟨hi, hi2, ho, ha, hN⟩ K hK
      dsimp only at hi hi2 ho ha hN
      clear cm
      have hza := lbs_zero ha
      by_cases hac : acc = 0
      · rw [decide_eq_true hac] at hza
        have hT : T = some out := by
          rw [← hN, show 4098 - i = (4097 - i) + 1 from by omega, fakeN, if_pos hac]
        subst hT
        have cd := rdiv_c out d ho hd hd0
        unfold rdivV at cd
        refine wk ?_
        refine fin ?_
        rfl
      · rw [decide_eq_false hac] at hza
        by_cases hi3 : 4096 < i
        · have hT : T = none := by
            rw [← hN, show 4098 - i = (4097 - i) + 1 from by omega, fakeN, if_neg hac, if_pos hi3]
          subst hT
          refine wk ?_
          refine fin ?_
          rfl
        · have ca := radd_c out acc ho ha
          have c1 := rmul_c acc n ha hn
          have co := rof_c i (by omega) (by omega)
          rw [Int.toNat_natCast] at co
          have c2 := rmul_c d i hd (by omega)
          rw [show 4098 - i = (4097 - i) + 1 from by omega, fakeN, if_neg hac, if_neg hi3] at hN
          unfold rsumV at ca
          unfold rmulV at c1 c2
          by_cases a1 : out + acc < 115792089237316195423570985008687907853269984665640564039457584007913129639936
          · rw [if_pos a1] at ca
            by_cases a2 : acc * n < 115792089237316195423570985008687907853269984665640564039457584007913129639936
            · rw [if_pos a2] at c1
              by_cases a3 : d * i < 115792089237316195423570985008687907853269984665640564039457584007913129639936
              · rw [if_pos a3] at c2
                rw [if_pos ⟨a1, a2, a3⟩] at hN
                have hp : 0 < d * i := Nat.mul_pos hd0 (by omega)
                have cd := rdiv_c (acc * n) (d * i) a2 a3 hp
                unfold rdivV at cd
                have hnx : acc * n / (d * i) < 115792089237316195423570985008687907853269984665640564039457584007913129639936 := Nat.lt_of_le_of_lt (Nat.div_le_self _ _) a2
                obtain ⟨x2, hx2⟩ : ∃ x, acc * n / (d * i) = x := ⟨_, rfl⟩
                rw [hx2] at cd hN hnx
                obtain ⟨o2, ho2⟩ : ∃ x, out + acc = x := ⟨_, rfl⟩
                rw [ho2] at ca hN a1
                obtain ⟨p, hp'⟩ : ∃ p, acc * n = p := ⟨_, rfl⟩
                obtain ⟨r, hr'⟩ : ∃ r, d * i = r := ⟨_, rfl⟩
                rw [hp'] at c1; rw [hr'] at c2; rw [hp', hr'] at cd
                clear hx2 ho2 hp' hr' a2 a3 hp
                refine wk ?_
                exact hK _ (i + 1, o2, x2) ⟨by show 1 ≤ i + 1; omega, by show i + 1 ≤ 4097; omega, a1, hnx, by show fakeN n d (4098 - (i + 1)) o2 x2 (i + 1) = T; rw [show 4098 - (i + 1) = 4097 - i from by omega]; exact hN⟩ (wkt [0, 1, 2, 3, 4, 5, 6]) (by show 4098 - (i + 1) < 4098 - i; omega)
              · rw [if_neg a3] at c2
                rw [if_neg (fun h => a3 h.2.2)] at hN
                subst hN
                obtain ⟨p, hp'⟩ : ∃ p, acc * n = p := ⟨_, rfl⟩
                rw [hp'] at c1
                clear a3 a2 hp'
                refine wk ?_
                refine fin ?_
                rfl
            · rw [if_neg a2] at c1
              rw [if_neg (fun h => a2 h.2.1)] at hN
              subst hN
              obtain ⟨A, e, he⟩ : ∃ A e, (if d * i < 115792089237316195423570985008687907853269984665640564039457584007913129639936 then ub (d * i) true else ub 0 false) = ub A e := by split <;> exact ⟨_, _, rfl⟩
              rw [he] at c2
              clear a2 he
              refine wk ?_
              refine fin ?_
              rfl
          · rw [if_neg a1] at ca
            rw [if_neg (fun h => a1 h.1)] at hN
            subst hN
            clear c1 c2
            refine wk ?_
            refine fin ?_
            rfl
    · rw [if_neg hfd] at cm
      have hV : fakeV f n d = none := by unfold fakeV; rw [if_neg hfd]
      rw [hV]
      clear hfd hV
      (refine enter Try.func58 Try.results58 Try.ntmps58 ty_ok (hw := fun F hF => ?_); simp only [List.length_cons, List.length_nil, Nat.reduceAdd, Nat.reduceSub, List.replicate_succ, List.replicate_zero, List.cons_append, List.nil_append]; apply hF; clear hF F)
      refine wk ?_
      refine fin ?_
      rfl
end Go.Abs
