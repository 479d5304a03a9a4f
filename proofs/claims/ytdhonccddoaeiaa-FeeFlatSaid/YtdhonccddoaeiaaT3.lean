/- Fees: the next block's: the walks. -/
import Derived.Test.YtdhonccddoaeiaaT2
set_option linter.unusedVariables false
set_option linter.unusedSimpArgs false
namespace Go.Abs
open Go Go.Proofs

/-- An eighth of what is beyond the aim. -/
def part8 (base gap t : Nat) : Nat := base * gap / t / 8
/-- What the next block asks; none: it is over. -/
def nextN (base u t : Nat) : Option Nat :=
  if u = t then some base
  else if 115792089237316195423570985008687907853269984665640564039457584007913129639936 ≤ base * (max u t - min u t) then none
  else if u < t then (if base < part8 base (t - u) t then none else some (base - part8 base (t - u) t))
  else (if base + max 1 (part8 base (u - t) t) < 115792089237316195423570985008687907853269984665640564039457584007913129639936 then some (base + max 1 (part8 base (u - t) t)) else none)
def nextV (base : Nat) (u t : Int) : V := if t < 1 ∨ 1073741824 < t ∨ u < 0 ∨ 2 * t < u then ue 0 1 else match nextN base u.toNat t.toNat with
  | none => ue 0 8
  | some v => ue v 0
theorem clean_nextV (base : Nat) (u t : Int) : Clean (nextV base u t) := by unfold nextV; split; exact clean_ue _ _; split <;> exact clean_ue _ _
def rnextV (base u t : Nat) : V := match nextN base u t with
  | none => ub 0 false
  | some v => ub v true
theorem clean_rnextV (base u t : Nat) : Clean (rnextV base u t) := by unfold rnextV; split <;> exact clean_ub _ _
theorem part8_lt {b g t : Nat} (h : b * g < 115792089237316195423570985008687907853269984665640564039457584007913129639936) : part8 b g t < 115792089237316195423570985008687907853269984665640564039457584007913129639936 := Nat.lt_of_le_of_lt (Nat.div_le_self _ _) (Nat.lt_of_le_of_lt (Nat.div_le_self _ _) h)
set_option maxHeartbeats 20000000 in
theorem next_c (b : Nat) (u t : Int) (hb : b < 115792089237316195423570985008687907853269984665640564039457584007913129639936) (hu : -9223372036854775808 ≤ u ∧ u < 9223372036854775808) (ht : -9223372036854775808 ≤ t ∧ t < 9223372036854775808) : Pure Try.prog 20 [uv b, .int .i64 u, .int .i64 t] (nextV b u t) := by
  refine pure_ac ?_ (cleans_cons (clean_uv _) (cleans_cons (.int _ _) (cleans_cons (.int _ _) cleans_nil))) (clean_nextV _ _ _)
  by_cases hbad : t < 1 ∨ 1073741824 < t ∨ u < 0 ∨ 2 * t < u
  · rw [show nextV b u t = _ from if_pos hbad]
    by_cases h1 : t < 1
    · (refine enter Try.func20 Try.results20 Try.ntmps20 ty_ok (hw := fun F hF => ?_); simp only [List.length_cons, List.length_nil, Nat.reduceAdd, Nat.reduceSub, List.replicate_succ, List.replicate_zero, List.cons_append, List.nil_append]; apply hF; clear hF F)
      refine wk ?_
      refine fin ?_
      rfl
    · by_cases h2 : 1073741824 < t
      · (refine enter Try.func20 Try.results20 Try.ntmps20 ty_ok (hw := fun F hF => ?_); simp only [List.length_cons, List.length_nil, Nat.reduceAdd, Nat.reduceSub, List.replicate_succ, List.replicate_zero, List.cons_append, List.nil_append]; apply hF; clear hF F)
        refine wk ?_
        refine fin ?_
        rfl
      · by_cases h3 : u < 0
        · (refine enter Try.func20 Try.results20 Try.ntmps20 ty_ok (hw := fun F hF => ?_); simp only [List.length_cons, List.length_nil, Nat.reduceAdd, Nat.reduceSub, List.replicate_succ, List.replicate_zero, List.cons_append, List.nil_append]; apply hF; clear hF F)
          refine wk ?_
          refine fin ?_
          rfl
        · have h4 : 2 * t < u := by omega
          (refine enter Try.func20 Try.results20 Try.ntmps20 ty_ok (hw := fun F hF => ?_); simp only [List.length_cons, List.length_nil, Nat.reduceAdd, Nat.reduceSub, List.replicate_succ, List.replicate_zero, List.cons_append, List.nil_append]; apply hF; clear hF F)
          refine wk ?_
          refine fin ?_
          rfl
  · rw [show nextV b u t = _ from if_neg hbad]
    have h1 : ¬ t < 1 := by omega
    have h2 : ¬ 1073741824 < t := by omega
    have h3 : ¬ u < 0 := by omega
    have h4 : ¬ 2 * t < u := by omega
    obtain ⟨T, rfl⟩ := Int.eq_ofNat_of_zero_le (show 0 ≤ t by omega)
    obtain ⟨U, rfl⟩ := Int.eq_ofNat_of_zero_le (show 0 ≤ u by omega)
    rw [Int.toNat_natCast, Int.toNat_natCast]
    clear hbad
    have hT64 : T < 18446744073709551616 := by omega
    by_cases heq : U = T
    · subst heq
      rw [show nextN b U U = some b from if_pos rfl]
      (refine enter Try.func20 Try.results20 Try.ntmps20 ty_ok (hw := fun F hF => ?_); simp only [List.length_cons, List.length_nil, Nat.reduceAdd, Nat.reduceSub, List.replicate_succ, List.replicate_zero, List.cons_append, List.nil_append]; apply hF; clear hF F)
      refine wk ?_
      refine fin ?_
      rfl
    · unfold nextN
      rw [if_neg heq]
      have hne : ¬ (U : Int) = T := by omega
      obtain ⟨g, hg⟩ : ∃ g, max U T - min U T = g := ⟨_, rfl⟩
      have hg64 : g < 18446744073709551616 := by omega
      have cm := mul_c b g hb (by omega)
      rw [uvs hg64] at cm
      rw [hg]
      have hmx : (if (T : Int) > U then (T : Int) else U) - (if (T : Int) < U then (T : Int) else U) = g := by omega
      unfold mulV at cm
      by_cases hov : 115792089237316195423570985008687907853269984665640564039457584007913129639936 ≤ b * g
      · rw [if_pos hov]
        rw [if_neg (by omega)] at cm
        clear hov
        (refine enter Try.func20 Try.results20 Try.ntmps20 ty_ok (hw := fun F hF => ?_); simp only [List.length_cons, List.length_nil, Nat.reduceAdd, Nat.reduceSub, List.replicate_succ, List.replicate_zero, List.cons_append, List.nil_append]; apply hF; clear hF F)
        refine wk ?_
        (refine aseq_fx (fun F hF => ?_); simp only [hmx]; apply hF; clear hF F)
        refine wk ?_
        refine fin ?_
        rfl
      · rw [if_neg hov]
        rw [if_pos (by omega)] at cm
        obtain ⟨p, hp⟩ : ∃ p, b * g = p := ⟨_, rfl⟩
        have hpl : p < 115792089237316195423570985008687907853269984665640564039457584007913129639936 := by omega
        have hTp : 0 < T := by omega
        have cd1 := div_c p T hpl (by omega)
        rw [show divV p T = .tup [uv (p / T), uv (p % T), errV 0] from if_neg (by omega)] at cd1
        have hq : p / T < 115792089237316195423570985008687907853269984665640564039457584007913129639936 := Nat.lt_of_le_of_lt (Nat.div_le_self _ _) hpl
        obtain ⟨q, hqe⟩ : ∃ q, p / T = q := ⟨_, rfl⟩
        rw [hqe] at cd1 hq
        have cd2 := div_c q 8 hq (by omega)
        rw [show divV q 8 = .tup [uv (q / 8), uv (q % 8), errV 0] from if_neg (by omega)] at cd2
        have hx8 : q / 8 < 115792089237316195423570985008687907853269984665640564039457584007913129639936 := by omega
        obtain ⟨x, hx⟩ : ∃ x, q / 8 = x := ⟨_, rfl⟩
        have hpart : part8 b g T = x := by unfold part8; rw [hp, hqe, hx]
        rw [hx] at cd2 hx8
        rw [hp] at cm
        rw [uvs hT64] at cd1
        replace cd2 : Pure Try.prog 25 [uv q, .agg [.int .u64 8, .int .u64 0, .int .u64 0, .int .u64 0]] (.tup [uv x, uv (q % 8), errV 0]) := cd2
        by_cases hlt : U < T
        · rw [if_pos hlt, show T - U = g from by omega, hpart]
          have csb := sub_c b x hb hx8
          unfold diffV at csb
          by_cases hbx : b < x
          · rw [if_pos hbx] at csb ⊢
            clear hov hp hqe hx hpart hbx hg
            (refine enter Try.func20 Try.results20 Try.ntmps20 ty_ok (hw := fun F hF => ?_); simp only [List.length_cons, List.length_nil, Nat.reduceAdd, Nat.reduceSub, List.replicate_succ, List.replicate_zero, List.cons_append, List.nil_append]; apply hF; clear hF F)
            refine wk ?_
            (refine aseq_fx (fun F hF => ?_); simp only [hmx]; apply hF; clear hF F)
            refine wk ?_
            refine fin ?_
            rfl
          · rw [if_neg hbx] at csb ⊢
            clear hov hp hqe hx hpart hbx hg
            (refine enter Try.func20 Try.results20 Try.ntmps20 ty_ok (hw := fun F hF => ?_); simp only [List.length_cons, List.length_nil, Nat.reduceAdd, Nat.reduceSub, List.replicate_succ, List.replicate_zero, List.cons_append, List.nil_append]; apply hF; clear hF F)
            refine wk ?_
            (refine aseq_fx (fun F hF => ?_); simp only [hmx]; apply hF; clear hF F)
            refine wk ?_
            refine fin ?_
            rfl
        · rw [if_neg hlt, show U - T = g from by omega, hpart]
          have hz := lbs_zero hx8
          by_cases hx0 : x = 0
          · rw [decide_eq_true hx0] at hz
            have cab := add_c b 1 hb (by omega)
            unfold sumV at cab
            rw [hx0, show max 1 0 = 1 from rfl]
            by_cases hs : b + 1 < 115792089237316195423570985008687907853269984665640564039457584007913129639936
            · rw [if_pos hs] at cab ⊢
              replace cab : Pure Try.prog 32 [uv b, .agg [.int .u64 1, .int .u64 0, .int .u64 0, .int .u64 0]] (ue (b + 1) 0) := cab
              clear hov hp hqe hx hpart hg hx0
              (refine enter Try.func20 Try.results20 Try.ntmps20 ty_ok (hw := fun F hF => ?_); simp only [List.length_cons, List.length_nil, Nat.reduceAdd, Nat.reduceSub, List.replicate_succ, List.replicate_zero, List.cons_append, List.nil_append]; apply hF; clear hF F)
              refine wk ?_
              (refine aseq_fx (fun F hF => ?_); simp only [hmx]; apply hF; clear hF F)
              refine wk ?_
              refine fin ?_
              rfl
            · rw [if_neg hs] at cab ⊢
              replace cab : Pure Try.prog 32 [uv b, .agg [.int .u64 1, .int .u64 0, .int .u64 0, .int .u64 0]] (ue 0 8) := cab
              clear hov hp hqe hx hpart hg hx0
              (refine enter Try.func20 Try.results20 Try.ntmps20 ty_ok (hw := fun F hF => ?_); simp only [List.length_cons, List.length_nil, Nat.reduceAdd, Nat.reduceSub, List.replicate_succ, List.replicate_zero, List.cons_append, List.nil_append]; apply hF; clear hF F)
              refine wk ?_
              (refine aseq_fx (fun F hF => ?_); simp only [hmx]; apply hF; clear hF F)
              refine wk ?_
              refine fin ?_
              rfl
          · rw [decide_eq_false hx0] at hz
            have cab := add_c b x hb hx8
            unfold sumV at cab
            rw [show max 1 x = x from by omega]
            by_cases hs : b + x < 115792089237316195423570985008687907853269984665640564039457584007913129639936
            · rw [if_pos hs] at cab ⊢
              clear hov hp hqe hx hpart hg hx0
              (refine enter Try.func20 Try.results20 Try.ntmps20 ty_ok (hw := fun F hF => ?_); simp only [List.length_cons, List.length_nil, Nat.reduceAdd, Nat.reduceSub, List.replicate_succ, List.replicate_zero, List.cons_append, List.nil_append]; apply hF; clear hF F)
              refine wk ?_
              (refine aseq_fx (fun F hF => ?_); simp only [hmx]; apply hF; clear hF F)
              refine wk ?_
              refine fin ?_
              rfl
            · rw [if_neg hs] at cab ⊢
              clear hov hp hqe hx hpart hg hx0
              (refine enter Try.func20 Try.results20 Try.ntmps20 ty_ok (hw := fun F hF => ?_); simp only [List.length_cons, List.length_nil, Nat.reduceAdd, Nat.reduceSub, List.replicate_succ, List.replicate_zero, List.cons_append, List.nil_append]; apply hF; clear hF F)
              refine wk ?_
              (refine aseq_fx (fun F hF => ?_); simp only [hmx]; apply hF; clear hF F)
              refine wk ?_
              refine fin ?_
              rfl
set_option maxHeartbeats 20000000 in
theorem rnext_c (b U T : Nat) (hb : b < 115792089237316195423570985008687907853269984665640564039457584007913129639936) (hT : 1 ≤ T) (hT2 : T ≤ 1073741824) (hU : U ≤ 2 * T) : Pure Try.prog 22 [uv b, .int .i64 U, .int .i64 T] (rnextV b U T) := by
  refine pure_ac ?_ (cleans_cons (clean_uv _) (cleans_cons (.int _ _) (cleans_cons (.int _ _) cleans_nil))) (clean_rnextV _ _ _)
  unfold rnextV
  by_cases heq : U = T
  · subst heq
    rw [show nextN b U U = some b from if_pos rfl]
    (refine enter Try.func22 Try.results22 Try.ntmps22 ty_ok (hw := fun F hF => ?_); simp only [List.length_cons, List.length_nil, Nat.reduceAdd, Nat.reduceSub, List.replicate_succ, List.replicate_zero, List.cons_append, List.nil_append]; apply hF; clear hF F)
    refine wk ?_
    refine fin ?_
    rfl
  · unfold nextN
    rw [if_neg heq]
    have hne : ¬ (U : Int) = T := by omega
    obtain ⟨g, hg⟩ : ∃ g, max U T - min U T = g := ⟨_, rfl⟩
    have cm := rmul_c b g hb (by omega)
    rw [hg]
    have co1 := rof_c g (by omega) (by omega)
    have co2 := rof_c T (by omega) (by omega)
    have co3 : Pure Try.prog 28 [.int .i64 8] (uv 8) := rof_c 8 (by omega) (by omega)
    have co4 : Pure Try.prog 28 [.int .i64 1] (uv 1) := rof_c 1 (by omega) (by omega)
    rw [Int.toNat_natCast] at co1 co2
    unfold rmulV at cm
    by_cases hov : 115792089237316195423570985008687907853269984665640564039457584007913129639936 ≤ b * g
    · rw [if_pos hov]
      rw [if_neg (by omega)] at cm
      clear hov
      by_cases hlt : U < T
      · have hmx : 0 - ((U : Int) - T) = g := by omega
        (refine enter Try.func22 Try.results22 Try.ntmps22 ty_ok (hw := fun F hF => ?_); simp only [List.length_cons, List.length_nil, Nat.reduceAdd, Nat.reduceSub, List.replicate_succ, List.replicate_zero, List.cons_append, List.nil_append]; apply hF; clear hF F)
        refine wk ?_
        (refine aseq_fx (fun F hF => ?_); simp only [hmx]; apply hF; clear hF F)
        refine wk ?_
        refine fin ?_
        rfl
      · have hmx : ((U : Int) - T) = g := by omega
        (refine enter Try.func22 Try.results22 Try.ntmps22 ty_ok (hw := fun F hF => ?_); simp only [List.length_cons, List.length_nil, Nat.reduceAdd, Nat.reduceSub, List.replicate_succ, List.replicate_zero, List.cons_append, List.nil_append]; apply hF; clear hF F)
        refine wk ?_
        (refine aseq_fx (fun F hF => ?_); simp only [hmx]; apply hF; clear hF F)
        refine wk ?_
        refine fin ?_
        rfl
    · rw [if_neg hov]
      rw [if_pos (by omega)] at cm
      obtain ⟨p, hp⟩ : ∃ p, b * g = p := ⟨_, rfl⟩
      have hpl : p < 115792089237316195423570985008687907853269984665640564039457584007913129639936 := by omega
      have hTp : 0 < T := by omega
      have cd1 := rdiv_c p T hpl (by omega) hTp
      have hq : p / T < 115792089237316195423570985008687907853269984665640564039457584007913129639936 := Nat.lt_of_le_of_lt (Nat.div_le_self _ _) hpl
      unfold rdivV at cd1
      obtain ⟨q, hqe⟩ : ∃ q, p / T = q := ⟨_, rfl⟩
      rw [hqe] at cd1 hq
      have cd2 := rdiv_c q 8 hq (by omega) (by omega)
      unfold rdivV at cd2
      have hx8 : q / 8 < 115792089237316195423570985008687907853269984665640564039457584007913129639936 := by omega
      obtain ⟨x, hx⟩ : ∃ x, q / 8 = x := ⟨_, rfl⟩
      have hpart : part8 b g T = x := by unfold part8; rw [hp, hqe, hx]
      rw [hx] at cd2 hx8
      rw [hp] at cm
      by_cases hlt : U < T
      · have hmx : 0 - ((U : Int) - T) = g := by omega
        rw [if_pos hlt, show T - U = g from by omega, hpart]
        have csb := rsub_c b x hb hx8
        unfold rdiffV at csb
        by_cases hbx : b < x
        · rw [if_pos hbx] at csb ⊢
          clear hov hp hqe hx hpart hbx hg
          (refine enter Try.func22 Try.results22 Try.ntmps22 ty_ok (hw := fun F hF => ?_); simp only [List.length_cons, List.length_nil, Nat.reduceAdd, Nat.reduceSub, List.replicate_succ, List.replicate_zero, List.cons_append, List.nil_append]; apply hF; clear hF F)
          refine wk ?_
          (refine aseq_fx (fun F hF => ?_); simp only [hmx]; apply hF; clear hF F)
          refine wk ?_
          refine fin ?_
          rfl
        · rw [if_neg hbx] at csb ⊢
          clear hov hp hqe hx hpart hbx hg
          (refine enter Try.func22 Try.results22 Try.ntmps22 ty_ok (hw := fun F hF => ?_); simp only [List.length_cons, List.length_nil, Nat.reduceAdd, Nat.reduceSub, List.replicate_succ, List.replicate_zero, List.cons_append, List.nil_append]; apply hF; clear hF F)
          refine wk ?_
          (refine aseq_fx (fun F hF => ?_); simp only [hmx]; apply hF; clear hF F)
          refine wk ?_
          refine fin ?_
          rfl
      · have hmx : ((U : Int) - T) = g := by omega
        rw [if_neg hlt, show U - T = g from by omega, hpart]
        have hz := lbs_zero hx8
        by_cases hx0 : x = 0
        · rw [decide_eq_true hx0] at hz
          have cab := radd_c b 1 hb (by omega)
          unfold rsumV at cab
          rw [hx0, show max 1 0 = 1 from rfl]
          by_cases hs : b + 1 < 115792089237316195423570985008687907853269984665640564039457584007913129639936
          · rw [if_pos hs] at cab ⊢
            clear hov hp hqe hx hpart hg hx0
            (refine enter Try.func22 Try.results22 Try.ntmps22 ty_ok (hw := fun F hF => ?_); simp only [List.length_cons, List.length_nil, Nat.reduceAdd, Nat.reduceSub, List.replicate_succ, List.replicate_zero, List.cons_append, List.nil_append]; apply hF; clear hF F)
            refine wk ?_
            (refine aseq_fx (fun F hF => ?_); simp only [hmx]; apply hF; clear hF F)
            refine wk ?_
            refine fin ?_
            rfl
          · rw [if_neg hs] at cab ⊢
            clear hov hp hqe hx hpart hg hx0
            (refine enter Try.func22 Try.results22 Try.ntmps22 ty_ok (hw := fun F hF => ?_); simp only [List.length_cons, List.length_nil, Nat.reduceAdd, Nat.reduceSub, List.replicate_succ, List.replicate_zero, List.cons_append, List.nil_append]; apply hF; clear hF F)
            refine wk ?_
            (refine aseq_fx (fun F hF => ?_); simp only [hmx]; apply hF; clear hF F)
            refine wk ?_
            refine fin ?_
            rfl
        · rw [decide_eq_false hx0] at hz
          have cab := radd_c b x hb hx8
          unfold rsumV at cab
          rw [show max 1 x = x from by omega]
          by_cases hs : b + x < 115792089237316195423570985008687907853269984665640564039457584007913129639936
          · rw [if_pos hs] at cab ⊢
            clear hov hp hqe hx hpart hg hx0
            (refine enter Try.func22 Try.results22 Try.ntmps22 ty_ok (hw := fun F hF => ?_); simp only [List.length_cons, List.length_nil, Nat.reduceAdd, Nat.reduceSub, List.replicate_succ, List.replicate_zero, List.cons_append, List.nil_append]; apply hF; clear hF F)
            refine wk ?_
            (refine aseq_fx (fun F hF => ?_); simp only [hmx]; apply hF; clear hF F)
            refine wk ?_
            refine fin ?_
            rfl
          · rw [if_neg hs] at cab ⊢
            clear hov hp hqe hx hpart hg hx0
            (refine enter Try.func22 Try.results22 Try.ntmps22 ty_ok (hw := fun F hF => ?_); simp only [List.length_cons, List.length_nil, Nat.reduceAdd, Nat.reduceSub, List.replicate_succ, List.replicate_zero, List.cons_append, List.nil_append]; apply hF; clear hF F)
            refine wk ?_
            (refine aseq_fx (fun F hF => ?_); simp only [hmx]; apply hF; clear hF F)
            refine wk ?_
            refine fin ?_
            rfl
end Go.Abs
