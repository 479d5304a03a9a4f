/- limbs, Cmp, Add, Sub: the program's and the page's: walks. -/
import Derived.Test.YtpaehjjkfjgfiaaN1
set_option linter.unusedVariables false
set_option linter.unusedSimpArgs false
namespace Go.Abs
open Go Go.Proofs

def lims (a b c d : Nat) : Nat := if d ≠ 0 then 4 else if c ≠ 0 then 3 else if b ≠ 0 then 2 else if a ≠ 0 then 1 else 0

set_option maxHeartbeats 20000000 in
theorem limbs_c (a b c d : Nat) : Pure Try.prog 62 [uvl a b c d] (.int .i64 (lims a b c d)) := by
  refine pure_ac ?_ (cleans_cons (clean_uvl _ _ _ _) cleans_nil) (.int _ _)
  unfold uvl
  (refine enter Try.func62 Try.results62 Try.ntmps62 ty_ok (hw := fun F hF => ?_); simp only [List.length_cons, List.length_nil, Nat.reduceAdd, Nat.reduceSub, List.replicate_succ, List.replicate_zero, List.cons_append, List.nil_append]; apply hF; clear hF F)
  refine wk ?_
  refine aw_rounds 5 ?_
  refine wk ?_
  repeat' (first | refine aw_ifd ?_ ?_ | refine aw_ife ?_ ?_ | refine aw_ifne ?_ ?_ | refine aw_ifn ?_ ?_ | refine aw_ifnb ?_ ?_ | refine aw_ifb ?_ ?_) <;> intro hb <;> refine wk ?_
  all_goals (refine fin ?_)
  all_goals (unfold lims; (repeat (first | rw [if_pos (by omega)] | rw [if_neg (by omega)])); rfl)
set_option maxHeartbeats 20000000 in
theorem cmp_c (x y : Nat) (hx : x < 115792089237316195423570985008687907853269984665640564039457584007913129639936) (hy : y < 115792089237316195423570985008687907853269984665640564039457584007913129639936) : Pure Try.prog 33 [uv x, uv y] (.int .i64 (cmpN x y)) := by
  refine pure_ac ?_ (cleans_cons (clean_uv _) (cleans_cons (clean_uv _) cleans_nil)) (.int _ _)
  obtain ⟨x0, x1, x2, x3, p0, p1, p2, p3, ex, rx⟩ := uv_elim hx
  obtain ⟨y0, y1, y2, y3, q0, q1, q2, q3, ey, ry⟩ := uv_elim hy
  rw [rx, ry]; clear rx ry
  unfold num4 at ex ey
  (refine enter Try.func33 Try.results33 Try.ntmps33 ty_ok (hw := fun F hF => ?_); simp only [List.length_cons, List.length_nil, Nat.reduceAdd, Nat.reduceSub, List.replicate_succ, List.replicate_zero, List.cons_append, List.nil_append]; apply hF; clear hF F)
  refine wk ?_
  refine aw_rounds 5 ?_
  refine wk ?_
  repeat' (first | refine aw_ifd ?_ ?_ | refine aw_ife ?_ ?_ | refine aw_ifne ?_ ?_ | refine aw_ifn ?_ ?_ | refine aw_ifnb ?_ ?_ | refine aw_ifb ?_ ?_) <;> intro hb <;> refine wk ?_
  all_goals (refine fin ?_)
  all_goals (first | rw [cmpN_lt (by omega)] | rw [cmpN_gt (by omega)] | rw [cmpN_eq (by omega)])
set_option maxHeartbeats 20000000 in
theorem rcmp_c (x y : Nat) (hx : x < 115792089237316195423570985008687907853269984665640564039457584007913129639936) (hy : y < 115792089237316195423570985008687907853269984665640564039457584007913129639936) : Pure Try.prog 12 [uv x, uv y] (.int .i64 (cmpN x y)) := by
  refine pure_ac ?_ (cleans_cons (clean_uv _) (cleans_cons (clean_uv _) cleans_nil)) (.int _ _)
  obtain ⟨x0, x1, x2, x3, p0, p1, p2, p3, ex, rx⟩ := uv_elim hx
  obtain ⟨y0, y1, y2, y3, q0, q1, q2, q3, ey, ry⟩ := uv_elim hy
  rw [rx, ry]; clear rx ry
  unfold num4 at ex ey
  (refine enter Try.func12 Try.results12 Try.ntmps12 ty_ok (hw := fun F hF => ?_); simp only [List.length_cons, List.length_nil, Nat.reduceAdd, Nat.reduceSub, List.replicate_succ, List.replicate_zero, List.cons_append, List.nil_append]; apply hF; clear hF F)
  refine wk ?_
  refine aw_rounds 5 ?_
  refine wk ?_
  repeat' (first | refine aw_ifd ?_ ?_ | refine aw_ife ?_ ?_ | refine aw_ifne ?_ ?_ | refine aw_ifn ?_ ?_ | refine aw_ifnb ?_ ?_ | refine aw_ifb ?_ ?_) <;> intro hb <;> refine wk ?_
  all_goals (refine fin ?_)
  all_goals (first | rw [cmpN_lt (by omega)] | rw [cmpN_gt (by omega)] | rw [cmpN_eq (by omega)])
/-- What a sum answers: the number and the error's number; the page's. -/
def sumV (x y : Nat) : V := if x + y < 115792089237316195423570985008687907853269984665640564039457584007913129639936 then ue (x + y) 0 else ue 0 8
def diffV (x y : Nat) : V := if x < y then ue 0 8 else ue (x - y) 0
def rsumV (x y : Nat) : V := if x + y < 115792089237316195423570985008687907853269984665640564039457584007913129639936 then ub (x + y) true else ub 0 false
def rdiffV (x y : Nat) : V := if x < y then ub 0 false else ub (x - y) true
theorem clean_sumV (x y : Nat) : Clean (sumV x y) := by unfold sumV; split <;> exact clean_ue _ _
theorem clean_diffV (x y : Nat) : Clean (diffV x y) := by unfold diffV; split <;> exact clean_ue _ _
theorem clean_rsumV (x y : Nat) : Clean (rsumV x y) := by unfold rsumV; split <;> exact clean_ub _ _
theorem clean_rdiffV (x y : Nat) : Clean (rdiffV x y) := by unfold rdiffV; split <;> exact clean_ub _ _

set_option maxHeartbeats 20000000 in
theorem add_c (x y : Nat) (hx : x < 115792089237316195423570985008687907853269984665640564039457584007913129639936) (hy : y < 115792089237316195423570985008687907853269984665640564039457584007913129639936) : Pure Try.prog 53 [uv x, uv y] (sumV x y) := by
  refine pure_ac ?_ (cleans_cons (clean_uv _) (cleans_cons (clean_uv _) cleans_nil)) (clean_sumV _ _)
  obtain ⟨x0, x1, x2, x3, p0, p1, p2, p3, ex, rx⟩ := uv_elim hx
  obtain ⟨y0, y1, y2, y3, q0, q1, q2, q3, ey, ry⟩ := uv_elim hy
  rw [rx, ry]; clear rx ry
  have k0 := addHi_le p0 q0 (Nat.zero_le 1)
  have k1 := addHi_le p1 q1 k0
  have k2 := addHi_le p2 q2 k1
  have c0 := add64_0
  have c1 := add64_c
  (refine enter Try.func53 Try.results53 Try.ntmps53 ty_ok (hw := fun F hF => ?_); simp only [List.length_cons, List.length_nil, Nat.reduceAdd, Nat.reduceSub, List.replicate_succ, List.replicate_zero, List.cons_append, List.nil_append]; apply hF; clear hF F)
  refine wk ?_
  refine aw_rounds 5 ?_
  refine wk ?_
  clear c0 c1
  have key : x + y = num4 (addLo x0 y0 0) (addLo x1 y1 (addHi x0 y0 0)) (addLo x2 y2 (addHi x1 y1 (addHi x0 y0 0))) (addLo x3 y3 (addHi x2 y2 (addHi x1 y1 (addHi x0 y0 0)))) + 115792089237316195423570985008687907853269984665640564039457584007913129639936 * addHi x3 y3 (addHi x2 y2 (addHi x1 y1 (addHi x0 y0 0))) := by
    rw [ex, ey]; unfold num4 addLo addHi; omega
  have lt := num4_lt (addLo_lt x0 y0 0) (addLo_lt x1 y1 (addHi x0 y0 0)) (addLo_lt x2 y2 (addHi x1 y1 (addHi x0 y0 0))) (addLo_lt x3 y3 (addHi x2 y2 (addHi x1 y1 (addHi x0 y0 0))))
  repeat' (first | refine aw_ifd ?_ ?_ | refine aw_ife ?_ ?_ | refine aw_ifne ?_ ?_ | refine aw_ifn ?_ ?_ | refine aw_ifnb ?_ ?_ | refine aw_ifb ?_ ?_) <;> intro hb <;> refine wk ?_
  · refine fin ?_
    rw [show sumV x y = ue 0 8 from if_neg (by omega)]; rfl
  · refine fin ?_
    rw [show sumV x y = ue (x + y) 0 from if_pos (by omega)]
    exact ue_of (k := 0) (addLo_lt _ _ _) (addLo_lt _ _ _) (addLo_lt _ _ _) (addLo_lt _ _ _) (by omega)
theorem radd_lo (x y : Nat) (c : Nat) : (((x : Int) + y) % 18446744073709551616 + c) % 18446744073709551616 = (addLo x y c : Nat) := by unfold addLo; omega
theorem radd_hi {x y c : Nat} (hx : x < 18446744073709551616) (hy : y < 18446744073709551616) (hc : c ≤ 1) : (if ((((x : Int) + y) % 18446744073709551616 + c) % 18446744073709551616 < ((x : Int) + y) % 18446744073709551616) then (1 : Int) else if ((x : Int) + y) % 18446744073709551616 < x then 1 else 0) = (addHi x y c : Nat) := by
  unfold addHi; split
  · omega
  · split <;> omega
theorem rsub_lo {x y c : Nat} (hx : x < 18446744073709551616) (hy : y < 18446744073709551616) (hc : c ≤ 1) : (((x : Int) - y) % 18446744073709551616 - c) % 18446744073709551616 = (subLo x y c : Nat) := by unfold subLo; omega
theorem rsub_hi {x y c : Nat} (hx : x < 18446744073709551616) (hy : y < 18446744073709551616) (hc : c ≤ 1) : (if (((x : Int) - y) % 18446744073709551616 < c) then (1 : Int) else if (x : Int) < y then 1 else 0) = (subHi x y c : Nat) := by
  unfold subHi; split
  · split <;> omega
  · split <;> split <;> omega

set_option maxHeartbeats 20000000 in
theorem radd_c (x y : Nat) (hx : x < 115792089237316195423570985008687907853269984665640564039457584007913129639936) (hy : y < 115792089237316195423570985008687907853269984665640564039457584007913129639936) : Pure Try.prog 11 [uv x, uv y] (rsumV x y) := by
  refine pure_ac ?_ (cleans_cons (clean_uv _) (cleans_cons (clean_uv _) cleans_nil)) (clean_rsumV _ _)
  obtain ⟨x0, x1, x2, x3, p0, p1, p2, p3, ex, rx⟩ := uv_elim hx
  obtain ⟨y0, y1, y2, y3, q0, q1, q2, q3, ey, ry⟩ := uv_elim hy
  rw [rx, ry]; clear rx ry
  have k0 := addHi_le p0 q0 (Nat.zero_le 1)
  have k1 := addHi_le p1 q1 k0
  have k2 := addHi_le p2 q2 k1
  have a0 : ((x0 : Int) + y0) % 18446744073709551616 + 0 = (addLo x0 y0 0 : Nat) := by unfold addLo; omega
  have a1 := radd_lo x1 y1 (addHi x0 y0 0)
  have a2 := radd_lo x2 y2 (addHi x1 y1 (addHi x0 y0 0))
  have a3 := radd_lo x3 y3 (addHi x2 y2 (addHi x1 y1 (addHi x0 y0 0)))
  have c0 : (if ((x0 : Int) + y0) % 18446744073709551616 < x0 then (1 : Int) else 0) = (addHi x0 y0 0 : Nat) := by
    unfold addHi; split <;> omega
  have c1 := radd_hi p1 q1 k0
  have c2 := radd_hi p2 q2 k1
  have c3 := radd_hi p3 q3 k2
  clear hx hy
  (refine enter Try.func11 Try.results11 Try.ntmps11 ty_ok (hw := fun F hF => ?_); simp only [List.length_cons, List.length_nil, Nat.reduceAdd, Nat.reduceSub, List.replicate_succ, List.replicate_zero, List.cons_append, List.nil_append]; apply hF; clear hF F)
  refine wk ?_
  refine aw_rounds 5 ?_
  refine wk ?_
  (apply aw_mux rfl; (focus (intro hb; refine wk ?_; exact here_n)); (focus (intro hb; refine wk ?_; exact here_n)); (focus rfl); (focus rfl); intro F hF; dsimp only [muxS, muxL, muxH, muxB]; simp only [muxV_self, muxV_int, muxV_bool, decide_eq_true_eq, beq_iff_eq]; apply hF; clear hF F)
  (refine aw_fx (fun F hF => ?_); simp only [c0]; apply hF; clear hF F)
  refine wk ?_
  (apply aw_mux rfl; (focus (intro hb; refine wk ?_; exact here_n)); (focus (intro hb; refine wk ?_; exact here_n)); (focus rfl); (focus rfl); intro F hF; dsimp only [muxS, muxL, muxH, muxB]; simp only [muxV_self, muxV_int, muxV_bool, decide_eq_true_eq, beq_iff_eq]; apply hF; clear hF F)
  refine wk ?_
  (apply aw_mux rfl; (focus (intro hb; refine wk ?_; exact here_n)); (focus (intro hb; refine wk ?_; exact here_n)); (focus rfl); (focus rfl); intro F hF; dsimp only [muxS, muxL, muxH, muxB]; simp only [muxV_self, muxV_int, muxV_bool, decide_eq_true_eq, beq_iff_eq]; apply hF; clear hF F)
  (refine aw_fx (fun F hF => ?_); simp only [c1]; apply hF; clear hF F)
  (refine aw_fx (fun F hF => ?_); simp only [a0, a1]; apply hF; clear hF F)
  refine wk ?_
  (apply aw_mux rfl; (focus (intro hb; refine wk ?_; exact here_n)); (focus (intro hb; refine wk ?_; exact here_n)); (focus rfl); (focus rfl); intro F hF; dsimp only [muxS, muxL, muxH, muxB]; simp only [muxV_self, muxV_int, muxV_bool, decide_eq_true_eq, beq_iff_eq]; apply hF; clear hF F)
  refine wk ?_
  (apply aw_mux rfl; (focus (intro hb; refine wk ?_; exact here_n)); (focus (intro hb; refine wk ?_; exact here_n)); (focus rfl); (focus rfl); intro F hF; dsimp only [muxS, muxL, muxH, muxB]; simp only [muxV_self, muxV_int, muxV_bool, decide_eq_true_eq, beq_iff_eq]; apply hF; clear hF F)
  (refine aw_fx (fun F hF => ?_); simp only [c2]; apply hF; clear hF F)
  (refine aw_fx (fun F hF => ?_); simp only [a2]; apply hF; clear hF F)
  refine wk ?_
  (apply aw_mux rfl; (focus (intro hb; refine wk ?_; exact here_n)); (focus (intro hb; refine wk ?_; exact here_n)); (focus rfl); (focus rfl); intro F hF; dsimp only [muxS, muxL, muxH, muxB]; simp only [muxV_self, muxV_int, muxV_bool, decide_eq_true_eq, beq_iff_eq]; apply hF; clear hF F)
  refine wk ?_
  (apply aw_mux rfl; (focus (intro hb; refine wk ?_; exact here_n)); (focus (intro hb; refine wk ?_; exact here_n)); (focus rfl); (focus rfl); intro F hF; dsimp only [muxS, muxL, muxH, muxB]; simp only [muxV_self, muxV_int, muxV_bool, decide_eq_true_eq, beq_iff_eq]; apply hF; clear hF F)
  (refine aw_fx (fun F hF => ?_); simp only [c3]; apply hF; clear hF F)
  (refine aw_fx (fun F hF => ?_); simp only [a3]; apply hF; clear hF F)
  clear a0 a1 a2 a3 c0 c1 c2 c3
  have key : x + y = num4 (addLo x0 y0 0) (addLo x1 y1 (addHi x0 y0 0)) (addLo x2 y2 (addHi x1 y1 (addHi x0 y0 0))) (addLo x3 y3 (addHi x2 y2 (addHi x1 y1 (addHi x0 y0 0)))) + 115792089237316195423570985008687907853269984665640564039457584007913129639936 * addHi x3 y3 (addHi x2 y2 (addHi x1 y1 (addHi x0 y0 0))) := by
    rw [ex, ey]; unfold num4 addLo addHi; omega
  have lt := num4_lt (addLo_lt x0 y0 0) (addLo_lt x1 y1 (addHi x0 y0 0)) (addLo_lt x2 y2 (addHi x1 y1 (addHi x0 y0 0))) (addLo_lt x3 y3 (addHi x2 y2 (addHi x1 y1 (addHi x0 y0 0))))
  refine wk ?_
  repeat' (first | refine aw_ifd ?_ ?_ | refine aw_ife ?_ ?_ | refine aw_ifne ?_ ?_ | refine aw_ifn ?_ ?_ | refine aw_ifnb ?_ ?_ | refine aw_ifb ?_ ?_) <;> intro hb <;> refine wk ?_
  · refine fin ?_
    rw [show rsumV x y = ub 0 false from if_neg (by omega)]; rfl
  · refine fin ?_
    rw [show rsumV x y = ub (x + y) true from if_pos (by omega)]
    exact ub_of (addLo_lt _ _ _) (addLo_lt _ _ _) (addLo_lt _ _ _) (addLo_lt _ _ _) (by omega)
end Go.Abs
