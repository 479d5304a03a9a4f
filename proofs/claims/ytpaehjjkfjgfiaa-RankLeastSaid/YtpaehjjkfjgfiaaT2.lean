/- Fees: what a block asks: the walks. -/
import Derived.Test.YtpaehjjkfjgfiaaT1
set_option linter.unusedVariables false
set_option linter.unusedSimpArgs false
namespace Go.Abs
open Go Go.Proofs

theorem uvs {m : Nat} (h : m < 18446744073709551616) : uv m = .agg [.int .u64 (m : Nat), .int .u64 0, .int .u64 0, .int .u64 0] :=
  (uv_congr (a := m) (b := 0) (c := 0) (d := 0) (n := m) h (by omega) (by omega) (by omega) (by unfold num4; omega)).symm
/-- What a blob gas costs. -/
def blobN (m : Nat) : Nat := (fakeV 1 m 3338477).getD 115792089237316195423570985008687907853269984665640564039457584007913129639935
def blobV (n : Int) : V := if n < 0 ∨ 1099511627776 < n then ue 0 1 else ue (blobN n.toNat) 0
theorem clean_blobV (n : Int) : Clean (blobV n) := by unfold blobV; split <;> exact clean_ue _ _
theorem fake_fits {n d : Nat} : ∀ {fuel out acc i r : Nat}, out < 115792089237316195423570985008687907853269984665640564039457584007913129639936 → fakeN n d fuel out acc i = some r → r < 115792089237316195423570985008687907853269984665640564039457584007913129639936
  | 0, _, _, _, _, _, h => by simp [fakeN] at h
  | fuel + 1, out, acc, i, r, ho, h => by
    unfold fakeN at h
    split at h
    · cases h; exact ho
    · split at h
      · cases h
      · split at h
        · rename_i hc; exact fake_fits hc.1 h
        · cases h
theorem fakeV_lt {f n d r : Nat} (h : fakeV f n d = some r) : r < 115792089237316195423570985008687907853269984665640564039457584007913129639936 := by
  unfold fakeV at h
  split at h
  · cases e : fakeN n d 4097 0 (f * d) 1 with
    | none => rw [e] at h; cases h
    | some x =>
      rw [e] at h; cases h
      exact Nat.lt_of_le_of_lt (Nat.div_le_self _ _) (fake_fits (by omega) e)
  · cases h
theorem blobN_lt (m : Nat) : blobN m < 115792089237316195423570985008687907853269984665640564039457584007913129639936 := by
  unfold blobN
  cases h : fakeV 1 m 3338477 with
  | none => show 115792089237316195423570985008687907853269984665640564039457584007913129639935 < 115792089237316195423570985008687907853269984665640564039457584007913129639936; omega
  | some r => exact fakeV_lt h
set_option maxHeartbeats 20000000 in
theorem blob_c (n : Int) (hn : -9223372036854775808 ≤ n ∧ n < 9223372036854775808) : Pure Try.prog 27 [.int .i64 n] (blobV n) := by
  refine pure_ac ?_ (cleans_cons (.int _ _) cleans_nil) (clean_blobV _)
  by_cases h1 : n < 0
  · rw [show blobV n = ue 0 1 from if_pos (.inl h1)]
    (refine enter Try.func27 Try.results27 Try.ntmps27 ty_ok (hw := fun F hF => ?_); simp only [List.length_cons, List.length_nil, Nat.reduceAdd, Nat.reduceSub, List.replicate_succ, List.replicate_zero, List.cons_append, List.nil_append]; apply hF; clear hF F)
    refine wk ?_
    refine fin ?_
    rfl
  · by_cases h2 : 1099511627776 < n
    · rw [show blobV n = ue 0 1 from if_pos (.inr h2)]
      (refine enter Try.func27 Try.results27 Try.ntmps27 ty_ok (hw := fun F hF => ?_); simp only [List.length_cons, List.length_nil, Nat.reduceAdd, Nat.reduceSub, List.replicate_succ, List.replicate_zero, List.cons_append, List.nil_append]; apply hF; clear hF F)
      refine wk ?_
      refine fin ?_
      rfl
    · rw [show blobV n = ue (blobN n.toNat) 0 from if_neg (by omega)]
      obtain ⟨m, rfl⟩ := Int.eq_ofNat_of_zero_le (show 0 ≤ n by omega)
      rw [Int.toNat_natCast]
      have c0 := fake_c 1 m 3338477 (by omega) (by omega) (by omega)
      rw [uvs (m := m) (by omega)] at c0
      unfold fakeR at c0
      rw [if_neg (by omega)] at c0
      unfold blobN
      cases h : fakeV 1 m 3338477 with
      | none =>
        rw [h] at c0
        replace c0 : Pure Try.prog 40 [.agg [.int .u64 1, .int .u64 0, .int .u64 0, .int .u64 0], .agg [.int .u64 (m : Nat), .int .u64 0, .int .u64 0, .int .u64 0], .agg [.int .u64 3338477, .int .u64 0, .int .u64 0, .int .u64 0]] (ue 0 8) := c0
        (refine enter Try.func27 Try.results27 Try.ntmps27 ty_ok (hw := fun F hF => ?_); simp only [List.length_cons, List.length_nil, Nat.reduceAdd, Nat.reduceSub, List.replicate_succ, List.replicate_zero, List.cons_append, List.nil_append]; apply hF; clear hF F)
        refine wk ?_
        refine fin ?_
        rfl
      | some r =>
        rw [h] at c0
        replace c0 : Pure Try.prog 40 [.agg [.int .u64 1, .int .u64 0, .int .u64 0, .int .u64 0], .agg [.int .u64 (m : Nat), .int .u64 0, .int .u64 0, .int .u64 0], .agg [.int .u64 3338477, .int .u64 0, .int .u64 0, .int .u64 0]] (ue r 0) := c0
        (refine enter Try.func27 Try.results27 Try.ntmps27 ty_ok (hw := fun F hF => ?_); simp only [List.length_cons, List.length_nil, Nat.reduceAdd, Nat.reduceSub, List.replicate_succ, List.replicate_zero, List.cons_append, List.nil_append]; apply hF; clear hF F)
        refine wk ?_
        refine fin ?_
        rfl
set_option maxHeartbeats 20000000 in
theorem rblob_c (m : Nat) (hm : m ≤ 1099511627776) : Pure Try.prog 45 [.int .i64 m] (uv (blobN m)) := by
  refine pure_ac ?_ (cleans_cons (.int _ _) cleans_nil) (clean_uv _)
  have c0 := rfake_c 1 m 3338477 (by omega) (by omega) (by omega)
  unfold fakeR at c0
  rw [if_neg (by omega)] at c0
  have c1 := rof_c 1 (by omega) (by omega)
  have c2 := rof_c m (by omega) (by omega)
  have c3 := rof_c 3338477 (by omega) (by omega)
  rw [Int.toNat_natCast] at c2
  replace c1 : Pure Try.prog 39 [.int .i64 1] (uv 1) := c1
  replace c3 : Pure Try.prog 39 [.int .i64 3338477] (uv 3338477) := c3
  have c4 := most_c
  unfold blobN
  cases h : fakeV 1 m 3338477 with
  | none =>
    rw [h] at c0
    replace c0 : Pure Try.prog 58 [uv 1, uv m, uv 3338477] (ue 0 8) := c0
    (refine enter Try.func45 Try.results45 Try.ntmps45 ty_ok (hw := fun F hF => ?_); simp only [List.length_cons, List.length_nil, Nat.reduceAdd, Nat.reduceSub, List.replicate_succ, List.replicate_zero, List.cons_append, List.nil_append]; apply hF; clear hF F)
    refine wk ?_
    refine fin ?_
    rfl
  | some r =>
    rw [h] at c0
    replace c0 : Pure Try.prog 58 [uv 1, uv m, uv 3338477] (ue r 0) := c0
    (refine enter Try.func45 Try.results45 Try.ntmps45 ty_ok (hw := fun F hF => ?_); simp only [List.length_cons, List.length_nil, Nat.reduceAdd, Nat.reduceSub, List.replicate_succ, List.replicate_zero, List.cons_append, List.nil_append]; apply hF; clear hF F)
    refine wk ?_
    refine fin ?_
    rfl
end Go.Abs
