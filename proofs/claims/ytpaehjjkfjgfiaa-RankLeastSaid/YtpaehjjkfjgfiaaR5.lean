/- Ranks: the walks. -/
import Derived.Test.YtpaehjjkfjgfiaaR2
import Derived.Test.YtpaehjjkfjgfiaaR4
import Derived.Test.YtpaehjjkfjgfiaaG4
set_option linter.unusedVariables false
set_option linter.unusedSimpArgs false
namespace Go.Abs
open Go Go.Proofs

theorem blobN_zero : blobN 0 = 1 := by
  unfold blobN
  rw [show fakeV 1 0 3338477 = some 1 from by decide +kernel]; rfl
theorem rkD_eq (b bl : Nat) (t : Tx) : (if lvN t.bc - lvN bl < (if lvN t.cap - lvN b < 0 then lvN t.cap - lvN b else 0) then lvN t.bc - lvN bl else (if lvN t.cap - lvN b < 0 then lvN t.cap - lvN b else 0)) = rkD b bl t := by
  unfold rkD; omega
/-- What the program tells of one. -/
def oneV (b : Nat) (e : Int) (t : Tx) : V := if (0 ≤ e ∧ e ≤ 1099511627776) ∧ txOk t = true then .tup [rkV (rkD b (blobN e.toNat) t) t.tip, errV 0] else .tup [rkV 0 0, errV 1]
theorem clean_oneV (b : Nat) (e : Int) (t : Tx) : Clean (oneV b e t) := by unfold oneV; split <;> exact clean_tup (cleans_cons (clean_rkV _ _) (cleans_cons (.int _ _) cleans_nil))
set_option maxHeartbeats 20000000 in
theorem one_c (t : Tx) (n : Int) (b : Nat) (e : Int) (o : t.ok) (hb : b < 115792089237316195423570985008687907853269984665640564039457584007913129639936) (he : -9223372036854775808 ≤ e ∧ e < 9223372036854775808) : Pure Try.prog 10 [txV t, hdV n b e] (oneV b e t) := by
  refine pure_ac ?_ (cleans_cons (clean_txV t) (cleans_cons (clean_hdV _ _ _) cleans_nil)) (clean_oneV _ _ _)
  have c1 := blob_c e he
  have c2 := check_c t o
  unfold oneV
  by_cases h1 : 0 ≤ e ∧ e ≤ 1099511627776
  · rw [show blobV e = ue (blobN e.toNat) 0 from if_neg (by omega)] at c1
    have hbl := blobN_lt e.toNat
    by_cases h2 : txOk t = true
    · rw [if_pos h2] at c2
      rw [if_pos ⟨h1, h2⟩]
      have d1 := dist_c t.cap b o.cap hb
      have d2 := dist_c t.bc (blobN e.toNat) o.bc hbl
      rw [← rkD_eq]
      generalize blobN e.toNat = bl at *
      generalize lvN t.cap - lvN b = A at *
      generalize lvN t.bc - lvN bl = B at *
      (refine enter Try.func10 Try.results10 Try.ntmps10 ty_ok (hw := fun F hF => ?_); simp only [List.length_cons, List.length_nil, Nat.reduceAdd, Nat.reduceSub, List.replicate_succ, List.replicate_zero, List.cons_append, List.nil_append]; apply hF; clear hF F)
      refine wk ?_
      (refine aseq_fx (fun F hF => ?_); simp only [txc, List.drop_succ_cons, List.drop_zero, List.take_succ_cons, List.take_zero, splice, List.set_cons_succ, List.set_cons_zero]; apply hF; clear hF F)
      refine wk ?_
      refine fin ?_
      rfl
    · rw [if_neg h2] at c2
      rw [if_neg (fun h => h2 h.2)]
      generalize blobN e.toNat = bl at *
      (refine enter Try.func10 Try.results10 Try.ntmps10 ty_ok (hw := fun F hF => ?_); simp only [List.length_cons, List.length_nil, Nat.reduceAdd, Nat.reduceSub, List.replicate_succ, List.replicate_zero, List.cons_append, List.nil_append]; apply hF; clear hF F)
      refine wk ?_
      refine fin ?_
      rfl
  · rw [show blobV e = ue 0 1 from if_pos (by omega)] at c1
    rw [if_neg (fun h => h1 h.1)]
    (refine enter Try.func10 Try.results10 Try.ntmps10 ty_ok (hw := fun F hF => ?_); simp only [List.length_cons, List.length_nil, Nat.reduceAdd, Nat.reduceSub, List.replicate_succ, List.replicate_zero, List.cons_append, List.nil_append]; apply hF; clear hF F)
    refine wk ?_
    refine fin ?_
    rfl
set_option maxHeartbeats 20000000 in
theorem rkcmp_c (d : Int) (t : Nat) (e : Int) (u : Nat) (ht : t < 115792089237316195423570985008687907853269984665640564039457584007913129639936) (hu : u < 115792089237316195423570985008687907853269984665640564039457584007913129639936) : Pure Try.prog 17 [rkV d t, rkV e u] (.int .i64 (rcmp d t e u)) := by
  refine pure_ac ?_ (cleans_cons (clean_rkV _ _) (cleans_cons (clean_rkV _ _) cleans_nil)) (.int _ _)
  have c1 := cmp_c t u ht hu
  unfold rcmp
  by_cases h1 : d < e
  · rw [if_pos h1]
    (refine enter Try.func17 Try.results17 Try.ntmps17 ty_ok (hw := fun F hF => ?_); simp only [List.length_cons, List.length_nil, Nat.reduceAdd, Nat.reduceSub, List.replicate_succ, List.replicate_zero, List.cons_append, List.nil_append]; apply hF; clear hF F)
    refine wk ?_
    refine fin ?_
    rfl
  · rw [if_neg h1]
    by_cases h2 : e < d
    · rw [if_pos h2]
      (refine enter Try.func17 Try.results17 Try.ntmps17 ty_ok (hw := fun F hF => ?_); simp only [List.length_cons, List.length_nil, Nat.reduceAdd, Nat.reduceSub, List.replicate_succ, List.replicate_zero, List.cons_append, List.nil_append]; apply hF; clear hF F)
      refine wk ?_
      refine fin ?_
      rfl
    · rw [if_neg h2]
      (refine enter Try.func17 Try.results17 Try.ntmps17 ty_ok (hw := fun F hF => ?_); simp only [List.length_cons, List.length_nil, Nat.reduceAdd, Nat.reduceSub, List.replicate_succ, List.replicate_zero, List.cons_append, List.nil_append]; apply hF; clear hF F)
      refine wk ?_
      refine fin ?_
      rfl
set_option maxHeartbeats 20000000 in
theorem rrkcmp_c (d : Int) (t : Nat) (e : Int) (u : Nat) (ht : t < 115792089237316195423570985008687907853269984665640564039457584007913129639936) (hu : u < 115792089237316195423570985008687907853269984665640564039457584007913129639936) : Pure Try.prog 18 [rkV d t, rkV e u] (.int .i64 (rcmp d t e u)) := by
  refine pure_ac ?_ (cleans_cons (clean_rkV _ _) (cleans_cons (clean_rkV _ _) cleans_nil)) (.int _ _)
  have c1 := rcmp_c t u ht hu
  unfold rcmp
  by_cases h1 : d < e
  · rw [if_pos h1]
    (refine enter Try.func18 Try.results18 Try.ntmps18 ty_ok (hw := fun F hF => ?_); simp only [List.length_cons, List.length_nil, Nat.reduceAdd, Nat.reduceSub, List.replicate_succ, List.replicate_zero, List.cons_append, List.nil_append]; apply hF; clear hF F)
    refine wk ?_
    refine fin ?_
    rfl
  · rw [if_neg h1]
    by_cases h2 : e < d
    · rw [if_pos h2]
      (refine enter Try.func18 Try.results18 Try.ntmps18 ty_ok (hw := fun F hF => ?_); simp only [List.length_cons, List.length_nil, Nat.reduceAdd, Nat.reduceSub, List.replicate_succ, List.replicate_zero, List.cons_append, List.nil_append]; apply hF; clear hF F)
      refine wk ?_
      refine fin ?_
      rfl
    · rw [if_neg h2]
      (refine enter Try.func18 Try.results18 Try.ntmps18 ty_ok (hw := fun F hF => ?_); simp only [List.length_cons, List.length_nil, Nat.reduceAdd, Nat.reduceSub, List.replicate_succ, List.replicate_zero, List.cons_append, List.nil_append]; apply hF; clear hF F)
      refine wk ?_
      refine fin ?_
      rfl
theorem rkcheck_c (d : Int) (t : Nat) : Pure Try.prog 19 [rkV d t] (.int .i64 (if d < -4096 ∨ 0 < d then 1 else 0)) := by
  refine pure_ac ?_ (cleans_cons (clean_rkV _ _) cleans_nil) (.int _ _)
  by_cases h1 : d < -4096
  · rw [if_pos (.inl h1)]
    (refine enter Try.func19 Try.results19 Try.ntmps19 ty_ok (hw := fun F hF => ?_); simp only [List.length_cons, List.length_nil, Nat.reduceAdd, Nat.reduceSub, List.replicate_succ, List.replicate_zero, List.cons_append, List.nil_append]; apply hF; clear hF F)
    refine wk ?_
    refine fin ?_
    rfl
  · by_cases h2 : 0 < d
    · rw [if_pos (.inr h2)]
      (refine enter Try.func19 Try.results19 Try.ntmps19 ty_ok (hw := fun F hF => ?_); simp only [List.length_cons, List.length_nil, Nat.reduceAdd, Nat.reduceSub, List.replicate_succ, List.replicate_zero, List.cons_append, List.nil_append]; apply hF; clear hF F)
      refine wk ?_
      refine fin ?_
      rfl
    · rw [if_neg (by omega)]
      (refine enter Try.func19 Try.results19 Try.ntmps19 ty_ok (hw := fun F hF => ?_); simp only [List.length_cons, List.length_nil, Nat.reduceAdd, Nat.reduceSub, List.replicate_succ, List.replicate_zero, List.cons_append, List.nil_append]; apply hF; clear hF F)
      refine wk ?_
      refine fin ?_
      rfl
theorem rrank_c (d : Int) (t : Nat) : Pure Try.prog 20 [rkV d t] (.bool (decide (-4096 ≤ d ∧ d ≤ 0))) := by
  refine pure_ac ?_ (cleans_cons (clean_rkV _ _) cleans_nil) (.bool _)
  by_cases h1 : -4096 ≤ d
  · rw [show decide (-4096 ≤ d ∧ d ≤ 0) = decide (d ≤ 0) from decide_eq_decide.2 (by omega)]
    (refine enter Try.func20 Try.results20 Try.ntmps20 ty_ok (hw := fun F hF => ?_); simp only [List.length_cons, List.length_nil, Nat.reduceAdd, Nat.reduceSub, List.replicate_succ, List.replicate_zero, List.cons_append, List.nil_append]; apply hF; clear hF F)
    refine wk ?_
    refine fin ?_
    rfl
  · rw [decide_eq_false (by omega)]
    (refine enter Try.func20 Try.results20 Try.ntmps20 ty_ok (hw := fun F hF => ?_); simp only [List.length_cons, List.length_nil, Nat.reduceAdd, Nat.reduceSub, List.replicate_succ, List.replicate_zero, List.cons_append, List.nil_append]; apply hF; clear hF F)
    refine wk ?_
    refine fin ?_
    rfl
set_option maxHeartbeats 20000000 in
theorem at_c (n : Int) (b : Nat) (e : Int) (hb : b < 115792089237316195423570985008687907853269984665640564039457584007913129639936) (he : 0 ≤ e ∧ e ≤ 1099511627776) : Pure Try.prog 31 [hdV n b e] (.agg [.int .i64 (lvN b), .int .i64 (lvN (blobN e.toNat))]) := by
  refine pure_ac ?_ (cleans_cons (clean_hdV _ _ _) cleans_nil) (clean_agg (cleans_cons (.int _ _) (cleans_cons (.int _ _) cleans_nil)))
  obtain ⟨m, rfl⟩ := Int.eq_ofNat_of_zero_le he.1
  rw [Int.toNat_natCast]
  have c1 := rlevel_c b hb
  have c2 := rblob_c m (by omega)
  have c3 := rlevel_c (blobN m) (blobN_lt m)
  generalize blobN m = bl at *
  (refine enter Try.func31 Try.results31 Try.ntmps31 ty_ok (hw := fun F hF => ?_); simp only [List.length_cons, List.length_nil, Nat.reduceAdd, Nat.reduceSub, List.replicate_succ, List.replicate_zero, List.cons_append, List.nil_append]; apply hF; clear hF F)
  refine wk ?_
  refine fin ?_
  rfl
set_option maxHeartbeats 20000000 in
theorem pone_c (t : Tx) (b bl : Nat) (o : t.ok) (hb : b < 115792089237316195423570985008687907853269984665640564039457584007913129639936) (hbl : bl < 115792089237316195423570985008687907853269984665640564039457584007913129639936) : Pure Try.prog 30 [txV t, .agg [.int .i64 (lvN b), .int .i64 (lvN bl)]] (rkV (rkD b bl t) t.tip) := by
  refine pure_ac ?_ (cleans_cons (clean_txV t) (cleans_cons (clean_agg (cleans_cons (.int _ _) (cleans_cons (.int _ _) cleans_nil))) cleans_nil)) (clean_rkV _ _)
  have c1 := rlevel_c t.cap o.cap
  have c2 := rlevel_c t.bc o.bc
  have g1 := lvN_bd hb
  have g2 := lvN_bd hbl
  have g3 := lvN_bd o.cap
  have g4 := lvN_bd o.bc
  rw [← rkD_eq]
  generalize lvN t.cap = A at *
  generalize lvN t.bc = B at *
  generalize lvN b = C at *
  generalize lvN bl = D at *
  (refine enter Try.func30 Try.results30 Try.ntmps30 ty_ok (hw := fun F hF => ?_); simp only [List.length_cons, List.length_nil, Nat.reduceAdd, Nat.reduceSub, List.replicate_succ, List.replicate_zero, List.cons_append, List.nil_append]; apply hF; clear hF F)
  refine wk ?_
  (refine aseq_fx (fun F hF => ?_); simp only [txc, List.drop_succ_cons, List.drop_zero, List.take_succ_cons, List.take_zero, splice, List.set_cons_succ, List.set_cons_zero]; apply hF; clear hF F)
  refine wk ?_
  refine fin ?_
  rfl
theorem pOne_c (t : Tx) (n : Int) (b : Nat) (e : Int) (o : t.ok) (hb : b < 115792089237316195423570985008687907853269984665640564039457584007913129639936) (he : 0 ≤ e ∧ e ≤ 1099511627776) : Pure Try.prog 15 [txV t, hdV n b e] (rkV (rkD b (blobN e.toNat) t) t.tip) := by
  refine pure_ac ?_ (cleans_cons (clean_txV t) (cleans_cons (clean_hdV _ _ _) cleans_nil)) (clean_rkV _ _)
  have c1 := at_c n b e hb he
  have hbl := blobN_lt e.toNat
  have c2 := pone_c t b (blobN e.toNat) o hb hbl
  generalize blobN e.toNat = bl at *
  generalize rkD b bl t = D at *
  (refine enter Try.func15 Try.results15 Try.ntmps15 ty_ok (hw := fun F hF => ?_); simp only [List.length_cons, List.length_nil, Nat.reduceAdd, Nat.reduceSub, List.replicate_succ, List.replicate_zero, List.cons_append, List.nil_append]; apply hF; clear hF F)
  refine wk ?_
  refine fin ?_
  rfl
/-- May they all be asked about? -/
def mayB (l : List Tx) (e : Int) : Bool := decide (0 < l.length) && l.all txOk && decide (0 ≤ e ∧ e ≤ 1099511627776)
set_option maxHeartbeats 20000000 in
theorem mayof_c (l : List Tx) (x : Bool) (n : Int) (b : Nat) (e : Int) (hl : l.length < 9223372036854775808) (o : ∀ t ∈ l, t.ok) : Pure Try.prog 22 [tsV l x, hdV n b e] (.bool (mayB l e)) := by
  refine pure_ac ?_ (cleans_cons (clean_tsV l x) (cleans_cons (clean_hdV _ _ _) cleans_nil)) (.bool _)
  have c1 := rtxs_c l x hl o
  have c2 := znum_c e 1099511627776
  unfold mayB
  by_cases h1 : 0 < l.length
  · rw [decide_eq_true h1, Bool.true_and]
    cases h2 : l.all txOk with
    | true =>
      rw [h2] at c1
      rw [Bool.true_and]
      (refine enter Try.func22 Try.results22 Try.ntmps22 ty_ok (hw := fun F hF => ?_); simp only [List.length_cons, List.length_nil, Nat.reduceAdd, Nat.reduceSub, List.replicate_succ, List.replicate_zero, List.cons_append, List.nil_append]; apply hF; clear hF F)
      refine wk ?_
      refine fin ?_
      rfl
    | false =>
      rw [h2] at c1
      rw [Bool.false_and]
      (refine enter Try.func22 Try.results22 Try.ntmps22 ty_ok (hw := fun F hF => ?_); simp only [List.length_cons, List.length_nil, Nat.reduceAdd, Nat.reduceSub, List.replicate_succ, List.replicate_zero, List.cons_append, List.nil_append]; apply hF; clear hF F)
      refine wk ?_
      refine fin ?_
      rfl
  · rw [decide_eq_false h1, Bool.false_and, Bool.false_and]
    (refine enter Try.func22 Try.results22 Try.ntmps22 ty_ok (hw := fun F hF => ?_); simp only [List.length_cons, List.length_nil, Nat.reduceAdd, Nat.reduceSub, List.replicate_succ, List.replicate_zero, List.cons_append, List.nil_append]; apply hF; clear hF F)
    refine wk ?_
    refine fin ?_
    rfl
/-- The least of a row. -/
def dAt (b bl : Nat) (l : List Tx) (i : Nat) : Int := rkD b bl (l.getD i default)
def tAt (l : List Tx) (i : Nat) : Nat := (l.getD i default).tip
theorem dAt_eq {b bl : Nat} {l : List Tx} {i : Nat} (h : i < l.length) : dAt b bl l i = rkD b bl l[i] := by unfold dAt; rw [List.getD_eq_getElem?_getD, List.getElem?_eq_getElem h]; rfl
theorem tAt_eq {l : List Tx} {i : Nat} (h : i < l.length) : tAt l i = l[i].tip := by unfold tAt; rw [List.getD_eq_getElem?_getD, List.getElem?_eq_getElem h]; rfl
def ofV (b : Nat) (e : Int) (l : List Tx) : V := if mayB l e = true then .tup [rkV (minD (dAt b (blobN e.toNat) l) l.length) (minT (tAt l) l.length), errV 0] else .tup [rkV 0 0, errV 1]
theorem clean_ofV (b : Nat) (e : Int) (l : List Tx) : Clean (ofV b e l) := by unfold ofV; split <;> exact clean_tup (cleans_cons (clean_rkV _ _) (cleans_cons (.int _ _) cleans_nil))
theorem minD_step (f : Nat → Int) (i : Nat) : (if f i < minD f i then f i else minD f i) = minD f (i + 1) := by rw [minD]; omega
theorem cmpN_neg {a b : Nat} : cmpN a b < 0 ↔ a < b := by
  rcases cmpN_cases a b with ⟨h, h2⟩ | ⟨h, h2⟩ | ⟨h, h2⟩ <;> omega
set_option maxHeartbeats 20000000 in
theorem pofat_c (l : List Tx) (x : Bool) (b bl : Nat) (hl : l.length < 9223372036854775808) (o : ∀ t ∈ l, t.ok) (h0 : 0 < l.length) (hb : b < 115792089237316195423570985008687907853269984665640564039457584007913129639936) (hbl : bl < 115792089237316195423570985008687907853269984665640564039457584007913129639936) : Pure Try.prog 35 [tsV l x, .agg [.int .i64 (lvN b), .int .i64 (lvN bl)]] (rkV (minD (dAt b bl l) l.length) (minT (tAt l) l.length)) := by
  refine pure_ac ?_ (cleans_cons (clean_tsV l x) (cleans_cons (clean_agg (cleans_cons (.int _ _) (cleans_cons (.int _ _) cleans_nil))) cleans_nil)) (clean_rkV _ _)
  have c0 := pone_c l[0] b bl (o _ (List.getElem_mem h0)) hb hbl
  have ht0 : List.take 21 (flat txc l) = txc l[0] := by
    have := flat_take (f := txc) l 0 h0
    rw [Nat.zero_mul, List.drop_zero] at this
    exact this
  replace c0 : Pure Try.prog 30 [.agg (List.take 21 (flat txc l)), .agg [.int .i64 (lvN b), .int .i64 (lvN bl)]] (rkV (rkD b bl l[0]) l[0].tip) := by rw [ht0]; exact c0
  have e0 : minD (dAt b bl l) 1 = rkD b bl l[0] := by rw [minD_one, dAt_eq h0]
  have t0 : minT (tAt l) 1 = l[0].tip := by rw [minT_one, tAt_eq h0]
  rw [← e0, ← t0] at c0
  have hlt : ∀ i, i < l.length → tAt l i < 115792089237316195423570985008687907853269984665640564039457584007913129639936 := fun i hi => by rw [tAt_eq hi]; exact (o _ (List.getElem_mem hi)).tip
  (refine enter Try.func35 Try.results35 Try.ntmps35 ty_ok (hw := fun F hF => ?_); simp only [List.length_cons, List.length_nil, Nat.reduceAdd, Nat.reduceSub, List.replicate_succ, List.replicate_zero, List.cons_append, List.nil_append]; apply hF; clear hF F)
  refine wk ?_
  refine aw_loopI (fun (i : Nat) => ⟨((tsV l x) :: .any :: .any :: (.ptr 0 0) :: (.ptr 1 0) :: (.ptr 2 0) :: (.int .i64 i) :: .any :: .any :: .any :: .any :: .any :: .any :: .any :: .any :: .any :: .any :: .any :: .any :: .any :: .any :: .any :: .any :: .any :: .any :: .any :: .any :: .any :: .any :: .any :: .any :: .any :: .any :: .any :: .any :: .any :: .any :: .any :: .any :: .any :: .any :: []), [.live [.int .i64 (lvN b), .int .i64 (lvN bl)], .live [.int .i64 0, .int .u64 0, .int .u64 0, .int .u64 0, .int .u64 0], .live [.int .i64 (minD (dAt b bl l) i), .int .u64 (lb (minT (tAt l) i) 0), .int .u64 (lb (minT (tAt l) i) 1), .int .u64 (lb (minT (tAt l) i) 2), .int .u64 (lb (minT (tAt l) i) 3)]]⟩) (fun i => 1 ≤ i ∧ i ≤ l.length) (fun i => l.length - i) 1 (by omega) (wkt [0, 1, 2]) ?_
  rintro i ⟨hi1, hi⟩ K hK
  have hti : minT (tAt l) i < 115792089237316195423570985008687907853269984665640564039457584007913129639936 := by
    obtain ⟨j, hj, hj2⟩ := minT_in (tAt l) i (by omega)
    rw [hj2]; exact hlt j (by omega)
  by_cases h1 : i < l.length
  · have c1 := pone_c l[i] b bl (o _ (List.getElem_mem h1)) hb hbl
    rw [← dAt_eq h1, ← tAt_eq h1] at c1
    have c2 := rcmp_c (tAt l i) (minT (tAt l) i) (hlt i h1) hti
    by_cases hc : tAt l i < minT (tAt l) i
    · have hc1 := cmpN_neg.2 hc
      have hT : minT (tAt l) (i + 1) = tAt l i := by rw [minT, if_pos hc]
      refine wk ?_
      refine hK _ (i + 1) (by omega) ?_ (by omega)
      rw [← minD_step, hT]
      exact wkt [0, 1, 2]
    · have hc1 : ¬ cmpN (tAt l i) (minT (tAt l) i) < 0 := fun h => hc (cmpN_neg.1 h)
      have hT : minT (tAt l) (i + 1) = minT (tAt l) i := by rw [minT, if_neg hc]
      refine wk ?_
      refine hK _ (i + 1) (by omega) ?_ (by omega)
      rw [← minD_step, hT]
      exact wkt [0, 1, 2]
  · obtain rfl : i = l.length := by omega
    refine wk ?_
    refine fin ?_
    rfl
theorem pof_c (l : List Tx) (x : Bool) (n : Int) (b : Nat) (e : Int) (hl : l.length < 9223372036854775808) (o : ∀ t ∈ l, t.ok) (h0 : 0 < l.length) (hb : b < 115792089237316195423570985008687907853269984665640564039457584007913129639936) (he : 0 ≤ e ∧ e ≤ 1099511627776) : Pure Try.prog 23 [tsV l x, hdV n b e] (rkV (minD (dAt b (blobN e.toNat) l) l.length) (minT (tAt l) l.length)) := by
  refine pure_ac ?_ (cleans_cons (clean_tsV l x) (cleans_cons (clean_hdV _ _ _) cleans_nil)) (clean_rkV _ _)
  have c1 := at_c n b e hb he
  have hbl := blobN_lt e.toNat
  have c2 := pofat_c l x b (blobN e.toNat) hl o h0 hb hbl
  generalize blobN e.toNat = bl at *
  generalize minD (dAt b bl l) l.length = D at *
  generalize minT (tAt l) l.length = T at *
  (refine enter Try.func23 Try.results23 Try.ntmps23 ty_ok (hw := fun F hF => ?_); simp only [List.length_cons, List.length_nil, Nat.reduceAdd, Nat.reduceSub, List.replicate_succ, List.replicate_zero, List.cons_append, List.nil_append]; apply hF; clear hF F)
  refine wk ?_
  refine fin ?_
  rfl
theorem mayB_false {l : List Tx} {e : Int} {i : Nat} (h : i < l.length) (h2 : ¬ ((0 ≤ e ∧ e ≤ 1099511627776) ∧ txOk l[i] = true)) : mayB l e = false := by
  unfold mayB
  cases hx : l.all txOk with
  | false => rw [Bool.and_false, Bool.false_and]
  | true =>
    rw [decide_eq_false fun he => h2 ⟨he, List.all_eq_true.1 hx _ (List.getElem_mem h)⟩, Bool.and_false]
set_option maxHeartbeats 20000000 in
theorem of_rc (l : List Tx) (x : Bool) (n : Int) (b : Nat) (e : Int) (hl : l.length < 9223372036854775808) (o : ∀ t ∈ l, t.ok) (hb : b < 115792089237316195423570985008687907853269984665640564039457584007913129639936) (he : -9223372036854775808 ≤ e ∧ e < 9223372036854775808) : Pure Try.prog 21 [tsV l x, hdV n b e] (ofV b e l) := by
  refine pure_ac ?_ (cleans_cons (clean_tsV l x) (cleans_cons (clean_hdV _ _ _) cleans_nil)) (clean_ofV _ _ _)
  by_cases h0 : l.length = 0
  · rw [show ofV b e l = .tup [rkV 0 0, errV 1] from if_neg (by unfold mayB; rw [h0]; simp)]
    (refine enter Try.func21 Try.results21 Try.ntmps21 ty_ok (hw := fun F hF => ?_); simp only [List.length_cons, List.length_nil, Nat.reduceAdd, Nat.reduceSub, List.replicate_succ, List.replicate_zero, List.cons_append, List.nil_append]; apply hF; clear hF F)
    refine wk ?_
    refine fin ?_
    rfl
  · have hlt : ∀ i, i < l.length → tAt l i < 115792089237316195423570985008687907853269984665640564039457584007913129639936 := fun i hi => by rw [tAt_eq hi]; exact (o _ (List.getElem_mem hi)).tip
    (refine enter Try.func21 Try.results21 Try.ntmps21 ty_ok (hw := fun F hF => ?_); simp only [List.length_cons, List.length_nil, Nat.reduceAdd, Nat.reduceSub, List.replicate_succ, List.replicate_zero, List.cons_append, List.nil_append]; apply hF; clear hF F)
    refine wk ?_
    refine aw_loopI (fun (X : Nat × Int × Nat) => ⟨((tsV l x) :: .any :: .any :: (.ptr 0 0) :: (.ptr 1 0) :: (.int .i64 0) :: (.ptr 2 0) :: .any :: .any :: .any :: .any :: .any :: .any :: .any :: .any :: (tsV l x) :: (.int .i64 l.length) :: (.int .i64 X.1) :: .any :: .any :: .any :: .any :: .any :: .any :: .any :: .any :: .any :: .any :: .any :: .any :: .any :: .any :: .any :: .any :: .any :: .any :: .any :: .any :: .any :: .any :: .any :: .any :: .any :: .any :: .any :: .any :: .any :: .any :: .any :: .any :: .any :: .any :: []), [.live [.int .i64 n, .int .u64 (lb b 0), .int .u64 (lb b 1), .int .u64 (lb b 2), .int .u64 (lb b 3), .int .i64 e], .live [.int .i64 0, .int .u64 0, .int .u64 0, .int .u64 0, .int .u64 0], .live [.int .i64 X.2.1, .int .u64 (lb X.2.2 0), .int .u64 (lb X.2.2 1), .int .u64 (lb X.2.2 2), .int .u64 (lb X.2.2 3)]]⟩) (fun X => X.1 ≤ l.length ∧ (l.take X.1).all txOk = true ∧ (0 < X.1 → 0 ≤ e ∧ e ≤ 1099511627776) ∧ X.2.2 < 115792089237316195423570985008687907853269984665640564039457584007913129639936 ∧ (0 < X.1 → X.2.1 = minD (dAt b (blobN e.toNat) l) X.1 ∧ X.2.2 = minT (tAt l) X.1)) (fun X => l.length - X.1) (0, 0, 0) ⟨by show 0 ≤ _; omega, by simp, fun h => absurd h (by show ¬ 0 < 0; omega), by show 0 < _; omega, fun h => absurd h (by show ¬ 0 < 0; omega)⟩ (wkt [0, 1, 2]) ?_
    rintro ⟨i, D, T⟩ ⟨hi, ha, hxe, hT, hDT⟩ K hK
    dsimp only at hi ha hxe hT hDT
    by_cases h1 : i < l.length
    · have c1 := one_c l[i] n b e (o _ (List.getElem_mem h1)) hb he
      unfold oneV at c1
      by_cases h2 : (0 ≤ e ∧ e ≤ 1099511627776) ∧ txOk l[i] = true
      · rw [if_pos h2, ← dAt_eq h1, ← tAt_eq h1] at c1
        have ha2 := all_step h1 ha h2.2
        generalize blobN e.toNat = bl at *
        by_cases hi0 : i = 0
        · have c2 := cmp_c (tAt l i) (tAt l i) (hlt i h1) (hlt i h1)
          rw [cmpN_eq rfl] at c2
          have e0 : minD (dAt b bl l) (i + 1) = dAt b bl l i := by rw [hi0]; exact minD_one _
          have t0 : minT (tAt l) (i + 1) = tAt l i := by rw [hi0]; exact minT_one _
          have hl1 := hlt i h1
          refine wk ?_
          (refine aseq_fx (fun F hF => ?_); simp only [List.drop_succ_cons, List.drop_zero, List.take_succ_cons, List.take_zero, splice, List.set_cons_succ, List.set_cons_zero]; apply hF; clear hF F)
          refine wk ?_
          refine hK _ (i + 1, dAt b bl l i, tAt l i) ⟨by show i + 1 ≤ l.length; omega, ha2, fun _ => h2.1, hl1, fun _ => ⟨e0.symm, t0.symm⟩⟩ ?_ (by show l.length - (i + 1) < l.length - i; omega)
          rw [ite_self]
          exact wkt [0, 1, 2]
        · obtain ⟨rfl, rfl⟩ := hDT (by omega)
          have c2 := cmp_c (tAt l i) (minT (tAt l) i) (hlt i h1) hT
          by_cases hc : tAt l i < minT (tAt l) i
          · have hc1 := cmpN_neg.2 hc
            have hT2 : minT (tAt l) (i + 1) = tAt l i := by rw [minT, if_pos hc]
            refine wk ?_
            refine hK _ (i + 1, minD (dAt b bl l) (i + 1), minT (tAt l) (i + 1)) ⟨by show i + 1 ≤ l.length; omega, ha2, fun _ => h2.1, by show minT (tAt l) (i + 1) < _; rw [hT2]; exact hlt i h1, fun _ => ⟨rfl, rfl⟩⟩ ?_ (by show l.length - (i + 1) < l.length - i; omega)
            dsimp only
            rw [← minD_step, hT2]
            exact wkt [0, 1, 2]
          · have hc1 : ¬ cmpN (tAt l i) (minT (tAt l) i) < 0 := fun h => hc (cmpN_neg.1 h)
            have hT2 : minT (tAt l) (i + 1) = minT (tAt l) i := by rw [minT, if_neg hc]
            refine wk ?_
            refine hK _ (i + 1, minD (dAt b bl l) (i + 1), minT (tAt l) (i + 1)) ⟨by show i + 1 ≤ l.length; omega, ha2, fun _ => h2.1, by show minT (tAt l) (i + 1) < _; rw [hT2]; exact hT, fun _ => ⟨rfl, rfl⟩⟩ ?_ (by show l.length - (i + 1) < l.length - i; omega)
            dsimp only
            rw [← minD_step, hT2]
            exact wkt [0, 1, 2]
      · rw [if_neg h2] at c1
        rw [show ofV b e l = .tup [rkV 0 0, errV 1] from if_neg (by rw [mayB_false h1 h2]; simp)]
        refine wk ?_
        refine fin ?_
        rfl
    · obtain rfl : i = l.length := by omega
      rw [List.take_length] at ha
      have hxe2 := hxe (by omega)
      obtain ⟨rfl, rfl⟩ := hDT (by omega)
      rw [show ofV b e l = .tup [rkV (minD (dAt b (blobN e.toNat) l) l.length) (minT (tAt l) l.length), errV 0] from if_pos (by unfold mayB; rw [decide_eq_true (show 0 < l.length by omega), ha, decide_eq_true hxe2]; rfl)]
      generalize blobN e.toNat = bl at *
      refine wk ?_
      refine fin ?_
      rfl
/-- The one of the wakes. -/
def tB : Tx := ⟨0, 0, 9, 18, 9, 0, 1, [hashN ⟨#[98]⟩], [⟨#[98]⟩]⟩
theorem markN_lt (s : ByteArray) : markN s < 18446744073709551616 := markP_lt s _
theorem tB_ok : tB.ok := ⟨by decide, by decide, by decide, by decide, by decide, by decide, by decide, fun h hh => by
  rw [List.mem_singleton.1 hh]; exact markN_lt _, by decide, fun h hh => by
  rw [List.mem_singleton.1 hh]; decide, by decide⟩
theorem tB_fits : fitsN tB.hs tB.bs = 0 := by
  show fitsN [hashN ⟨#[98]⟩] [⟨#[98]⟩] = 0
  unfold fitsN
  rw [if_neg (by simp), if_neg (by rintro ⟨b, hb, h⟩; rw [List.mem_singleton.1 hb] at h; revert h; decide), if_neg (by simp [unl])]
theorem tB_txOk : txOk tB = true := by
  unfold txOk
  refine decide_eq_true ⟨by decide, by decide, by decide, by decide, by decide, by decide, by decide, tB_fits, by decide⟩
theorem t7_c : Pure Try.prog 32 [.int .i64 0, .int .i64 0, .int .u64 9] (txV tB) := by
  refine pure_seal 2 (R := fun v h' => ∃ a b, v = .agg [.int .i64 0, .int .i64 0, .int .u64 9, .int .u64 0, .int .u64 0, .int .u64 0, .int .u64 18, .int .u64 0, .int .u64 0, .int .u64 0, .int .u64 9, .int .u64 0, .int .u64 0, .int .u64 0, .int .u64 0, .int .u64 0, .int .u64 0, .int .u64 0, .int .i64 1, .slc a 0 1 1 1, .slc b 0 1 1 1] ∧ h'[a]? = some (.live [.int .u64 (hashN ⟨#[98]⟩ : Nat)]) ∧ h'[b]? = some (.live [.str ⟨#[98]⟩])) ?_ (cleans_cons (.int _ _) (cleans_cons (.int _ _) (cleans_cons (.int _ _) cleans_nil))) ?_ (clean_txV _)
  · have c1 := rhash_c ⟨#[98]⟩ (by decide)
    (refine enter Try.func32 Try.results32 Try.ntmps32 ty_ok (hw := fun F hF => ?_); simp only [List.length_cons, List.length_nil, Nat.reduceAdd, Nat.reduceSub, List.replicate_succ, List.replicate_zero, List.cons_append, List.nil_append]; apply hF; clear hF F)
    refine wk ?_
    refine fin ?_
    exact ⟨1, 2, rfl, rfl, rfl⟩
  · rintro v h' ⟨a, b, rfl, h1, h2⟩
    simp only [sealV, sealL, h1, h2, List.drop_zero, List.take_succ_cons, List.take_zero]
    rfl
theorem num12_c (n : Int) : Pure Try.prog 14 [.int .i64 n] (.int .i64 n) := by
  refine pure_ac ?_ (cleans_cons (.int _ _) cleans_nil) (.int _ _)
  (refine enter Try.func14 Try.results14 Try.ntmps14 ty_ok (hw := fun F hF => ?_); simp only [List.length_cons, List.length_nil, Nat.reduceAdd, Nat.reduceSub, List.replicate_succ, List.replicate_zero, List.cons_append, List.nil_append]; apply hF; clear hF F)
  refine wk ?_
  refine fin ?_
  rfl
theorem wakes12_c : Pure Try.prog 16 [] (.bool true) := by
  refine pure_ac ?_ cleans_nil (.bool _)
  have c0 := t7_c
  have c1 := one_c tB 0 0 0 tB_ok (by omega) (by omega)
  have hd : rkD 0 1 tB = 0 := by decide
  unfold oneV at c1
  rw [if_pos ⟨by omega, tB_txOk⟩, show (0 : Int).toNat = 0 from rfl, blobN_zero, hd, show tB.tip = 9 from rfl] at c1
  replace c1 : Pure Try.prog 10 [txV tB, .agg [.int .i64 0, .int .u64 0, .int .u64 0, .int .u64 0, .int .u64 0, .int .i64 0]] (.tup [.agg [.int .i64 0, .int .u64 9, .int .u64 0, .int .u64 0, .int .u64 0], errV 0]) := c1
  have c2 := num12_c
  (refine enter Try.func16 Try.results16 Try.ntmps16 ty_ok (hw := fun F hF => ?_); simp only [List.length_cons, List.length_nil, Nat.reduceAdd, Nat.reduceSub, List.replicate_succ, List.replicate_zero, List.cons_append, List.nil_append]; apply hF; clear hF F)
  refine wk ?_
  refine fin ?_
  rfl
end Go.Abs
