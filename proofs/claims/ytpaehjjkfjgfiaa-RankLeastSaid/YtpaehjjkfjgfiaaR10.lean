/- The law RankLeast: the walk. -/
import Derived.Test.YtpaehjjkfjgfiaaR8
set_option linter.unusedVariables false
set_option linter.unusedSimpArgs false
namespace Go.Abs
open Go Go.Proofs

theorem minD_congr {f g : Nat → Int} : ∀ {n : Nat}, 0 < n → (∀ i, i < n → f i = g i) → minD f n = minD g n
  | 1, _, h => by rw [minD_one, minD_one, h 0 (by omega)]
  | n + 2, _, h => by
    show min (minD f (n + 1)) (f (n + 1)) = min (minD g (n + 1)) (g (n + 1))
    rw [minD_congr (n := n + 1) (by omega) (fun i hi => h i (by omega)), h (n + 1) (by omega)]
theorem minT_congr {f g : Nat → Nat} : ∀ {n : Nat}, 0 < n → (∀ i, i < n → f i = g i) → minT f n = minT g n
  | 1, _, h => by rw [minT_one, minT_one, h 0 (by omega)]
  | n + 2, _, h => by
    show (if f (n + 1) < minT f (n + 1) then f (n + 1) else minT f (n + 1)) = (if g (n + 1) < minT g (n + 1) then g (n + 1) else minT g (n + 1))
    rw [minT_congr (n := n + 1) (by omega) (fun i hi => h i (by omega)), h (n + 1) (by omega)]
theorem getD_take {l : List Tx} {k i : Nat} (h : i < k) : (l.take k).getD i default = l.getD i default := by
  rw [List.getD_eq_getElem?_getD, List.getD_eq_getElem?_getD, List.getElem?_take, if_pos h]
theorem ofV_take {b : Nat} {e : Int} {l : List Tx} {k : Nat} (hk : 0 < k) (hkl : k ≤ l.length) (hm : mayB l e = true) : ofV b e (l.take k) = .tup [rkV (minD (dAt b (blobN e.toNat) l) k) (minT (tAt l) k), errV 0] := by
  obtain ⟨m1, m2, m3⟩ := mayB_true hm
  have hl : (l.take k).length = k := by rw [List.length_take]; omega
  have hall : (l.take k).all txOk = true := List.all_eq_true.2 fun t ht => List.all_eq_true.1 m2 t (List.mem_of_mem_take ht)
  unfold ofV
  rw [if_pos (by unfold mayB; rw [hl, decide_eq_true hk, hall, decide_eq_true m3]; rfl), hl,
    minD_congr hk (g := dAt b (blobN e.toNat) l) (fun i hi => by unfold dAt; rw [getD_take hi]),
    minT_congr hk (g := tAt l) (fun i hi => by unfold tAt; rw [getD_take hi])]

/-- Are the four limbs alike? -/
@[reducible] def eqB (a b : Nat) : Bool := (lb a 0 : Int) == lb b 0 && ((lb a 1 : Int) == lb b 1 && ((lb a 2 : Int) == lb b 2 && (lb a 3 : Int) == lb b 3))
theorem eqB_self (a : Nat) : eqB a a = true := by simp [eqB]
theorem flag_step {α : Type} {f : Nat → α} {D : α} {j : Nat} {b b' : Bool} (h : b = true ∨ ∀ i, i < j → f i ≠ D) (hb : b = true → b' = true) (he : f j = D → b' = true) : b' = true ∨ ∀ i, i < j + 1 → f i ≠ D := by
  by_cases hx : f j = D
  · exact .inl (he hx)
  · rcases h with h | h
    · exact .inl (hb h)
    · refine .inr fun i hi => ?_
      by_cases e : i = j
      · rw [e]; exact hx
      · exact h i (by omega)
set_option maxHeartbeats 20000000 in
theorem rankLeast_c (ns : List RAsk) (x : Bool) (hns : ns.length < 9223372036854775808) (hok : ∀ n ∈ ns, n.ok) : Pure Try.prog 6 [vecR ns x] (.bool true) := by
  refine pure_ac ?_ (cleans_cons (clean_vecR _ _) cleans_nil) (.bool _)
  unfold vecR
  have hw := wakes12_c
  have hnum := num12_c
  (refine enter Try.func6 Try.results6 Try.ntmps6 ty_ok (hw := fun F hF => ?_); simp only [List.length_cons, List.length_nil, Nat.reduceAdd, Nat.reduceSub, List.replicate_succ, List.replicate_zero, List.cons_append, List.nil_append]; apply hF; clear hF F)
  refine wk ?_
  refine aw_loopI (fun (i : Nat) => ⟨((.vec (flat raskc ns) ns.length x) :: .any :: (.bool false) :: (.int .i64 i) :: .any :: .any :: .any :: .any :: .any :: .any :: .any :: .any :: .any :: .any :: .any :: .any :: .any :: .any :: .any :: .any :: .any :: .any :: .any :: .any :: .any :: .any :: .any :: .any :: .any :: .any :: .any :: .any :: .any :: .any :: .any :: .any :: .any :: .any :: .any :: .any :: .any :: .any :: .any :: .any :: .any :: .any :: .any :: .any :: .any :: .any :: .any :: .any :: .any :: .any :: .any :: .any :: .any :: .any :: .any :: .any :: .any :: .any :: .any :: .any :: .any :: .any :: .any :: .any :: .any :: .any :: .any :: .any :: .any :: .any :: .any :: .any :: .any :: .any :: .any :: .any :: .any :: .any :: .any :: .any :: .any :: .any :: .any :: .any :: .any :: .any :: .any :: .any :: .any :: .any :: .any :: .any :: .any :: .any :: .any :: .any :: .any :: .any :: .any :: .any :: .any :: .any :: .any :: .any :: .any :: .any :: .any :: .any :: .any :: .any :: .any :: .any :: .any :: .any :: .any :: .any :: .any :: .any :: .any :: .any :: .any :: .any :: .any :: .any :: []), []⟩) (fun i => i ≤ ns.length ∧ i ≤ 10) (fun i => 10 - i) 0 (by omega) (wkt []) ?_
  rintro i ⟨hi, hi8⟩ K hK
  by_cases h1 : i < ns.length
  · by_cases h2 : i < 10
    · have o := hok ns[i] (List.getElem_mem h1)
      have hv := heavy12_c ns[i] o
      have hmo := mayof_c ns[i].l false ns[i].n ns[i].b ns[i].e o.ll o.l
      by_cases hh : txsW ns[i].l > 3000
      · rw [decide_eq_true hh] at hv
        refine wk ?_
        exact hK _ (i + 1) (by omega) (wkt []) (by omega)
      · rw [decide_eq_false hh] at hv
        clear hh
        cases hm : mayB ns[i].l ns[i].e with
        | false =>
          rw [hm] at hmo
          refine wk ?_
          exact hK _ (i + 1) (by omega) (wkt []) (by omega)
        | true =>
          rw [hm] at hmo
          obtain ⟨m1, m2, m3⟩ := mayB_true hm
          have ol := o.ll
          have hfl : (flat txc ns[i].l).length = ns[i].l.length * 21 := flat_length _
          have hbl := blobN_lt ns[i].e.toNat
          have hone : ∀ j (hj : j < ns[i].l.length), Pure Try.prog 10 [txV ns[i].l[j], hdV ns[i].n ns[i].b ns[i].e] (.tup [rkV (dAt ns[i].b (blobN ns[i].e.toNat) ns[i].l j) (tAt ns[i].l j), errV 0]) := by
            intro j hj
            have := one_c ns[i].l[j] ns[i].n ns[i].b ns[i].e (o.l _ (List.getElem_mem hj)) o.b o.e
            unfold oneV at this
            rw [if_pos ⟨m3, List.all_eq_true.1 m2 _ (List.getElem_mem hj)⟩, ← dAt_eq hj, ← tAt_eq hj] at this
            exact this
          have hof : ∀ k, 0 < k → k ≤ ns[i].l.length → Pure Try.prog 21 [.vec (flat txc (ns[i].l.take k)) k false, hdV ns[i].n ns[i].b ns[i].e] (.tup [rkV (minD (dAt ns[i].b (blobN ns[i].e.toNat) ns[i].l) k) (minT (tAt ns[i].l) k), errV 0]) := by
            intro k h0 hk
            have hl : (ns[i].l.take k).length = k := by rw [List.length_take]; omega
            have := of_rc (ns[i].l.take k) false ns[i].n ns[i].b ns[i].e (by omega) (fun t ht => o.l t (List.mem_of_mem_take ht)) o.b o.e
            rw [ofV_take h0 hk hm] at this
            unfold tsV at this
            rw [hl] at this
            exact this
          have htl : ∀ j, j < ns[i].l.length → tAt ns[i].l j < 115792089237316195423570985008687907853269984665640564039457584007913129639936 := fun j hj => by rw [tAt_eq hj]; exact (o.l _ (List.getElem_mem hj)).tip
          have hdl : ∀ j, j < ns[i].l.length → -2048 ≤ dAt ns[i].b (blobN ns[i].e.toNat) ns[i].l j ∧ dAt ns[i].b (blobN ns[i].e.toNat) ns[i].l j ≤ 0 := fun j hj => by rw [dAt_eq hj]; exact rkD_bd o.b hbl (o.l _ (List.getElem_mem hj))
          generalize dAt ns[i].b (blobN ns[i].e.toNat) ns[i].l = f at *
          generalize tAt ns[i].l = g at *
          refine wk ?_
          refine aw_loopI (fun (X : Nat × Int × Nat) => ⟨((.vec (flat raskc ns) ns.length x) :: .any :: (.bool false) :: (.int .i64 i) :: (.ptr 0 0) :: (.ptr 1 0) :: (.int .i64 X.1) :: .any :: .any :: .any :: .any :: .any :: .any :: .any :: .any :: .any :: .any :: .any :: .any :: .any :: .any :: .any :: .any :: .any :: .any :: .any :: .any :: .any :: .any :: .any :: .any :: .any :: .any :: .any :: .any :: .any :: .any :: .any :: .any :: .any :: .any :: .any :: .any :: .any :: .any :: .any :: .any :: .any :: .any :: .any :: .any :: .any :: .any :: .any :: .any :: .any :: .any :: .any :: .any :: .any :: .any :: .any :: .any :: .any :: .any :: .any :: .any :: .any :: .any :: .any :: .any :: .any :: .any :: .any :: .any :: .any :: .any :: .any :: .any :: .any :: .any :: .any :: .any :: .any :: .any :: .any :: .any :: .any :: .any :: .any :: .any :: .any :: .any :: .any :: .any :: .any :: .any :: .any :: .any :: .any :: .any :: .any :: .any :: .any :: .any :: .any :: .any :: .any :: .any :: .any :: .any :: .any :: .any :: .any :: .any :: .any :: .any :: .any :: .any :: .any :: .any :: .any :: .any :: .any :: .any :: .any :: .any :: .any :: []), [.live (raskc ns[i]), .live [.int .i64 X.2.1, .int .u64 (lb X.2.2 0), .int .u64 (lb X.2.2 1), .int .u64 (lb X.2.2 2), .int .u64 (lb X.2.2 3)]]⟩) (fun X => 1 ≤ X.1 ∧ X.1 ≤ ns[i].l.length + 1 ∧ X.1 ≤ 7 ∧ X.2.2 < 115792089237316195423570985008687907853269984665640564039457584007913129639936 ∧ (1 < X.1 → X.2.1 = minD f (X.1 - 1) ∧ X.2.2 = minT g (X.1 - 1))) (fun X => 7 - X.1) (1, 0, 0) ⟨by show 1 ≤ 1; omega, by show 1 ≤ _ + 1; omega, by show 1 ≤ 7; omega, by show 0 < _; omega, fun h => absurd h (by show ¬ 1 < 1; omega)⟩ (wkt [0, 1]) ?_
          rintro ⟨k, d, t⟩ ⟨hk1, hk, hk7, ht, hdt⟩ K2 hK2
          dsimp only at hk1 hk hk7 ht hdt
          dsimp only [raskc]
          by_cases h3 : k ≤ ns[i].l.length
          · by_cases h4 : k ≤ 6
            · have c1 := hof k hk1 h3
              obtain ⟨jd, jd1, jd2⟩ := minD_in f k hk1
              obtain ⟨jt, jt1, jt2⟩ := minT_in g k hk1
              have hDb := hdl jd (by omega)
              have hTb := htl jt (by omega)
              rw [← jd2] at hDb
              rw [← jt2] at hTb
              have hDle : ∀ j, j < k → minD f k ≤ f j := fun j hj => minD_le hj
              have hTle : ∀ j, j < k → minT g k ≤ g j := fun j hj => minT_le hj
              have hlast : 1 < k → minD f k ≤ d ∧ minT g k ≤ t := fun h => by
                obtain ⟨e1, e2⟩ := hdt h
                obtain ⟨k', rfl⟩ : ∃ k', k = k' + 1 := ⟨k - 1, by omega⟩
                rw [e1, e2]
                exact ⟨minD_anti f k', minT_anti g k'⟩
              have hnext : minD f k = minD f (k + 1 - 1) ∧ minT g k = minT g (k + 1 - 1) := ⟨rfl, rfl⟩
              generalize minD f k = D at *
              generalize minT g k = T at *
              have c2 := rkcheck_c D T
              rw [if_neg (by omega)] at c2
              have c3 := rkcmp_c D T d t hTb ht
              have c3b : 1 < k → rcmp D T d t ≤ 0 := fun h => rcmp_le.2 (by have := hlast h; omega)
              obtain ⟨X, hX⟩ : ∃ X, rcmp D T d t = X := ⟨_, rfl⟩
              rw [hX] at c3 c3b
              have hfs : List.take ((k - 0) * 21) (List.drop 0 (flat txc ns[i].l)) = flat txc (ns[i].l.take k) := by
                have := flat_sub (f := txc) ns[i].l 0 k
                rw [Nat.zero_mul, List.drop_zero] at this
                exact this
              rw [← hfs] at c1
              clear hof
              by_cases hk2 : 1 < k
              · have c3c := c3b hk2
                refine wk ?_
                refine aw_loopI (fun (Y : Nat × Bool × Bool) => ⟨((.vec (flat raskc ns) ns.length x) :: .any :: (.bool false) :: (.int .i64 i) :: (.ptr 0 0) :: (.ptr 1 0) :: (.int .i64 k) :: (.ptr 2 0) :: .any :: (.bool Y.2.1) :: (.bool Y.2.2) :: (.int .i64 Y.1) :: .any :: .any :: .any :: .any :: .any :: .any :: .any :: .any :: .any :: .any :: .any :: .any :: .any :: .any :: .any :: .any :: .any :: .any :: .any :: .any :: .any :: .any :: .any :: .any :: .any :: .any :: .any :: .any :: .any :: .any :: .any :: .any :: .any :: .any :: .any :: .any :: .any :: .any :: .any :: .any :: .any :: .any :: .any :: .any :: .any :: .any :: .any :: .any :: .any :: .any :: .any :: .any :: .any :: .any :: .any :: .any :: .any :: .any :: .any :: .any :: .any :: .any :: .any :: .any :: .any :: .any :: .any :: .any :: .any :: .any :: .any :: .any :: .any :: .any :: .any :: .any :: .any :: .any :: .any :: .any :: .any :: .any :: .any :: .any :: .any :: .any :: .any :: .any :: .any :: .any :: .any :: .any :: .any :: .any :: .any :: .any :: .any :: .any :: .any :: .any :: .any :: .any :: .any :: .any :: .any :: .any :: .any :: .any :: .any :: .any :: .any :: .any :: .any :: .any :: .any :: .any :: []), [.live (raskc ns[i]), .live [.int .i64 d, .int .u64 (lb t 0), .int .u64 (lb t 1), .int .u64 (lb t 2), .int .u64 (lb t 3)], .live [.int .i64 D, .int .u64 (lb T 0), .int .u64 (lb T 1), .int .u64 (lb T 2), .int .u64 (lb T 3)]]⟩) (fun Y => Y.1 ≤ k ∧ (Y.2.1 = true ∨ ∀ j, j < Y.1 → f j ≠ D) ∧ (Y.2.2 = true ∨ ∀ j, j < Y.1 → g j ≠ T)) (fun Y => k - Y.1) (0, false, false) ⟨by show 0 ≤ k; omega, .inr fun j hj => absurd hj (Nat.not_lt_zero _), .inr fun j hj => absurd hj (Nat.not_lt_zero _)⟩ (wkt [0, 1, 2]) ?_
                rintro ⟨j, bd, bt⟩ ⟨hj, hbd, hbt⟩ K3 hK3
                dsimp only at hj hbd hbt
                dsimp only [raskc]
                by_cases h5 : j < k
                · have hjl : j < ns[i].l.length := by omega
                  have e1 := hone j hjl
                  have e2 := rkcmp_c D T (f j) (g j) hTb (htl j hjl)
                  have e3 : rcmp D T (f j) (g j) ≤ 0 := rcmp_le.2 (by have := hDle j h5; have := hTle j h5; omega)
                  obtain ⟨Z, hZ⟩ : ∃ Z, rcmp D T (f j) (g j) = Z := ⟨_, rfl⟩
                  rw [hZ] at e2 e3
                  refine wk ?_
                  cases bd with
                  | true =>
                    cases bt with
                    | true =>
                      refine wk ?_
                      exact hK3 _ (j + 1, true, true) ⟨by show j + 1 ≤ k; omega, .inl rfl, .inl rfl⟩ (wkt [0, 1, 2]) (by show k - (j + 1) < k - j; omega)
                    | false =>
                      refine wk ?_
                      exact hK3 _ (j + 1, true, eqB (g j) T) ⟨by show j + 1 ≤ k; omega, .inl rfl, flag_step hbt (fun h => by cases h) (fun h => by rw [h]; exact eqB_self _)⟩ (wkt [0, 1, 2]) (by show k - (j + 1) < k - j; omega)
                  | false =>
                    cases bt with
                    | true =>
                      refine wk ?_
                      exact hK3 _ (j + 1, f j == D, true) ⟨by show j + 1 ≤ k; omega, flag_step hbd (fun h => by cases h) (fun h => by rw [h]; exact beq_self_eq_true _), .inl rfl⟩ (wkt [0, 1, 2]) (by show k - (j + 1) < k - j; omega)
                    | false =>
                      refine wk ?_
                      exact hK3 _ (j + 1, f j == D, eqB (g j) T) ⟨by show j + 1 ≤ k; omega, flag_step hbd (fun h => by cases h) (fun h => by rw [h]; exact beq_self_eq_true _), flag_step hbt (fun h => by cases h) (fun h => by rw [h]; exact eqB_self _)⟩ (wkt [0, 1, 2]) (by show k - (j + 1) < k - j; omega)
                · obtain rfl : j = k := by omega
                  obtain rfl : bd = true := hbd.resolve_right fun h => h jd jd1 jd2.symm
                  obtain rfl : bt = true := hbt.resolve_right fun h => h jt jt1 jt2.symm
                  refine wk ?_
                  exact hK2 _ (j + 1, D, T) ⟨by show 1 ≤ j + 1; omega, by show j + 1 ≤ _ + 1; omega, by show j + 1 ≤ 7; omega, hTb, fun _ => hnext⟩ (wkt [0, 1]) (by show 7 - (j + 1) < 7 - j; omega)
              · refine wk ?_
                refine aw_loopI (fun (Y : Nat × Bool × Bool) => ⟨((.vec (flat raskc ns) ns.length x) :: .any :: (.bool false) :: (.int .i64 i) :: (.ptr 0 0) :: (.ptr 1 0) :: (.int .i64 k) :: (.ptr 2 0) :: .any :: (.bool Y.2.1) :: (.bool Y.2.2) :: (.int .i64 Y.1) :: .any :: .any :: .any :: .any :: .any :: .any :: .any :: .any :: .any :: .any :: .any :: .any :: .any :: .any :: .any :: .any :: .any :: .any :: .any :: .any :: .any :: .any :: .any :: .any :: .any :: .any :: .any :: .any :: .any :: .any :: .any :: .any :: .any :: .any :: .any :: .any :: .any :: .any :: .any :: .any :: .any :: .any :: .any :: .any :: .any :: .any :: .any :: .any :: .any :: .any :: .any :: .any :: .any :: .any :: .any :: .any :: .any :: .any :: .any :: .any :: .any :: .any :: .any :: .any :: .any :: .any :: .any :: .any :: .any :: .any :: .any :: .any :: .any :: .any :: .any :: .any :: .any :: .any :: .any :: .any :: .any :: .any :: .any :: .any :: .any :: .any :: .any :: .any :: .any :: .any :: .any :: .any :: .any :: .any :: .any :: .any :: .any :: .any :: .any :: .any :: .any :: .any :: .any :: .any :: .any :: .any :: .any :: .any :: .any :: .any :: .any :: .any :: .any :: .any :: .any :: .any :: []), [.live (raskc ns[i]), .live [.int .i64 d, .int .u64 (lb t 0), .int .u64 (lb t 1), .int .u64 (lb t 2), .int .u64 (lb t 3)], .live [.int .i64 D, .int .u64 (lb T 0), .int .u64 (lb T 1), .int .u64 (lb T 2), .int .u64 (lb T 3)]]⟩) (fun Y => Y.1 ≤ k ∧ (Y.2.1 = true ∨ ∀ j, j < Y.1 → f j ≠ D) ∧ (Y.2.2 = true ∨ ∀ j, j < Y.1 → g j ≠ T)) (fun Y => k - Y.1) (0, false, false) ⟨by show 0 ≤ k; omega, .inr fun j hj => absurd hj (Nat.not_lt_zero _), .inr fun j hj => absurd hj (Nat.not_lt_zero _)⟩ (wkt [0, 1, 2]) ?_
                rintro ⟨j, bd, bt⟩ ⟨hj, hbd, hbt⟩ K3 hK3
                dsimp only at hj hbd hbt
                dsimp only [raskc]
                by_cases h5 : j < k
                · have hjl : j < ns[i].l.length := by omega
                  have e1 := hone j hjl
                  have e2 := rkcmp_c D T (f j) (g j) hTb (htl j hjl)
                  have e3 : rcmp D T (f j) (g j) ≤ 0 := rcmp_le.2 (by have := hDle j h5; have := hTle j h5; omega)
                  obtain ⟨Z, hZ⟩ : ∃ Z, rcmp D T (f j) (g j) = Z := ⟨_, rfl⟩
                  rw [hZ] at e2 e3
                  refine wk ?_
                  cases bd with
                  | true =>
                    cases bt with
                    | true =>
                      refine wk ?_
                      exact hK3 _ (j + 1, true, true) ⟨by show j + 1 ≤ k; omega, .inl rfl, .inl rfl⟩ (wkt [0, 1, 2]) (by show k - (j + 1) < k - j; omega)
                    | false =>
                      refine wk ?_
                      exact hK3 _ (j + 1, true, eqB (g j) T) ⟨by show j + 1 ≤ k; omega, .inl rfl, flag_step hbt (fun h => by cases h) (fun h => by rw [h]; exact eqB_self _)⟩ (wkt [0, 1, 2]) (by show k - (j + 1) < k - j; omega)
                  | false =>
                    cases bt with
                    | true =>
                      refine wk ?_
                      exact hK3 _ (j + 1, f j == D, true) ⟨by show j + 1 ≤ k; omega, flag_step hbd (fun h => by cases h) (fun h => by rw [h]; exact beq_self_eq_true _), .inl rfl⟩ (wkt [0, 1, 2]) (by show k - (j + 1) < k - j; omega)
                    | false =>
                      refine wk ?_
                      exact hK3 _ (j + 1, f j == D, eqB (g j) T) ⟨by show j + 1 ≤ k; omega, flag_step hbd (fun h => by cases h) (fun h => by rw [h]; exact beq_self_eq_true _), flag_step hbt (fun h => by cases h) (fun h => by rw [h]; exact eqB_self _)⟩ (wkt [0, 1, 2]) (by show k - (j + 1) < k - j; omega)
                · obtain rfl : j = k := by omega
                  obtain rfl : bd = true := hbd.resolve_right fun h => h jd jd1 jd2.symm
                  obtain rfl : bt = true := hbt.resolve_right fun h => h jt jt1 jt2.symm
                  refine wk ?_
                  exact hK2 _ (j + 1, D, T) ⟨by show 1 ≤ j + 1; omega, by show j + 1 ≤ _ + 1; omega, by show j + 1 ≤ 7; omega, hTb, fun _ => hnext⟩ (wkt [0, 1]) (by show 7 - (j + 1) < 7 - j; omega)
            · refine wk ?_
              exact hK _ (i + 1) (by omega) (wkt []) (by omega)
          · refine wk ?_
            exact hK _ (i + 1) (by omega) (wkt []) (by omega)
    · refine wk ?_
      refine fin ?_
      rfl
  · refine wk ?_
    refine fin ?_
    rfl
end Go.Abs
