/- A transaction's ID, what it costs, its slot; all slots together: the walks. -/
import Derived.Test.YtemlnaipcdajeaaGreatM19
import Derived.Test.YtemlnaipcdajeaaGreatM10
set_option linter.unusedVariables false
set_option linter.unusedSimpArgs false
namespace Go.Abs
open Go Go.Proofs

theorem slotN_le (n : Nat) : slotN n ≤ 1024 := by unfold slotN; split <;> (try split) <;> (try split) <;> omega
/-- All slots together. -/
def slotsN (l : List Tx) : Nat := (l.map roomN).sum
theorem slotsN_take {l : List Tx} {i : Nat} (h : i < l.length) : slotsN (l.take (i + 1)) = slotsN (l.take i) + roomN l[i] := by
  unfold slotsN
  rw [List.take_succ_eq_append_getElem h, List.map_append, List.sum_append]; simp
theorem slotsN_le : ∀ l : List Tx, slotsN l ≤ 1024 * l.length
  | [] => Nat.le_refl _
  | t :: l => by
    have h1 := slotsN_le l
    have h2 : roomN t ≤ 1024 := slotN_le _
    unfold slotsN at *
    rw [List.map_cons, List.sum_cons, List.length_cons]; omega
def shelfN (n : Nat) : Nat := if n ≤ 112 then 0 else if n ≤ 240 then 1 else if n ≤ 496 then 2 else 3
set_option maxHeartbeats 20000000 in
theorem txbytes_bad (t : Tx) (o : t.ok) (h : txOk t = false) : Pure Tryz.prog 120 [txV t] (.tup [.str ByteArray.empty, errV 1]) := by
  refine pure_ac ?_ (cleans_cons (clean_txV t) cleans_nil) (clean_tup (cleans_cons (.str _) (cleans_cons (.int _ _) cleans_nil)))
  have cc := check_c t o
  rw [if_neg (by rw [h]; simp)] at cc
  (refine enter Tryz.func120 Tryz.results120 Tryz.ntmps120 ty_ok (hw := fun F hF => ?_); simp only [List.length_cons, List.length_nil, Nat.reduceAdd, Nat.reduceSub, List.replicate_succ, List.replicate_zero, List.cons_append, List.nil_append]; apply hF; clear hF F)
  refine wk ?_
  refine fin ?_
  rfl
set_option maxHeartbeats 20000000 in
theorem txid_c (t : Tx) (o : t.ok) (h : txOk t = true) : Pure Tryz.prog 76 [txV t] (.tup [.int .u64 (idN t : Nat), errV 0]) := by
  refine pure_ac ?_ (cleans_cons (clean_txV t) cleans_nil) (clean_tup (cleans_cons (.int _ _) (cleans_cons (.int _ _) cleans_nil)))
  have cc := txbytes_c t o h
  have cm := mark_c (bytesB t) (by have := bytesB_le o h; omega)
  unfold idN
  (refine enter Tryz.func76 Tryz.results76 Tryz.ntmps76 ty_ok (hw := fun F hF => ?_); simp only [List.length_cons, List.length_nil, Nat.reduceAdd, Nat.reduceSub, List.replicate_succ, List.replicate_zero, List.cons_append, List.nil_append]; apply hF; clear hF F)
  refine wk ?_
  refine fin ?_
  rfl
set_option maxHeartbeats 20000000 in
theorem txid_bad (t : Tx) (o : t.ok) (h : txOk t = false) : Pure Tryz.prog 76 [txV t] (.tup [.int .u64 0, errV 1]) := by
  refine pure_ac ?_ (cleans_cons (clean_txV t) cleans_nil) (clean_tup (cleans_cons (.int _ _) (cleans_cons (.int _ _) cleans_nil)))
  have cc := txbytes_bad t o h
  (refine enter Tryz.func76 Tryz.results76 Tryz.ntmps76 ty_ok (hw := fun F hF => ?_); simp only [List.length_cons, List.length_nil, Nat.reduceAdd, Nat.reduceSub, List.replicate_succ, List.replicate_zero, List.cons_append, List.nil_append]; apply hF; clear hF F)
  refine wk ?_
  refine fin ?_
  rfl
set_option maxRecDepth 20000 in
set_option maxHeartbeats 20000000 in
theorem txcost_c (t : Tx) (o : t.ok) (h : txOk t = true) : Pure Tryz.prog 130 [txV t] (ue (costN t) 0) := by
  refine pure_ac ?_ (cleans_cons (clean_txV t) cleans_nil) (clean_ue _ _)
  have cc := check_c t o
  rw [if_pos h] at cc
  have hk := of_decide_eq_true h
  obtain ⟨f1, f2, f3⟩ := fits_zero hk.2.2.2.2.2.2.2.1
  have c2 := cost_c t o ⟨hk.2.2.2.2.1, hk.2.2.2.2.2.1⟩ f1 f2
  unfold costV at c2
  rw [if_pos hk.2.2.2.2.2.2.2.2] at c2
  clear hk f1 f2 f3
  generalize costN t = C at *
  (refine enter Tryz.func130 Tryz.results130 Tryz.ntmps130 ty_ok (hw := fun F hF => ?_); simp only [List.length_cons, List.length_nil, Nat.reduceAdd, Nat.reduceSub, List.replicate_succ, List.replicate_zero, List.cons_append, List.nil_append]; apply hF; clear hF F)
  refine wk ?_
  refine fin ?_
  rfl
set_option maxHeartbeats 20000000 in
theorem txcost_bad (t : Tx) (o : t.ok) (h : txOk t = false) : Pure Tryz.prog 130 [txV t] (ue 0 1) := by
  refine pure_ac ?_ (cleans_cons (clean_txV t) cleans_nil) (clean_ue _ _)
  have cc := check_c t o
  rw [if_neg (by rw [h]; simp)] at cc
  (refine enter Tryz.func130 Tryz.results130 Tryz.ntmps130 ty_ok (hw := fun F hF => ?_); simp only [List.length_cons, List.length_nil, Nat.reduceAdd, Nat.reduceSub, List.replicate_succ, List.replicate_zero, List.cons_append, List.nil_append]; apply hF; clear hF F)
  refine wk ?_
  refine fin ?_
  rfl
set_option maxHeartbeats 20000000 in
theorem slot3_c : Pure Tryz.prog 144 [.int .i64 3] (.tup [.int .i64 1024, errV 0]) := by
  refine pure_ac ?_ (cleans_cons (.int _ _) cleans_nil) (clean_tup (cleans_cons (.int _ _) (cleans_cons (.int _ _) cleans_nil)))
  (refine enter Tryz.func144 Tryz.results144 Tryz.ntmps144 ty_ok (hw := fun F hF => ?_); simp only [List.length_cons, List.length_nil, Nat.reduceAdd, Nat.reduceSub, List.replicate_succ, List.replicate_zero, List.cons_append, List.nil_append]; apply hF; clear hF F)
  refine wk ?_
  refine fin ?_
  rfl
set_option maxHeartbeats 20000000 in
theorem roomy_c (n : Int) : Pure Tryz.prog 108 [.int .i64 n] (.bool (decide (1024 ≤ n ∧ n ≤ 1048576))) := by
  refine pure_ac ?_ (cleans_cons (.int _ _) cleans_nil) (.bool _)
  have c := slot3_c
  by_cases h1 : 1024 ≤ n
  · rw [show decide (1024 ≤ n ∧ n ≤ 1048576) = decide (n ≤ 1048576) from decide_eq_decide.2 ⟨fun h => h.2, fun h => ⟨h1, h⟩⟩]
    (refine enter Tryz.func108 Tryz.results108 Tryz.ntmps108 ty_ok (hw := fun F hF => ?_); simp only [List.length_cons, List.length_nil, Nat.reduceAdd, Nat.reduceSub, List.replicate_succ, List.replicate_zero, List.cons_append, List.nil_append]; apply hF; clear hF F)
    refine wk ?_
    refine fin ?_
    rfl
  · rw [decide_eq_false (fun h => h1 h.1)]
    (refine enter Tryz.func108 Tryz.results108 Tryz.ntmps108 ty_ok (hw := fun F hF => ?_); simp only [List.length_cons, List.length_nil, Nat.reduceAdd, Nat.reduceSub, List.replicate_succ, List.replicate_zero, List.cons_append, List.nil_append]; apply hF; clear hF F)
    refine wk ?_
    refine fin ?_
    rfl
set_option maxHeartbeats 20000000 in
theorem shelf_c (n : Nat) (hn : n ≤ 1008) : Pure Tryz.prog 168 [.int .i64 n] (.tup [.int .i64 (shelfN n : Nat), errV 0]) := by
  refine pure_ac ?_ (cleans_cons (.int _ _) cleans_nil) (clean_tup (cleans_cons (.int _ _) (cleans_cons (.int _ _) cleans_nil)))
  unfold shelfN
  by_cases h1 : n ≤ 112
  · rw [if_pos h1]
    (refine enter Tryz.func168 Tryz.results168 Tryz.ntmps168 ty_ok (hw := fun F hF => ?_); simp only [List.length_cons, List.length_nil, Nat.reduceAdd, Nat.reduceSub, List.replicate_succ, List.replicate_zero, List.cons_append, List.nil_append]; apply hF; clear hF F)
    refine wk ?_
    refine aw_rounds 1 ?_
    refine wk ?_
    refine fin ?_
    rfl
  · rw [if_neg h1]
    by_cases h2 : n ≤ 240
    · rw [if_pos h2]
      (refine enter Tryz.func168 Tryz.results168 Tryz.ntmps168 ty_ok (hw := fun F hF => ?_); simp only [List.length_cons, List.length_nil, Nat.reduceAdd, Nat.reduceSub, List.replicate_succ, List.replicate_zero, List.cons_append, List.nil_append]; apply hF; clear hF F)
      refine wk ?_
      refine aw_rounds 2 ?_
      refine wk ?_
      refine fin ?_
      rfl
    · rw [if_neg h2]
      by_cases h3 : n ≤ 496
      · rw [if_pos h3]
        (refine enter Tryz.func168 Tryz.results168 Tryz.ntmps168 ty_ok (hw := fun F hF => ?_); simp only [List.length_cons, List.length_nil, Nat.reduceAdd, Nat.reduceSub, List.replicate_succ, List.replicate_zero, List.cons_append, List.nil_append]; apply hF; clear hF F)
        refine wk ?_
        refine aw_rounds 3 ?_
        refine wk ?_
        refine fin ?_
        rfl
      · rw [if_neg h3]
        (refine enter Tryz.func168 Tryz.results168 Tryz.ntmps168 ty_ok (hw := fun F hF => ?_); simp only [List.length_cons, List.length_nil, Nat.reduceAdd, Nat.reduceSub, List.replicate_succ, List.replicate_zero, List.cons_append, List.nil_append]; apply hF; clear hF F)
        refine wk ?_
        refine aw_rounds 4 ?_
        refine wk ?_
        refine fin ?_
        rfl
set_option maxHeartbeats 20000000 in
theorem sizeof_c (t : Tx) (o : t.ok) (h : txOk t = true) : Pure Tryz.prog 133 [txV t] (.tup [.int .i64 (bytesB t).size, .int .i64 (shelfN (bytesB t).size : Nat), .int .i64 (roomN t : Nat), errV 0]) := by
  refine pure_ac ?_ (cleans_cons (clean_txV t) cleans_nil) (clean_tup (cleans_cons (.int _ _) (cleans_cons (.int _ _) (cleans_cons (.int _ _) (cleans_cons (.int _ _) cleans_nil)))))
  have cc := txbytes_c t o h
  have hb := bytesB_le o h
  have c2 := shelf_c (bytesB t).size (by omega)
  have hr : (shelfN (bytesB t).size = 0 ∧ roomN t = 128) ∨ (shelfN (bytesB t).size = 1 ∧ roomN t = 256) ∨ (shelfN (bytesB t).size = 2 ∧ roomN t = 512) ∨ (shelfN (bytesB t).size = 3 ∧ roomN t = 1024) := by
    unfold shelfN roomN slotN; split <;> (try split) <;> (try split) <;> simp
  rcases hr with ⟨h1, h2⟩ | ⟨h1, h2⟩ | ⟨h1, h2⟩ | ⟨h1, h2⟩
  all_goals
    rw [h1] at c2 ⊢
    rw [h2]
    (refine enter Tryz.func133 Tryz.results133 Tryz.ntmps133 ty_ok (hw := fun F hF => ?_); simp only [List.length_cons, List.length_nil, Nat.reduceAdd, Nat.reduceSub, List.replicate_succ, List.replicate_zero, List.cons_append, List.nil_append]; apply hF; clear hF F)
    refine wk ?_
    refine fin ?_
    rfl
set_option maxHeartbeats 20000000 in
theorem slots_c (l : List Tx) (x : Bool) (hl : l.length < 1000000) (o : ∀ t ∈ l, t.ok) (h : ∀ t ∈ l, txOk t = true) : Pure Tryz.prog 94 [tsV l x] (.int .i64 (slotsN l : Nat)) := by
  refine pure_ac ?_ (cleans_cons (clean_tsV l x) cleans_nil) (.int _ _)
  (refine enter Tryz.func94 Tryz.results94 Tryz.ntmps94 ty_ok (hw := fun F hF => ?_); simp only [List.length_cons, List.length_nil, Nat.reduceAdd, Nat.reduceSub, List.replicate_succ, List.replicate_zero, List.cons_append, List.nil_append]; apply hF; clear hF F)
  refine wk ?_
  refine aw_loopI (fun (i : Nat) => ⟨((tsV l x) :: .any :: .any :: (.int .i64 (slotsN (l.take i) : Nat)) :: .any :: .any :: .any :: .any :: .any :: .any :: (tsV l x) :: (.int .i64 l.length) :: (.int .i64 i) :: .any :: .any :: .any :: .any :: .any :: .any :: .any :: .any :: .any :: .any :: .any :: .any :: .any :: .any :: .any :: []), []⟩) (fun i => i ≤ l.length) (fun i => l.length - i) 0 (by omega) (wkt []) ?_
  intro i hi K hK
  by_cases h1 : i < l.length
  · have c1 := sizeof_c l[i] (o _ (List.getElem_mem h1)) (h _ (List.getElem_mem h1))
    have hone : ∀ v ∈ txc l[i], v.one = true := Rows.one (f := txc) l[i]
    have e1 := slotsN_take h1
    have e2 := slotsN_le (l.take i)
    have e3 : (l.take i).length ≤ l.length := by rw [List.length_take]; omega
    have e4 : roomN l[i] ≤ 1024 := slotN_le _
    refine wk ?_
    refine hK _ (i + 1) (by omega) ?_ (by omega)
    rw [e1]
    exact wkt []
  · obtain rfl : i = l.length := by omega
    rw [List.take_length]
    refine wk ?_
    refine fin ?_
    rfl
end Go.Abs
/- What a chain may cost together: the walk. -/
namespace Go.Abs
open Go Go.Proofs

/-- Is the one at a place of a row as a chain's? -/
def stepB (l : List Tx) (j : Nat) : Bool := txOk (l.getD j default) && (decide (j = 0) || (decide ((l.getD j default).fr = (l.getD 0 default).fr) && decide ((l.getD j default).no = (l.getD (j - 1) default).no + 1))) && decide (spentN (l.take (j + 1)) < 115792089237316195423570985008687907853269984665640564039457584007913129639936)
def chainB (l : List Tx) : Bool := decide (l.length ≤ 6) && (List.range l.length).all (stepB l)
theorem chainB_true {l : List Tx} : chainB l = true ↔ l.length ≤ 6 ∧ ∀ j, j < l.length → stepB l j = true := by
  unfold chainB
  rw [Bool.and_eq_true, decide_eq_true_iff, List.all_eq_true]
  simp only [List.mem_range]
theorem chainB_no {l : List Tx} {j : Nat} (h : j < l.length) (h2 : stepB l j = false) : chainB l = false := by
  cases e : chainB l with
  | false => rfl
  | true => have := (chainB_true.1 e).2 j h; rw [h2] at this; cases this
theorem getD_cons1 {α : Type} (a : α) (l : List α) (j : Nat) (d : α) : (a :: l).getD (j + 1) d = l.getD j d := by simp
theorem getD_at {α : Type} {l : List α} {j : Nat} (h : j < l.length) (d : α) : l.getD j d = l[j] := by simp [List.getD_eq_getElem?_getD, h]
theorem next_iff {f : Int} : ∀ {l : List Tx}, NextT f l ↔ (∀ j, j < l.length → (l.getD j default).fr = f) ∧ ∀ j, j + 1 < l.length → (l.getD (j + 1) default).no = (l.getD j default).no + 1
  | [] => by simp [NextT]
  | [a] => by
    constructor
    · intro h
      refine ⟨fun j hj => ?_, fun j hj => by simp at hj⟩
      obtain rfl : j = 0 := by simp at hj; omega
      exact h
    · exact fun h => h.1 0 (by simp)
  | a :: b :: l => by
    unfold NextT
    rw [next_iff (l := b :: l)]
    constructor
    · rintro ⟨h1, h2, h3, h4⟩
      refine ⟨fun j hj => ?_, fun j hj => ?_⟩
      · cases j with
        | zero => exact h1
        | succ j => rw [getD_cons1]; exact h3 j (by simp at hj ⊢; omega)
      · cases j with
        | zero => exact h2
        | succ j => rw [getD_cons1, getD_cons1]; exact h4 j (by simp at hj ⊢; omega)
    · rintro ⟨h1, h2⟩
      refine ⟨h1 0 (by simp), h2 0 (by simp), fun j hj => ?_, fun j hj => ?_⟩
      · have := h1 (j + 1) (by simp at hj ⊢; omega); rwa [getD_cons1] at this
      · have := h2 (j + 1) (by simp at hj ⊢; omega); rwa [getD_cons1, getD_cons1] at this
theorem spentN_take {l : List Tx} {i : Nat} (h : i < l.length) : spentN (l.take (i + 1)) = spentN (l.take i) + costN l[i] := by
  unfold spentN
  rw [List.take_succ_eq_append_getElem h, List.map_append, List.sum_append]; simp
theorem spentN_append (a b : List Tx) : spentN (a ++ b) = spentN a + spentN b := by unfold spentN; rw [List.map_append, List.sum_append]
theorem spentN_le (l : List Tx) (i : Nat) : spentN (l.take i) ≤ spentN l := by
  have := spentN_append (l.take i) (l.drop i)
  rw [List.take_append_drop] at this; omega
theorem headD_getD (l : List Tx) : l.headD default = l.getD 0 default := by cases l <;> rfl
/-- **A chain, told one by one.** -/
theorem chainB_iff (l : List Tx) : chainB l = true ↔ ChainP l := by
  rw [chainB_true]
  unfold ChainP
  rw [next_iff]
  have hst : ∀ j, stepB l j = true ↔ txOk (l.getD j default) = true ∧ (j = 0 ∨ (l.getD j default).fr = (l.getD 0 default).fr ∧ (l.getD j default).no = (l.getD (j - 1) default).no + 1) ∧ spentN (l.take (j + 1)) < 115792089237316195423570985008687907853269984665640564039457584007913129639936 := by
    intro j
    unfold stepB
    rw [Bool.and_eq_true, Bool.and_eq_true, Bool.or_eq_true, Bool.and_eq_true]
    simp only [decide_eq_true_iff, and_assoc]
  refine and_congr_right fun h6 => ?_
  simp only [hst]
  constructor
  · intro h
    refine ⟨fun t ht => ?_, ⟨fun j hj => ?_, fun j hj => ?_⟩, ?_⟩
    · obtain ⟨j, hj, rfl⟩ := List.getElem_of_mem ht
      have := (h j hj).1
      rwa [getD_at hj] at this
    · rw [headD_getD]
      rcases (h j hj).2.1 with rfl | ⟨h1, _⟩
      · rfl
      · exact h1
    · rcases (h (j + 1) hj).2.1 with h0 | ⟨_, h2⟩
      · omega
      · exact h2
    · rcases Nat.eq_zero_or_pos l.length with h0 | h0
      · rw [List.length_eq_zero_iff.1 h0]; show (0 : Nat) < _; omega
      · have := (h (l.length - 1) (by omega)).2.2
        rwa [show l.length - 1 + 1 = l.length from by omega, List.take_length] at this
  · rintro ⟨h1, ⟨h2, h3⟩, h4⟩ j hj
    refine ⟨?_, ?_, Nat.lt_of_le_of_lt (spentN_le l _) h4⟩
    · rw [getD_at hj]; exact h1 _ (List.getElem_mem hj)
    · cases j with
      | zero => exact .inl rfl
      | succ j => exact .inr ⟨by rw [h2 _ hj, ← h2 0 (by omega)], h3 j hj⟩
theorem stepB_0 {l : List Tx} (h : 0 < l.length) : stepB l 0 = (txOk l[0] && decide (spentN (l.take (0 + 1)) < 115792089237316195423570985008687907853269984665640564039457584007913129639936)) := by
  unfold stepB; rw [getD_at h]; simp
theorem stepB_s {l : List Tx} {k : Nat} (h : k + 1 < l.length) : stepB l (k + 1) = (txOk l[k + 1] && (decide (l[k + 1].fr = l[0].fr) && decide (l[k + 1].no = l[k].no + 1)) && decide (spentN (l.take (k + 1 + 1)) < 115792089237316195423570985008687907853269984665640564039457584007913129639936)) := by
  unfold stepB
  rw [getD_at h, getD_at (show 0 < l.length by omega), Nat.add_sub_cancel, getD_at (show k < l.length by omega)]
  simp
set_option maxRecDepth 20000 in
set_option maxHeartbeats 20000000 in
theorem spent_c (l : List Tx) (x : Bool) (hl : l.length < 9223372036854775808) (o : ∀ t ∈ l, t.ok) : Pure Tryz.prog 163 [tsV l x] (if chainB l = true then ub (spentN l) true else ub 0 false) := by
  refine pure_ac ?_ (cleans_cons (clean_tsV l x) cleans_nil) (by split <;> exact clean_ub _ _)
  by_cases h6 : l.length ≤ 6
  · (refine enter Tryz.func163 Tryz.results163 Tryz.ntmps163 ty_ok (hw := fun F hF => ?_); simp only [List.length_cons, List.length_nil, Nat.reduceAdd, Nat.reduceSub, List.replicate_succ, List.replicate_zero, List.cons_append, List.nil_append]; apply hF; clear hF F)
    refine wk ?_
    refine aw_loopI (fun (i : Nat) => ⟨((tsV l x) :: .any :: (.ptr 0 0) :: (.bool false) :: .any :: .any :: .any :: .any :: .any :: .any :: .any :: .any :: (tsV l x) :: (.int .i64 l.length) :: (.int .i64 i) :: .any :: .any :: .any :: .any :: .any :: .any :: .any :: .any :: .any :: .any :: .any :: .any :: .any :: .any :: .any :: .any :: .any :: .any :: .any :: .any :: .any :: .any :: .any :: .any :: .any :: .any :: .any :: .any :: .any :: .any :: .any :: .any :: .any :: .any :: .any :: .any :: .any :: .any :: .any :: .any :: .any :: .any :: .any :: .any :: .any :: .any :: .any :: .any :: []), [.live (uvc (spentN (l.take i)))]⟩) (fun i => i ≤ l.length ∧ ∀ j, j < i → stepB l j = true) (fun i => l.length - i) 0 ⟨by omega, fun j hj => absurd hj (Nat.not_lt_zero j)⟩ (wkt [0]) ?_
    rintro i ⟨hi, hst⟩ K hK
    by_cases h1 : i < l.length
    · have hone : ∀ v ∈ txc l[i], v.one = true := Rows.one (f := txc) l[i]
      have e1 := spentN_take h1
      have hnext : stepB l i = true → ∀ j, j < i + 1 → stepB l j = true := fun h j hj => by
        rcases Nat.lt_succ_iff_lt_or_eq.1 hj with h2 | rfl
        · exact hst j h2
        · exact h
      have hsum : spentN (l.take i) < 115792089237316195423570985008687907853269984665640564039457584007913129639936 := by
        rcases Nat.eq_zero_or_pos i with rfl | h0
        · show (0 : Nat) < _; omega
        · have := hst (i - 1) (by omega)
          unfold stepB at this
          rw [Bool.and_eq_true, decide_eq_true_iff, show i - 1 + 1 = i from by omega] at this
          exact this.2
      have hoi := o l[i] (List.getElem_mem h1)
      cases ht : txOk l[i] with
      | false =>
        have c1 := txcost_bad l[i] hoi ht
        have hn : stepB l i = false := by
          cases i with
          | zero => rw [stepB_0 h1, ht]; rfl
          | succ k => rw [stepB_s h1, ht]; rfl
        rw [if_neg (by rw [chainB_no h1 hn]; simp)]
        clear hst hnext o
        refine wk ?_
        refine fin ?_
        rfl
      | true =>
        have c1 := txcost_c l[i] hoi ht
        have hk := of_decide_eq_true ht
        have hcl : costN l[i] < 115792089237316195423570985008687907853269984665640564039457584007913129639936 := hk.2.2.2.2.2.2.2.2
        have c2 := add_c (spentN (l.take i)) (costN l[i]) hsum hcl
        unfold sumV at c2
        clear hk
        rw [← e1] at c2
        cases i with
        | zero =>
          have ht0 : List.take 21 (flat txc l) = txc l[0] := by
            have := flat_take (f := txc) l 0 h1
            rw [Nat.zero_mul, List.drop_zero] at this
            exact this
          by_cases hs : spentN (l.take (0 + 1)) < 115792089237316195423570985008687907853269984665640564039457584007913129639936
          · rw [if_pos hs] at c2
            have hq := hnext (by rw [stepB_0 h1, ht, decide_eq_true hs]; rfl)
            clear hst hnext o hsum hcl e1
            refine wk ?_
            (refine aseq_fx (fun F hF => ?_); simp only [ht0]; apply hF; clear hF F)
            refine wk ?_
            exact hK _ (0 + 1) ⟨by omega, hq⟩ (wkt [0]) (by omega)
          · rw [if_neg hs] at c2
            rw [if_neg (by rw [chainB_no h1 (by rw [stepB_0 h1, ht, decide_eq_false hs]; rfl)]; simp)]
            clear hst hnext o hsum hcl e1
            refine wk ?_
            (refine aseq_fx (fun F hF => ?_); simp only [ht0]; apply hF; clear hF F)
            refine wk ?_
            refine fin ?_
            rfl
        | succ k =>
          have hkb : 0 ≤ (l[k + 1 - 1]'(by omega)).no ∧ (l[k + 1 - 1]'(by omega)).no ≤ 1099511627776 := by
            have h := hst k (by omega)
            unfold stepB at h
            rw [Bool.and_eq_true, Bool.and_eq_true, getD_at (show k < l.length by omega)] at h
            have h2 := of_decide_eq_true h.1.1
            exact ⟨h2.2.2.1, h2.2.2.2.1⟩
          by_cases hf : l[k + 1].fr = l[0].fr
          · by_cases hn : l[k + 1].no = (l[k + 1 - 1]'(by omega)).no + 1
            · by_cases hs : spentN (l.take (k + 1 + 1)) < 115792089237316195423570985008687907853269984665640564039457584007913129639936
              · rw [if_pos hs] at c2
                have hq := hnext (by rw [stepB_s h1, ht, decide_eq_true hs, decide_eq_true hf, show decide (l[k + 1].no = l[k].no + 1) = true from decide_eq_true hn]; rfl)
                clear hst hnext o hsum hcl e1
                refine wkn ?_
                exact hK _ (k + 1 + 1) ⟨by omega, hq⟩ (wkt [0]) (by omega)
              · rw [if_neg hs] at c2
                rw [if_neg (by rw [chainB_no h1 (by rw [stepB_s h1, ht, decide_eq_false hs, decide_eq_true hf, show decide (l[k + 1].no = l[k].no + 1) = true from decide_eq_true hn]; rfl)]; simp)]
                clear hst hnext o hsum hcl e1
                refine wkn ?_
                refine fin ?_
                rfl
            · rw [if_neg (by rw [chainB_no h1 (by rw [stepB_s h1, ht, show decide (l[k + 1].no = l[k].no + 1) = false from decide_eq_false hn, decide_eq_true hf]; rfl)]; simp)]
              clear hst hnext o hsum hcl e1
              refine wkn ?_
              refine fin ?_
              rfl
          · rw [if_neg (by rw [chainB_no h1 (by rw [stepB_s h1, ht, decide_eq_false hf]; rfl)]; simp)]
            clear hst hnext o hsum hcl e1
            refine wkn ?_
            refine fin ?_
            rfl
    · obtain rfl : i = l.length := by omega
      rw [List.take_length, if_pos (chainB_true.2 ⟨h6, hst⟩)]
      clear hst o
      refine wk ?_
      refine fin ?_
      rfl
  · rw [if_neg (fun h => h6 (chainB_true.1 h).1)]
    (refine enter Tryz.func163 Tryz.results163 Tryz.ntmps163 ty_ok (hw := fun F hF => ?_); simp only [List.length_cons, List.length_nil, Nat.reduceAdd, Nat.reduceSub, List.replicate_succ, List.replicate_zero, List.cons_append, List.nil_append]; apply hF; clear hF F)
    refine wk ?_
    refine fin ?_
    rfl
set_option maxRecDepth 20000 in
set_option maxHeartbeats 20000000 in
theorem Spent_c (l : List Tx) (x : Bool) (hl : l.length < 9223372036854775808) (o : ∀ t ∈ l, t.ok) : Pure Tryz.prog 149 [tsV l x] (if chainB l = true then ue (spentN l) 0 else ue 0 1) := by
  refine pure_ac ?_ (cleans_cons (clean_tsV l x) cleans_nil) (by split <;> exact clean_ue _ _)
  have c := spent_c l x hl o
  cases h : chainB l with
  | true =>
    rw [h, if_pos rfl] at c
    rw [if_pos rfl]
    (refine enter Tryz.func149 Tryz.results149 Tryz.ntmps149 ty_ok (hw := fun F hF => ?_); simp only [List.length_cons, List.length_nil, Nat.reduceAdd, Nat.reduceSub, List.replicate_succ, List.replicate_zero, List.cons_append, List.nil_append]; apply hF; clear hF F)
    refine wk ?_
    refine fin ?_
    rfl
  | false =>
    rw [h, if_neg (by simp)] at c
    rw [if_neg (by simp)]
    (refine enter Tryz.func149 Tryz.results149 Tryz.ntmps149 ty_ok (hw := fun F hF => ?_); simp only [List.length_cons, List.length_nil, Nat.reduceAdd, Nat.reduceSub, List.replicate_succ, List.replicate_zero, List.cons_append, List.nil_append]; apply hF; clear hF F)
    refine wk ?_
    refine fin ?_
    rfl
set_option maxHeartbeats 20000000 in
theorem chcheck_c (l : List Tx) (x : Bool) (hl : l.length < 9223372036854775808) (o : ∀ t ∈ l, t.ok) : Pure Tryz.prog 122 [tsV l x] (errV (if chainB l = true then 0 else 1)) := by
  refine pure_ac ?_ (cleans_cons (clean_tsV l x) cleans_nil) (.int _ _)
  have c := spent_c l x hl o
  cases h : chainB l with
  | true =>
    rw [h, if_pos rfl] at c
    (refine enter Tryz.func122 Tryz.results122 Tryz.ntmps122 ty_ok (hw := fun F hF => ?_); simp only [List.length_cons, List.length_nil, Nat.reduceAdd, Nat.reduceSub, List.replicate_succ, List.replicate_zero, List.cons_append, List.nil_append]; apply hF; clear hF F)
    refine wk ?_
    refine fin ?_
    rfl
  | false =>
    rw [h, if_neg (by simp)] at c
    (refine enter Tryz.func122 Tryz.results122 Tryz.ntmps122 ty_ok (hw := fun F hF => ?_); simp only [List.length_cons, List.length_nil, Nat.reduceAdd, Nat.reduceSub, List.replicate_succ, List.replicate_zero, List.cons_append, List.nil_append]; apply hF; clear hF F)
    refine wk ?_
    refine fin ?_
    rfl
end Go.Abs
