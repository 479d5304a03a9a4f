/- What a book may be, by the page: the walk. -/
import Derived.Test.YtemlnaipcdajeaaGreatM34
set_option linter.unusedVariables false
set_option linter.unusedSimpArgs false
namespace Go.Abs
open Go Go.Proofs

theorem inMarks_nil (n : Nat) : Pure Tryz.prog 87 [.nils, .int .u64 n] (.int .i64 (-1)) := by
  refine pure_ac ?_ (cleans_cons .nils (cleans_cons (.int _ _) cleans_nil)) (.int _ _)
  (refine enter Tryz.func87 Tryz.results87 Tryz.ntmps87 ty_ok (hw := fun F hF => ?_); simp only [List.length_cons, List.length_nil, Nat.reduceAdd, Nat.reduceSub, List.replicate_succ, List.replicate_zero, List.cons_append, List.nil_append]; apply hF; clear hF F)
  refine wk ?_
  refine aw_rounds 1 ?_
  refine wk ?_
  refine fin ?_
  rfl
theorem inMarks_d (l : List Nat) (n : Nat) (hl : l.length < 9223372036854775808) (H : List HB) (b : Nat) (hb : H[b]? = some (.live (flat hc l))) : CallD Tryz.prog 87 [.slc b 0 1 l.length l.length, .int .u64 n] H (.int .i64 (idxI n l)) H :=
  calld_read [b] 1 (args' := [hxV l false, .int .u64 n]) (by
    have e0 : frzAt H [b] b = some (flat hc l) := by unfold frzAt; rw [if_pos (by simp), hb]
    have e1 : ∀ l : List V, frzL H [b] 0 l = l := fun l => by
      induction l with
      | nil => simp [frzL]
      | cons a l ih => simp [frzL, frzV, ih]
    simp only [frzL, frzV, e0, List.drop_zero, e1]
    rw [List.take_of_length_le (by rw [flat_length]; exact Nat.le_refl _)]) (.int _ _) (cleans_cons (.vec _ _ _ (cleans_flat l)) (cleans_cons (.int _ _) cleans_nil)) (inMarks_c l false n hl)
set_option maxRecDepth 40000 in
set_option maxHeartbeats 80000000 in
theorem rwide_c (b : Book) (o : b.whole) : Pure Tryz.prog 37 [bookV b] (.bool (wideOk b)) := by
  refine pure_ac ?_ (cleans_cons (clean_bookV b) cleans_nil) (.bool _)
  have hone := one_bookc b
  have c1 := rhead_c b.n b.b b.e
  have c2 := raccts_c b.ac false o.took.took.acl
  have c3 := rtxs_c b.tx false o.took.took.txl o.took.took.tx
  have c4 := rlimbo_c b.li false o.took.took.lil o.took.took.li
  have o' := Left.mk o
  clear o
  cases e1 : headOk b.n b.e with
  | false =>
    rw [wide_no (fun h => by rw [e1] at h; exact absurd h.1 (by simp))]
    rw [e1] at c1
    clear c2 c3 c4
    (refine enter Tryz.func37 Tryz.results37 Tryz.ntmps37 ty_ok (hw := fun F hF => ?_); simp only [List.length_cons, List.length_nil, Nat.reduceAdd, Nat.reduceSub, List.replicate_succ, List.replicate_zero, List.cons_append, List.nil_append]; apply hF; clear hF F)
    refine wks ?_
    refine fin ?_
    rfl
  | true =>
  cases e2 : acctsOk b.ac with
  | false =>
    rw [wide_no (fun h => by rw [e2] at h; exact absurd h.2.1 (by simp))]
    rw [e1] at c1; rw [e2] at c2
    clear c3 c4
    (refine enter Tryz.func37 Tryz.results37 Tryz.ntmps37 ty_ok (hw := fun F hF => ?_); simp only [List.length_cons, List.length_nil, Nat.reduceAdd, Nat.reduceSub, List.replicate_succ, List.replicate_zero, List.cons_append, List.nil_append]; apply hF; clear hF F)
    refine wks ?_
    refine fin ?_
    rfl
  | true =>
  by_cases h48 : b.tx.length ≤ 48
  rotate_left
  · rw [wide_no (fun h => h48 h.2.2.2.1)]
    rw [e1] at c1; rw [e2] at c2
    clear c3 c4
    (refine enter Tryz.func37 Tryz.results37 Tryz.ntmps37 ty_ok (hw := fun F hF => ?_); simp only [List.length_cons, List.length_nil, Nat.reduceAdd, Nat.reduceSub, List.replicate_succ, List.replicate_zero, List.cons_append, List.nil_append]; apply hF; clear hF F)
    refine wks ?_
    refine fin ?_
    rfl
  cases e3 : b.tx.all txOk with
  | false =>
    rw [wide_no (fun h => by rw [e3] at h; exact absurd h.2.2.2.2.1.2.1 (by simp))]
    rw [e1] at c1; rw [e2] at c2; rw [e3] at c3
    clear c4
    (refine enter Tryz.func37 Tryz.results37 Tryz.ntmps37 ty_ok (hw := fun F hF => ?_); simp only [List.length_cons, List.length_nil, Nat.reduceAdd, Nat.reduceSub, List.replicate_succ, List.replicate_zero, List.cons_append, List.nil_append]; apply hF; clear hF F)
    refine wks ?_
    refine fin ?_
    rfl
  | true =>
  cases e4 : limboOk b.li with
  | false =>
    rw [wide_no (fun h => by rw [e4] at h; exact absurd h.2.2.1 (by simp))]
    rw [e1] at c1; rw [e2] at c2; rw [e3] at c3; rw [e4] at c4
    (refine enter Tryz.func37 Tryz.results37 Tryz.ntmps37 ty_ok (hw := fun F hF => ?_); simp only [List.length_cons, List.length_nil, Nat.reduceAdd, Nat.reduceSub, List.replicate_succ, List.replicate_zero, List.cons_append, List.nil_append]; apply hF; clear hF F)
    refine wks ?_
    refine fin ?_
    rfl
  | true =>
  rw [e1] at c1; rw [e2] at c2; rw [e3] at c3; rw [e4] at c4
  have h8 : b.ac.length = 8 := by
    unfold acctsOk at e2
    rw [Bool.and_eq_true] at e2
    exact of_decide_eq_true e2.1
  have hok := List.all_eq_true.1 e3
  have hok' := Left.mk hok
  clear hok
  have hl48 : b.li.length ≤ 48 := (limboOk_true.1 e4).1
  obtain ⟨W, hW⟩ : ∃ W, wideOk b = W := ⟨_, rfl⟩
  have hno := Left.mk (fun h => hW.symm.trans (wide_no (b := b) h))
  have hyes := Left.mk (fun h => hW.symm.trans ((wide_iff b).2 h))
  rw [hW]
  clear hW
  (refine enter Tryz.func37 Tryz.results37 Tryz.ntmps37 ty_ok (hw := fun F hF => ?_); simp only [List.length_cons, List.length_nil, Nat.reduceAdd, Nat.reduceSub, List.replicate_succ, List.replicate_zero, List.cons_append, List.nil_append]; apply hF; clear hF F)
  refine wks ?_
  clear c1 c2 c3 c4
  refine aw_loopI (fun (i : Nat) => ⟨(.any :: (.ptr 0 0) :: (.bool false) :: (.int .i64 i) :: .any :: .any :: .any :: .any :: .any :: .any :: .any :: .any :: .any :: .any :: .any :: .any :: .any :: .any :: .any :: .any :: .any :: .any :: .any :: .any :: .any :: .any :: .any :: .any :: .any :: .any :: .any :: .any :: .any :: .any :: .any :: .any :: .any :: .any :: .any :: .any :: .any :: .any :: .any :: .any :: .any :: .any :: .any :: .any :: .any :: .any :: .any :: .any :: .any :: .any :: .any :: .any :: .any :: .any :: .any :: .any :: .any :: .any :: .any :: .any :: .any :: .any :: .any :: .any :: .any :: .any :: .any :: .any :: .any :: .any :: .any :: .any :: .any :: .any :: .any :: .any :: .any :: .any :: .any :: .any :: .any :: .any :: .any :: .any :: .any :: .any :: .any :: .any :: .any :: .any :: .any :: .any :: .any :: .any :: .any :: .any :: .any :: .any :: .any :: .any :: .any :: .any :: .any :: .any :: .any :: .any :: .any :: .any :: .any :: .any :: .any :: .any :: .any :: .any :: .any :: .any :: .any :: .any :: .any :: .any :: .any :: .any :: .any :: .any :: .any :: .any :: .any :: .any :: .any :: .any :: .any :: .any :: .any :: .any :: .any :: .any :: .any :: .any :: .any :: .any :: .any :: .any :: .any :: .any :: .any :: .any :: .any :: .any :: .any :: .any :: .any :: .any :: .any :: []), [.live (bookc b)]⟩) (fun i => 1 ≤ i ∧ ∀ j, 1 ≤ j → j < i → j < b.tx.length → ltT (b.tx.getD (j - 1) default) (b.tx.getD j default)) (fun i => b.tx.length - i) 1 ⟨Nat.le_refl _, fun j h1 h2 => by omega⟩ (wkt [0] (hh := by dsimp only [renS, renH, renL, renV, renB, hbAt, List.map_cons, List.map_nil, List.getElem?_cons_zero, List.getElem?_cons_succ]; (try simp only [renL_clean _ (cleans_flat _)]); try rfl)) ?_
  rintro i ⟨hi0, hst⟩ K hK
  by_cases h1 : i < b.tx.length
  · have hi1 : i - 1 < b.tx.length := by omega
    have hone1 : ∀ v ∈ txc b.tx[i], v.one = true := Rows.one (f := txc) b.tx[i]
    have hone2 : ∀ v ∈ txc (b.tx[i - 1]'hi1), v.one = true := Rows.one (f := txc) (b.tx[i - 1]'hi1)
    have hbad : ¬ ltT (b.tx[i - 1]'hi1) b.tx[i] → W = false := fun h => hno.left (fun q => h (by
      have := sorted_iff.1 q.2.2.2.2.1.1 i hi0 h1
      rwa [getD_at hi1, getD_at h1] at this))
    have hgood : ltT (b.tx[i - 1]'hi1) b.tx[i] → ∀ j, 1 ≤ j → j < i + 1 → j < b.tx.length → ltT (b.tx.getD (j - 1) default) (b.tx.getD j default) := fun h j q1 q2 q3 => by
      rcases Nat.lt_succ_iff_lt_or_eq.1 q2 with q | rfl
      · exact hst j q1 q q3
      · rw [getD_at hi1, getD_at h1]; exact h
    clear hst
    refine wks ?_
    refine aw_joinR (fun (_ : Unit) => ⟨(.any :: (.ptr 0 0) :: (.bool false) :: (.int .i64 i) :: (.ptr 1 0) :: (.ptr 2 0) :: .any :: .any :: .any :: .any :: .any :: .any :: .any :: .any :: .any :: .any :: .any :: .any :: .any :: .any :: .any :: .any :: .any :: .any :: .any :: .any :: .any :: .any :: .any :: .any :: .any :: .any :: .any :: .any :: .any :: .any :: .any :: .any :: .any :: .any :: .any :: .any :: .any :: .any :: .any :: .any :: .any :: .any :: .any :: .any :: .any :: .any :: .any :: .any :: .any :: .any :: .any :: .any :: .any :: .any :: .any :: .any :: .any :: .any :: .any :: .any :: .any :: .any :: .any :: .any :: .any :: .any :: .any :: .any :: .any :: .any :: .any :: .any :: .any :: .any :: .any :: .any :: .any :: .any :: .any :: .any :: .any :: .any :: .any :: .any :: .any :: .any :: .any :: .any :: .any :: .any :: .any :: .any :: .any :: .any :: .any :: .any :: .any :: .any :: .any :: .any :: .any :: .any :: .any :: .any :: .any :: .any :: .any :: .any :: .any :: .any :: .any :: .any :: .any :: .any :: .any :: .any :: .any :: .any :: .any :: .any :: .any :: .any :: .any :: .any :: .any :: .any :: .any :: .any :: .any :: .any :: .any :: .any :: .any :: .any :: .any :: .any :: .any :: .any :: .any :: .any :: .any :: .any :: .any :: .any :: .any :: .any :: .any :: .any :: .any :: .any :: .any :: []), [.live (bookc b), .live (txc (b.tx[i - 1]'hi1)), .live (txc b.tx[i])]⟩) (fun _ => True) (fun K3 hK3 => ?_) (fun _ _ => ?_)
    · clear hbad hgood
      (refine aw_drawS ty_ok pureL [7, 10, 11, 12, 13] [[0, 1, 2, 3, 4, 5, 6, 7, 8, 9, 10, 11, 12, 13, 14], [0, 1, 2, 3, 4, 5, 6, 7, 8, 9, 10, 12, 11, 13, 14], [0, 1, 2, 3, 4, 5, 6, 7, 8, 9, 11, 10, 12, 13, 14], [0, 1, 2, 3, 4, 5, 6, 7, 8, 9, 11, 12, 10, 13, 14], [0, 1, 2, 3, 4, 5, 6, 7, 8, 9, 11, 12, 13, 10, 14], [0, 1, 2, 3, 4, 5, 6, 7, 8, 9, 12, 10, 11, 13, 14], [0, 1, 2, 3, 4, 5, 6, 7, 8, 9, 12, 11, 10, 13, 14], [0, 1, 2, 3, 4, 5, 6, 7, 8, 9, 12, 11, 13, 10, 14], [0, 1, 2, 3, 4, 5, 6, 8, 11, 7, 9, 10, 12, 13, 14], [0, 1, 2, 3, 4, 5, 6, 8, 11, 7, 9, 12, 10, 13, 14], [0, 1, 2, 3, 4, 5, 6, 8, 11, 7, 9, 12, 13, 10, 14], [0, 1, 2, 3, 4, 5, 6, 8, 11, 12, 7, 9, 10, 13, 14], [0, 1, 2, 3, 4, 5, 6, 8, 11, 12, 7, 9, 13, 10, 14], [0, 1, 2, 3, 4, 5, 6, 8, 11, 12, 13, 7, 9, 10, 14], [0, 1, 2, 3, 4, 5, 6, 8, 12, 7, 9, 10, 11, 13, 14], [0, 1, 2, 3, 4, 5, 6, 8, 12, 7, 9, 11, 10, 13, 14], [0, 1, 2, 3, 4, 5, 6, 8, 12, 7, 9, 11, 13, 10, 14], [0, 1, 2, 3, 4, 5, 6, 8, 12, 11, 7, 9, 10, 13, 14], [0, 1, 2, 3, 4, 5, 6, 8, 12, 11, 7, 9, 13, 10, 14], [0, 1, 2, 3, 4, 5, 6, 8, 12, 11, 13, 7, 9, 10, 14]] (by kernel_rfl) (by repeat (first | exact List.forall_mem_nil _ | refine List.forall_mem_cons.2 ⟨rfl, ?_⟩)) ?_; simp only [List.forall_mem_cons, List.forall_mem_nil, and_true, List.not_mem_nil, false_implies, implies_true, pk, List.map_cons, List.map_nil, List.getD_cons_zero, List.getD_cons_succ])
      refine ⟨?_, ?_, ?_, ?_, ?_, ?_, ?_, ?_, ?_, ?_, ?_, ?_, ?_, ?_, ?_, ?_, ?_, ?_, ?_, ?_⟩
      · refine wks ?_
        exact hK3 _ () trivial (wkt [0, 1, 2] (hh := by dsimp only [renS, renH, renL, renV, renB, hbAt, List.map_cons, List.map_nil, List.getElem?_cons_zero, List.getElem?_cons_succ]; (try simp only [renL_clean _ (cleans_flat _)]); try rfl))
      · refine wks ?_
        exact hK3 _ () trivial (wkt [0, 2, 1] (hh := by dsimp only [renS, renH, renL, renV, renB, hbAt, List.map_cons, List.map_nil, List.getElem?_cons_zero, List.getElem?_cons_succ]; (try simp only [renL_clean _ (cleans_flat _)]); try rfl))
      · refine wks ?_
        exact hK3 _ () trivial (wkt [0, 1, 2] (hh := by dsimp only [renS, renH, renL, renV, renB, hbAt, List.map_cons, List.map_nil, List.getElem?_cons_zero, List.getElem?_cons_succ]; (try simp only [renL_clean _ (cleans_flat _)]); try rfl))
      · refine wks ?_
        exact hK3 _ () trivial (wkt [0, 1, 2] (hh := by dsimp only [renS, renH, renL, renV, renB, hbAt, List.map_cons, List.map_nil, List.getElem?_cons_zero, List.getElem?_cons_succ]; (try simp only [renL_clean _ (cleans_flat _)]); try rfl))
      · refine wks ?_
        exact hK3 _ () trivial (wkt [0, 1, 2] (hh := by dsimp only [renS, renH, renL, renV, renB, hbAt, List.map_cons, List.map_nil, List.getElem?_cons_zero, List.getElem?_cons_succ]; (try simp only [renL_clean _ (cleans_flat _)]); try rfl))
      · refine wks ?_
        exact hK3 _ () trivial (wkt [0, 2, 1] (hh := by dsimp only [renS, renH, renL, renV, renB, hbAt, List.map_cons, List.map_nil, List.getElem?_cons_zero, List.getElem?_cons_succ]; (try simp only [renL_clean _ (cleans_flat _)]); try rfl))
      · refine wks ?_
        exact hK3 _ () trivial (wkt [0, 2, 1] (hh := by dsimp only [renS, renH, renL, renV, renB, hbAt, List.map_cons, List.map_nil, List.getElem?_cons_zero, List.getElem?_cons_succ]; (try simp only [renL_clean _ (cleans_flat _)]); try rfl))
      · refine wks ?_
        exact hK3 _ () trivial (wkt [0, 2, 1] (hh := by dsimp only [renS, renH, renL, renV, renB, hbAt, List.map_cons, List.map_nil, List.getElem?_cons_zero, List.getElem?_cons_succ]; (try simp only [renL_clean _ (cleans_flat _)]); try rfl))
      · refine wks ?_
        exact hK3 _ () trivial (wkt [0, 1, 2] (hh := by dsimp only [renS, renH, renL, renV, renB, hbAt, List.map_cons, List.map_nil, List.getElem?_cons_zero, List.getElem?_cons_succ]; (try simp only [renL_clean _ (cleans_flat _)]); try rfl))
      · refine wks ?_
        exact hK3 _ () trivial (wkt [0, 1, 2] (hh := by dsimp only [renS, renH, renL, renV, renB, hbAt, List.map_cons, List.map_nil, List.getElem?_cons_zero, List.getElem?_cons_succ]; (try simp only [renL_clean _ (cleans_flat _)]); try rfl))
      · refine wks ?_
        exact hK3 _ () trivial (wkt [0, 1, 2] (hh := by dsimp only [renS, renH, renL, renV, renB, hbAt, List.map_cons, List.map_nil, List.getElem?_cons_zero, List.getElem?_cons_succ]; (try simp only [renL_clean _ (cleans_flat _)]); try rfl))
      · refine wks ?_
        exact hK3 _ () trivial (wkt [0, 1, 2] (hh := by dsimp only [renS, renH, renL, renV, renB, hbAt, List.map_cons, List.map_nil, List.getElem?_cons_zero, List.getElem?_cons_succ]; (try simp only [renL_clean _ (cleans_flat _)]); try rfl))
      · refine wks ?_
        exact hK3 _ () trivial (wkt [0, 1, 2] (hh := by dsimp only [renS, renH, renL, renV, renB, hbAt, List.map_cons, List.map_nil, List.getElem?_cons_zero, List.getElem?_cons_succ]; (try simp only [renL_clean _ (cleans_flat _)]); try rfl))
      · refine wks ?_
        exact hK3 _ () trivial (wkt [0, 1, 2] (hh := by dsimp only [renS, renH, renL, renV, renB, hbAt, List.map_cons, List.map_nil, List.getElem?_cons_zero, List.getElem?_cons_succ]; (try simp only [renL_clean _ (cleans_flat _)]); try rfl))
      · refine wks ?_
        exact hK3 _ () trivial (wkt [0, 2, 1] (hh := by dsimp only [renS, renH, renL, renV, renB, hbAt, List.map_cons, List.map_nil, List.getElem?_cons_zero, List.getElem?_cons_succ]; (try simp only [renL_clean _ (cleans_flat _)]); try rfl))
      · refine wks ?_
        exact hK3 _ () trivial (wkt [0, 2, 1] (hh := by dsimp only [renS, renH, renL, renV, renB, hbAt, List.map_cons, List.map_nil, List.getElem?_cons_zero, List.getElem?_cons_succ]; (try simp only [renL_clean _ (cleans_flat _)]); try rfl))
      · refine wks ?_
        exact hK3 _ () trivial (wkt [0, 2, 1] (hh := by dsimp only [renS, renH, renL, renV, renB, hbAt, List.map_cons, List.map_nil, List.getElem?_cons_zero, List.getElem?_cons_succ]; (try simp only [renL_clean _ (cleans_flat _)]); try rfl))
      · refine wks ?_
        exact hK3 _ () trivial (wkt [0, 2, 1] (hh := by dsimp only [renS, renH, renL, renV, renB, hbAt, List.map_cons, List.map_nil, List.getElem?_cons_zero, List.getElem?_cons_succ]; (try simp only [renL_clean _ (cleans_flat _)]); try rfl))
      · refine wks ?_
        exact hK3 _ () trivial (wkt [0, 2, 1] (hh := by dsimp only [renS, renH, renL, renV, renB, hbAt, List.map_cons, List.map_nil, List.getElem?_cons_zero, List.getElem?_cons_succ]; (try simp only [renL_clean _ (cleans_flat _)]); try rfl))
      · refine wks ?_
        exact hK3 _ () trivial (wkt [0, 2, 1] (hh := by dsimp only [renS, renH, renL, renV, renB, hbAt, List.map_cons, List.map_nil, List.getElem?_cons_zero, List.getElem?_cons_succ]; (try simp only [renL_clean _ (cleans_flat _)]); try rfl))
    by_cases ha : (b.tx[i - 1]'hi1).fr > b.tx[i].fr
    · rw [hbad (by unfold ltT; omega)]
      clear hbad hgood hK
      refine wks ?_
      refine fin ?_
      rfl
    · by_cases hb : (b.tx[i - 1]'hi1).fr = b.tx[i].fr
      · by_cases hc : (b.tx[i - 1]'hi1).no ≥ b.tx[i].no
        · rw [hbad (by unfold ltT; omega)]
          clear hbad hgood hK
          refine wks ?_
          refine fin ?_
          rfl
        · have hq := hgood (.inr ⟨hb, by omega⟩)
          clear hbad hgood
          refine wks ?_
          exact hK _ (i + 1) ⟨by omega, hq⟩ (wkt [0] (hh := by dsimp only [renS, renH, renL, renV, renB, hbAt, List.map_cons, List.map_nil, List.getElem?_cons_zero, List.getElem?_cons_succ]; (try simp only [renL_clean _ (cleans_flat _)]); try rfl)) (by omega)
      · have hq := hgood (.inl (by omega))
        clear hbad hgood
        refine wks ?_
        exact hK _ (i + 1) ⟨by omega, hq⟩ (wkt [0] (hh := by dsimp only [renS, renH, renL, renV, renB, hbAt, List.map_cons, List.map_nil, List.getElem?_cons_zero, List.getElem?_cons_succ]; (try simp only [renL_clean _ (cleans_flat _)]); try rfl)) (by omega)
  have hsort : SortedT b.tx := sorted_iff.2 fun j q1 q2 => hst j q1 (by omega) q2
  clear hst hK
  refine wks ?_
  clear h1 hi0
  refine aw_loopI (fun (a : Nat) => ⟨(.any :: (.ptr 0 0) :: (.bool false) :: .any :: .any :: .any :: (.int .i64 a) :: .any :: .any :: .any :: .any :: .any :: .any :: .any :: .any :: .any :: .any :: .any :: .any :: .any :: .any :: .any :: .any :: .any :: .any :: .any :: .any :: .any :: .any :: .any :: .any :: .any :: .any :: .any :: .any :: .any :: .any :: .any :: .any :: .any :: .any :: .any :: .any :: .any :: .any :: .any :: .any :: .any :: .any :: .any :: .any :: .any :: .any :: .any :: .any :: .any :: .any :: .any :: .any :: .any :: .any :: .any :: .any :: .any :: .any :: .any :: .any :: .any :: .any :: .any :: .any :: .any :: .any :: .any :: .any :: .any :: .any :: .any :: .any :: .any :: .any :: .any :: .any :: .any :: .any :: .any :: .any :: .any :: .any :: .any :: .any :: .any :: .any :: .any :: .any :: .any :: .any :: .any :: .any :: .any :: .any :: .any :: .any :: .any :: .any :: .any :: .any :: .any :: .any :: .any :: .any :: .any :: .any :: .any :: .any :: .any :: .any :: .any :: .any :: .any :: .any :: .any :: .any :: .any :: .any :: .any :: .any :: .any :: .any :: .any :: .any :: .any :: .any :: .any :: .any :: .any :: .any :: .any :: .any :: .any :: .any :: .any :: .any :: .any :: .any :: .any :: .any :: .any :: .any :: .any :: .any :: .any :: .any :: .any :: .any :: .any :: .any :: []), [.live (bookc b)]⟩) (fun a => a ≤ 8 ∧ ∀ c : Nat, c < a → AcctP b.ac c (ofA c b.tx)) (fun a => 8 - a) 0 ⟨by omega, fun c h => absurd h (Nat.not_lt_zero c)⟩ (wkt [0] (hh := by dsimp only [renS, renH, renL, renV, renB, hbAt, List.map_cons, List.map_nil, List.getElem?_cons_zero, List.getElem?_cons_succ]; (try simp only [renL_clean _ (cleans_flat _)]); try rfl)) ?_
  rintro a ⟨ha, hst⟩ K hK
  by_cases ha8 : a < 8
  · have hac : a < b.ac.length := by omega
    obtain ⟨g, hg⟩ : ∃ g, ofA (a : Int) b.tx = g := ⟨_, rfl⟩
    have hgl : g.length ≤ b.tx.length := by rw [← hg]; exact ofA_len _ _
    have hgo : ∀ t ∈ g, t.ok := fun t ht => o'.left.took.took.tx t (ofA_mem (hg ▸ ht)).1
    have hgk : ∀ t ∈ g, txOk t = true := fun t ht => hok'.left t (ofA_mem (hg ▸ ht)).1
    have c1 := rof16_c b.tx false a (by omega) o'.left.txf
    rw [hg] at c1
    have c2 := rchain_c g false (by omega) hgo
    have hbal := (o'.left.took.took.ac _ (List.getElem_mem hac)).bal
    have hbad : ¬ AcctP b.ac a g → W = false := fun h => hno.left (fun q => h (hg ▸ q.2.2.2.2.1.2.2 a (by omega) (by omega)))
    have hgood : AcctP b.ac a g → ∀ c : Nat, c < a + 1 → AcctP b.ac c (ofA c b.tx) := fun h c q => by
      rcases Nat.lt_succ_iff_lt_or_eq.1 q with q | rfl
      · exact hst c q
      · rw [hg]; exact h
    rw [acctP_iff hac] at hbad hgood
    clear hst
    cases hch : chainB g with
    | false =>
      rw [hch] at c2
      rw [hbad (fun q => by rw [hch] at q; exact absurd q.1 (by simp))]
      clear hbad hgood hgo hgk hK
      refine wks ?_
      refine fin ?_
      rfl
    | true =>
      rw [hch] at c2
      have hsp := ((chainB_iff g).1 hch).2.2.2
      have c3 := rcov_c g false b.ac[a].bal hbal (by omega) hgo hgk hsp
      have hcv := covN_all g b.ac[a].bal
      have hcle := covN_le g b.ac[a].bal g.length
      by_cases h0 : 0 < g.length
      · by_cases hno2 : g[0].no = b.ac[a].no
        · by_cases hbl : spentN g ≤ b.ac[a].bal
          · have hq := hgood ⟨hch, fun _ => hno2, hbl⟩
            rw [hcv.2 hbl] at c3
            clear hbad hgood hgo hgk hcv hcle
            refine wks ?_
            exact hK _ (a + 1) ⟨by omega, hq⟩ (wkt [0] (hh := by dsimp only [renS, renH, renL, renV, renB, hbAt, List.map_cons, List.map_nil, List.getElem?_cons_zero, List.getElem?_cons_succ]; (try simp only [renL_clean _ (cleans_flat _)]); try rfl)) (by omega)
          · have hne : covN g b.ac[a].bal g.length ≠ g.length := fun q => hbl (hcv.1 q)
            rw [hbad (fun q => hbl q.2.2)]
            obtain ⟨cv, hcv2⟩ : ∃ cv, covN g b.ac[a].bal g.length = cv := ⟨_, rfl⟩
            rw [hcv2] at c3 hne
            clear hbad hgood hgo hgk hcv hcle hK hcv2
            refine wks ?_
            refine fin ?_
            rfl
        · rw [hbad (fun q => hno2 (q.2.1 h0))]
          clear hbad hgood hgo hgk hcv hcle hK c3
          refine wks ?_
          refine fin ?_
          rfl
      · have hg0 : g = [] := List.length_eq_zero_iff.1 (by omega)
        have hbl : spentN g ≤ b.ac[a].bal := by rw [hg0]; exact Nat.zero_le _
        have hq := hgood ⟨hch, fun h => absurd h h0, hbl⟩
        rw [hcv.2 hbl] at c3
        clear hbad hgood hgo hgk hcv hcle hg0
        refine wks ?_
        exact hK _ (a + 1) ⟨by omega, hq⟩ (wkt [0] (hh := by dsimp only [renS, renH, renL, renV, renB, hbAt, List.map_cons, List.map_nil, List.getElem?_cons_zero, List.getElem?_cons_succ]; (try simp only [renL_clean _ (cleans_flat _)]); try rfl)) (by omega)
  have hacct : ∀ c, 0 ≤ c → c < 8 → AcctP b.ac c (ofA c b.tx) := fun c q1 q2 => by
    obtain ⟨n, rfl⟩ := Int.eq_ofNat_of_zero_le q1
    exact hst n (by omega)
  clear hst hK
  refine wks ?_
  clear ha ha8
  have hmid := Left.mk (And.intro hsort (And.intro e3 hacct))
  clear hsort hacct
  obtain ⟨m, hm⟩ : ∃ m, b.tx.map idN = m := ⟨_, rfl⟩
  have hml : m.length = b.tx.length := by rw [← hm, List.length_map]
  have hmi : ∀ i (hi : i < b.tx.length), idN b.tx[i] = m[i]'(by omega) := fun i hi => by simp [← hm]
  refine aw_loopI (fun (i : Nat) => ⟨(.any :: (.ptr 0 0) :: (.bool false) :: .any :: .any :: .any :: .any :: .any :: (rwV 1 1 (m.take i)) :: (.int .i64 i) :: .any :: .any :: .any :: .any :: .any :: .any :: .any :: .any :: .any :: .any :: .any :: .any :: .any :: .any :: .any :: .any :: .any :: .any :: .any :: .any :: .any :: .any :: .any :: .any :: .any :: .any :: .any :: .any :: .any :: .any :: .any :: .any :: .any :: .any :: .any :: .any :: .any :: .any :: .any :: .any :: .any :: .any :: .any :: .any :: .any :: .any :: .any :: .any :: .any :: .any :: .any :: .any :: .any :: .any :: .any :: .any :: .any :: .any :: .any :: .any :: .any :: .any :: .any :: .any :: .any :: .any :: .any :: .any :: .any :: .any :: .any :: .any :: .any :: .any :: .any :: .any :: .any :: .any :: .any :: .any :: .any :: .any :: .any :: .any :: .any :: .any :: .any :: .any :: .any :: .any :: .any :: .any :: .any :: .any :: .any :: .any :: .any :: .any :: .any :: .any :: .any :: .any :: .any :: .any :: .any :: .any :: .any :: .any :: .any :: .any :: .any :: .any :: .any :: .any :: .any :: .any :: .any :: .any :: .any :: .any :: .any :: .any :: .any :: .any :: .any :: .any :: .any :: .any :: .any :: .any :: .any :: .any :: .any :: .any :: .any :: .any :: .any :: .any :: .any :: .any :: .any :: .any :: .any :: .any :: .any :: .any :: .any :: []), .live (bookc b) :: rwH hc (m.take i)⟩) (fun i => i ≤ b.tx.length ∧ (m.take i).Nodup) (fun i => b.tx.length - i) 0 ⟨by omega, by simp⟩ (by
    rw [List.take_zero]; exact wkt [0] (hh := by dsimp only [renS, renH, renL, renV, renB, hbAt, List.map_cons, List.map_nil, List.getElem?_cons_zero, List.getElem?_cons_succ]; (try simp only [renL_clean _ (cleans_flat _)]); try rfl)) ?_
  rintro i ⟨hi, hnd⟩ K hK
  by_cases h1 : i < b.tx.length
  · have hone1 : ∀ v ∈ txc b.tx[i], v.one = true := Rows.one (f := txc) b.tx[i]
    have him : i < m.length := by omega
    have c1 := rid_c b.tx[i] (o'.left.took.took.tx _ (List.getElem_mem h1)) (hok'.left _ (List.getElem_mem h1))
    rw [hmi i h1] at c1
    have hs : m.take (i + 1) = m.take i ++ [m[i]] := List.take_succ_eq_append_getElem him
    have hlen : (m.take i).length = i := by rw [List.length_take]; omega
    have hbad : m[i] ∈ m.take i → W = false := fun h => hno.left (fun q => by
      have := ((ids_nodup e4).1 q.2.2.2.2.2).1
      rw [hm] at this
      exact nodup_take_of him this h)
    have hgood : m[i] ∉ m.take i → (m.take (i + 1)).Nodup := nodup_take him hnd
    clear hnd
    cases hL : m.take i with
    | nil =>
      have c2 := inMarks_nil m[i]
      have hq := hgood (by rw [hL]; simp)
      rw [hL, List.nil_append] at hs
      clear hbad hgood
      dsimp only [rwV, rwH]
      refine wks ?_
      simp only [one_eq0, if_false, List.set_cons_zero, List.set_cons_succ, List.cons_append, List.nil_append, List.length_cons, List.length_nil, Nat.reduceAdd]
      refine hK _ (i + 1) ⟨by omega, hq⟩ ?_ (by omega)
      rw [hs]
      dsimp only [rwV, rwH]
      rw [flat_single]
      exact wkt [0, 2] (hh := by dsimp only [renS, renH, renL, renV, renB, hbAt, List.map_cons, List.map_nil, List.getElem?_cons_zero, List.getElem?_cons_succ]; (try simp only [renL_clean _ (cleans_flat _)]); try rfl)
    | cons u l =>
      rw [hL] at hbad hgood hlen
      rw [List.length_cons] at hlen
      have c2 : CallD Tryz.prog 87 [.slc 1 0 1 (l.length + 1) (l.length + 1), .int .u64 (m[i] : Nat)] [.live (bookc b), .live (flat hc (u :: l))] (.int .i64 (idxI m[i] (u :: l))) [.live (bookc b), .live (flat hc (u :: l))] := inMarks_d (u :: l) m[i] (by simp; omega) _ 1 rfl
      by_cases hin : m[i] ∈ u :: l
      · rw [hbad hin]
        have hx := (idxI_iff m[i] (u :: l)).2 hin
        obtain ⟨r, hr⟩ : ∃ r, idxI m[i] (u :: l) = r := ⟨_, rfl⟩
        rw [hr] at hx c2
        clear hbad hgood hK hr
        dsimp only [rwV, rwH]
        refine wks ?_
        refine st_call rfl rfl c2 ?_
        clear c2
        refine wks ?_
        refine fin ?_
        rfl
      · have hq := hgood hin
        have hx : ¬ 0 ≤ idxI m[i] (u :: l) := fun h => hin ((idxI_iff m[i] (u :: l)).1 h)
        obtain ⟨r, hr⟩ : ∃ r, idxI m[i] (u :: l) = r := ⟨_, rfl⟩
        rw [hr] at hx c2
        rw [hL, List.cons_append] at hs
        have g1 : (flat hc (u :: l)).length = (l.length + 1) * 1 := by rw [flat_length]; rfl
        have g2 : flat hc (u :: (l ++ [m[i]])) = flat hc (u :: l) ++ hc m[i] := by rw [← List.cons_append, flat_append, flat_single]
        have g3 : (l ++ [m[i]]).length + 1 = l.length + 1 + 1 := by simp
        clear hbad hgood hr
        dsimp only [rwV, rwH]
        refine wks ?_
        refine st_call rfl rfl c2 ?_
        clear c2
        refine wks ?_
        refine hK _ (i + 1) ⟨by omega, hq⟩ ?_ (by omega)
        rw [hs]
        dsimp only [rwV, rwH]
        rw [g2, g3]
        exact wkt [0, 3] (hh := by dsimp only [renS, renH, renL, renV, renB, hbAt, List.map_cons, List.map_nil, List.getElem?_cons_zero, List.getElem?_cons_succ]; (try simp only [renL_append, renL_clean _ (cleans_flat _), renL, renV]); try rfl)
  obtain rfl : i = b.tx.length := by omega
  rw [← hml, List.take_length] at hnd ⊢
  clear hK hmi
  refine wks ?_
  clear h1
  refine aw_loopI (fun (i : Nat) => ⟨(.any :: (.ptr 0 0) :: (.bool false) :: .any :: .any :: .any :: .any :: .any :: (rwV 1 1 m) :: .any :: .any :: (.int .i64 i) :: .any :: .any :: .any :: .any :: .any :: .any :: .any :: .any :: .any :: .any :: .any :: .any :: .any :: .any :: .any :: .any :: .any :: .any :: .any :: .any :: .any :: .any :: .any :: .any :: .any :: .any :: .any :: .any :: .any :: .any :: .any :: .any :: .any :: .any :: .any :: .any :: .any :: .any :: .any :: .any :: .any :: .any :: .any :: .any :: .any :: .any :: .any :: .any :: .any :: .any :: .any :: .any :: .any :: .any :: .any :: .any :: .any :: .any :: .any :: .any :: .any :: .any :: .any :: .any :: .any :: .any :: .any :: .any :: .any :: .any :: .any :: .any :: .any :: .any :: .any :: .any :: .any :: .any :: .any :: .any :: .any :: .any :: .any :: .any :: .any :: .any :: .any :: .any :: .any :: .any :: .any :: .any :: .any :: .any :: .any :: .any :: .any :: .any :: .any :: .any :: .any :: .any :: .any :: .any :: .any :: .any :: .any :: .any :: .any :: .any :: .any :: .any :: .any :: .any :: .any :: .any :: .any :: .any :: .any :: .any :: .any :: .any :: .any :: .any :: .any :: .any :: .any :: .any :: .any :: .any :: .any :: .any :: .any :: .any :: .any :: .any :: .any :: .any :: .any :: .any :: .any :: .any :: .any :: .any :: .any :: []), .live (bookc b) :: rwH hc m⟩) (fun i => i ≤ b.li.length ∧ ∀ j, j < i → (hj : j < b.li.length) → idN b.li[j].t ∉ m) (fun i => b.li.length - i) 0 ⟨by omega, fun j h => absurd h (Nat.not_lt_zero j)⟩ ?_ ?_
  · refine wk_le ?_
    repeat' (first | exact True.intro | refine ⟨Or.inl rfl, ?_⟩ | refine ⟨Or.inr rfl, ?_⟩)
  rintro i ⟨hi, hst⟩ K hK
  by_cases h1 : i < b.li.length
  · have hone1 : ∀ v ∈ heldc b.li[i], v.one = true := Rows.one (f := heldc) b.li[i]
    have hone2 : ∀ v ∈ txc b.li[i].t, v.one = true := Rows.one (f := txc) b.li[i].t
    have c1 := rid_c b.li[i].t (o'.left.took.took.li _ (List.getElem_mem h1)).t (limbo_tx e4 h1)
    obtain ⟨n, hn⟩ : ∃ n, idN b.li[i].t = n := ⟨_, rfl⟩
    have hbad : n ∈ m → W = false := fun h => hno.left (fun q => by
      have := ((ids_nodup e4).1 q.2.2.2.2.2).2 i h1
      rw [hm, hn] at this
      exact this h)
    have hgood : n ∉ m → ∀ j, j < i + 1 → (hj : j < b.li.length) → idN b.li[j].t ∉ m := fun h j q hj => by
      rcases Nat.lt_succ_iff_lt_or_eq.1 q with q | rfl
      · exact hst j q hj
      · rw [hn]; exact h
    rw [hn] at c1
    clear hst hn
    cases hL : m with
    | nil =>
      have c2 := inMarks_nil n
      rw [hL] at hgood
      have hq := hgood (by simp)
      rw [hL] at hK
      clear hbad hgood
      dsimp only [rwV, rwH]
      refine wks ?_
      exact hK _ (i + 1) ⟨by omega, hq⟩ (wkt [0] (hh := by dsimp only [renS, renH, renL, renV, renB, hbAt, List.map_cons, List.map_nil, List.getElem?_cons_zero, List.getElem?_cons_succ]; (try simp only [renL_clean _ (cleans_flat _)]); try rfl)) (by omega)
    | cons u l =>
      rw [hL] at hbad hgood hK hml
      rw [List.length_cons] at hml
      have c2 : CallD Tryz.prog 87 [.slc 1 0 1 (l.length + 1) (l.length + 1), .int .u64 (n : Nat)] [.live (bookc b), .live (flat hc (u :: l))] (.int .i64 (idxI n (u :: l))) [.live (bookc b), .live (flat hc (u :: l))] := inMarks_d (u :: l) n (by simp; omega) _ 1 rfl
      by_cases hin : n ∈ u :: l
      · rw [hbad hin]
        have hx := (idxI_iff n (u :: l)).2 hin
        obtain ⟨r, hr⟩ : ∃ r, idxI n (u :: l) = r := ⟨_, rfl⟩
        rw [hr] at hx c2
        clear hbad hgood hK hr
        dsimp only [rwV, rwH]
        refine wks ?_
        refine st_call rfl rfl c2 ?_
        clear c2
        refine wks ?_
        refine fin ?_
        rfl
      · have hq := hgood hin
        have hx : ¬ 0 ≤ idxI n (u :: l) := fun h => hin ((idxI_iff n (u :: l)).1 h)
        obtain ⟨r, hr⟩ : ∃ r, idxI n (u :: l) = r := ⟨_, rfl⟩
        rw [hr] at hx c2
        clear hbad hgood hr
        dsimp only [rwV, rwH]
        refine wks ?_
        refine st_call rfl rfl c2 ?_
        clear c2
        refine wks ?_
        exact hK _ (i + 1) ⟨by omega, hq⟩ (wkt [0, 1] (hh := by dsimp only [renS, renH, renL, renV, renB, hbAt, List.map_cons, List.map_nil, List.getElem?_cons_zero, List.getElem?_cons_succ]; (try simp only [renL_clean _ (cleans_flat _)]); try rfl)) (by omega)
  have hW : W = true := hyes.left ⟨e1, e2, e4, h48, ⟨hmid.left.1, hmid.left.2.1, hmid.left.2.2⟩, (ids_nodup e4).2 ⟨by rw [hm]; exact hnd, fun j hj => by rw [hm]; exact hst j (by omega) hj⟩⟩
  rw [hW]
  clear hst hK hmid hno hyes
  cases hL : m with
  | nil =>
    dsimp only [rwV, rwH]
    refine wks ?_
    refine fin ?_
    rfl
  | cons u l =>
    dsimp only [rwV, rwH]
    refine wks ?_
    refine fin ?_
    rfl
set_option maxHeartbeats 20000000 in
theorem rbook_c (b : Book) (o : b.whole) : Pure Tryz.prog 17 [bookV b] (.bool (bookOk b)) := by
  refine pure_ac ?_ (cleans_cons (clean_bookV b) cleans_nil) (.bool _)
  have hone := one_bookc b
  have c1 := rwide_c b o
  have c2 := rroom16_c b.room
  unfold bookOk
  cases e : wideOk b with
  | false =>
    rw [e] at c1
    rw [Bool.and_false, Bool.false_and]
    clear o
    (refine enter Tryz.func17 Tryz.results17 Tryz.ntmps17 ty_ok (hw := fun F hF => ?_); simp only [List.length_cons, List.length_nil, Nat.reduceAdd, Nat.reduceSub, List.replicate_succ, List.replicate_zero, List.cons_append, List.nil_append]; apply hF; clear hF F)
    refine wks ?_
    refine fin ?_
    rfl
  | true =>
    rw [e] at c1
    have c3 := rbytes16_c b.tx false o.took.txm o.took.took.tx (wide_tx e)
    clear o
    by_cases h1 : 1024 ≤ b.room ∧ b.room ≤ 1048576
    · rw [decide_eq_true h1] at c2 ⊢
      rw [Bool.true_and, Bool.true_and]
      (refine enter Tryz.func17 Tryz.results17 Tryz.ntmps17 ty_ok (hw := fun F hF => ?_); simp only [List.length_cons, List.length_nil, Nat.reduceAdd, Nat.reduceSub, List.replicate_succ, List.replicate_zero, List.cons_append, List.nil_append]; apply hF; clear hF F)
      refine wks ?_
      refine fin ?_
      rfl
    · rw [decide_eq_false h1] at c2 ⊢
      rw [Bool.false_and, Bool.false_and]
      (refine enter Tryz.func17 Tryz.results17 Tryz.ntmps17 ty_ok (hw := fun F hF => ?_); simp only [List.length_cons, List.length_nil, Nat.reduceAdd, Nat.reduceSub, List.replicate_succ, List.replicate_zero, List.cons_append, List.nil_append]; apply hF; clear hF F)
      refine wks ?_
      refine fin ?_
      rfl
end Go.Abs
