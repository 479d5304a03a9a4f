/- Sorting: what is nearly sorted: the walk. -/
import Derived.Test.YtemlnaipcdajeaaGreatM25
import Derived.Sort.AssemblyPlain
set_option linter.unusedVariables false
set_option linter.unusedSimpArgs false
namespace Go.Abs
open Go Go.Proofs

theorem scanS_go {l : List Nat} {b i : Nat} (h1 : i < b) (hi : i < l.length) (h2 : ¬ l[i] < l[i - 1]) : Sort.scanSorted lt64 l.toArray b i = Sort.scanSorted lt64 l.toArray b (i + 1) := by
  rw [Sort.scanSorted, if_pos]
  rw [arr_at hi, arr_at (by omega)]
  simp only [lt64, decide_eq_false h2, decide_eq_true h1]; rfl
theorem scanS_stop {l : List Nat} {b i : Nat} (hb : b ≤ l.length) (h : ∀ h1 : i < b, l[i] < l[i - 1]) : Sort.scanSorted lt64 l.toArray b i = i := by
  rw [Sort.scanSorted, if_neg]
  intro h2
  rw [Bool.and_eq_true, decide_eq_true_eq] at h2
  have h3 := h2.2
  rw [arr_at (by omega), arr_at (by omega)] at h3
  simp only [lt64, decide_eq_true (h h2.1)] at h3
  cases h3
theorem shD_go {l : List Nat} {j : Nat} (h1 : 1 ≤ j) (hj : j < l.length) (h2 : l[j] < l[j - 1]) : Sort.shiftDown lt64 j l.toArray = Sort.shiftDown lt64 (j - 1) (swl l j (j - 1)).toArray := by
  obtain ⟨m, rfl⟩ : ∃ m, j = m + 1 := ⟨j - 1, by omega⟩
  rw [Nat.add_sub_cancel, Sort.shiftDown, arr_at hj, arr_at (by omega), if_neg, swl_arr]
  simp only [lt64]
  rw [decide_eq_true (show l[m + 1] < l[m] from h2)]; simp
theorem shD_stop {l : List Nat} {j : Nat} (hj : j < l.length) (h : ∀ _ : 1 ≤ j, ¬ l[j] < l[j - 1]) : Sort.shiftDown lt64 j l.toArray = l.toArray := by
  cases j with
  | zero => rfl
  | succ m =>
    rw [Sort.shiftDown, arr_at hj, arr_at (by omega), if_pos]
    simp only [lt64]
    rw [decide_eq_false (show ¬ l[m + 1] < l[m] from h (by omega))]; rfl
theorem shU_go {l : List Nat} {b j : Nat} (h1 : j < b) (hj : j < l.length) (h2 : l[j] < l[j - 1]) : Sort.shiftUp lt64 b j l.toArray = Sort.shiftUp lt64 b (j + 1) (swl l j (j - 1)).toArray := by
  rw [Sort.shiftUp, if_pos h1, arr_at hj, arr_at (by omega), if_neg, swl_arr]
  simp only [lt64]
  rw [decide_eq_true h2]; simp
theorem shU_stop {l : List Nat} {b j : Nat} (hb : b ≤ l.length) (h : ∀ h1 : j < b, ¬ l[j] < l[j - 1]) : Sort.shiftUp lt64 b j l.toArray = l.toArray := by
  rw [Sort.shiftUp]
  by_cases h1 : j < b
  · rw [if_pos h1, arr_at (by omega), arr_at (by omega), if_pos]
    simp only [lt64]
    rw [decide_eq_false (h h1)]; rfl
  · rw [if_neg h1]
theorem parIns_true {l : List Nat} {a b s i : Nat} (h : Sort.scanSorted lt64 l.toArray b i = b) : Sort.partialIns lt64 a b (s + 1) i l.toArray = (l.toArray, true) := by
  rw [Sort.partialIns]; dsimp only; rw [h, if_pos rfl]
theorem parIns_false {l : List Nat} {a b s i k : Nat} (h : Sort.scanSorted lt64 l.toArray b i = k) (h1 : k ≠ b) (h2 : b - a < 50) : Sort.partialIns lt64 a b (s + 1) i l.toArray = (l.toArray, false) := by
  rw [Sort.partialIns]; dsimp only; rw [h, if_neg h1, if_pos h2]
theorem parIns_go {l l2 l3 : List Nat} {a b s i k : Nat} (h : Sort.scanSorted lt64 l.toArray b i = k) (h1 : k ≠ b) (h2 : ¬ b - a < 50) (h3 : (if k - a ≥ 2 then Sort.shiftDown lt64 (k - 1) (swl l k (k - 1)).toArray else (swl l k (k - 1)).toArray) = l2.toArray)
    (h4 : (if b - k ≥ 2 then Sort.shiftUp lt64 b (k + 1) l2.toArray else l2.toArray) = l3.toArray) : Sort.partialIns lt64 a b (s + 1) i l.toArray = Sort.partialIns lt64 a b s k l3.toArray := by
  rw [Sort.partialIns]; dsimp only; rw [h, if_neg h1, if_neg h2, swl_arr, h3, h4]
/-- Branches join at the end of a block. -/
theorem aw_joinB {P : Program} {N : Nat} {s : St} {X : Type} (J : X → St) (Inv : X → Prop) {c rest : Code} {i : Nat} {Q Q2 : Exit → St → Prop} (h : ∀ K : Exit → St → Prop, (∀ s x, Inv x → Wk N s (J x) → K .normal s) → AW P N c K s)
    (k : ∀ x, Inv x → AW P N rest Q (J x)) : AW P N c (blockK i (thenK (AW P N rest Q) Q2)) s := by
  refine AW.mono (h (fun e s => e = .normal ∧ ∃ x, Inv x ∧ Wk N s (J x)) fun s x hx hw => ⟨rfl, x, hx, hw⟩) ?_
  rintro e s ⟨rfl, x, hx, hw⟩
  exact aw_wk hw (k x hx)
set_option maxRecDepth 20000 in
set_option maxHeartbeats 40000000 in
theorem par_a (l : List Nat) (a b : Nat) (ha : a + 12 < b) (hb : b ≤ l.length) (hd : l.length < 1000000) : AC Tryz.prog 190 [slV l.length, .int .i64 a, .int .i64 b] [.live (flat hc l)] (OutS (.bool (Sort.partialInsertionSort lt64 l.toArray a b).2) (Sort.partialInsertionSort lt64 l.toArray a b).1) := by
  have hl := less_c
  unfold Sort.partialInsertionSort
  generalize hG0 : Sort.partialIns lt64 a b 5 (a + 1) l.toArray = G
  (refine enter Tryz.func190 Tryz.results190 Tryz.ntmps190 ty_ok (hw := fun F hF => ?_); simp only [List.length_cons, List.length_nil, Nat.reduceAdd, Nat.reduceSub, List.replicate_succ, List.replicate_zero, List.cons_append, List.nil_append]; apply hF; clear hF F)
  refine wks ?_
  refine aw_loopI (fun (x : Nat × Nat × List Nat) => ⟨((slV l.length) :: (.int .i64 a) :: (.int .i64 b) :: .any :: .any :: .any :: .any :: (.int .i64 x.2.1) :: (.int .i64 (5 - x.1 : Nat)) :: .any :: .any :: .any :: .any :: .any :: .any :: .any :: .any :: .any :: .any :: .any :: .any :: .any :: .any :: .any :: .any :: .any :: .any :: .any :: .any :: .any :: .any :: .any :: .any :: .any :: .any :: .any :: .any :: .any :: .any :: .any :: .any :: .any :: .any :: .any :: .any :: .any :: .any :: .any :: .any :: .any :: .any :: .any :: .any :: .any :: .any :: .any :: .any :: .any :: .any :: .any :: .any :: .any :: .any :: .any :: .any :: .any :: .any :: .any :: .any :: .any :: .any :: .any :: .any :: .any :: .any :: .any :: .any :: .any :: .any :: .any :: .any :: .any :: .any :: .any :: .any :: .any :: .any :: .any :: .any :: .any :: .any :: .any :: .any :: .any :: .any :: .any :: .any :: .any :: .any :: .any :: .any :: .any :: .any :: .any :: .any :: .any :: .any :: .any :: .any :: .any :: .any :: .any :: .any :: .any :: .any :: .any :: .any :: .any :: .any :: .any :: .any :: .any :: .any :: .any :: .any :: .any :: .any :: .any :: .any :: .any :: .any :: .any :: .any :: []), [.live (flat hc x.2.2)]⟩) (fun x => x.1 ≤ 5 ∧ a < x.2.1 ∧ x.2.1 ≤ b ∧ x.2.2.length = l.length ∧ G = Sort.partialIns lt64 a b x.1 x.2.1 x.2.2.toArray) (fun x => x.1) (5, a + 1, l) ⟨by dsimp only; omega, by dsimp only; omega, by dsimp only; omega, rfl, hG0.symm⟩ (by dsimp only; exact wkt [0]) ?_
  clear hG0
  rintro ⟨s, i, e⟩ ⟨h1, h2, h3, h4, h5⟩ K hK
  dsimp only at h1 h2 h3 h4 h5 ⊢
  cases s with
  | zero =>
    rw [show G = (e.toArray, false) from by rw [h5]; rfl]
    clear h5 hl
    refine wks ?_
    refine fin ?_
    exact ⟨rfl, rfl⟩
  | succ s =>
    refine wks ?_
    refine aw_loopI (fun (k : Nat) => ⟨((slV l.length) :: (.int .i64 a) :: (.int .i64 b) :: .any :: .any :: .any :: .any :: (.int .i64 k) :: (.int .i64 (5 - (s + 1) : Nat)) :: .any :: .any :: .any :: .any :: .any :: .any :: .any :: .any :: .any :: .any :: .any :: .any :: .any :: .any :: .any :: .any :: .any :: .any :: .any :: .any :: .any :: .any :: .any :: .any :: .any :: .any :: .any :: .any :: .any :: .any :: .any :: .any :: .any :: .any :: .any :: .any :: .any :: .any :: .any :: .any :: .any :: .any :: .any :: .any :: .any :: .any :: .any :: .any :: .any :: .any :: .any :: .any :: .any :: .any :: .any :: .any :: .any :: .any :: .any :: .any :: .any :: .any :: .any :: .any :: .any :: .any :: .any :: .any :: .any :: .any :: .any :: .any :: .any :: .any :: .any :: .any :: .any :: .any :: .any :: .any :: .any :: .any :: .any :: .any :: .any :: .any :: .any :: .any :: .any :: .any :: .any :: .any :: .any :: .any :: .any :: .any :: .any :: .any :: .any :: .any :: .any :: .any :: .any :: .any :: .any :: .any :: .any :: .any :: .any :: .any :: .any :: .any :: .any :: .any :: .any :: .any :: .any :: .any :: .any :: .any :: .any :: .any :: .any :: .any :: []), [.live (flat hc e)]⟩) (fun k => i ≤ k ∧ k ≤ b ∧ Sort.scanSorted lt64 e.toArray b i = Sort.scanSorted lt64 e.toArray b k) (fun k => b - k) i ⟨by omega, by omega, rfl⟩ (wkt [0]) ?_
    rintro k ⟨q1, q2, q3⟩ K1 hK1
    by_cases q4 : ∃ (_ : k < b), ¬ e[k] < e[k - 1]
    · obtain ⟨q5, q6⟩ := q4
      have hke : k < e.length := by omega
      have hke1 : k - 1 < e.length := by omega
      have q7 := hl (e[k]'hke) (e[k - 1]'hke1)
      have q9 := decide_eq_false q6
      have q8 := q3.trans (scanS_go q5 hke q6)
      clear hl q3 h5
      refine wks ?_
      exact hK1 _ (k + 1) ⟨by omega, by omega, q8⟩ (wkt [0]) (by omega)
    · have q8 := q3.trans (scanS_stop (by omega) (fun h => Classical.not_not.1 fun h2 => q4 ⟨h, h2⟩))
      refine aw_exitJ ⟨((slV l.length) :: (.int .i64 a) :: (.int .i64 b) :: .any :: .any :: .any :: .any :: (.int .i64 k) :: (.int .i64 (5 - (s + 1) : Nat)) :: .any :: .any :: .any :: .any :: .any :: .any :: .any :: .any :: .any :: .any :: .any :: .any :: .any :: .any :: .any :: .any :: .any :: .any :: .any :: .any :: .any :: .any :: .any :: .any :: .any :: .any :: .any :: .any :: .any :: .any :: .any :: .any :: .any :: .any :: .any :: .any :: .any :: .any :: .any :: .any :: .any :: .any :: .any :: .any :: .any :: .any :: .any :: .any :: .any :: .any :: .any :: .any :: .any :: .any :: .any :: .any :: .any :: .any :: .any :: .any :: .any :: .any :: .any :: .any :: .any :: .any :: .any :: .any :: .any :: .any :: .any :: .any :: .any :: .any :: .any :: .any :: .any :: .any :: .any :: .any :: .any :: .any :: .any :: .any :: .any :: .any :: .any :: .any :: .any :: .any :: .any :: .any :: .any :: .any :: .any :: .any :: .any :: .any :: .any :: .any :: .any :: .any :: .any :: .any :: .any :: .any :: .any :: .any :: .any :: .any :: .any :: .any :: .any :: .any :: .any :: .any :: .any :: .any :: .any :: .any :: .any :: .any :: .any :: .any :: []), [.live (flat hc e)]⟩ ?_ ?_
      · by_cases q5 : k < b
        · have hke : k < e.length := by omega
          have hke1 : k - 1 < e.length := by omega
          have q6 : e[k]'hke < e[k - 1]'hke1 := Classical.not_not.1 fun h2 => q4 ⟨q5, h2⟩
          have q7 := hl (e[k]'hke) (e[k - 1]'hke1)
          have q9 := decide_eq_true q6
          clear hl q3 q8 q4 h5
          refine wks ?_
          exact wkt [0]
        · clear hl q3 q8 q4 h5
          refine wks ?_
          exact wkt [0]
      · clear q3 q4
        by_cases t1 : k = b
        · rw [show G = (e.toArray, true) from by rw [h5, parIns_true (by rw [q8, t1])]]
          clear q8 h5 hl
          refine wks ?_
          refine fin ?_
          exact ⟨rfl, rfl⟩
        · by_cases t2 : b - a < 50
          · rw [show G = (e.toArray, false) from by rw [h5, parIns_false q8 t1 t2]]
            clear q8 h5 hl
            refine wks ?_
            refine fin ?_
            exact ⟨rfl, rfl⟩
          · have hke : k < e.length := by clear q8 h5; omega
            have hke1 : k - 1 < e.length := by clear q8 h5; omega
            have k6 := flat_swl (l := e) (i := k) (j := k - 1) hke hke1
            have hgo := fun l2 l3 => parIns_go (l := e) (l2 := l2) (l3 := l3) (a := a) (b := b) (s := s) (i := i) q8 t1 t2
            clear q8 hl
            refine wks ?_
            rw [k6]
            obtain ⟨e1, he1⟩ : ∃ e1, e1 = swl e k (k - 1) := ⟨_, rfl⟩
            have hl1 : e1.length = l.length := by rw [he1, swl_length]; exact h4
            rw [← he1]
            rw [← he1] at hgo
            clear k6 he1
            refine aw_joinR (fun (x : List Nat) => ⟨((slV l.length) :: (.int .i64 a) :: (.int .i64 b) :: .any :: .any :: .any :: .any :: (.int .i64 k) :: (.int .i64 (5 - (s + 1) : Nat)) :: .any :: .any :: .any :: .any :: .any :: .any :: .any :: .any :: .any :: .any :: .any :: .any :: .any :: .any :: .any :: .any :: .any :: .any :: .any :: .any :: .any :: .any :: .any :: .any :: .any :: .any :: .any :: .any :: .any :: .any :: .any :: .any :: .any :: .any :: .any :: .any :: .any :: .any :: .any :: .any :: .any :: .any :: .any :: .any :: .any :: .any :: .any :: .any :: .any :: .any :: .any :: .any :: .any :: .any :: .any :: .any :: .any :: .any :: .any :: .any :: .any :: .any :: .any :: .any :: .any :: .any :: .any :: .any :: .any :: .any :: .any :: .any :: .any :: .any :: .any :: .any :: .any :: .any :: .any :: .any :: .any :: .any :: .any :: .any :: .any :: .any :: .any :: .any :: .any :: .any :: .any :: .any :: .any :: .any :: .any :: .any :: .any :: .any :: .any :: .any :: .any :: .any :: .any :: .any :: .any :: .any :: .any :: .any :: .any :: .any :: .any :: .any :: .any :: .any :: .any :: .any :: .any :: .any :: .any :: .any :: .any :: .any :: .any :: .any :: []), [.live (flat hc x)]⟩) (fun x => x.length = l.length ∧ (if k - a ≥ 2 then Sort.shiftDown lt64 (k - 1) e1.toArray else e1.toArray) = x.toArray) (fun K3 hK3 => ?_) (fun e2 he2 => ?_)
            · clear hgo h5 hK
              by_cases c1 : k - a ≥ 2
              · rw [if_pos c1] at hK3
                refine wks ?_
                refine aw_loopI (fun (x : Nat × List Nat) => ⟨((slV l.length) :: (.int .i64 a) :: (.int .i64 b) :: .any :: .any :: .any :: .any :: (.int .i64 k) :: (.int .i64 (5 - (s + 1) : Nat)) :: (.int .i64 x.1) :: .any :: .any :: .any :: .any :: .any :: .any :: .any :: .any :: .any :: .any :: .any :: .any :: .any :: .any :: .any :: .any :: .any :: .any :: .any :: .any :: .any :: .any :: .any :: .any :: .any :: .any :: .any :: .any :: .any :: .any :: .any :: .any :: .any :: .any :: .any :: .any :: .any :: .any :: .any :: .any :: .any :: .any :: .any :: .any :: .any :: .any :: .any :: .any :: .any :: .any :: .any :: .any :: .any :: .any :: .any :: .any :: .any :: .any :: .any :: .any :: .any :: .any :: .any :: .any :: .any :: .any :: .any :: .any :: .any :: .any :: .any :: .any :: .any :: .any :: .any :: .any :: .any :: .any :: .any :: .any :: .any :: .any :: .any :: .any :: .any :: .any :: .any :: .any :: .any :: .any :: .any :: .any :: .any :: .any :: .any :: .any :: .any :: .any :: .any :: .any :: .any :: .any :: .any :: .any :: .any :: .any :: .any :: .any :: .any :: .any :: .any :: .any :: .any :: .any :: .any :: .any :: .any :: .any :: .any :: .any :: .any :: .any :: .any :: []), [.live (flat hc x.2)]⟩) (fun x => x.1 < b ∧ x.2.length = l.length ∧ Sort.shiftDown lt64 (k - 1) e1.toArray = Sort.shiftDown lt64 x.1 x.2.toArray) (fun x => x.1) (k - 1, e1) ⟨by dsimp only; omega, hl1, rfl⟩ (by dsimp only; exact wkt [0]) ?_
                rintro ⟨j, d⟩ ⟨d1, d2, d3⟩ K4 hK4
                dsimp only at d1 d2 d3 ⊢
                have hj : j < d.length := by omega
                have hj1 : j - 1 < d.length := by omega
                by_cases d4 : 1 ≤ j
                · have d7 := less_c (d[j]'hj) (d[j - 1]'hj1)
                  by_cases d5 : d[j]'hj < d[j - 1]'hj1
                  · have d6 := decide_eq_true d5
                    have d8 := d3.trans (shD_go d4 hj d5)
                    have k6 := flat_swl hj hj1
                    clear d3
                    refine wks ?_
                    refine hK4 _ (j - 1, swl d j (j - 1)) ⟨by dsimp only; omega, by dsimp only; rw [swl_length]; exact d2, d8⟩ ?_ (by dsimp only; omega)
                    rw [k6]
                    dsimp only
                    exact wkt [0]
                  · have d6 := decide_eq_false d5
                    have d8 := d3.trans (shD_stop hj fun _ => d5)
                    clear d3
                    refine wks ?_
                    exact hK3 _ d ⟨d2, d8⟩ (wkt [0])
                · have d8 := d3.trans (shD_stop hj fun h => absurd h d4)
                  clear d3
                  refine wks ?_
                  exact hK3 _ d ⟨d2, d8⟩ (wkt [0])
              · refine wks ?_
                exact hK3 _ e1 ⟨hl1, by rw [if_neg c1]⟩ (wkt [0])
            · obtain ⟨hl2, he2⟩ := he2
              try dsimp only
              have hgo2 := fun l3 => hgo e2 l3 he2
              clear hgo he2 hl1 e1
              refine wks ?_
              refine aw_joinB (fun (x : List Nat) => ⟨((slV l.length) :: (.int .i64 a) :: (.int .i64 b) :: .any :: .any :: .any :: .any :: (.int .i64 k) :: (.int .i64 (5 - (s + 1) : Nat)) :: .any :: .any :: .any :: .any :: .any :: .any :: .any :: .any :: .any :: .any :: .any :: .any :: .any :: .any :: .any :: .any :: .any :: .any :: .any :: .any :: .any :: .any :: .any :: .any :: .any :: .any :: .any :: .any :: .any :: .any :: .any :: .any :: .any :: .any :: .any :: .any :: .any :: .any :: .any :: .any :: .any :: .any :: .any :: .any :: .any :: .any :: .any :: .any :: .any :: .any :: .any :: .any :: .any :: .any :: .any :: .any :: .any :: .any :: .any :: .any :: .any :: .any :: .any :: .any :: .any :: .any :: .any :: .any :: .any :: .any :: .any :: .any :: .any :: .any :: .any :: .any :: .any :: .any :: .any :: .any :: .any :: .any :: .any :: .any :: .any :: .any :: .any :: .any :: .any :: .any :: .any :: .any :: .any :: .any :: .any :: .any :: .any :: .any :: .any :: .any :: .any :: .any :: .any :: .any :: .any :: .any :: .any :: .any :: .any :: .any :: .any :: .any :: .any :: .any :: .any :: .any :: .any :: .any :: .any :: .any :: .any :: .any :: .any :: .any :: []), [.live (flat hc x)]⟩) (fun x => x.length = l.length ∧ (if b - k ≥ 2 then Sort.shiftUp lt64 b (k + 1) e2.toArray else e2.toArray) = x.toArray) (fun K3 hK3 => ?_) (fun e3 he3 => ?_)
              · clear hgo2 h5 hK
                by_cases c1 : b - k ≥ 2
                · rw [if_pos c1] at hK3
                  refine wks ?_
                  refine aw_loopI (fun (x : Nat × List Nat) => ⟨((slV l.length) :: (.int .i64 a) :: (.int .i64 b) :: .any :: .any :: .any :: .any :: (.int .i64 k) :: (.int .i64 (5 - (s + 1) : Nat)) :: .any :: (.int .i64 x.1) :: .any :: .any :: .any :: .any :: .any :: .any :: .any :: .any :: .any :: .any :: .any :: .any :: .any :: .any :: .any :: .any :: .any :: .any :: .any :: .any :: .any :: .any :: .any :: .any :: .any :: .any :: .any :: .any :: .any :: .any :: .any :: .any :: .any :: .any :: .any :: .any :: .any :: .any :: .any :: .any :: .any :: .any :: .any :: .any :: .any :: .any :: .any :: .any :: .any :: .any :: .any :: .any :: .any :: .any :: .any :: .any :: .any :: .any :: .any :: .any :: .any :: .any :: .any :: .any :: .any :: .any :: .any :: .any :: .any :: .any :: .any :: .any :: .any :: .any :: .any :: .any :: .any :: .any :: .any :: .any :: .any :: .any :: .any :: .any :: .any :: .any :: .any :: .any :: .any :: .any :: .any :: .any :: .any :: .any :: .any :: .any :: .any :: .any :: .any :: .any :: .any :: .any :: .any :: .any :: .any :: .any :: .any :: .any :: .any :: .any :: .any :: .any :: .any :: .any :: .any :: .any :: .any :: .any :: .any :: .any :: .any :: .any :: []), [.live (flat hc x.2)]⟩) (fun x => k < x.1 ∧ x.1 ≤ b ∧ x.2.length = l.length ∧ Sort.shiftUp lt64 b (k + 1) e2.toArray = Sort.shiftUp lt64 b x.1 x.2.toArray) (fun x => b - x.1) (k + 1, e2) ⟨by dsimp only; omega, by dsimp only; omega, hl2, rfl⟩ (by dsimp only; exact wkt [0]) ?_
                  rintro ⟨j, d⟩ ⟨d0, d1, d2, d3⟩ K4 hK4
                  dsimp only at d0 d1 d2 d3 ⊢
                  by_cases d4 : j < b
                  · have hj : j < d.length := by omega
                    have hj1 : j - 1 < d.length := by omega
                    have d7 := less_c (d[j]'hj) (d[j - 1]'hj1)
                    by_cases d5 : d[j]'hj < d[j - 1]'hj1
                    · have d6 := decide_eq_true d5
                      have d8 := d3.trans (shU_go d4 hj d5)
                      have k6 := flat_swl hj hj1
                      clear d3
                      refine wks ?_
                      refine hK4 _ (j + 1, swl d j (j - 1)) ⟨by dsimp only; omega, by dsimp only; omega, by dsimp only; rw [swl_length]; exact d2, d8⟩ ?_ (by dsimp only; omega)
                      rw [k6]
                      dsimp only
                      exact wkt [0]
                    · have d6 := decide_eq_false d5
                      have d8 := d3.trans (shU_stop (by omega) fun _ => d5)
                      clear d3
                      refine wks ?_
                      exact hK3 _ d ⟨d2, d8⟩ (wkt [0])
                  · have d8 := d3.trans (shU_stop (by omega) fun h => absurd h d4)
                    clear d3
                    refine wks ?_
                    exact hK3 _ d ⟨d2, d8⟩ (wkt [0])
                · refine wks ?_
                  exact hK3 _ e2 ⟨hl2, by rw [if_neg c1]⟩ (wkt [0])
              · obtain ⟨hl3, he3⟩ := he3
                have hf := h5.trans (hgo2 e3 he3)
                clear hgo2 he3 h5
                try dsimp only
                refine wks ?_
                refine hK _ (s, k, e3) ⟨by dsimp only; omega, by dsimp only; omega, by dsimp only; omega, hl3, hf⟩ ?_ (by dsimp only; omega)
                try dsimp only
                exact wkt [0]
end Go.Abs
/- Sorting: the whole: plain laws and the walk. -/
namespace Go.Abs
open Go Go.Proofs

theorem swo64 : Sort.SWO lt64 := ⟨fun x => by simp [lt64], fun x y z h1 h2 => by simp [lt64] at *; omega, fun x y z h1 h2 => by simp [lt64] at *; omega⟩
theorem rev_size (l : List Nat) {a b : Nat} (h : a ≤ b) (hb : b ≤ l.length) : (Sort.reverseRange l.toArray a b).size = l.length := (Sort.reverseRange_holds (α := Nat) l.toArray a b h (by simpa using hb)).1
theorem ins_size (l : List Nat) {a b : Nat} (h : a ≤ b) (hb : b ≤ l.length) : (Sort.insertionSort lt64 l.toArray a b).size = l.length := (Sort.insertionSort_holds swo64 l.toArray a b h (by simpa using hb)).1.1
theorem heap_size (l : List Nat) {a b : Nat} (h : a ≤ b) (hb : b ≤ l.length) : (Sort.heapSort lt64 l.toArray a b).size = l.length := (Sort.heapSort_holds swo64 l.toArray a b h (by simpa using hb)).1.1
theorem part_ok (l : List Nat) {a b p : Nat} (h1 : a ≤ p) (h2 : p < b) (hb : b ≤ l.length) : a ≤ (Sort.partition lt64 l.toArray a b p).1 ∧ (Sort.partition lt64 l.toArray a b p).1 < b ∧ (Sort.partition lt64 l.toArray a b p).2.2.size = l.length := by
  have := Sort.partition_holds lt64 swo64 l.toArray a b p h1 h2 (by simpa using hb)
  exact ⟨this.1, this.2.1, this.2.2.1.1⟩
theorem partEq_ok (l : List Nat) {a b p : Nat} (h1 : a < b) (hb : b ≤ l.length) : a < (Sort.partitionEqual lt64 l.toArray a b p).1 ∧ (Sort.partitionEqual lt64 l.toArray a b p).1 ≤ b ∧ (Sort.partitionEqual lt64 l.toArray a b p).2.size = l.length := by
  unfold Sort.partitionEqual
  rw [swl_arr]
  have := Sort.partEqLoop_spec lt64 a b _ (a + 1) (b - 1) (swl l a p).toArray (Nat.le_refl _) (by omega) (by omega) (by omega) (by simpa [swl_length] using hb) (fun t h h2 => by omega) (fun t h h2 => by omega)
  refine ⟨this.1, this.2.1, ?_⟩
  rw [this.2.2.1.1]; simp [swl_length]
theorem shD_size : ∀ (j : Nat) (l : List Nat), (Sort.shiftDown lt64 j l.toArray).size = l.length
  | 0, l => rfl
  | j + 1, l => by
    rw [Sort.shiftDown]
    split
    · rfl
    · rw [swl_arr, shD_size j, swl_length]
theorem shU_size (b : Nat) : ∀ (n j : Nat) (l : List Nat), b - j ≤ n → (Sort.shiftUp lt64 b j l.toArray).size = l.length
  | 0, j, l, h => by rw [Sort.shiftUp, if_neg (by omega)]; rfl
  | n + 1, j, l, h => by
    rw [Sort.shiftUp]
    split
    · split
      · rfl
      · rw [swl_arr, shU_size b n _ _ (by omega), swl_length]
    · rfl
theorem parIns_size (a b : Nat) : ∀ (s i : Nat) (l : List Nat), (Sort.partialIns lt64 a b s i l.toArray).1.size = l.length
  | 0, i, l => rfl
  | s + 1, i, l => by
    obtain ⟨k, hk⟩ : ∃ k, Sort.scanSorted lt64 l.toArray b i = k := ⟨_, rfl⟩
    by_cases h1 : k = b
    · rw [parIns_true (by rw [hk, h1])]; rfl
    · by_cases h2 : b - a < 50
      · rw [parIns_false hk h1 h2]; rfl
      · obtain ⟨l2, e2⟩ : ∃ l2 : List Nat, (if k - a ≥ 2 then Sort.shiftDown lt64 (k - 1) (swl l k (k - 1)).toArray else (swl l k (k - 1)).toArray) = l2.toArray := ⟨_, (Array.toArray_toList).symm⟩
        obtain ⟨l3, e3⟩ : ∃ l3 : List Nat, (if b - k ≥ 2 then Sort.shiftUp lt64 b (k + 1) l2.toArray else l2.toArray) = l3.toArray := ⟨_, (Array.toArray_toList).symm⟩
        rw [parIns_go hk h1 h2 e2 e3, parIns_size a b s]
        have s2 : l2.length = l.length := by
          have : l2.toArray.size = l.length := by
            rw [← e2]; split
            · rw [shD_size, swl_length]
            · simp [swl_length]
          simpa using this
        have : l3.toArray.size = l.length := by
          rw [← e3]; split
          · rw [shU_size b _ _ _ (Nat.le_refl _), s2]
          · simpa using s2
        simpa using this
theorem par_size (l : List Nat) (a b : Nat) : (Sort.partialInsertionSort lt64 l.toArray a b).1.size = l.length := parIns_size a b 5 _ l

section
variable {e e1 e2 e3 e4 : List Nat} {a b limit limit1 pv mid : Nat} {wb wp : Bool} {c : Nat × Sort.Hint} {hint : Sort.Hint}
/-- What a round has done ahead of the partitions. -/
structure Round (e : List Nat) (a b limit : Nat) (wb wp : Bool) (e1 : List Nat) (limit1 : Nat) (c : Nat × Sort.Hint) (e2 : List Nat) (pv : Nat) (hint : Sort.Hint) : Prop where
  hA : ¬ b - a ≤ 12
  hL : ¬ limit = 0
  h1 : (if (!wb) = true then Sort.breakPatterns e.toArray a b else e.toArray) = e1.toArray
  hl : (if (!wb) = true then limit - 1 else limit) = limit1
  hc : Sort.choosePivot lt64 e1.toArray a b = c
  h2 : (if c.2 = .decreasing then Sort.reverseRange e1.toArray a b else e1.toArray) = e2.toArray
  hp : (if c.2 = .decreasing then b - 1 - (c.1 - a) else c.1) = pv
  hh : (if c.2 = .decreasing then Sort.Hint.increasing else c.2) = hint
/-- .. and whether it is sorted already. -/
def nearB (wb wp : Bool) (hint : Sort.Hint) (a b : Nat) (e2 : List Nat) : Array Nat × Bool := if (wb && wp && decide (hint = .increasing)) = true then Sort.partialInsertionSort lt64 e2.toArray a b else (e2.toArray, false)
variable (R : Round e a b limit wb wp e1 limit1 c e2 pv hint)
include R
theorem pdq_done (h : nearB wb wp hint a b e2 = (e3.toArray, true)) : Sort.pdq lt64 e.toArray a b limit wb wp = e3.toArray := by
  unfold nearB at h
  rw [Sort.pdq, if_neg R.hA, if_neg R.hL]
  dsimp only
  rw [R.h1, R.hc, R.h2, R.hh, h]
  rfl
theorem pdq_eqb (h : nearB wb wp hint a b e2 = (e3.toArray, false)) (h1 : 0 < a) (h2 : lt64 e3.toArray[a - 1]! e3.toArray[pv]! = false) (h3 : Sort.partitionEqual lt64 e3.toArray a b pv = (mid, e4.toArray)) (h4 : a < mid ∧ mid ≤ b) : Sort.pdq lt64 e.toArray a b limit wb wp = Sort.pdq lt64 e4.toArray mid b limit1 wb wp := by
  unfold nearB at h
  rw [Sort.pdq, if_neg R.hA, if_neg R.hL]
  dsimp only
  rw [R.h1, R.hl, R.hc, R.h2, R.hh, R.hp, h]
  dsimp only
  rw [if_neg (by simp), if_pos (by rw [h2]; simp [h1]), h3]
  dsimp only
  rw [dif_pos h4]
theorem pdq_left {ap : Bool} (h : nearB wb wp hint a b e2 = (e3.toArray, false)) (h1 : ¬ (0 < a ∧ lt64 e3.toArray[a - 1]! e3.toArray[pv]! = false)) (h3 : Sort.partition lt64 e3.toArray a b pv = (mid, ap, e4.toArray)) (h4 : a ≤ mid ∧ mid < b) (h5 : mid - a < b - mid) : Sort.pdq lt64 e.toArray a b limit wb wp = Sort.pdq lt64 (Sort.pdq lt64 e4.toArray a mid limit1 true true) (mid + 1) b limit1 (decide (mid - a ≥ (b - a) / 8)) ap := by
  unfold nearB at h
  rw [Sort.pdq, if_neg R.hA, if_neg R.hL]
  dsimp only
  rw [R.h1, R.hl, R.hc, R.h2, R.hh, R.hp, h]
  dsimp only
  rw [if_neg (by simp), if_neg (by simpa using h1), h3]
  dsimp only
  rw [dif_pos h4, if_pos h5]
theorem pdq_right {ap : Bool} (h : nearB wb wp hint a b e2 = (e3.toArray, false)) (h1 : ¬ (0 < a ∧ lt64 e3.toArray[a - 1]! e3.toArray[pv]! = false)) (h3 : Sort.partition lt64 e3.toArray a b pv = (mid, ap, e4.toArray)) (h4 : a ≤ mid ∧ mid < b) (h5 : ¬ mid - a < b - mid) : Sort.pdq lt64 e.toArray a b limit wb wp = Sort.pdq lt64 (Sort.pdq lt64 e4.toArray (mid + 1) b limit1 true true) a mid limit1 (decide (b - mid ≥ (b - a) / 8)) ap := by
  unfold nearB at h
  rw [Sort.pdq, if_neg R.hA, if_neg R.hL]
  dsimp only
  rw [R.h1, R.hl, R.hc, R.h2, R.hh, R.hp, h]
  dsimp only
  rw [if_neg (by simp), if_neg (by simpa using h1), h3]
  dsimp only
  rw [dif_pos h4, if_neg h5]
theorem round_ok (hb : b ≤ e.length) : e1.length = e.length ∧ e2.length = e.length ∧ a ≤ pv ∧ pv < b := by
  have hA := R.hA
  have s1 : e1.length = e.length := by
    have : e1.toArray.size = e.length := by
      rw [← R.h1]; split
      · rw [bp_size]
      · rfl
    simpa using this
  have s2 : e2.length = e.length := by
    have : e2.toArray.size = e.length := by
      rw [← R.h2]; split
      · rw [rev_size _ (by omega) (by omega), s1]
      · simpa using s1
    simpa using this
  have hp := Sort.choosePivot_holds lt64 e1.toArray a b (by omega)
  rw [R.hc] at hp
  have := R.hp
  refine ⟨s1, s2, ?_⟩
  split at this <;> omega
end
theorem near_size {wb wp : Bool} {hint : Sort.Hint} {a b : Nat} {e2 : List Nat} : (nearB wb wp hint a b e2).1.size = e2.length := by
  unfold nearB; split
  · rw [par_size]
  · rfl
theorem round_ex (e : List Nat) (a b limit : Nat) (wb wp : Bool) (hA : ¬ b - a ≤ 12) (hL : ¬ limit = 0) : ∃ e1 limit1 c e2 pv hint, Round e a b limit wb wp e1 limit1 c e2 pv hint := by
  obtain ⟨e1, h1⟩ : ∃ e1 : List Nat, (if (!wb) = true then Sort.breakPatterns e.toArray a b else e.toArray) = e1.toArray := ⟨_, (Array.toArray_toList).symm⟩
  obtain ⟨e2, h2⟩ : ∃ e2 : List Nat, (if (Sort.choosePivot lt64 e1.toArray a b).2 = .decreasing then Sort.reverseRange e1.toArray a b else e1.toArray) = e2.toArray := ⟨_, (Array.toArray_toList).symm⟩
  exact ⟨e1, _, _, e2, _, _, ⟨hA, hL, h1, rfl, rfl, h2, rfl, rfl⟩⟩
theorem pdq_size : ∀ (n : Nat) (e : List Nat) (a b limit : Nat) (wb wp : Bool), b - a ≤ n → a ≤ b → b ≤ e.length → (Sort.pdq lt64 e.toArray a b limit wb wp).size = e.length
  | n, e, a, b, limit, wb, wp, hn, hab, hb => by
    by_cases hA : b - a ≤ 12
    · rw [Sort.pdq, if_pos hA, ins_size e hab hb]
    · by_cases hL : limit = 0
      · rw [Sort.pdq, if_neg hA, if_pos hL, heap_size e hab hb]
      · cases n with
        | zero => omega
        | succ n =>
          obtain ⟨e1, limit1, c, e2, pv, hint, R⟩ := round_ex e a b limit wb wp hA hL
          obtain ⟨s1, s2, p1, p2⟩ := round_ok R hb
          obtain ⟨e3, h3⟩ : ∃ e3 : List Nat, (nearB wb wp hint a b e2).1 = e3.toArray := ⟨_, (Array.toArray_toList).symm⟩
          have s3 : e3.length = e.length := by
            have : e3.toArray.size = e.length := by rw [← h3, near_size, s2]
            simpa using this
          cases hd : (nearB wb wp hint a b e2).2 with
          | true =>
            rw [pdq_done R (e3 := e3) (Prod.ext h3 hd)]
            simpa using s3
          | false =>
            have hN : nearB wb wp hint a b e2 = (e3.toArray, false) := Prod.ext h3 hd
            by_cases hq : 0 < a ∧ lt64 e3.toArray[a - 1]! e3.toArray[pv]! = false
            · obtain ⟨m1, m2, m3⟩ := partEq_ok e3 (a := a) (b := b) (p := pv) (by omega) (by omega)
              obtain ⟨e4, h4⟩ : ∃ e4 : List Nat, (Sort.partitionEqual lt64 e3.toArray a b pv).2 = e4.toArray := ⟨_, (Array.toArray_toList).symm⟩
              have s4 : e4.length = e.length := by
                have : e4.toArray.size = e.length := by rw [← h4, m3, s3]
                simpa using this
              rw [pdq_eqb R hN hq.1 hq.2 (mid := (Sort.partitionEqual lt64 e3.toArray a b pv).1) (e4 := e4) (Prod.ext rfl h4) ⟨m1, m2⟩, pdq_size n _ _ _ _ _ _ (by omega) (by omega) (by omega), s4]
            · obtain ⟨m1, m2, m3⟩ := part_ok e3 (a := a) (b := b) (p := pv) p1 p2 (by omega)
              obtain ⟨e4, h4⟩ : ∃ e4 : List Nat, (Sort.partition lt64 e3.toArray a b pv).2.2 = e4.toArray := ⟨_, (Array.toArray_toList).symm⟩
              have s4 : e4.length = e.length := by
                have : e4.toArray.size = e.length := by rw [← h4, m3, s3]
                simpa using this
              obtain ⟨mid, hm⟩ : ∃ mid, (Sort.partition lt64 e3.toArray a b pv).1 = mid := ⟨_, rfl⟩
              rw [hm] at m1 m2
              have hP : Sort.partition lt64 e3.toArray a b pv = (mid, (Sort.partition lt64 e3.toArray a b pv).2.1, e4.toArray) := Prod.ext hm (Prod.ext rfl h4)
              by_cases h5 : mid - a < b - mid
              · obtain ⟨e5, he5⟩ : ∃ e5 : List Nat, Sort.pdq lt64 e4.toArray a mid limit1 true true = e5.toArray := ⟨_, (Array.toArray_toList).symm⟩
                have s5 : e5.length = e.length := by
                  have : e5.toArray.size = e.length := by rw [← he5, pdq_size n _ _ _ _ _ _ (by omega) (by omega) (by omega), s4]
                  simpa using this
                rw [pdq_left R hN hq hP ⟨m1, m2⟩ h5, he5, pdq_size n _ _ _ _ _ _ (by omega) (by omega) (by omega), s5]
              · obtain ⟨e5, he5⟩ : ∃ e5 : List Nat, Sort.pdq lt64 e4.toArray (mid + 1) b limit1 true true = e5.toArray := ⟨_, (Array.toArray_toList).symm⟩
                have s5 : e5.length = e.length := by
                  have : e5.toArray.size = e.length := by rw [← he5, pdq_size n _ _ _ _ _ _ (by omega) (by omega) (by omega), s4]
                  simpa using this
                rw [pdq_right R hN hq hP ⟨m1, m2⟩ h5, he5, pdq_size n _ _ _ _ _ _ (by omega) (by omega) (by omega), s5]
end Go.Abs
