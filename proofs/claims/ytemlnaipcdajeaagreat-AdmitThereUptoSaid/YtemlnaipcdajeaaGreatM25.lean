/- Sorting: the partitions: the walks. -/
import Derived.Test.YtemlnaipcdajeaaGreatM24
set_option linter.unusedVariables false
set_option linter.unusedSimpArgs false
namespace Go.Abs
open Go Go.Proofs

theorem scanUp_go {p : Nat → Bool} {l : List Nat} {j i : Nat} (h1 : i ≤ j) (hi : i < l.length) (h2 : p l[i] = true) : Sort.scanUp p l.toArray j i = Sort.scanUp p l.toArray j (i + 1) := by
  rw [Sort.scanUp, if_pos]
  rw [arr_at hi, h2]; simp [h1]
theorem scanUp_stop {p : Nat → Bool} {l : List Nat} {j i : Nat} (hj : j < l.length) (h : ∀ h1 : i ≤ j, p (l[i]'(by omega)) = false) : Sort.scanUp p l.toArray j i = i := by
  rw [Sort.scanUp, if_neg]
  intro h2
  rw [Bool.and_eq_true, decide_eq_true_eq] at h2
  rw [arr_at (by omega), h h2.1] at h2
  cases h2.2
theorem scanDown_go {p : Nat → Bool} {l : List Nat} {i k : Nat} (h0 : 0 < k) (h1 : i ≤ k) (hk : k < l.length) (h2 : p l[k] = true) : Sort.scanDown p l.toArray i k = Sort.scanDown p l.toArray i (k - 1) := by
  obtain ⟨m, rfl⟩ : ∃ m, k = m + 1 := ⟨k - 1, by omega⟩
  rw [Nat.add_sub_cancel, Sort.scanDown, if_pos]
  rw [arr_at hk, h2]; simp [h1]
theorem scanDown_stop {p : Nat → Bool} {l : List Nat} {i k : Nat} (hk : k < l.length) (h : ∀ h1 : i ≤ k, p l[k] = false) : Sort.scanDown p l.toArray i k = k := by
  cases k with
  | zero => rfl
  | succ m =>
    rw [Sort.scanDown, if_neg]
    intro h2
    rw [Bool.and_eq_true, decide_eq_true_eq] at h2
    rw [arr_at hk, h h2.1] at h2
    cases h2.2
abbrev pUE (l : List Nat) (a : Nat) : Nat → Bool := fun x => !lt64 l.toArray[a]! x
abbrev pDE (l : List Nat) (a : Nat) : Nat → Bool := fun x => lt64 l.toArray[a]! x
abbrev pUP (l : List Nat) (a : Nat) : Nat → Bool := fun x => lt64 x l.toArray[a]!
abbrev pDP (l : List Nat) (a : Nat) : Nat → Bool := fun x => !lt64 x l.toArray[a]!
theorem pUE_at {l : List Nat} {a : Nat} (h : a < l.length) (x : Nat) : pUE l a x = !decide (l[a] < x) := by unfold pUE; rw [arr_at h]
theorem pDE_at {l : List Nat} {a : Nat} (h : a < l.length) (x : Nat) : pDE l a x = decide (l[a] < x) := by unfold pDE; rw [arr_at h]
theorem pUP_at {l : List Nat} {a : Nat} (h : a < l.length) (x : Nat) : pUP l a x = decide (x < l[a]) := by unfold pUP; rw [arr_at h]
theorem pDP_at {l : List Nat} {a : Nat} (h : a < l.length) (x : Nat) : pDP l a x = !decide (x < l[a]) := by unfold pDP; rw [arr_at h]
theorem partEq_stop {l : List Nat} {a i j i2 j2 : Nat} (h1 : Sort.scanUp (pUE l a) l.toArray j i = i2) (h2 : Sort.scanDown (pDE l a) l.toArray i2 j = j2) (h3 : i2 > j2) : Sort.partEqLoop lt64 a i j l.toArray = (i2, l.toArray) := by
  rw [Sort.partEqLoop]
  unfold pUE at h1
  unfold pDE at h2
  simp only [h1, h2, if_pos h3]
theorem partEq_go {l : List Nat} {a i j i2 j2 : Nat} (h1 : Sort.scanUp (pUE l a) l.toArray j i = i2) (h2 : Sort.scanDown (pDE l a) l.toArray i2 j = j2) (h3 : ¬ i2 > j2) (h4 : i ≤ i2) (h5 : j2 ≤ j) (h6 : 0 < j2) : Sort.partEqLoop lt64 a i j l.toArray = Sort.partEqLoop lt64 a (i2 + 1) (j2 - 1) (swl l i2 j2).toArray := by
  rw [Sort.partEqLoop]
  unfold pUE at h1
  unfold pDE at h2
  simp only [h1, h2, if_neg h3]
  rw [dif_pos (by omega), swl_arr]
set_option maxHeartbeats 40000000 in
theorem partEq_a (l : List Nat) (a b pv : Nat) (ha : a < b) (hb : b ≤ l.length) (hp : pv < l.length) (hd : l.length < 1000000) : AC Tryz.prog 192 [slV l.length, .int .i64 a, .int .i64 b, .int .i64 pv] [.live (flat hc l)] (OutS (.int .i64 ((Sort.partitionEqual lt64 l.toArray a b pv).1 : Nat)) (Sort.partitionEqual lt64 l.toArray a b pv).2) := by
  have hl := less_c
  have k0 := flat_swl (l := l) (i := a) (j := pv) (by omega) hp
  have hal : a < l.length := by omega
  (refine enter Tryz.func192 Tryz.results192 Tryz.ntmps192 ty_ok (hw := fun F hF => ?_); simp only [List.length_cons, List.length_nil, Nat.reduceAdd, Nat.reduceSub, List.replicate_succ, List.replicate_zero, List.cons_append, List.nil_append]; apply hF; clear hF F)
  refine wks ?_
  refine aw_loopI (fun (x : Nat × Nat × List Nat) => ⟨((slV l.length) :: (.int .i64 a) :: (.int .i64 b) :: .any :: .any :: .any :: .any :: .any :: .any :: (.int .i64 x.1) :: (.int .i64 x.2.1) :: .any :: .any :: .any :: .any :: .any :: .any :: .any :: .any :: .any :: .any :: .any :: .any :: .any :: .any :: .any :: .any :: .any :: .any :: .any :: .any :: .any :: .any :: .any :: .any :: .any :: .any :: .any :: .any :: .any :: .any :: .any :: .any :: .any :: .any :: .any :: .any :: .any :: .any :: .any :: .any :: .any :: .any :: .any :: .any :: .any :: .any :: .any :: .any :: .any :: .any :: .any :: .any :: .any :: .any :: .any :: .any :: .any :: .any :: .any :: .any :: .any :: .any :: .any :: .any :: .any :: .any :: .any :: .any :: .any :: .any :: .any :: .any :: .any :: []), [.live (flat hc x.2.2)]⟩) (fun x => a < x.1 ∧ x.1 ≤ x.2.1 + 1 ∧ x.2.1 < b ∧ x.2.2.length = l.length ∧ Sort.partitionEqual lt64 l.toArray a b pv = Sort.partEqLoop lt64 a x.1 x.2.1 x.2.2.toArray) (fun x => x.2.1 + 1 - x.1) (a + 1, b - 1, swl l a pv) ⟨by dsimp only; omega, by dsimp only; omega, by dsimp only; omega, swl_length _ _ _, by unfold Sort.partitionEqual; rw [swl_arr]⟩ (by rw [k0]; dsimp only; exact wkt [0]) ?_
  rintro ⟨i, j, e⟩ ⟨h1, h2, h3, h4, h5⟩ K hK
  dsimp only at h1 h2 h3 h4 h5 ⊢
  have hae : a < e.length := by omega
  have hje : j < e.length := by omega
  refine wks ?_
  refine aw_loopI (fun (k : Nat) => ⟨((slV l.length) :: (.int .i64 a) :: (.int .i64 b) :: .any :: .any :: .any :: .any :: .any :: .any :: (.int .i64 k) :: (.int .i64 j) :: .any :: .any :: .any :: .any :: .any :: .any :: .any :: .any :: .any :: .any :: .any :: .any :: .any :: .any :: .any :: .any :: .any :: .any :: .any :: .any :: .any :: .any :: .any :: .any :: .any :: .any :: .any :: .any :: .any :: .any :: .any :: .any :: .any :: .any :: .any :: .any :: .any :: .any :: .any :: .any :: .any :: .any :: .any :: .any :: .any :: .any :: .any :: .any :: .any :: .any :: .any :: .any :: .any :: .any :: .any :: .any :: .any :: .any :: .any :: .any :: .any :: .any :: .any :: .any :: .any :: .any :: .any :: .any :: .any :: .any :: .any :: .any :: .any :: []), [.live (flat hc e)]⟩) (fun k => i ≤ k ∧ k ≤ j + 1 ∧ Sort.scanUp (pUE e a) e.toArray j i = Sort.scanUp (pUE e a) e.toArray j k) (fun k => j + 1 - k) i ⟨by omega, by omega, rfl⟩ (wkt [0]) ?_
  rintro k ⟨q1, q2, q3⟩ K1 hK1
  by_cases q4 : ∃ (_ : k ≤ j), ¬ e[a] < e[k]
  · obtain ⟨q5, q6⟩ := q4
    have hke : k < e.length := by omega
    have q7 := hl e[a] (e[k]'hke)
    have q9 := decide_eq_false q6
    have q8 := q3.trans (scanUp_go q5 (by omega) (by rw [pUE_at hae, decide_eq_false q6]; rfl))
    clear hl q3 h5
    refine wks ?_
    exact hK1 _ (k + 1) ⟨by omega, by omega, q8⟩ (wkt [0]) (by omega)
  · have q8 := q3.trans (scanUp_stop hje (fun h => by rw [pUE_at hae, decide_eq_true (Classical.not_not.1 fun h2 => q4 ⟨h, h2⟩)]; rfl))
    refine aw_exitJ ⟨((slV l.length) :: (.int .i64 a) :: (.int .i64 b) :: .any :: .any :: .any :: .any :: .any :: .any :: (.int .i64 k) :: (.int .i64 j) :: .any :: .any :: .any :: .any :: .any :: .any :: .any :: .any :: .any :: .any :: .any :: .any :: .any :: .any :: .any :: .any :: .any :: .any :: .any :: .any :: .any :: .any :: .any :: .any :: .any :: .any :: .any :: .any :: .any :: .any :: .any :: .any :: .any :: .any :: .any :: .any :: .any :: .any :: .any :: .any :: .any :: .any :: .any :: .any :: .any :: .any :: .any :: .any :: .any :: .any :: .any :: .any :: .any :: .any :: .any :: .any :: .any :: .any :: .any :: .any :: .any :: .any :: .any :: .any :: .any :: .any :: .any :: .any :: .any :: .any :: .any :: .any :: .any :: []), [.live (flat hc e)]⟩ ?_ ?_
    · by_cases q5 : k ≤ j
      · have hke : k < e.length := by omega
        have q6 : e[a] < e[k]'hke := Classical.not_not.1 fun h2 => q4 ⟨q5, h2⟩
        have q7 := hl e[a] (e[k]'hke)
        have q9 := decide_eq_true q6
        clear hl q3 q8 h5 q4
        refine wks ?_
        exact wkt [0]
      · clear hl q3 q8 h5 q4
        refine wks ?_
        exact wkt [0]
    · clear q3
      refine wks ?_
      refine aw_loopI (fun (m : Nat) => ⟨((slV l.length) :: (.int .i64 a) :: (.int .i64 b) :: .any :: .any :: .any :: .any :: .any :: .any :: (.int .i64 k) :: (.int .i64 m) :: .any :: .any :: .any :: .any :: .any :: .any :: .any :: .any :: .any :: .any :: .any :: .any :: .any :: .any :: .any :: .any :: .any :: .any :: .any :: .any :: .any :: .any :: .any :: .any :: .any :: .any :: .any :: .any :: .any :: .any :: .any :: .any :: .any :: .any :: .any :: .any :: .any :: .any :: .any :: .any :: .any :: .any :: .any :: .any :: .any :: .any :: .any :: .any :: .any :: .any :: .any :: .any :: .any :: .any :: .any :: .any :: .any :: .any :: .any :: .any :: .any :: .any :: .any :: .any :: .any :: .any :: .any :: .any :: .any :: .any :: .any :: .any :: .any :: []), [.live (flat hc e)]⟩) (fun m => m ≤ j ∧ k ≤ m + 1 ∧ Sort.scanDown (pDE e a) e.toArray k j = Sort.scanDown (pDE e a) e.toArray k m) (fun m => m) j ⟨by omega, by omega, rfl⟩ (wkt [0]) ?_
      rintro m ⟨r1, r2, r3⟩ K2 hK2
      have hme : m < e.length := by omega
      by_cases r4 : ∃ (_ : k ≤ m), e[a] < e[m]
      · obtain ⟨r5, r6⟩ := r4
        have r7 := hl e[a] e[m]
        have r9 := decide_eq_true r6
        have r8 := r3.trans (scanDown_go (by omega) r5 hme (by rw [pDE_at hae, decide_eq_true r6]))
        clear hl r3 h5 q8
        refine wks ?_
        exact hK2 _ (m - 1) ⟨by omega, by omega, r8⟩ (wkt [0]) (by omega)
      · have r8 := r3.trans (scanDown_stop hme (fun h => by rw [pDE_at hae, decide_eq_false (fun h2 => r4 ⟨h, h2⟩)]))
        refine aw_exitJ ⟨((slV l.length) :: (.int .i64 a) :: (.int .i64 b) :: .any :: .any :: .any :: .any :: .any :: .any :: (.int .i64 k) :: (.int .i64 m) :: .any :: .any :: .any :: .any :: .any :: .any :: .any :: .any :: .any :: .any :: .any :: .any :: .any :: .any :: .any :: .any :: .any :: .any :: .any :: .any :: .any :: .any :: .any :: .any :: .any :: .any :: .any :: .any :: .any :: .any :: .any :: .any :: .any :: .any :: .any :: .any :: .any :: .any :: .any :: .any :: .any :: .any :: .any :: .any :: .any :: .any :: .any :: .any :: .any :: .any :: .any :: .any :: .any :: .any :: .any :: .any :: .any :: .any :: .any :: .any :: .any :: .any :: .any :: .any :: .any :: .any :: .any :: .any :: .any :: .any :: .any :: .any :: .any :: []), [.live (flat hc e)]⟩ ?_ ?_
        · by_cases r5 : k ≤ m
          · have r6 : ¬ e[a] < e[m] := fun h2 => r4 ⟨r5, h2⟩
            have r7 := hl e[a] e[m]
            have r9 := decide_eq_false r6
            clear hl r3 r8 h5 r4 q8
            refine wks ?_
            exact wkt [0]
          · clear hl r3 r8 h5 r4 q8
            refine wks ?_
            exact wkt [0]
        · have hkm : k ≤ m → k < m := fun hh => by
            have hke : k < e.length := by omega
            have a1 : e[a] < e[k]'hke := Classical.not_not.1 fun h2 => q4 ⟨by omega, h2⟩
            have a2 : ¬ e[a] < e[m] := fun h2 => r4 ⟨hh, h2⟩
            rcases Nat.lt_or_eq_of_le hh with h | h
            · exact h
            · subst h; exact absurd a1 a2
          clear r3 r4 q4
          by_cases t1 : k > m
          · rw [h5, partEq_stop q8 r8 t1]
            clear q8 r8 h5 hl
            refine wks ?_
            refine fin ?_
            exact ⟨rfl, rfl⟩
          · have t2 := partEq_go q8 r8 t1 q1 r1 (by omega)
            have k6 := flat_swl (l := e) (i := k) (j := m) (by omega) hme
            clear hl
            refine wks ?_
            refine hK _ (k + 1, m - 1, swl e k m) ⟨by dsimp only; omega, by dsimp only; omega, by dsimp only; omega, by dsimp only; rw [swl_length]; exact h4, by dsimp only; rw [h5, t2]⟩ ?_ (by dsimp only; omega)
            rw [k6]
            dsimp only
            exact wkt [0]
end Go.Abs
/- Sorting: the partition: the walk (printed by genS6.py). -/
namespace Go.Abs
open Go Go.Proofs

theorem partP_stop {l : List Nat} {a i j i2 j2 : Nat} (h1 : Sort.scanUp (pUP l a) l.toArray j i = i2) (h2 : Sort.scanDown (pDP l a) l.toArray i2 j = j2) (h3 : i2 > j2) : Sort.partLoop lt64 a i j l.toArray = (j2, l.toArray) := by
  rw [Sort.partLoop]
  unfold pUP at h1
  unfold pDP at h2
  simp only [h1, h2, if_pos h3]
theorem partP_go {l : List Nat} {a i j i2 j2 : Nat} (h1 : Sort.scanUp (pUP l a) l.toArray j i = i2) (h2 : Sort.scanDown (pDP l a) l.toArray i2 j = j2) (h3 : ¬ i2 > j2) (h4 : i ≤ i2) (h5 : j2 ≤ j) (h6 : 0 < j2) : Sort.partLoop lt64 a i j l.toArray = Sort.partLoop lt64 a (i2 + 1) (j2 - 1) (swl l i2 j2).toArray := by
  rw [Sort.partLoop]
  unfold pUP at h1
  unfold pDP at h2
  simp only [h1, h2, if_neg h3]
  rw [dif_pos (by omega), swl_arr]
set_option maxRecDepth 20000 in
set_option maxHeartbeats 40000000 in
theorem part_a (l : List Nat) (a b pv : Nat) (ha : a < b) (hb : b ≤ l.length) (hp : pv < l.length) (hd : l.length < 1000000) : AC Tryz.prog 193 [slV l.length, .int .i64 a, .int .i64 b, .int .i64 pv] [.live (flat hc l)] (OutS (.tup [.int .i64 ((Sort.partition lt64 l.toArray a b pv).1 : Nat), .bool (Sort.partition lt64 l.toArray a b pv).2.1]) (Sort.partition lt64 l.toArray a b pv).2.2) := by
  have hl := less_c
  have k0 := flat_swl (l := l) (i := a) (j := pv) (by omega) hp
  have hal : a < l.length := by omega
  generalize hG0 : Sort.partition lt64 l.toArray a b pv = G
  (refine enter Tryz.func193 Tryz.results193 Tryz.ntmps193 ty_ok (hw := fun F hF => ?_); simp only [List.length_cons, List.length_nil, Nat.reduceAdd, Nat.reduceSub, List.replicate_succ, List.replicate_zero, List.cons_append, List.nil_append]; apply hF; clear hF F)
  refine wks ?_
  rw [k0]
  obtain ⟨e, he⟩ : ∃ e, e = swl l a pv := ⟨_, rfl⟩
  have h4 : e.length = l.length := by rw [he, swl_length]
  rw [← he]
  clear k0
  obtain ⟨i, hi⟩ : ∃ i, i = a + 1 := ⟨_, rfl⟩
  obtain ⟨j, hj⟩ : ∃ j, j = b - 1 := ⟨_, rfl⟩
  rw [← hi, ← hj]
  have h1 : a < i := by omega
  have h2 : i ≤ j + 1 := by omega
  have h3 : j < b := by omega
  have hae : a < e.length := by omega
  have hje : j < e.length := by omega
  refine aw_loopI (fun (k : Nat) => ⟨((slV l.length) :: (.int .i64 a) :: (.int .i64 b) :: .any :: .any :: .any :: .any :: .any :: .any :: .any :: (.int .i64 (k : Nat)) :: (.int .i64 (j : Nat)) :: .any :: .any :: .any :: .any :: .any :: .any :: .any :: .any :: .any :: .any :: .any :: .any :: .any :: .any :: .any :: .any :: .any :: .any :: .any :: .any :: .any :: .any :: .any :: .any :: .any :: .any :: .any :: .any :: .any :: .any :: .any :: .any :: .any :: .any :: .any :: .any :: .any :: .any :: .any :: .any :: .any :: .any :: .any :: .any :: .any :: .any :: .any :: .any :: .any :: .any :: .any :: .any :: .any :: .any :: .any :: .any :: .any :: .any :: .any :: .any :: .any :: .any :: .any :: .any :: .any :: .any :: .any :: .any :: .any :: .any :: .any :: .any :: .any :: .any :: .any :: .any :: .any :: .any :: .any :: .any :: .any :: .any :: .any :: .any :: .any :: .any :: .any :: .any :: .any :: .any :: .any :: .any :: .any :: .any :: .any :: .any :: .any :: .any :: .any :: .any :: .any :: .any :: .any :: .any :: .any :: .any :: .any :: .any :: .any :: .any :: .any :: .any :: .any :: .any :: .any :: .any :: .any :: .any :: .any :: .any :: .any :: .any :: .any :: .any :: .any :: .any :: .any :: .any :: .any :: .any :: .any :: .any :: .any :: .any :: .any :: .any :: .any :: .any :: .any :: .any :: .any :: .any :: .any :: .any :: .any :: .any :: .any :: .any :: .any :: .any :: .any :: .any :: .any :: .any :: .any :: .any :: []), [.live (flat hc e)]⟩) (fun k => i ≤ k ∧ k ≤ j + 1 ∧ Sort.scanUp (pUP e a) e.toArray j i = Sort.scanUp (pUP e a) e.toArray j k) (fun k => j + 1 - k) i ⟨by omega, by omega, rfl⟩ (wkt [0]) ?_
  rintro k ⟨q1, q2, q3⟩ K1 hK1
  by_cases q4 : ∃ (_ : k ≤ j), e[k] < e[a]
  · obtain ⟨q5, q6⟩ := q4
    have hke : k < e.length := by omega
    have q7 := hl (e[k]'hke) e[a]
    have q9 := decide_eq_true q6
    have q8 := q3.trans (scanUp_go q5 (by omega) (by rw [pUP_at hae, decide_eq_true q6]))
    clear hl q3 hG0 he
    refine wks ?_
    exact hK1 _ (k + 1) ⟨by omega, by omega, q8⟩ (wkt [0]) (by omega)
  · have q8 := q3.trans (scanUp_stop hje (fun h => by rw [pUP_at hae, decide_eq_false (fun h2 => q4 ⟨h, h2⟩)]))
    refine aw_exitJ ⟨((slV l.length) :: (.int .i64 a) :: (.int .i64 b) :: .any :: .any :: .any :: .any :: .any :: .any :: .any :: (.int .i64 (k : Nat)) :: (.int .i64 (j : Nat)) :: .any :: .any :: .any :: .any :: .any :: .any :: .any :: .any :: .any :: .any :: .any :: .any :: .any :: .any :: .any :: .any :: .any :: .any :: .any :: .any :: .any :: .any :: .any :: .any :: .any :: .any :: .any :: .any :: .any :: .any :: .any :: .any :: .any :: .any :: .any :: .any :: .any :: .any :: .any :: .any :: .any :: .any :: .any :: .any :: .any :: .any :: .any :: .any :: .any :: .any :: .any :: .any :: .any :: .any :: .any :: .any :: .any :: .any :: .any :: .any :: .any :: .any :: .any :: .any :: .any :: .any :: .any :: .any :: .any :: .any :: .any :: .any :: .any :: .any :: .any :: .any :: .any :: .any :: .any :: .any :: .any :: .any :: .any :: .any :: .any :: .any :: .any :: .any :: .any :: .any :: .any :: .any :: .any :: .any :: .any :: .any :: .any :: .any :: .any :: .any :: .any :: .any :: .any :: .any :: .any :: .any :: .any :: .any :: .any :: .any :: .any :: .any :: .any :: .any :: .any :: .any :: .any :: .any :: .any :: .any :: .any :: .any :: .any :: .any :: .any :: .any :: .any :: .any :: .any :: .any :: .any :: .any :: .any :: .any :: .any :: .any :: .any :: .any :: .any :: .any :: .any :: .any :: .any :: .any :: .any :: .any :: .any :: .any :: .any :: .any :: .any :: .any :: .any :: .any :: .any :: .any :: []), [.live (flat hc e)]⟩ ?_ ?_
    · by_cases q5 : k ≤ j
      · have hke : k < e.length := by omega
        have q6 : ¬ e[k]'hke < e[a] := fun h2 => q4 ⟨q5, h2⟩
        have q7 := hl (e[k]'hke) e[a]
        have q9 := decide_eq_false q6
        clear hl q3 q8 q4 hG0 he
        refine wks ?_
        exact wkt [0]
      · clear hl q3 q8 q4 hG0 he
        refine wks ?_
        exact wkt [0]
    · clear q3
      refine wks ?_
      refine aw_loopI (fun (m : Nat) => ⟨((slV l.length) :: (.int .i64 a) :: (.int .i64 b) :: .any :: .any :: .any :: .any :: .any :: .any :: .any :: (.int .i64 (k : Nat)) :: (.int .i64 (m : Nat)) :: .any :: .any :: .any :: .any :: .any :: .any :: .any :: .any :: .any :: .any :: .any :: .any :: .any :: .any :: .any :: .any :: .any :: .any :: .any :: .any :: .any :: .any :: .any :: .any :: .any :: .any :: .any :: .any :: .any :: .any :: .any :: .any :: .any :: .any :: .any :: .any :: .any :: .any :: .any :: .any :: .any :: .any :: .any :: .any :: .any :: .any :: .any :: .any :: .any :: .any :: .any :: .any :: .any :: .any :: .any :: .any :: .any :: .any :: .any :: .any :: .any :: .any :: .any :: .any :: .any :: .any :: .any :: .any :: .any :: .any :: .any :: .any :: .any :: .any :: .any :: .any :: .any :: .any :: .any :: .any :: .any :: .any :: .any :: .any :: .any :: .any :: .any :: .any :: .any :: .any :: .any :: .any :: .any :: .any :: .any :: .any :: .any :: .any :: .any :: .any :: .any :: .any :: .any :: .any :: .any :: .any :: .any :: .any :: .any :: .any :: .any :: .any :: .any :: .any :: .any :: .any :: .any :: .any :: .any :: .any :: .any :: .any :: .any :: .any :: .any :: .any :: .any :: .any :: .any :: .any :: .any :: .any :: .any :: .any :: .any :: .any :: .any :: .any :: .any :: .any :: .any :: .any :: .any :: .any :: .any :: .any :: .any :: .any :: .any :: .any :: .any :: .any :: .any :: .any :: .any :: .any :: []), [.live (flat hc e)]⟩) (fun m => m ≤ j ∧ k ≤ m + 1 ∧ Sort.scanDown (pDP e a) e.toArray k j = Sort.scanDown (pDP e a) e.toArray k m) (fun m => m) j ⟨by omega, by omega, rfl⟩ (wkt [0]) ?_
      rintro m ⟨r1, r2, r3⟩ K2 hK2
      have hme : m < e.length := by omega
      by_cases r4 : ∃ (_ : k ≤ m), ¬ e[m] < e[a]
      · obtain ⟨r5, r6⟩ := r4
        have r7 := hl e[m] e[a]
        have r9 := decide_eq_false r6
        have r8 := r3.trans (scanDown_go (by omega) r5 hme (by rw [pDP_at hae, decide_eq_false r6]; rfl))
        clear hl r3 q8 q4 hG0 he
        refine wks ?_
        exact hK2 _ (m - 1) ⟨by omega, by omega, r8⟩ (wkt [0]) (by omega)
      · have r8 := r3.trans (scanDown_stop hme (fun h => by rw [pDP_at hae, decide_eq_true (Classical.not_not.1 fun h2 => r4 ⟨h, h2⟩)]; rfl))
        refine aw_exitJ ⟨((slV l.length) :: (.int .i64 a) :: (.int .i64 b) :: .any :: .any :: .any :: .any :: .any :: .any :: .any :: (.int .i64 (k : Nat)) :: (.int .i64 (m : Nat)) :: .any :: .any :: .any :: .any :: .any :: .any :: .any :: .any :: .any :: .any :: .any :: .any :: .any :: .any :: .any :: .any :: .any :: .any :: .any :: .any :: .any :: .any :: .any :: .any :: .any :: .any :: .any :: .any :: .any :: .any :: .any :: .any :: .any :: .any :: .any :: .any :: .any :: .any :: .any :: .any :: .any :: .any :: .any :: .any :: .any :: .any :: .any :: .any :: .any :: .any :: .any :: .any :: .any :: .any :: .any :: .any :: .any :: .any :: .any :: .any :: .any :: .any :: .any :: .any :: .any :: .any :: .any :: .any :: .any :: .any :: .any :: .any :: .any :: .any :: .any :: .any :: .any :: .any :: .any :: .any :: .any :: .any :: .any :: .any :: .any :: .any :: .any :: .any :: .any :: .any :: .any :: .any :: .any :: .any :: .any :: .any :: .any :: .any :: .any :: .any :: .any :: .any :: .any :: .any :: .any :: .any :: .any :: .any :: .any :: .any :: .any :: .any :: .any :: .any :: .any :: .any :: .any :: .any :: .any :: .any :: .any :: .any :: .any :: .any :: .any :: .any :: .any :: .any :: .any :: .any :: .any :: .any :: .any :: .any :: .any :: .any :: .any :: .any :: .any :: .any :: .any :: .any :: .any :: .any :: .any :: .any :: .any :: .any :: .any :: .any :: .any :: .any :: .any :: .any :: .any :: .any :: []), [.live (flat hc e)]⟩ ?_ ?_
        · by_cases r5 : k ≤ m
          · have r6 : e[m] < e[a] := Classical.not_not.1 fun h2 => r4 ⟨r5, h2⟩
            have r7 := hl e[m] e[a]
            have r9 := decide_eq_true r6
            clear hl r3 r8 r4 q8 q4 hG0 he
            refine wks ?_
            exact wkt [0]
          · clear hl r3 r8 r4 q8 q4 hG0 he
            refine wks ?_
            exact wkt [0]
        · have hkm : k ≤ m → k < m := fun hh => by
            have hke : k < e.length := by omega
            have a1 : ¬ e[k]'hke < e[a] := fun h2 => q4 ⟨by omega, h2⟩
            have a2 : e[m] < e[a] := Classical.not_not.1 fun h2 => r4 ⟨hh, h2⟩
            rcases Nat.lt_or_eq_of_le hh with h | h
            · exact h
            · subst h; exact absurd a2 a1
          clear r3 r4 q4
          by_cases t1 : k > m
          · have hG : G = (m, true, (swl e m a).toArray) := by
              rw [← hG0]; unfold Sort.partition; dsimp only; unfold pUP at q8; unfold pDP at r8
              rw [swl_arr, ← he, ← hi, ← hj, q8, r8, if_pos t1, swl_arr]
            have k6 := flat_swl (l := e) (i := m) (j := a) hme hae
            rw [hG]
            clear q8 r8 hl hG hG0
            refine wks ?_
            rw [k6]
            refine fin ?_
            exact ⟨rfl, rfl⟩
          · have hG : G = ((Sort.partLoop lt64 a (k + 1) (m - 1) (swl e k m).toArray).1, false, Sort.swp (Sort.partLoop lt64 a (k + 1) (m - 1) (swl e k m).toArray).2 (Sort.partLoop lt64 a (k + 1) (m - 1) (swl e k m).toArray).1 a) := by
              rw [← hG0]; unfold Sort.partition; dsimp only; unfold pUP at q8; unfold pDP at r8
              rw [swl_arr, ← he, ← hi, ← hj, q8, r8, if_neg t1, swl_arr]
            have hke : k < e.length := by clear q8 r8; omega
            have k6 := flat_swl (l := e) (i := k) (j := m) hke hme
            have hle : (swl e k m).length = l.length := by rw [swl_length]; exact h4
            clear hG0 q8 r8
            refine wks ?_
            rw [k6]
            clear k6
            refine aw_loopI (fun (x : Nat × Nat × List Nat) => ⟨((slV l.length) :: (.int .i64 a) :: (.int .i64 b) :: .any :: .any :: .any :: .any :: .any :: .any :: .any :: (.int .i64 (x.1 : Nat)) :: (.int .i64 (x.2.1 : Nat)) :: .any :: .any :: .any :: .any :: .any :: .any :: .any :: .any :: .any :: .any :: .any :: .any :: .any :: .any :: .any :: .any :: .any :: .any :: .any :: .any :: .any :: .any :: .any :: .any :: .any :: .any :: .any :: .any :: .any :: .any :: .any :: .any :: .any :: .any :: .any :: .any :: .any :: .any :: .any :: .any :: .any :: .any :: .any :: .any :: .any :: .any :: .any :: .any :: .any :: .any :: .any :: .any :: .any :: .any :: .any :: .any :: .any :: .any :: .any :: .any :: .any :: .any :: .any :: .any :: .any :: .any :: .any :: .any :: .any :: .any :: .any :: .any :: .any :: .any :: .any :: .any :: .any :: .any :: .any :: .any :: .any :: .any :: .any :: .any :: .any :: .any :: .any :: .any :: .any :: .any :: .any :: .any :: .any :: .any :: .any :: .any :: .any :: .any :: .any :: .any :: .any :: .any :: .any :: .any :: .any :: .any :: .any :: .any :: .any :: .any :: .any :: .any :: .any :: .any :: .any :: .any :: .any :: .any :: .any :: .any :: .any :: .any :: .any :: .any :: .any :: .any :: .any :: .any :: .any :: .any :: .any :: .any :: .any :: .any :: .any :: .any :: .any :: .any :: .any :: .any :: .any :: .any :: .any :: .any :: .any :: .any :: .any :: .any :: .any :: .any :: .any :: .any :: .any :: .any :: .any :: .any :: []), [.live (flat hc x.2.2)]⟩) (fun x => a < x.1 ∧ x.1 ≤ x.2.1 + 1 ∧ x.2.1 < b ∧ x.2.2.length = l.length ∧ G = ((Sort.partLoop lt64 a x.1 x.2.1 x.2.2.toArray).1, false, Sort.swp (Sort.partLoop lt64 a x.1 x.2.1 x.2.2.toArray).2 (Sort.partLoop lt64 a x.1 x.2.1 x.2.2.toArray).1 a)) (fun x => x.2.1 + 1 - x.1) (k + 1, m - 1, swl e k m) ⟨by dsimp only; omega, by dsimp only; omega, by dsimp only; omega, hle, hG⟩ (by dsimp only; exact wkt [0]) ?_
            clear hG hi hj hkm hke hle hK1 hK2 K1 K2 he q1 q2 r1 r2 t1 hme hje hae h1 h2 h3 h4
            clear k m i j e
            rintro ⟨i, j, e⟩ ⟨h1, h2, h3, h4, h5⟩ K hK
            dsimp only at h1 h2 h3 h4 h5 ⊢
            have hae : a < e.length := by omega
            have hje : j < e.length := by omega
            refine wks ?_
            refine aw_loopI (fun (k : Nat) => ⟨((slV l.length) :: (.int .i64 a) :: (.int .i64 b) :: .any :: .any :: .any :: .any :: .any :: .any :: .any :: (.int .i64 (k : Nat)) :: (.int .i64 (j : Nat)) :: .any :: .any :: .any :: .any :: .any :: .any :: .any :: .any :: .any :: .any :: .any :: .any :: .any :: .any :: .any :: .any :: .any :: .any :: .any :: .any :: .any :: .any :: .any :: .any :: .any :: .any :: .any :: .any :: .any :: .any :: .any :: .any :: .any :: .any :: .any :: .any :: .any :: .any :: .any :: .any :: .any :: .any :: .any :: .any :: .any :: .any :: .any :: .any :: .any :: .any :: .any :: .any :: .any :: .any :: .any :: .any :: .any :: .any :: .any :: .any :: .any :: .any :: .any :: .any :: .any :: .any :: .any :: .any :: .any :: .any :: .any :: .any :: .any :: .any :: .any :: .any :: .any :: .any :: .any :: .any :: .any :: .any :: .any :: .any :: .any :: .any :: .any :: .any :: .any :: .any :: .any :: .any :: .any :: .any :: .any :: .any :: .any :: .any :: .any :: .any :: .any :: .any :: .any :: .any :: .any :: .any :: .any :: .any :: .any :: .any :: .any :: .any :: .any :: .any :: .any :: .any :: .any :: .any :: .any :: .any :: .any :: .any :: .any :: .any :: .any :: .any :: .any :: .any :: .any :: .any :: .any :: .any :: .any :: .any :: .any :: .any :: .any :: .any :: .any :: .any :: .any :: .any :: .any :: .any :: .any :: .any :: .any :: .any :: .any :: .any :: .any :: .any :: .any :: .any :: .any :: .any :: []), [.live (flat hc e)]⟩) (fun k => i ≤ k ∧ k ≤ j + 1 ∧ Sort.scanUp (pUP e a) e.toArray j i = Sort.scanUp (pUP e a) e.toArray j k) (fun k => j + 1 - k) i ⟨by omega, by omega, rfl⟩ (wkt [0]) ?_
            rintro k ⟨q1, q2, q3⟩ K1 hK1
            by_cases q4 : ∃ (_ : k ≤ j), e[k] < e[a]
            · obtain ⟨q5, q6⟩ := q4
              have hke : k < e.length := by omega
              have q7 := hl (e[k]'hke) e[a]
              have q9 := decide_eq_true q6
              have q8 := q3.trans (scanUp_go q5 (by omega) (by rw [pUP_at hae, decide_eq_true q6]))
              clear hl q3 h5
              refine wks ?_
              exact hK1 _ (k + 1) ⟨by omega, by omega, q8⟩ (wkt [0]) (by omega)
            · have q8 := q3.trans (scanUp_stop hje (fun h => by rw [pUP_at hae, decide_eq_false (fun h2 => q4 ⟨h, h2⟩)]))
              refine aw_exitJ ⟨((slV l.length) :: (.int .i64 a) :: (.int .i64 b) :: .any :: .any :: .any :: .any :: .any :: .any :: .any :: (.int .i64 (k : Nat)) :: (.int .i64 (j : Nat)) :: .any :: .any :: .any :: .any :: .any :: .any :: .any :: .any :: .any :: .any :: .any :: .any :: .any :: .any :: .any :: .any :: .any :: .any :: .any :: .any :: .any :: .any :: .any :: .any :: .any :: .any :: .any :: .any :: .any :: .any :: .any :: .any :: .any :: .any :: .any :: .any :: .any :: .any :: .any :: .any :: .any :: .any :: .any :: .any :: .any :: .any :: .any :: .any :: .any :: .any :: .any :: .any :: .any :: .any :: .any :: .any :: .any :: .any :: .any :: .any :: .any :: .any :: .any :: .any :: .any :: .any :: .any :: .any :: .any :: .any :: .any :: .any :: .any :: .any :: .any :: .any :: .any :: .any :: .any :: .any :: .any :: .any :: .any :: .any :: .any :: .any :: .any :: .any :: .any :: .any :: .any :: .any :: .any :: .any :: .any :: .any :: .any :: .any :: .any :: .any :: .any :: .any :: .any :: .any :: .any :: .any :: .any :: .any :: .any :: .any :: .any :: .any :: .any :: .any :: .any :: .any :: .any :: .any :: .any :: .any :: .any :: .any :: .any :: .any :: .any :: .any :: .any :: .any :: .any :: .any :: .any :: .any :: .any :: .any :: .any :: .any :: .any :: .any :: .any :: .any :: .any :: .any :: .any :: .any :: .any :: .any :: .any :: .any :: .any :: .any :: .any :: .any :: .any :: .any :: .any :: .any :: []), [.live (flat hc e)]⟩ ?_ ?_
              · by_cases q5 : k ≤ j
                · have hke : k < e.length := by omega
                  have q6 : ¬ e[k]'hke < e[a] := fun h2 => q4 ⟨q5, h2⟩
                  have q7 := hl (e[k]'hke) e[a]
                  have q9 := decide_eq_false q6
                  clear hl q3 q8 q4 h5
                  refine wks ?_
                  exact wkt [0]
                · clear hl q3 q8 q4 h5
                  refine wks ?_
                  exact wkt [0]
              · clear q3
                refine wks ?_
                refine aw_loopI (fun (m : Nat) => ⟨((slV l.length) :: (.int .i64 a) :: (.int .i64 b) :: .any :: .any :: .any :: .any :: .any :: .any :: .any :: (.int .i64 (k : Nat)) :: (.int .i64 (m : Nat)) :: .any :: .any :: .any :: .any :: .any :: .any :: .any :: .any :: .any :: .any :: .any :: .any :: .any :: .any :: .any :: .any :: .any :: .any :: .any :: .any :: .any :: .any :: .any :: .any :: .any :: .any :: .any :: .any :: .any :: .any :: .any :: .any :: .any :: .any :: .any :: .any :: .any :: .any :: .any :: .any :: .any :: .any :: .any :: .any :: .any :: .any :: .any :: .any :: .any :: .any :: .any :: .any :: .any :: .any :: .any :: .any :: .any :: .any :: .any :: .any :: .any :: .any :: .any :: .any :: .any :: .any :: .any :: .any :: .any :: .any :: .any :: .any :: .any :: .any :: .any :: .any :: .any :: .any :: .any :: .any :: .any :: .any :: .any :: .any :: .any :: .any :: .any :: .any :: .any :: .any :: .any :: .any :: .any :: .any :: .any :: .any :: .any :: .any :: .any :: .any :: .any :: .any :: .any :: .any :: .any :: .any :: .any :: .any :: .any :: .any :: .any :: .any :: .any :: .any :: .any :: .any :: .any :: .any :: .any :: .any :: .any :: .any :: .any :: .any :: .any :: .any :: .any :: .any :: .any :: .any :: .any :: .any :: .any :: .any :: .any :: .any :: .any :: .any :: .any :: .any :: .any :: .any :: .any :: .any :: .any :: .any :: .any :: .any :: .any :: .any :: .any :: .any :: .any :: .any :: .any :: .any :: []), [.live (flat hc e)]⟩) (fun m => m ≤ j ∧ k ≤ m + 1 ∧ Sort.scanDown (pDP e a) e.toArray k j = Sort.scanDown (pDP e a) e.toArray k m) (fun m => m) j ⟨by omega, by omega, rfl⟩ (wkt [0]) ?_
                rintro m ⟨r1, r2, r3⟩ K2 hK2
                have hme : m < e.length := by omega
                by_cases r4 : ∃ (_ : k ≤ m), ¬ e[m] < e[a]
                · obtain ⟨r5, r6⟩ := r4
                  have r7 := hl e[m] e[a]
                  have r9 := decide_eq_false r6
                  have r8 := r3.trans (scanDown_go (by omega) r5 hme (by rw [pDP_at hae, decide_eq_false r6]; rfl))
                  clear hl r3 q8 q4 h5
                  refine wks ?_
                  exact hK2 _ (m - 1) ⟨by omega, by omega, r8⟩ (wkt [0]) (by omega)
                · have r8 := r3.trans (scanDown_stop hme (fun h => by rw [pDP_at hae, decide_eq_true (Classical.not_not.1 fun h2 => r4 ⟨h, h2⟩)]; rfl))
                  refine aw_exitJ ⟨((slV l.length) :: (.int .i64 a) :: (.int .i64 b) :: .any :: .any :: .any :: .any :: .any :: .any :: .any :: (.int .i64 (k : Nat)) :: (.int .i64 (m : Nat)) :: .any :: .any :: .any :: .any :: .any :: .any :: .any :: .any :: .any :: .any :: .any :: .any :: .any :: .any :: .any :: .any :: .any :: .any :: .any :: .any :: .any :: .any :: .any :: .any :: .any :: .any :: .any :: .any :: .any :: .any :: .any :: .any :: .any :: .any :: .any :: .any :: .any :: .any :: .any :: .any :: .any :: .any :: .any :: .any :: .any :: .any :: .any :: .any :: .any :: .any :: .any :: .any :: .any :: .any :: .any :: .any :: .any :: .any :: .any :: .any :: .any :: .any :: .any :: .any :: .any :: .any :: .any :: .any :: .any :: .any :: .any :: .any :: .any :: .any :: .any :: .any :: .any :: .any :: .any :: .any :: .any :: .any :: .any :: .any :: .any :: .any :: .any :: .any :: .any :: .any :: .any :: .any :: .any :: .any :: .any :: .any :: .any :: .any :: .any :: .any :: .any :: .any :: .any :: .any :: .any :: .any :: .any :: .any :: .any :: .any :: .any :: .any :: .any :: .any :: .any :: .any :: .any :: .any :: .any :: .any :: .any :: .any :: .any :: .any :: .any :: .any :: .any :: .any :: .any :: .any :: .any :: .any :: .any :: .any :: .any :: .any :: .any :: .any :: .any :: .any :: .any :: .any :: .any :: .any :: .any :: .any :: .any :: .any :: .any :: .any :: .any :: .any :: .any :: .any :: .any :: .any :: []), [.live (flat hc e)]⟩ ?_ ?_
                  · by_cases r5 : k ≤ m
                    · have r6 : e[m] < e[a] := Classical.not_not.1 fun h2 => r4 ⟨r5, h2⟩
                      have r7 := hl e[m] e[a]
                      have r9 := decide_eq_true r6
                      clear hl r3 r8 r4 q8 q4 h5
                      refine wks ?_
                      exact wkt [0]
                    · clear hl r3 r8 r4 q8 q4 h5
                      refine wks ?_
                      exact wkt [0]
                  · have hkm : k ≤ m → k < m := fun hh => by
                      have hke : k < e.length := by omega
                      have a1 : ¬ e[k]'hke < e[a] := fun h2 => q4 ⟨by omega, h2⟩
                      have a2 : e[m] < e[a] := Classical.not_not.1 fun h2 => r4 ⟨hh, h2⟩
                      rcases Nat.lt_or_eq_of_le hh with h | h
                      · exact h
                      · subst h; exact absurd a2 a1
                    clear r3 r4 q4
                    by_cases t1 : k > m
                    · have hG : G = (m, false, (swl e m a).toArray) := by rw [h5, partP_stop q8 r8 t1]; dsimp only; rw [swl_arr]
                      have k6 := flat_swl (l := e) (i := m) (j := a) hme hae
                      rw [hG]
                      clear q8 r8 h5 hl hG
                      refine wks ?_
                      rw [k6]
                      refine fin ?_
                      exact ⟨rfl, rfl⟩
                    · have t2 := partP_go q8 r8 t1 q1 r1 (by omega)
                      have hke : k < e.length := by clear q8 r8; omega
                      have k6 := flat_swl (l := e) (i := k) (j := m) hke hme
                      clear hl
                      refine wks ?_
                      refine hK _ (k + 1, m - 1, swl e k m) ⟨by dsimp only; omega, by dsimp only; omega, by dsimp only; omega, by dsimp only; rw [swl_length]; exact h4, by dsimp only; rw [h5, t2]⟩ ?_ (by dsimp only; omega)
                      rw [k6]
                      dsimp only
                      exact wkt [0]
end Go.Abs
