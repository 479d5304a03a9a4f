/- Sorting: the walks. -/
import Derived.Test.YtemlnaipcdajeaaGreatM21
import Derived.Sort.Defs
import Derived.Test.YtemlnaipcdajeaaGreatM10
set_option linter.unusedVariables false
set_option linter.unusedSimpArgs false
namespace Go.Abs
open Go Go.Proofs

theorem isnan_c (x : Nat) : Pure Tryz.prog 207 [.int .u64 x] (.bool false) := by
  refine pure_ac ?_ (cleans_cons (.int _ _) cleans_nil) (.bool _)
  (refine enter Tryz.func207 Tryz.results207 Tryz.ntmps207 ty_ok (hw := fun F hF => ?_); simp only [List.length_cons, List.length_nil, Nat.reduceAdd, Nat.reduceSub, List.replicate_succ, List.replicate_zero, List.cons_append, List.nil_append]; apply hF; clear hF F)
  refine wk ?_
  refine fin ?_
  simp
theorem less_c (x y : Nat) : Pure Tryz.prog 191 [.int .u64 x, .int .u64 y] (.bool (decide (x < y))) := by
  refine pure_ac ?_ (cleans_cons (.int _ _) (cleans_cons (.int _ _) cleans_nil)) (.bool _)
  have c := isnan_c x
  (refine enter Tryz.func191 Tryz.results191 Tryz.ntmps191 ty_ok (hw := fun F hF => ?_); simp only [List.length_cons, List.length_nil, Nat.reduceAdd, Nat.reduceSub, List.replicate_succ, List.replicate_zero, List.cons_append, List.nil_append]; apply hF; clear hF F)
  refine wk ?_
  refine fin ?_
  have : decide ((x : Int) < (y : Int)) = decide (x < y) := decide_eq_decide.2 (by omega)
  rw [this]
abbrev lt64 (x y : Nat) : Bool := decide (x < y)
/-- Two of a row change places. -/
def swl (l : List Nat) (i j : Nat) : List Nat := (l.set i (l.getD j 0)).set j (l.getD i 0)
theorem swl_length (l : List Nat) (i j : Nat) : (swl l i j).length = l.length := by simp [swl]
theorem getD_arr (l : List Nat) (i : Nat) : l.toArray[i]! = l.getD i 0 := by
  simp [List.getD_eq_getElem?_getD, getElem!_def]
  cases l[i]? <;> rfl
theorem arr_at {l : List Nat} {i : Nat} (h : i < l.length) : l.toArray[i]! = l[i] := by rw [getD_arr]; exact getD_at h 0
theorem swl_arr (l : List Nat) (i j : Nat) : Sort.swp l.toArray i j = (swl l i j).toArray := by
  unfold Sort.swp swl
  rw [getD_arr, getD_arr]; simp
theorem flat_hset (l : List Nat) (i n : Nat) : (flat hc l).set (i * 1) (.int .u64 (n : Nat)) = flat hc (l.set i n) := by
  rw [Nat.mul_one]
  induction l generalizing i with
  | nil => simp [flat]
  | cons a l ih =>
    cases i with
    | zero => simp [flat]
    | succ i => simp only [flat, List.cons_append, List.nil_append, List.set_cons_succ, ih]
/-- Two cells change places. -/
theorem flat_swl {l : List Nat} {i j : Nat} (hi : i < l.length) (hj : j < l.length) : ((flat hc l).set (i * 1) (.int .u64 (l[j] : Nat))).set (j * 1) (.int .u64 (l[i] : Nat)) = flat hc (swl l i j) := by
  rw [flat_hset, flat_hset]; unfold swl; rw [getD_at hi, getD_at hj]
theorem insInner_go {l : List Nat} {a j : Nat} (h : a < j) (hj : j < l.length) (hl : l[j] < l[j - 1]) : Sort.insInner lt64 a j l.toArray = Sort.insInner lt64 a (j - 1) (swl l j (j - 1)).toArray := by
  obtain ⟨k, rfl⟩ : ∃ k, j = k + 1 := ⟨j - 1, by omega⟩
  rw [Nat.add_sub_cancel, Sort.insInner, arr_at hj, arr_at (by omega), if_pos (by simp only [Bool.and_eq_true, decide_eq_true_eq]; exact ⟨h, hl⟩), swl_arr]
theorem insInner_stop {l : List Nat} {a j : Nat} (h : ∀ (h1 : a < j) (h2 : j < l.length), ¬ l[j] < l[j - 1]) (hj : j < l.length) : Sort.insInner lt64 a j l.toArray = l.toArray := by
  cases j with
  | zero => rfl
  | succ k =>
    rw [Sort.insInner, arr_at hj, arr_at (by omega), if_neg]
    simp only [Bool.and_eq_true, decide_eq_true_eq]
    exact fun h2 => h h2.1 hj h2.2
/-- What a walk over a row in place makes of it. -/
def OutS (r : V) (d : Array Nat) : V → List HB → Prop := fun v h' => v = r ∧ h'[0]? = some (.live (flat hc d.toList))
set_option maxHeartbeats 20000000 in
theorem ins_a (l : List Nat) (a b : Nat) (ha : a ≤ b) (hb : b ≤ l.length) (hd : l.length < 1000000) : AC Tryz.prog 185 [.slc 0 0 1 l.length l.length, .int .i64 a, .int .i64 b] [.live (flat hc l)] (OutS (.tup []) (Sort.insertionSort lt64 l.toArray a b)) := by
  have hl := less_c
  (refine enter Tryz.func185 Tryz.results185 Tryz.ntmps185 ty_ok (hw := fun F hF => ?_); simp only [List.length_cons, List.length_nil, Nat.reduceAdd, Nat.reduceSub, List.replicate_succ, List.replicate_zero, List.cons_append, List.nil_append]; apply hF; clear hF F)
  refine wks ?_
  refine aw_loopI (fun (x : Nat × List Nat) => ⟨((.slc 0 0 1 l.length l.length) :: (.int .i64 a) :: (.int .i64 b) :: .any :: .any :: .any :: (.int .i64 x.1) :: .any :: .any :: .any :: .any :: .any :: .any :: .any :: .any :: .any :: .any :: .any :: .any :: .any :: .any :: .any :: .any :: .any :: .any :: .any :: .any :: .any :: .any :: .any :: .any :: .any :: .any :: .any :: .any :: .any :: .any :: .any :: .any :: .any :: .any :: .any :: .any :: .any :: .any :: .any :: .any :: .any :: .any :: []), [.live (flat hc x.2)]⟩) (fun x => a < x.1 ∧ x.2.length = l.length ∧ Sort.insertionSort lt64 l.toArray a b = Sort.insOuter lt64 a b x.1 x.2.toArray) (fun x => b - x.1) (a + 1, l) ⟨by omega, rfl, rfl⟩ (by dsimp only; exact wkt [0]) ?_
  rintro ⟨i, e⟩ ⟨h1, h2, h3⟩ K hK
  dsimp only at h1 h2 h3 ⊢
  by_cases hi : i < b
  · refine wks ?_
    refine aw_loopI (fun (x : Nat × List Nat) => ⟨((.slc 0 0 1 l.length l.length) :: (.int .i64 a) :: (.int .i64 b) :: .any :: .any :: .any :: (.int .i64 i) :: (.int .i64 x.1) :: .any :: .any :: .any :: .any :: .any :: .any :: .any :: .any :: .any :: .any :: .any :: .any :: .any :: .any :: .any :: .any :: .any :: .any :: .any :: .any :: .any :: .any :: .any :: .any :: .any :: .any :: .any :: .any :: .any :: .any :: .any :: .any :: .any :: .any :: .any :: .any :: .any :: .any :: .any :: .any :: .any :: []), [.live (flat hc x.2)]⟩) (fun x => a ≤ x.1 ∧ x.1 ≤ i ∧ x.2.length = l.length ∧ Sort.insInner lt64 a i e.toArray = Sort.insInner lt64 a x.1 x.2.toArray) (fun x => x.1) (i, e) ⟨by omega, by omega, h2, rfl⟩ (by dsimp only; exact wkt [0]) ?_
    rintro ⟨j, e'⟩ ⟨k1, k2, k3, k4⟩ K2 hK2
    dsimp only at k1 k2 k3 k4 ⊢
    have hj1 : j < e'.length := by omega
    have hnext : Sort.insInner lt64 a j e'.toArray = e'.toArray → Sort.insertionSort lt64 l.toArray a b = Sort.insOuter lt64 a b (i + 1) e'.toArray := fun h => by
      rw [h3, Sort.insOuter, if_pos hi, k4, h]
    by_cases hj : a < j
    · have hj2 : j - 1 < e'.length := by omega
      have hl2 := hl e'[j] e'[j - 1]
      clear hl
      by_cases hc2 : e'[j] < e'[j - 1]
      · have k5 := insInner_go hj hj1 hc2
        have k6 := flat_swl hj1 hj2
        refine wks ?_
        refine hK2 _ (j - 1, swl e' j (j - 1)) ⟨by omega, by omega, by rw [swl_length]; exact k3, by rw [k4, k5]⟩ ?_ (by dsimp only; omega)
        rw [k6]
        dsimp only
        exact wkt [0]
      · have k5 := hnext (insInner_stop (fun _ _ => hc2) hj1)
        clear hnext h3 k4
        refine wks ?_
        exact hK _ (i + 1, e') ⟨by dsimp only; omega, k3, k5⟩ (by dsimp only; exact wkt [0]) (by dsimp only; omega)
    · have k5 := hnext (insInner_stop (fun h => absurd h hj) hj1)
      clear hnext h3 k4 hl
      refine wks ?_
      exact hK _ (i + 1, e') ⟨by dsimp only; omega, k3, k5⟩ (by dsimp only; exact wkt [0]) (by dsimp only; omega)
  · have k5 : Sort.insertionSort lt64 l.toArray a b = e.toArray := by rw [h3, Sort.insOuter, if_neg hi]
    rw [k5]
    clear h3 k5 hl
    refine wks ?_
    refine fin ?_
    exact ⟨rfl, rfl⟩
end Go.Abs
/- Sorting: which pivot; a range turned round: the walks. -/
namespace Go.Abs
open Go Go.Proofs

/-- A call that writes into two blocks. -/
theorem calld_two {P : Program} {f : FuncId} {args args0 : List V} {H : List HB} {b1 b2 : Nat} {c1 c1' c2 c2' : List V} {r : V} (hne : b1 ≠ b2) (hb1 : H[b1]? = some (.live c1)) (hb2 : H[b2]? = some (.live c2)) (hc1 : Cleans c1) (hc1' : Cleans c1') (hc2 : Cleans c2) (hc2' : Cleans c2') (hr : Clean r) (ha : renL [b1, b2] args = args0)
    (h : AC P f args0 [.live c1, .live c2] fun v h' => v = r ∧ h'[0]? = some (.live c1') ∧ h'[1]? = some (.live c2')) : CallD P f args H r ((H.set b1 (.live c1')).set b2 (.live c2')) := by
  have hlt1 := (List.getElem?_eq_some_iff.1 hb1).1
  have hlt2 := (List.getElem?_eq_some_iff.1 hb2).1
  refine calld_frame [b1, b2] (h1 := [.live c1', .live c2']) (by simpa using hne) rfl (by
    intro x hx
    simp only [List.mem_cons, List.not_mem_nil, or_false] at hx
    rcases hx with rfl | rfl
    · exact hc1'
    · exact hc2') hr ?_ ?_ (by rw [List.length_set, List.length_set]) ?_
  · intro j k hj
    match j with
    | 0 => simp at hj; subst hj; rw [List.getElem?_set_ne (fun e => hne e.symm), List.getElem?_set_self hlt1]; rfl
    | 1 => simp at hj; subst hj; rw [List.getElem?_set_self (by rw [List.length_set]; exact hlt2)]; rfl
    | j + 2 => simp at hj
  · intro i hi
    rw [List.getElem?_set_ne (fun e => hi (by rw [e]; simp)), List.getElem?_set_ne (fun e => hi (by rw [e]; simp))]
  · rw [ha, show renH [b1, b2] H [b1, b2] = [.live c1, .live c2] from by simp only [renH, hbAt, hb1, hb2, renB]; rw [renL_clean _ hc1, renL_clean _ hc2]]
    refine ac_wk h ?_
    rintro v h' ⟨rfl, h0, h1⟩
    obtain ⟨h2, rfl⟩ : ∃ h2, h' = .live c1' :: .live c2' :: h2 := by
      match h' with
      | [] => simp at h0
      | [x] => simp at h1
      | x :: y :: h2 => simp at h0 h1; subst h0; subst h1; exact ⟨h2, rfl⟩
    refine ⟨v, [.live c1', .live c2'], ⟨rfl, rfl⟩, ?_⟩
    exact wk_take (n := 2) (t := [v]) (h := .live c1' :: .live c2' :: h2) (Nat.le_refl 2) (by intro u hu; rw [List.mem_singleton.1 hu]; exact hr.bel) (by
      intro x hx
      simp at hx
      rcases hx with rfl | rfl
      · exact fun u hu => (hc1' u hu).bel
      · exact fun u hu => (hc2' u hu).bel)
theorem cleans_i1 (n : Int) : Cleans [.int .i64 n] := cleans_cons (.int _ _) cleans_nil
abbrev slV (n : Nat) : V := .slc 0 0 1 n n
def Out2 (r : V) (l : List Nat) (s : Nat) : V → List HB → Prop := fun v h' => v = r ∧ h'[0]? = some (.live (flat hc l)) ∧ h'[1]? = some (.live [.int .i64 (s : Nat)])
theorem order2_eq {l : List Nat} {a b : Nat} (ha : a < l.length) (hb : b < l.length) (s : Nat) : Sort.order2 lt64 l.toArray a b s = if l[b] < l[a] then (b, a, s + 1) else (a, b, s) := by
  unfold Sort.order2
  rw [arr_at ha, arr_at hb]
  by_cases h : l[b] < l[a]
  · rw [if_pos h, if_pos (decide_eq_true h)]
  · rw [if_neg h, if_neg (by simpa using h)]
theorem order2_lt {l : List Nat} {a b : Nat} (ha : a < l.length) (hb : b < l.length) (s : Nat) : (Sort.order2 lt64 l.toArray a b s).1 < l.length ∧ (Sort.order2 lt64 l.toArray a b s).2.1 < l.length ∧ (Sort.order2 lt64 l.toArray a b s).2.2 ≤ s + 1 := by
  rw [order2_eq ha hb]; split <;> simp <;> omega
set_option maxHeartbeats 20000000 in
theorem order2_a (l : List Nat) (a b s : Nat) (ha : a < l.length) (hb : b < l.length) (hd : l.length < 1000000) (hs : s < 1000000) : AC Tryz.prog 213 [slV l.length, .int .i64 a, .int .i64 b, .ptr 1 0] [.live (flat hc l), .live [.int .i64 s]]
    (Out2 (.tup [.int .i64 ((Sort.order2 lt64 l.toArray a b s).1 : Nat), .int .i64 ((Sort.order2 lt64 l.toArray a b s).2.1 : Nat)]) l (Sort.order2 lt64 l.toArray a b s).2.2) := by
  have hl := less_c l[b] l[a]
  rw [order2_eq ha hb]
  by_cases h : l[b] < l[a]
  · rw [if_pos h]
    (refine enter Tryz.func213 Tryz.results213 Tryz.ntmps213 ty_ok (hw := fun F hF => ?_); simp only [List.length_cons, List.length_nil, Nat.reduceAdd, Nat.reduceSub, List.replicate_succ, List.replicate_zero, List.cons_append, List.nil_append]; apply hF; clear hF F)
    refine wks ?_
    refine fin ?_
    exact ⟨rfl, rfl, by simp⟩
  · rw [if_neg h]
    (refine enter Tryz.func213 Tryz.results213 Tryz.ntmps213 ty_ok (hw := fun F hF => ?_); simp only [List.length_cons, List.length_nil, Nat.reduceAdd, Nat.reduceSub, List.replicate_succ, List.replicate_zero, List.cons_append, List.nil_append]; apply hF; clear hF F)
    refine wks ?_
    refine fin ?_
    exact ⟨rfl, rfl, rfl⟩
theorem order2_d (l : List Nat) (a b s : Nat) (ha : a < l.length) (hb : b < l.length) (hd : l.length < 1000000) (hs : s < 1000000) : CallD Tryz.prog 213 [slV l.length, .int .i64 a, .int .i64 b, .ptr 1 0] [.live (flat hc l), .live [.int .i64 s]]
    (.tup [.int .i64 ((Sort.order2 lt64 l.toArray a b s).1 : Nat), .int .i64 ((Sort.order2 lt64 l.toArray a b s).2.1 : Nat)]) [.live (flat hc l), .live [.int .i64 ((Sort.order2 lt64 l.toArray a b s).2.2 : Nat)]] :=
  calld_two (b1 := 0) (b2 := 1) (by decide) rfl rfl (cleans_flat _) (cleans_flat _) (cleans_i1 _) (cleans_i1 _) (clean_tup (cleans_cons (.int _ _) (cleans_cons (.int _ _) cleans_nil))) rfl (order2_a l a b s ha hb hd hs)
set_option maxHeartbeats 20000000 in
theorem median_a (l : List Nat) (a b c s : Nat) (ha : a < l.length) (hb : b < l.length) (hcl : c < l.length) (hd : l.length < 1000000) (hs : s < 1000) : AC Tryz.prog 206 [slV l.length, .int .i64 a, .int .i64 b, .int .i64 c, .ptr 1 0] [.live (flat hc l), .live [.int .i64 s]]
    (Out2 (.int .i64 ((Sort.median lt64 l.toArray a b c s).1 : Nat)) l (Sort.median lt64 l.toArray a b c s).2) := by
  have b1 := order2_lt ha hb s
  have d1 := order2_d l a b s ha hb hd (by omega)
  unfold Sort.median
  generalize Sort.order2 lt64 l.toArray a b s = r1 at *
  have b2 := order2_lt b1.2.1 hcl r1.2.2
  have d2 := order2_d l r1.2.1 c r1.2.2 b1.2.1 hcl hd (by omega)
  dsimp only
  generalize Sort.order2 lt64 l.toArray r1.2.1 c r1.2.2 = r2 at *
  have b3 := order2_lt b1.1 b2.1 r2.2.2
  have d3 := order2_d l r1.1 r2.1 r2.2.2 b1.1 b2.1 hd (by omega)
  generalize Sort.order2 lt64 l.toArray r1.1 r2.1 r2.2.2 = r3 at *
  (refine enter Tryz.func206 Tryz.results206 Tryz.ntmps206 ty_ok (hw := fun F hF => ?_); simp only [List.length_cons, List.length_nil, Nat.reduceAdd, Nat.reduceSub, List.replicate_succ, List.replicate_zero, List.cons_append, List.nil_append]; apply hF; clear hF F)
  refine wks ?_
  refine st_call rfl rfl d1 ?_
  refine wks ?_
  refine st_call rfl rfl d2 ?_
  refine wks ?_
  refine st_call rfl rfl d3 ?_
  refine wks ?_
  refine fin ?_
  exact ⟨rfl, rfl, rfl⟩
theorem median_lt {l : List Nat} {a b c : Nat} (ha : a < l.length) (hb : b < l.length) (hcl : c < l.length) (s : Nat) : (Sort.median lt64 l.toArray a b c s).1 < l.length ∧ (Sort.median lt64 l.toArray a b c s).2 ≤ s + 3 := by
  have b1 := order2_lt ha hb s
  have b2 := order2_lt b1.2.1 hcl (Sort.order2 lt64 l.toArray a b s).2.2
  have b3 := order2_lt b1.1 b2.1 (Sort.order2 lt64 l.toArray (Sort.order2 lt64 l.toArray a b s).2.1 c (Sort.order2 lt64 l.toArray a b s).2.2).2.2
  exact ⟨b3.2.1, by show (Sort.order2 lt64 l.toArray _ _ _).2.2 ≤ _; omega⟩
theorem median_d (l : List Nat) (a b c s : Nat) (ha : a < l.length) (hb : b < l.length) (hcl : c < l.length) (hd : l.length < 1000000) (hs : s < 1000) : CallD Tryz.prog 206 [slV l.length, .int .i64 a, .int .i64 b, .int .i64 c, .ptr 1 0] [.live (flat hc l), .live [.int .i64 s]]
    (.int .i64 ((Sort.median lt64 l.toArray a b c s).1 : Nat)) [.live (flat hc l), .live [.int .i64 ((Sort.median lt64 l.toArray a b c s).2 : Nat)]] :=
  calld_two (b1 := 0) (b2 := 1) (by decide) rfl rfl (cleans_flat _) (cleans_flat _) (cleans_i1 _) (cleans_i1 _) (.int _ _) rfl (median_a l a b c s ha hb hcl hd hs)
set_option maxHeartbeats 20000000 in
theorem medAdj_a (l : List Nat) (a s : Nat) (ha0 : 0 < a) (ha : a + 1 < l.length) (hd : l.length < 1000000) (hs : s < 1000) : AC Tryz.prog 205 [slV l.length, .int .i64 a, .ptr 1 0] [.live (flat hc l), .live [.int .i64 s]]
    (Out2 (.int .i64 ((Sort.medianAdjacent lt64 l.toArray a s).1 : Nat)) l (Sort.medianAdjacent lt64 l.toArray a s).2) := by
  have d := median_d l (a - 1) a (a + 1) s (by omega) (by omega) ha hd hs
  unfold Sort.medianAdjacent
  generalize Sort.median lt64 l.toArray (a - 1) a (a + 1) s = r at *
  (refine enter Tryz.func205 Tryz.results205 Tryz.ntmps205 ty_ok (hw := fun F hF => ?_); simp only [List.length_cons, List.length_nil, Nat.reduceAdd, Nat.reduceSub, List.replicate_succ, List.replicate_zero, List.cons_append, List.nil_append]; apply hF; clear hF F)
  refine wks ?_
  refine st_call rfl rfl d ?_
  refine wks ?_
  refine fin ?_
  exact ⟨rfl, rfl, rfl⟩
theorem medAdj_d (l : List Nat) (a s : Nat) (ha0 : 0 < a) (ha : a + 1 < l.length) (hd : l.length < 1000000) (hs : s < 1000) : CallD Tryz.prog 205 [slV l.length, .int .i64 a, .ptr 1 0] [.live (flat hc l), .live [.int .i64 s]]
    (.int .i64 ((Sort.medianAdjacent lt64 l.toArray a s).1 : Nat)) [.live (flat hc l), .live [.int .i64 ((Sort.medianAdjacent lt64 l.toArray a s).2 : Nat)]] :=
  calld_two (b1 := 0) (b2 := 1) (by decide) rfl rfl (cleans_flat _) (cleans_flat _) (cleans_i1 _) (cleans_i1 _) (.int _ _) rfl (medAdj_a l a s ha0 ha hd hs)
def hintN : Sort.Hint → Nat
  | .unknown => 0
  | .increasing => 1
  | .decreasing => 2
set_option maxHeartbeats 20000000 in
theorem pivot_a (l : List Nat) (a b : Nat) (hab : a + 12 < b) (hb : b ≤ l.length) (hd : l.length < 1000000) : AC Tryz.prog 188 [slV l.length, .int .i64 a, .int .i64 b] [.live (flat hc l)]
    (OutS (.tup [.int .i64 ((Sort.choosePivot lt64 l.toArray a b).1 : Nat), .int .i64 (hintN (Sort.choosePivot lt64 l.toArray a b).2 : Nat)]) l.toArray) := by
  unfold Sort.choosePivot
  dsimp only
  rw [if_pos (show b - a ≥ 8 by omega)]
  by_cases h50 : b - a ≥ 50
  · rw [if_pos h50]
    have d1 := medAdj_d l (a + (b - a) / 4 * 1) 0 (by omega) (by omega) hd (by omega)
    have b1 := median_lt (l := l) (a := a + (b - a) / 4 * 1 - 1) (b := a + (b - a) / 4 * 1) (c := a + (b - a) / 4 * 1 + 1) (by omega) (by omega) (by omega) 0
    change (Sort.medianAdjacent lt64 l.toArray (a + (b - a) / 4 * 1) 0).1 < _ ∧ (Sort.medianAdjacent lt64 l.toArray (a + (b - a) / 4 * 1) 0).2 ≤ _ at b1
    generalize Sort.medianAdjacent lt64 l.toArray (a + (b - a) / 4 * 1) 0 = r1 at *
    have d2 := medAdj_d l (a + (b - a) / 4 * 2) r1.2 (by omega) (by omega) hd (by omega)
    have b2 := median_lt (l := l) (a := a + (b - a) / 4 * 2 - 1) (b := a + (b - a) / 4 * 2) (c := a + (b - a) / 4 * 2 + 1) (by omega) (by omega) (by omega) r1.2
    change (Sort.medianAdjacent lt64 l.toArray (a + (b - a) / 4 * 2) r1.2).1 < _ ∧ (Sort.medianAdjacent lt64 l.toArray (a + (b - a) / 4 * 2) r1.2).2 ≤ _ at b2
    generalize Sort.medianAdjacent lt64 l.toArray (a + (b - a) / 4 * 2) r1.2 = r2 at *
    have d3 := medAdj_d l (a + (b - a) / 4 * 3) r2.2 (by omega) (by omega) hd (by omega)
    have b3 := median_lt (l := l) (a := a + (b - a) / 4 * 3 - 1) (b := a + (b - a) / 4 * 3) (c := a + (b - a) / 4 * 3 + 1) (by omega) (by omega) (by omega) r2.2
    change (Sort.medianAdjacent lt64 l.toArray (a + (b - a) / 4 * 3) r2.2).1 < _ ∧ (Sort.medianAdjacent lt64 l.toArray (a + (b - a) / 4 * 3) r2.2).2 ≤ _ at b3
    generalize Sort.medianAdjacent lt64 l.toArray (a + (b - a) / 4 * 3) r2.2 = r3 at *
    have d4 := median_d l r1.1 r2.1 r3.1 r3.2 b1.1 b2.1 b3.1 hd (by omega)
    generalize Sort.median lt64 l.toArray r1.1 r2.1 r3.1 r3.2 = r4 at *
    (refine enter Tryz.func188 Tryz.results188 Tryz.ntmps188 ty_ok (hw := fun F hF => ?_); simp only [List.length_cons, List.length_nil, Nat.reduceAdd, Nat.reduceSub, List.replicate_succ, List.replicate_zero, List.cons_append, List.nil_append]; apply hF; clear hF F)
    refine wks ?_
    refine st_call rfl rfl d1 ?_
    refine wks ?_
    refine st_call rfl rfl d2 ?_
    refine wks ?_
    refine st_call rfl rfl d3 ?_
    refine wks ?_
    refine st_call rfl rfl d4 ?_
    refine wks ?_
    clear d1 d2 d3 d4
    obtain ⟨n, hn⟩ : ∃ n, r4.2 = n := ⟨_, rfl⟩
    rw [hn]
    by_cases hz : n = 0
    · rw [if_pos hz]
      refine wks ?_
      refine fin ?_
      exact ⟨rfl, rfl⟩
    · rw [if_neg hz]
      by_cases hz2 : n = 12
      · rw [if_pos hz2]
        refine wks ?_
        refine fin ?_
        exact ⟨rfl, rfl⟩
      · rw [if_neg hz2]
        refine wks ?_
        refine fin ?_
        exact ⟨rfl, rfl⟩
  · rw [if_neg h50]
    have d4 := median_d l (a + (b - a) / 4 * 1) (a + (b - a) / 4 * 2) (a + (b - a) / 4 * 3) 0 (by omega) (by omega) (by omega) hd (by omega)
    generalize Sort.median lt64 l.toArray (a + (b - a) / 4 * 1) (a + (b - a) / 4 * 2) (a + (b - a) / 4 * 3) 0 = r4 at *
    (refine enter Tryz.func188 Tryz.results188 Tryz.ntmps188 ty_ok (hw := fun F hF => ?_); simp only [List.length_cons, List.length_nil, Nat.reduceAdd, Nat.reduceSub, List.replicate_succ, List.replicate_zero, List.cons_append, List.nil_append]; apply hF; clear hF F)
    refine wks ?_
    refine st_call rfl rfl d4 ?_
    refine wks ?_
    clear d4
    obtain ⟨n, hn⟩ : ∃ n, r4.2 = n := ⟨_, rfl⟩
    rw [hn]
    by_cases hz : n = 0
    · rw [if_pos hz]
      refine wks ?_
      refine fin ?_
      exact ⟨rfl, rfl⟩
    · rw [if_neg hz]
      by_cases hz2 : n = 12
      · rw [if_pos hz2]
        refine wks ?_
        refine fin ?_
        exact ⟨rfl, rfl⟩
      · rw [if_neg hz2]
        refine wks ?_
        refine fin ?_
        exact ⟨rfl, rfl⟩
end Go.Abs
