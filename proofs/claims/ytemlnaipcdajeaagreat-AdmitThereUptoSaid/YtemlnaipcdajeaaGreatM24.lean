/- Sorting: a range turned round; the heap: the walks. -/
import Derived.Test.YtemlnaipcdajeaaGreatM23
set_option linter.unusedVariables false
set_option linter.unusedSimpArgs false
namespace Go.Abs
open Go Go.Proofs

theorem revLoop_go {l : List Nat} {i j : Nat} (h : i < j) : Sort.reverseLoop i j l.toArray = Sort.reverseLoop (i + 1) (j - 1) (swl l i j).toArray := by
  rw [Sort.reverseLoop, if_pos h, swl_arr]
theorem revLoop_stop {l : List Nat} {i j : Nat} (h : ¬ i < j) : Sort.reverseLoop i j l.toArray = l.toArray := by
  rw [Sort.reverseLoop, if_neg h]
set_option maxHeartbeats 20000000 in
theorem rev_a (l : List Nat) (a b : Nat) (ha : a < b) (hb : b ≤ l.length) (hd : l.length < 1000000) : AC Tryz.prog 189 [slV l.length, .int .i64 a, .int .i64 b] [.live (flat hc l)] (OutS (.tup []) (Sort.reverseRange l.toArray a b)) := by
  (refine enter Tryz.func189 Tryz.results189 Tryz.ntmps189 ty_ok (hw := fun F hF => ?_); simp only [List.length_cons, List.length_nil, Nat.reduceAdd, Nat.reduceSub, List.replicate_succ, List.replicate_zero, List.cons_append, List.nil_append]; apply hF; clear hF F)
  refine wks ?_
  refine aw_loopI (fun (x : Nat × Nat × List Nat) => ⟨((slV l.length) :: (.int .i64 a) :: (.int .i64 b) :: .any :: .any :: .any :: (.int .i64 x.1) :: (.int .i64 x.2.1) :: .any :: .any :: .any :: .any :: .any :: .any :: .any :: .any :: .any :: .any :: .any :: .any :: .any :: .any :: .any :: .any :: .any :: .any :: .any :: .any :: .any :: .any :: .any :: .any :: []), [.live (flat hc x.2.2)]⟩) (fun x => x.1 ≤ l.length ∧ x.2.1 < l.length ∧ x.2.2.length = l.length ∧ Sort.reverseRange l.toArray a b = Sort.reverseLoop x.1 x.2.1 x.2.2.toArray) (fun x => x.2.1 - x.1) (a, b - 1, l) ⟨by dsimp only; omega, by dsimp only; omega, rfl, rfl⟩ (by dsimp only; exact wkt [0]) ?_
  rintro ⟨i, j, e⟩ ⟨h0, h1, h2, h3⟩ K hK
  dsimp only at h0 h1 h2 h3 ⊢
  by_cases hi : i < j
  · have hi1 : i < e.length := by omega
    have hj1 : j < e.length := by omega
    have k5 := revLoop_go (l := e) hi
    have k6 := flat_swl hi1 hj1
    refine wks ?_
    refine hK _ (i + 1, j - 1, swl e i j) ⟨by dsimp only; omega, by dsimp only; omega, by dsimp only; rw [swl_length]; exact h2, by dsimp only; rw [h3, k5]⟩ ?_ (by dsimp only; omega)
    rw [k6]
    dsimp only
    exact wkt [0]
  · rw [h3, revLoop_stop hi]
    clear h3
    refine wks ?_
    refine fin ?_
    exact ⟨rfl, rfl⟩
/-- Which child is the greater one. -/
def childN (l : List Nat) (hi first root : Nat) : Nat := if 2 * root + 1 + 1 < hi ∧ l.getD (first + (2 * root + 1)) 0 < l.getD (first + (2 * root + 1) + 1) 0 then 2 * root + 1 + 1 else 2 * root + 1
theorem sift_stop {l : List Nat} {hi first root : Nat} (h : ¬ 2 * root + 1 < hi) : Sort.siftDown lt64 hi first root l.toArray = l.toArray := by
  rw [Sort.siftDown, dif_pos (by omega)]
theorem sift_go {l : List Nat} {hi first root : Nat} (h : 2 * root + 1 < hi) : Sort.siftDown lt64 hi first root l.toArray = if l.getD (first + root) 0 < l.getD (first + childN l hi first root) 0 then Sort.siftDown lt64 hi first (childN l hi first root) (swl l (first + root) (first + childN l hi first root)).toArray else l.toArray := by
  rw [Sort.siftDown, dif_neg (by omega)]
  unfold childN
  simp only [getD_arr, swl_arr, lt64, Bool.and_eq_true, decide_eq_true_eq, Bool.not_eq_true', decide_eq_false_iff_not]
  by_cases h2 : 2 * root + 1 + 1 < hi ∧ l.getD (first + (2 * root + 1)) 0 < l.getD (first + (2 * root + 1) + 1) 0
  · rw [if_pos h2, if_pos h2]
    by_cases h3 : l.getD (first + root) 0 < l.getD (first + (2 * root + 1 + 1)) 0
    · rw [if_neg (fun h => h h3), if_pos h3, dif_pos (by omega)]
    · rw [if_pos h3, if_neg h3]
  · rw [if_neg h2, if_neg h2]
    by_cases h3 : l.getD (first + root) 0 < l.getD (first + (2 * root + 1)) 0
    · rw [if_neg (fun h => h h3), if_pos h3]
    · rw [if_pos h3, if_neg h3]
theorem sift_size (hi first : Nat) : ∀ (n root : Nat) (l : List Nat), hi - root ≤ n → (Sort.siftDown lt64 hi first root l.toArray).size = l.length
  | 0, root, l, h => by rw [sift_stop (by omega)]; rfl
  | n + 1, root, l, h => by
    by_cases h2 : 2 * root + 1 < hi
    · rw [sift_go h2]
      split
      · rw [sift_size hi first n _ _ (by unfold childN; split <;> omega), swl_length]
      · rfl
    · rw [sift_stop h2]; rfl
set_option maxHeartbeats 20000000 in
theorem sift_a (l : List Nat) (lo hi first : Nat) (hb : first + hi ≤ l.length) (hlo : lo < 1000000) (hd : l.length < 1000000) : AC Tryz.prog 202 [slV l.length, .int .i64 lo, .int .i64 hi, .int .i64 first] [.live (flat hc l)] (OutS (.tup []) (Sort.siftDown lt64 hi first lo l.toArray)) := by
  have hl := less_c
  (refine enter Tryz.func202 Tryz.results202 Tryz.ntmps202 ty_ok (hw := fun F hF => ?_); simp only [List.length_cons, List.length_nil, Nat.reduceAdd, Nat.reduceSub, List.replicate_succ, List.replicate_zero, List.cons_append, List.nil_append]; apply hF; clear hF F)
  refine wks ?_
  refine aw_loopI (fun (x : Nat × List Nat) => ⟨((slV l.length) :: (.int .i64 lo) :: (.int .i64 hi) :: (.int .i64 first) :: .any :: .any :: .any :: .any :: (.int .i64 x.1) :: .any :: .any :: .any :: .any :: .any :: .any :: .any :: .any :: .any :: .any :: .any :: .any :: .any :: .any :: .any :: .any :: .any :: .any :: .any :: .any :: .any :: .any :: .any :: .any :: .any :: .any :: .any :: .any :: .any :: .any :: .any :: .any :: .any :: .any :: .any :: .any :: .any :: .any :: .any :: .any :: .any :: .any :: .any :: .any :: .any :: .any :: .any :: .any :: .any :: .any :: .any :: .any :: .any :: .any :: .any :: .any :: .any :: .any :: .any :: .any :: .any :: .any :: .any :: .any :: .any :: .any :: .any :: []), [.live (flat hc x.2)]⟩) (fun x => x.1 < 1000000 ∧ x.2.length = l.length ∧ Sort.siftDown lt64 hi first lo l.toArray = Sort.siftDown lt64 hi first x.1 x.2.toArray) (fun x => hi - x.1) (lo, l) ⟨hlo, rfl, rfl⟩ (by dsimp only; exact wkt [0]) ?_
  rintro ⟨root, e⟩ ⟨h1, h2, h3⟩ K hK
  dsimp only at h1 h2 h3 ⊢
  by_cases hr : 2 * root + 1 < hi
  · have hi1 : first + (2 * root + 1) < e.length := by omega
    have hi0 : first + root < e.length := by omega
    rw [sift_go hr] at h3
    by_cases hc2 : 2 * root + 1 + 1 < hi ∧ e.getD (first + (2 * root + 1)) 0 < e.getD (first + (2 * root + 1) + 1) 0
    · have hi2 : first + (2 * root + 1) + 1 < e.length := by omega
      have hch : childN e hi first root = 2 * root + 1 + 1 := by unfold childN; rw [if_pos hc2]
      have hi2' : first + (2 * root + 1 + 1) < e.length := by omega
      rw [hch, getD_at hi0, getD_at hi2'] at h3
      obtain ⟨hc3, hc4⟩ := hc2
      rw [getD_at hi1, getD_at hi2] at hc4
      have hl1 := hl e[first + (2 * root + 1)] e[first + (2 * root + 1) + 1]
      have hl2 := hl e[first + root] e[first + (2 * root + 1 + 1)]
      clear hl
      by_cases hc5 : e[first + root] < e[first + (2 * root + 1 + 1)]
      · rw [if_pos hc5] at h3
        have hc6 := decide_eq_true hc5
        have k6 := flat_swl hi0 hi2'
        refine wks ?_
        refine hK _ (2 * root + 1 + 1, swl e (first + root) (first + (2 * root + 1 + 1))) ⟨by dsimp only; omega, by dsimp only; rw [swl_length]; exact h2, h3⟩ ?_ (by dsimp only; omega)
        rw [k6]
        dsimp only
        exact wkt [0]
      · rw [if_neg hc5] at h3
        have hc6 := decide_eq_false hc5
        rw [h3]
        clear h3
        refine wks ?_
        refine fin ?_
        exact ⟨rfl, rfl⟩
    · have hch : childN e hi first root = 2 * root + 1 := by unfold childN; rw [if_neg hc2]
      rw [hch, getD_at hi0, getD_at hi1] at h3
      have hc3 : (¬ 2 * root + 1 + 1 < hi) ∨ (∃ (hh : 2 * root + 1 + 1 < hi), ¬ e[first + (2 * root + 1)] < e[first + (2 * root + 1) + 1]) := by
        by_cases hq : 2 * root + 1 + 1 < hi
        · refine .inr ⟨hq, fun h => hc2 ⟨hq, ?_⟩⟩
          rw [getD_at hi1, getD_at (by omega)]; exact h
        · exact .inl hq
      have hl2 := hl e[first + root] e[first + (2 * root + 1)]
      rcases hc3 with hc3 | ⟨hc3, hc4⟩
      · clear hl
        by_cases hc5 : e[first + root] < e[first + (2 * root + 1)]
        · rw [if_pos hc5] at h3
          have hc6 := decide_eq_true hc5
          have k6 := flat_swl hi0 hi1
          refine wks ?_
          refine hK _ (2 * root + 1, swl e (first + root) (first + (2 * root + 1))) ⟨by dsimp only; omega, by dsimp only; rw [swl_length]; exact h2, h3⟩ ?_ (by dsimp only; omega)
          rw [k6]
          dsimp only
          exact wkt [0]
        · rw [if_neg hc5] at h3
          have hc6 := decide_eq_false hc5
          rw [h3]
          clear h3
          refine wks ?_
          refine fin ?_
          exact ⟨rfl, rfl⟩
      · have hl1 := hl e[first + (2 * root + 1)] e[first + (2 * root + 1) + 1]
        clear hl
        by_cases hc5 : e[first + root] < e[first + (2 * root + 1)]
        · rw [if_pos hc5] at h3
          have hc6 := decide_eq_true hc5
          have k6 := flat_swl hi0 hi1
          refine wks ?_
          refine hK _ (2 * root + 1, swl e (first + root) (first + (2 * root + 1))) ⟨by dsimp only; omega, by dsimp only; rw [swl_length]; exact h2, h3⟩ ?_ (by dsimp only; omega)
          rw [k6]
          dsimp only
          exact wkt [0]
        · rw [if_neg hc5] at h3
          have hc6 := decide_eq_false hc5
          rw [h3]
          clear h3
          refine wks ?_
          refine fin ?_
          exact ⟨rfl, rfl⟩
  · rw [h3, sift_stop hr]
    clear h3 hl
    refine wks ?_
    refine fin ?_
    exact ⟨rfl, rfl⟩
theorem inplace_d {f : FuncId} {l l' : List Nat} {args : List V} {r : V} (hr : Clean r) (ha : renL [0] args = args) (h : AC Tryz.prog f args [.live (flat hc l)] (OutS r l'.toArray)) : CallD Tryz.prog f args [.live (flat hc l)] r [.live (flat hc l')] :=
  calld_inplace (b := 0) rfl (cleans_flat _) (cleans_flat _) hr ha h
theorem sift_d (l : List Nat) (lo hi first : Nat) (hb : first + hi ≤ l.length) (hlo : lo < 1000000) (hd : l.length < 1000000) : CallD Tryz.prog 202 [slV l.length, .int .i64 lo, .int .i64 hi, .int .i64 first] [.live (flat hc l)] (.tup []) [.live (flat hc (Sort.siftDown lt64 hi first lo l.toArray).toList)] :=
  inplace_d (clean_tup cleans_nil) rfl (sift_a l lo hi first hb hlo hd)
set_option maxHeartbeats 20000000 in
theorem heap_a (l : List Nat) (a b : Nat) (ha : a < b) (hb : b ≤ l.length) (hd : l.length < 1000000) : AC Tryz.prog 186 [slV l.length, .int .i64 a, .int .i64 b] [.live (flat hc l)] (OutS (.tup []) (Sort.heapSort lt64 l.toArray a b)) := by
  (refine enter Tryz.func186 Tryz.results186 Tryz.ntmps186 ty_ok (hw := fun F hF => ?_); simp only [List.length_cons, List.length_nil, Nat.reduceAdd, Nat.reduceSub, List.replicate_succ, List.replicate_zero, List.cons_append, List.nil_append]; apply hF; clear hF F)
  refine wks ?_
  refine aw_loopI (fun (x : Nat × List Nat) => ⟨((slV l.length) :: (.int .i64 a) :: (.int .i64 b) :: .any :: .any :: .any :: (.int .i64 a) :: (.int .i64 0) :: (.int .i64 (b - a : Nat)) :: (.int .i64 ((x.1 : Int) - 1)) :: .any :: .any :: .any :: .any :: .any :: .any :: .any :: .any :: .any :: .any :: .any :: .any :: .any :: .any :: .any :: .any :: .any :: .any :: .any :: .any :: .any :: .any :: .any :: .any :: .any :: .any :: .any :: .any :: .any :: .any :: .any :: .any :: .any :: .any :: .any :: .any :: .any :: .any :: .any :: .any :: .any :: .any :: .any :: .any :: .any :: .any :: []), [.live (flat hc x.2)]⟩) (fun x => x.1 ≤ l.length ∧ x.2.length = l.length ∧ Sort.heapBuild lt64 (b - a) a ((b - a - 1) / 2 + 1) l.toArray = Sort.heapBuild lt64 (b - a) a x.1 x.2.toArray) (fun x => x.1) ((b - a - 1) / 2 + 1, l) ⟨by dsimp only; omega, rfl, rfl⟩ (by dsimp only; exact wkt [0]) ?_
  rintro ⟨k, e⟩ ⟨h1, h2, h3⟩ K hK
  dsimp only at h1 h2 h3 ⊢
  cases k with
  | succ k =>
    have hd1 := sift_d e k (b - a) a (by omega) (by omega) (by omega)
    have hsz : (Sort.siftDown lt64 (b - a) a k e.toArray).toList.length = l.length := by
      rw [Array.length_toList, sift_size _ _ _ _ _ (Nat.le_refl _), h2]
    rw [h2] at hd1
    refine wks ?_
    refine st_call rfl rfl hd1 ?_
    refine wks ?_
    exact hK _ (k, _) ⟨by dsimp only; omega, hsz, by rw [h3]; rfl⟩ (by dsimp only; exact wkt [0]) (by dsimp only; omega)
  | zero =>
    have h4 : Sort.heapSort lt64 l.toArray a b = Sort.heapPop lt64 a (b - a) e.toArray := by unfold Sort.heapSort; rw [h3]; rfl
    clear h3 hK
    refine wks ?_
    refine aw_loopI (fun (x : Nat × List Nat) => ⟨((slV l.length) :: (.int .i64 a) :: (.int .i64 b) :: .any :: .any :: .any :: (.int .i64 a) :: (.int .i64 0) :: (.int .i64 (b - a : Nat)) :: .any :: (.int .i64 ((x.1 : Int) - 1)) :: .any :: .any :: .any :: .any :: .any :: .any :: .any :: .any :: .any :: .any :: .any :: .any :: .any :: .any :: .any :: .any :: .any :: .any :: .any :: .any :: .any :: .any :: .any :: .any :: .any :: .any :: .any :: .any :: .any :: .any :: .any :: .any :: .any :: .any :: .any :: .any :: .any :: .any :: .any :: .any :: .any :: .any :: .any :: .any :: .any :: []), [.live (flat hc x.2)]⟩) (fun x => x.1 ≤ b - a ∧ x.2.length = l.length ∧ Sort.heapSort lt64 l.toArray a b = Sort.heapPop lt64 a x.1 x.2.toArray) (fun x => x.1) (b - a, e) ⟨Nat.le_refl _, h2, h4⟩ (by dsimp only; exact wkt [0]) ?_
    clear h4
    rintro ⟨k, e'⟩ ⟨k1, k2, k3⟩ K hK
    dsimp only at k1 k2 k3 ⊢
    cases k with
    | succ k =>
      have ia : a < e'.length := by omega
      have ib : a + k < e'.length := by omega
      have k6 := flat_swl ia ib
      have hd1 := sift_d (swl e' a (a + k)) 0 k a (by rw [swl_length]; omega) (by omega) (by rw [swl_length]; omega)
      have hsz : (Sort.siftDown lt64 k a 0 (swl e' a (a + k)).toArray).toList.length = l.length := by
        rw [Array.length_toList, sift_size _ _ _ _ _ (Nat.le_refl _), swl_length, k2]
      rw [swl_length, k2] at hd1
      rw [← k6] at hd1
      refine wks ?_
      refine st_call rfl rfl hd1 ?_
      refine wks ?_
      exact hK _ (k, _) ⟨by dsimp only; omega, hsz, by rw [k3, Sort.heapPop, swl_arr]⟩ (by dsimp only; exact wkt [0]) (by dsimp only; omega)
    | zero =>
      rw [show Sort.heapSort lt64 l.toArray a b = e'.toArray from by rw [k3]; rfl]
      clear k3
      refine wks ?_
      refine fin ?_
      exact ⟨rfl, rfl⟩
end Go.Abs
/- Sorting: patterns broken: the walks. -/
namespace Go.Abs
open Go Go.Proofs

/-- The next one of the row. -/
def xorN (r : Nat) : Nat :=
  let r1 := r ^^^ (r * 8192 % 18446744073709551616)
  let r2 := r1 ^^^ (r1 / 128)
  r2 ^^^ (r2 * 131072 % 18446744073709551616)
theorem xorN_eq (r : UInt64) : (Sort.xorNext r).toNat = xorN r.toNat := by
  unfold Sort.xorNext xorN
  simp only [UInt64.toNat_xor, UInt64.toNat_shiftLeft, UInt64.toNat_shiftRight, Nat.shiftLeft_eq, Nat.shiftRight_eq_div_pow]
  rfl
theorem xor_lt {x y : Nat} (hx : x < 18446744073709551616) (hy : y < 18446744073709551616) : x ^^^ y < 18446744073709551616 := Nat.xor_lt_two_pow (n := 64) hx hy
theorem xorN_lt {r : Nat} (h : r < 18446744073709551616) : xorN r < 18446744073709551616 := by
  unfold xorN
  dsimp only
  have h1 := xor_lt h (y := r * 8192 % 18446744073709551616) (Nat.mod_lt _ (by omega))
  generalize r ^^^ (r * 8192 % 18446744073709551616) = r1 at *
  have h2 := xor_lt h1 (y := r1 / 128) (by omega)
  generalize r1 ^^^ (r1 / 128) = r2 at *
  exact xor_lt h2 (Nat.mod_lt _ (by omega))
set_option maxHeartbeats 20000000 in
theorem next_a (r : Nat) (hr : r < 18446744073709551616) : AC Tryz.prog 204 [.ptr 0 0] [.live [.int .u64 r]] (fun v h' => v = .int .u64 (xorN r : Nat) ∧ h'[0]? = some (.live [.int .u64 (xorN r : Nat)])) := by
  unfold xorN
  dsimp only
  have h1 := xor_lt hr (y := r * 8192 % 18446744073709551616) (Nat.mod_lt _ (by omega))
  have e1 := xor_nat (x := r) (y := r * 8192 % 18446744073709551616) hr (Nat.mod_lt _ (by omega))
  generalize r ^^^ (r * 8192 % 18446744073709551616) = r1 at *
  have h2 := xor_lt h1 (y := r1 / 128) (by omega)
  have e2 := xor_nat (x := r1) (y := r1 / 128) h1 (by omega)
  generalize r1 ^^^ (r1 / 128) = r2 at *
  have h3 := xor_lt h2 (y := r2 * 131072 % 18446744073709551616) (Nat.mod_lt _ (by omega))
  have e3 := xor_nat (x := r2) (y := r2 * 131072 % 18446744073709551616) h2 (Nat.mod_lt _ (by omega))
  generalize r2 ^^^ (r2 * 131072 % 18446744073709551616) = r3 at *
  (refine enter Tryz.func204 Tryz.results204 Tryz.ntmps204 ty_ok (hw := fun F hF => ?_); simp only [List.length_cons, List.length_nil, Nat.reduceAdd, Nat.reduceSub, List.replicate_succ, List.replicate_zero, List.cons_append, List.nil_append]; apply hF; clear hF F)
  refine wk ?_
  refine fin ?_
  rw [show ((r * 8192 % 18446744073709551616 : Nat) : Int) = (r : Int) * 8192 % 18446744073709551616 from by omega] at e1
  rw [show ((r1 / 128 : Nat) : Int) = (r1 : Int) / 128 from by omega] at e2
  rw [show ((r2 * 131072 % 18446744073709551616 : Nat) : Int) = (r2 : Int) * 131072 % 18446744073709551616 from by omega] at e3
  rw [e1, e2, e3]
  exact ⟨rfl, rfl⟩
theorem next_d (r : Nat) (hr : r < 18446744073709551616) (x : HB) : CallD Tryz.prog 204 [.ptr 1 0] [x, .live [.int .u64 r]] (.int .u64 (xorN r : Nat)) [x, .live [.int .u64 (xorN r : Nat)]] :=
  calld_inplace (b := 1) rfl (cleans_cons (.int _ _) cleans_nil) (cleans_cons (.int _ _) cleans_nil) (.int _ _) rfl (next_a r hr)
theorem blen_c (x : Nat) (hx : x < 18446744073709551616) : Pure Tryz.prog 176 [.int .u64 x] (.int .i64 (blen x)) := by
  refine pure_ac ?_ (cleans_cons (.int _ _) cleans_nil) (.int _ _)
  have c := len64_c x hx
  (refine enter Tryz.func176 Tryz.results176 Tryz.ntmps176 ty_ok (hw := fun F hF => ?_); simp only [List.length_cons, List.length_nil, Nat.reduceAdd, Nat.reduceSub, List.replicate_succ, List.replicate_zero, List.cons_append, List.nil_append]; apply hF; clear hF F)
  refine wk ?_
  refine fin ?_
  rfl
theorem pow2_c (n : Nat) (hn : n < 1000000) : Pure Tryz.prog 203 [.int .i64 n] (.int .u64 (2 ^ blen n : Nat)) := by
  refine pure_ac ?_ (cleans_cons (.int _ _) cleans_nil) (.int _ _)
  have c := blen_c n (by omega)
  have hb := blen_le_of_lt (n := n) (k := 20) (by omega)
  have hp : 2 ^ blen n ≤ 2 ^ 20 := Nat.pow_le_pow_right (by omega) hb
  (refine enter Tryz.func203 Tryz.results203 Tryz.ntmps203 ty_ok (hw := fun F hF => ?_); simp only [List.length_cons, List.length_nil, Nat.reduceAdd, Nat.reduceSub, List.replicate_succ, List.replicate_zero, List.cons_append, List.nil_append]; apply hF; clear hF F)
  refine wk ?_
  refine fin ?_
  have e : ((2 : Int) ^ blen n) = ((2 ^ blen n : Nat) : Int) := by rw [Int.natCast_pow]; rfl
  rw [e]
  clear e c
  generalize 2 ^ blen n = P at *
  exact congrArg (V.int _) (by omega)
/-- The steps that are left. -/
def bpN (a L m : Nat) : Nat → Nat → UInt64 × Array Nat → UInt64 × Array Nat
  | 0, _, st => st
  | k + 1, i, st => bpN a L m k (i + 1) (Sort.breakStep a L m st i)
theorem bp_eq {l : List Nat} {a b : Nat} (h : b - a ≥ 8) : Sort.breakPatterns l.toArray a b = (bpN a (b - a) (2 ^ blen (b - a)) 3 (a + (b - a) / 4 * 2 - 1) (UInt64.ofNat (b - a), l.toArray)).2 := by
  unfold Sort.breakPatterns
  rw [if_pos h, show (1 : Nat) <<< Sort.bitsLen (b - a) = 2 ^ blen (b - a) from by rw [Nat.shiftLeft_eq, Nat.one_mul]; rfl]
  rfl
/-- Where the other one is. -/
def otherN (L m r : Nat) : Nat := if xorN r &&& (m - 1) ≥ L then (xorN r &&& (m - 1)) - L else xorN r &&& (m - 1)
theorem bpN_go {a L m k i : Nat} {r : UInt64} {l : List Nat} : bpN a L m (k + 1) i (r, l.toArray) = bpN a L m k (i + 1) (Sort.xorNext r, (swl l i (a + otherN L m r.toNat)).toArray) := by
  rw [bpN]
  unfold Sort.breakStep otherN
  dsimp only
  rw [xorN_eq, swl_arr]
theorem bpN_size (a L m : Nat) : ∀ k i (r : UInt64) (l : List Nat), (bpN a L m k i (r, l.toArray)).2.size = l.length
  | 0, _, _, l => rfl
  | k + 1, i, r, l => by rw [bpN_go, bpN_size a L m k, swl_length]
theorem bp_size (l : List Nat) (a b : Nat) : (Sort.breakPatterns l.toArray a b).size = l.length := by
  by_cases h : b - a ≥ 8
  · rw [bp_eq h, bpN_size]
  · unfold Sort.breakPatterns; rw [if_neg h]; rfl
theorem other_lt {L r : Nat} (h : 0 < L) : otherN L (2 ^ blen L) r < L ∧ xorN r &&& (2 ^ blen L - 1) < 2 ^ blen L ∧ 2 ^ blen L ≤ 2 * L := by
  have h1 : xorN r &&& (2 ^ blen L - 1) ≤ 2 ^ blen L - 1 := Nat.and_le_right
  have h2 := blen_le (n := L) (by omega)
  have h3 := blen_pos (n := L) (by omega)
  have h4 : 2 ^ blen L = 2 * 2 ^ (blen L - 1) := by
    obtain ⟨k, hk⟩ : ∃ k, blen L = k + 1 := ⟨blen L - 1, by omega⟩
    rw [hk, Nat.add_sub_cancel, Nat.pow_succ]; omega
  have h5 : 0 < 2 ^ (blen L - 1) := Nat.two_pow_pos _
  unfold otherN
  generalize xorN r &&& (2 ^ blen L - 1) = X at *
  split <;> omega
set_option maxHeartbeats 20000000 in
theorem break_a (l : List Nat) (a b : Nat) (hab : a + 12 < b) (hb : b ≤ l.length) (hd : l.length < 1000000) : AC Tryz.prog 187 [slV l.length, .int .i64 a, .int .i64 b] [.live (flat hc l)] (OutS (.tup []) (Sort.breakPatterns l.toArray a b)) := by
  have hpw := pow2_c (b - a) (by omega)
  rw [bp_eq (by omega)]
  have hm := other_lt (L := b - a) (r := 0) (by omega)
  generalize hM : 2 ^ blen (b - a) = M at *
  generalize hG : bpN a (b - a) M 3 (a + (b - a) / 4 * 2 - 1) (UInt64.ofNat (b - a), l.toArray) = G
  (refine enter Tryz.func187 Tryz.results187 Tryz.ntmps187 ty_ok (hw := fun F hF => ?_); simp only [List.length_cons, List.length_nil, Nat.reduceAdd, Nat.reduceSub, List.replicate_succ, List.replicate_zero, List.cons_append, List.nil_append]; apply hF; clear hF F)
  refine wks ?_
  refine aw_loopI (fun (x : Nat × UInt64 × List Nat) => ⟨((slV l.length) :: (.int .i64 a) :: (.int .i64 b) :: .any :: .any :: .any :: (.int .i64 (b - a : Nat)) :: (.ptr 1 0) :: (.int .u64 M) :: (.int .i64 (a + (b - a) / 4 * 2 - 1 + (3 - x.1) : Nat)) :: .any :: .any :: .any :: .any :: .any :: .any :: .any :: .any :: .any :: .any :: .any :: .any :: .any :: .any :: .any :: .any :: .any :: .any :: .any :: .any :: .any :: .any :: .any :: .any :: .any :: .any :: .any :: .any :: .any :: .any :: .any :: .any :: .any :: .any :: .any :: .any :: .any :: .any :: .any :: .any :: .any :: .any :: .any :: .any :: .any :: .any :: .any :: .any :: .any :: .any :: .any :: .any :: .any :: .any :: .any :: []), [.live (flat hc x.2.2), .live [.int .u64 (x.2.1.toNat : Nat)]]⟩) (fun x => x.1 ≤ 3 ∧ x.2.2.length = l.length ∧ G = bpN a (b - a) M x.1 (a + (b - a) / 4 * 2 - 1 + (3 - x.1)) (x.2.1, x.2.2.toArray)) (fun x => x.1) (3, UInt64.ofNat (b - a), l) ⟨Nat.le_refl _, rfl, hG.symm⟩ (by
    have e : (UInt64.ofNat (b - a)).toNat = b - a := by rw [UInt64.toNat_ofNat']; omega
    dsimp only
    rw [e]
    exact wkt [0, 1]) ?_
  clear hpw
  rintro ⟨k, r, e⟩ ⟨h1, h2, h3⟩ K hK
  dsimp only at h1 h2 h3 ⊢
  cases k with
  | succ k =>
    have ho := other_lt (L := b - a) (r := r.toNat) (by omega)
    rw [hM] at ho
    have hr64 : r.toNat < 18446744073709551616 := r.toNat_lt
    have hxl := xorN_lt hr64
    have hn := next_d r.toNat hr64 (.live (flat hc e))
    have ha := and_nat (x := xorN r.toNat) (y := M - 1) hxl (by omega)
    rw [bpN_go] at h3
    have hxe := xorN_eq r
    have hlen : a + (b - a) / 4 * 2 - 1 + (3 - (k + 1)) < e.length := by omega
    have hlen2 : a + otherN (b - a) M r.toNat < e.length := by omega
    have k6 := flat_swl hlen hlen2
    have hix : a + (b - a) / 4 * 2 - 1 + (3 - (k + 1)) + 1 = a + (b - a) / 4 * 2 - 1 + (3 - k) := by omega
    rw [hix] at h3
    clear hm
    by_cases hge : xorN r.toNat &&& (M - 1) ≥ b - a
    · have hoe : otherN (b - a) M r.toNat = (xorN r.toNat &&& (M - 1)) - (b - a) := by unfold otherN; rw [if_pos hge]
      have hi : ((a : Int) + (bitsOp .and .u64 (xorN r.toNat : Nat) ((M - 1 : Nat) : Int) - ((b - a : Nat) : Int))).toNat = a + otherN (b - a) M r.toNat := by rw [ha]; omega
      refine wks ?_
      refine st_call rfl rfl hn ?_
      refine wks ?_
      simp only [hi]
      rw [k6]
      refine hK _ (k, Sort.xorNext r, swl e (a + (b - a) / 4 * 2 - 1 + (3 - (k + 1))) (a + otherN (b - a) M r.toNat)) ⟨by dsimp only; omega, by dsimp only; rw [swl_length]; exact h2, h3⟩ ?_ (by dsimp only; omega)
      dsimp only
      rw [hxe]
      exact wkt [0, 1]
    · have hoe : otherN (b - a) M r.toNat = xorN r.toNat &&& (M - 1) := by unfold otherN; rw [if_neg hge]
      have hi : ((a : Int) + bitsOp .and .u64 (xorN r.toNat : Nat) ((M - 1 : Nat) : Int)).toNat = a + otherN (b - a) M r.toNat := by rw [ha]; omega
      refine wks ?_
      refine st_call rfl rfl hn ?_
      refine wks ?_
      simp only [hi]
      rw [k6]
      refine hK _ (k, Sort.xorNext r, swl e (a + (b - a) / 4 * 2 - 1 + (3 - (k + 1))) (a + otherN (b - a) M r.toNat)) ⟨by dsimp only; omega, by dsimp only; rw [swl_length]; exact h2, h3⟩ ?_ (by dsimp only; omega)
      dsimp only
      rw [hxe]
      exact wkt [0, 1]
  | zero =>
    have h4 : G.2 = e.toArray := by rw [h3]; rfl
    rw [h4]
    clear h3 h4
    refine wks ?_
    refine fin ?_
    exact ⟨rfl, rfl⟩
end Go.Abs
