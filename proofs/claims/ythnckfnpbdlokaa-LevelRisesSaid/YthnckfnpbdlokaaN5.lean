/- What the laws of layers 1 and 3 share. -/
import Derived.Test.YthnckfnpbdlokaaN4
set_option linter.unusedVariables false
set_option linter.unusedSimpArgs false
namespace Go.Abs
open Go Go.Proofs

theorem seal_fl (h : List HB) (d : Nat) (ns : List Nat) : sealL h d (fl ns) = fl ns := by
  have one : ∀ v : V, (∃ k n, v = .int k n) → sealV h d v = v := by
    rintro v ⟨k, n, rfl⟩; cases d <;> simp [sealV]
  have lst : ∀ l : List V, (∀ v ∈ l, ∃ k n, v = .int k n) → sealL h d l = l := by
    intro l
    induction l with
    | nil => intro _; simp [sealL]
    | cons v l ih => intro hl; simp only [sealL]; rw [one v (hl v (by simp)), ih fun u hu => hl u (by simp [hu])]
  refine lst _ ?_
  induction ns with
  | nil => simp [flat]
  | cons n ns ih =>
    intro v hv
    rcases List.mem_append.1 hv with h | h
    · simp at h; rcases h with h | h | h | h <;> exact ⟨_, _, h⟩
    · exact ih v h
/-- A slice of numbers that nobody writes. -/
def vecU (ns : List Nat) (x : Bool) : V := .vec (fl ns) ns.length x
theorem clean_vecU (ns : List Nat) (x : Bool) : Clean (vecU ns x) := .vec _ _ _ (cleans_flat ns)

theorem num1_c (n : Int) : Pure Try.prog 23 [.int .i64 n] (.int .i64 n) := by
  refine pure_ac ?_ (cleans_cons (.int _ _) cleans_nil) (.int _ _)
  (refine enter Try.func23 Try.results23 Try.ntmps23 ty_ok (hw := fun F hF => ?_); simp only [List.length_cons, List.length_nil, Nat.reduceAdd, Nat.reduceSub, List.replicate_succ, List.replicate_zero, List.cons_append, List.nil_append]; apply hF; clear hF F)
  refine wk ?_
  refine fin ?_
  rfl
theorem num3_c (n : Int) : Pure Try.prog 34 [.int .i64 n] (.int .i64 n) := by
  refine pure_ac ?_ (cleans_cons (.int _ _) cleans_nil) (.int _ _)
  (refine enter Try.func34 Try.results34 Try.ntmps34 ty_ok (hw := fun F hF => ?_); simp only [List.length_cons, List.length_nil, Nat.reduceAdd, Nat.reduceSub, List.replicate_succ, List.replicate_zero, List.cons_append, List.nil_append]; apply hF; clear hF F)
  refine wk ?_
  refine fin ?_
  rfl
theorem most_c : Pure Try.prog 47 [] (uv 115792089237316195423570985008687907853269984665640564039457584007913129639935) := by
  refine pure_ac ?_ cleans_nil (clean_uv _)
  (refine enter Try.func47 Try.results47 Try.ntmps47 ty_ok (hw := fun F hF => ?_); simp only [List.length_cons, List.length_nil, Nat.reduceAdd, Nat.reduceSub, List.replicate_succ, List.replicate_zero, List.cons_append, List.nil_append]; apply hF; clear hF F)
  refine wk ?_
  refine fin ?_
  rfl
/-- The numbers at the ends. -/
def ends : List Nat := [0, 1, 2, 18446744073709551615, 18446744073709551616, 6277101735386680763835789423207666416102355444464034512896, 57896044618658097711785492504343953926634992332820282019728792003956564819968, 115792089237316195423570985008687907853269984665640564039457584007913129639935]
/-- All numbers that are asked about. -/
def alls (ns : List Nat) : List Nat := ends ++ ns.take 12
theorem alls_lt {ns : List Nat} (h : ∀ n ∈ ns, n < 115792089237316195423570985008687907853269984665640564039457584007913129639936) : ∀ n ∈ alls ns, n < 115792089237316195423570985008687907853269984665640564039457584007913129639936 := by
  intro n hn
  rcases List.mem_append.1 hn with h1 | h1
  · simp [ends] at h1; omega
  · exact h n (List.mem_of_mem_take h1)
theorem alls_len (ns : List Nat) : (alls ns).length ≤ 20 := by simp [alls, ends]; omega
set_option maxHeartbeats 20000000 in
theorem all_c (ns : List Nat) (x : Bool) (hns : ns.length < 9223372036854775808) : Pure Try.prog 17 [vecU ns x] (vecU (alls ns) false) := by
  refine pure_seal 1 (R := fun v h' => ∃ b n, v = .slc b 0 4 n n ∧ n = (ends ++ ns.take 12).length ∧ h'[b]? = some (.live (fl (ends ++ ns.take 12)))) ?_ (cleans_cons (clean_vecU _ _) cleans_nil) ?_ (clean_vecU _ _)
  · unfold vecU
    have c0 := most_c
    (refine enter Try.func17 Try.results17 Try.ntmps17 ty_ok (hw := fun F hF => ?_); simp only [List.length_cons, List.length_nil, Nat.reduceAdd, Nat.reduceSub, List.replicate_succ, List.replicate_zero, List.cons_append, List.nil_append]; apply hF; clear hF F)
    refine wk ?_
    refine aw_loopI (fun i => ⟨((.vec (fl ns) ns.length x) :: .any :: .nils :: .any :: (.slc 0 0 4 (8 + i) (8 + i)) :: (.int .i64 i) :: .any :: .any :: .any :: .any :: .any :: .any :: .any :: .any :: .any :: .any :: .any :: .any :: .any :: .any :: .any :: .any :: .any :: .any :: .any :: .any :: .any :: .any :: .any :: .any :: .any :: .any :: .any :: .any :: .any :: []), [.live (fl (ends ++ ns.take i))]⟩) (fun i => i ≤ ns.length ∧ i ≤ 12) (fun i => 12 - i) 0 (by omega) (wkt [1] (hh := by kernel_rfl)) ?_
    rintro i ⟨hi1, hi2⟩ K hK
    have hfl2 : (ends ++ ns.take i).length = 8 + i := by simp [ends]; omega
    by_cases h1 : i < ns.length
    · by_cases h2 : i < 12
      · refine wk ?_
        refine hK _ (i + 1) (by omega) ?_ (by omega)
        rw [show fl (ends ++ ns.take (i + 1)) = fl (ends ++ ns.take i) ++ uvc ns[i] from by rw [List.take_succ_eq_append_getElem h1, ← List.append_assoc]; unfold fl; rw [flat_append, flat_single]]
        exact wkt [2]
      · refine wk ?_
        refine fin ?_
        refine ⟨0, 8 + i, rfl, ?_, ?_⟩
        · simp [ends]; omega
        · rw [show i = 12 from by omega]; rfl
    · refine wk ?_
      refine fin ?_
      refine ⟨0, 8 + i, rfl, ?_, ?_⟩
      · simp [ends]; omega
      · rw [show ns.take i = ns.take 12 from by rw [List.take_of_length_le (by omega), List.take_of_length_le (by omega)]]; rfl
  · rintro v h' ⟨b, n, rfl, rfl, hb⟩
    simp only [sealV, hb, vecU, alls, List.drop_zero]
    rw [List.take_of_length_le (by rw [flat_length]; exact Nat.le_refl _), seal_fl]
set_option maxHeartbeats 20000000 in
theorem told_ok (n : Nat) : Pure Try.prog 38 [uv n, errV 0, uv n, .bool true] (.bool true) := by
  refine pure_ac ?_ (cleans_cons (clean_uv _) (cleans_cons (.int _ _) (cleans_cons (clean_uv _) (cleans_cons (.bool _) cleans_nil)))) (.bool _)
  have c0 := num1_c
  (refine enter Try.func38 Try.results38 Try.ntmps38 ty_ok (hw := fun F hF => ?_); simp only [List.length_cons, List.length_nil, Nat.reduceAdd, Nat.reduceSub, List.replicate_succ, List.replicate_zero, List.cons_append, List.nil_append]; apply hF; clear hF F)
  refine wk ?_
  refine fin ?_
  rfl
set_option maxHeartbeats 20000000 in
theorem told_no : Pure Try.prog 38 [uv 0, errV 8, uv 0, .bool false] (.bool true) := by
  refine pure_ac ?_ (cleans_cons (clean_uv _) (cleans_cons (.int _ _) (cleans_cons (clean_uv _) (cleans_cons (.bool _) cleans_nil)))) (.bool _)
  have c0 := num1_c
  (refine enter Try.func38 Try.results38 Try.ntmps38 ty_ok (hw := fun F hF => ?_); simp only [List.length_cons, List.length_nil, Nat.reduceAdd, Nat.reduceSub, List.replicate_succ, List.replicate_zero, List.cons_append, List.nil_append]; apply hF; clear hF F)
  refine wk ?_
  refine fin ?_
  rfl
theorem told_sum (x y : Nat) : ∃ (a e w : Nat) (b : Bool), sumV x y = ue a e ∧ rsumV x y = ub w b ∧ Pure Try.prog 38 [uv a, errV e, uv w, .bool b] (.bool true) := by
  unfold sumV rsumV
  by_cases h : x + y < 115792089237316195423570985008687907853269984665640564039457584007913129639936
  · rw [if_pos h, if_pos h]; exact ⟨_, _, _, _, rfl, rfl, told_ok _⟩
  · rw [if_neg h, if_neg h]; exact ⟨_, _, _, _, rfl, rfl, told_no⟩
theorem told_diff (x y : Nat) : ∃ (a e w : Nat) (b : Bool), diffV x y = ue a e ∧ rdiffV x y = ub w b ∧ Pure Try.prog 38 [uv a, errV e, uv w, .bool b] (.bool true) := by
  unfold diffV rdiffV
  by_cases h : x < y
  · rw [if_pos h, if_pos h]; exact ⟨_, _, _, _, rfl, rfl, told_no⟩
  · rw [if_neg h, if_neg h]; exact ⟨_, _, _, _, rfl, rfl, told_ok _⟩
theorem wakes1_c : Pure Try.prog 24 [] (.bool true) := by
  refine pure_ac ?_ cleans_nil (.bool _)
  have h1 : Pure Try.prog 26 [.int .i64 256] (ue 256 0) := of_c 256 (by omega) (by omega)
  have h2 := text_c 256 (by omega)
  have h3 := num1_c
  have ht : textS 256 = ⟨#[1, 0]⟩ := by kernel_rfl
  rw [ht] at h2
  (refine enter Try.func24 Try.results24 Try.ntmps24 ty_ok (hw := fun F hF => ?_); simp only [List.length_cons, List.length_nil, Nat.reduceAdd, Nat.reduceSub, List.replicate_succ, List.replicate_zero, List.cons_append, List.nil_append]; apply hF; clear hF F)
  refine wk ?_
  refine fin ?_
  rfl
end Go.Abs
