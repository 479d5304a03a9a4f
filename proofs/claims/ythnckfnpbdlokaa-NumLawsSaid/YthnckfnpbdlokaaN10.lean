/- The law NumProducts: the walk. -/
import Derived.Test.YthnckfnpbdlokaaN9
set_option linter.unusedVariables false
set_option linter.unusedSimpArgs false
namespace Go.Abs
open Go Go.Proofs

theorem told_mul (x y : Nat) : ∃ (a e w : Nat) (b : Bool), mulV x y = ue a e ∧ rmulV x y = ub w b ∧ Pure Try.prog 38 [uv a, errV e, uv w, .bool b] (.bool true) := by
  unfold mulV rmulV
  by_cases h : x * y < 115792089237316195423570985008687907853269984665640564039457584007913129639936
  · rw [if_pos h, if_pos h]; exact ⟨_, _, _, _, rfl, rfl, told_ok _⟩
  · rw [if_neg h, if_neg h]; exact ⟨_, _, _, _, rfl, rfl, told_no⟩
set_option maxHeartbeats 20000000 in
theorem numProducts_c (ns : List Nat) (x : Bool) (hns : ns.length < 9223372036854775808) (hlt : ∀ n ∈ ns, n < 115792089237316195423570985008687907853269984665640564039457584007913129639936) : Pure Try.prog 9 [vecU ns x] (.bool true) := by
  refine pure_ac ?_ (cleans_cons (clean_vecU _ _) cleans_nil) (.bool _)
  have hall := all_c ns x hns
  have hm := alls_lt hlt
  have hml := alls_len ns
  generalize alls ns = m at hall hm hml
  unfold vecU at hall ⊢
  have hw := wakes1_c
  (refine enter Try.func9 Try.results9 Try.ntmps9 ty_ok (hw := fun F hF => ?_); simp only [List.length_cons, List.length_nil, Nat.reduceAdd, Nat.reduceSub, List.replicate_succ, List.replicate_zero, List.cons_append, List.nil_append]; apply hF; clear hF F)
  refine wk ?_
  refine aw_loopI (fun (i : Nat) => ⟨(.any :: .any :: (.bool false) :: (.vec (fl m) m.length false) :: (.int .i64 i) :: .any :: .any :: .any :: .any :: .any :: .any :: .any :: .any :: .any :: .any :: .any :: .any :: .any :: .any :: .any :: .any :: .any :: .any :: .any :: .any :: .any :: .any :: .any :: .any :: .any :: .any :: .any :: .any :: .any :: .any :: .any :: .any :: .any :: .any :: .any :: .any :: .any :: .any :: .any :: .any :: .any :: .any :: .any :: .any :: .any :: .any :: .any :: .any :: .any :: .any :: []), []⟩) (fun i => i ≤ m.length) (fun i => m.length - i) 0 (by omega) (wkt []) ?_
  intro i hi K hK
  by_cases h1 : i < m.length
  · have hmi := hm m[i] (List.getElem_mem h1)
    refine wk ?_
    refine aw_loopI (fun (k : Nat) => ⟨(.any :: .any :: (.bool false) :: (.vec (fl m) m.length false) :: (.int .i64 i) :: (.int .i64 k) :: .any :: .any :: .any :: .any :: .any :: .any :: .any :: .any :: .any :: .any :: .any :: .any :: .any :: .any :: .any :: .any :: .any :: .any :: .any :: .any :: .any :: .any :: .any :: .any :: .any :: .any :: .any :: .any :: .any :: .any :: .any :: .any :: .any :: .any :: .any :: .any :: .any :: .any :: .any :: .any :: .any :: .any :: .any :: .any :: .any :: .any :: .any :: .any :: .any :: []), []⟩) (fun k => k ≤ m.length) (fun k => m.length - k) 0 (by omega) (wkt []) ?_
    intro k hk K2 hK2
    by_cases h2 : k < m.length
    · have hmk := hm m[k] (List.getElem_mem h2)
      have c1 := mul_c m[i] m[k] hmi hmk
      have c2 := rmul_c m[i] m[k] hmi hmk
      obtain ⟨a, e, w, b, e1, e2, c3⟩ := told_mul m[i] m[k]
      rw [e1] at c1; rw [e2] at c2
      refine wk ?_
      exact hK2 _ (k + 1) (by omega) (wkt []) (by omega)
    · refine wk ?_
      exact hK _ (i + 1) (by omega) (wkt []) (by omega)
  · refine wk ?_
    refine fin ?_
    rfl
end Go.Abs
