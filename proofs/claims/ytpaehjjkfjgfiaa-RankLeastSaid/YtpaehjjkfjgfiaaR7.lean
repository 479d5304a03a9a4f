/- Weights; the law RankTells: the walks. -/
import Derived.Test.YtpaehjjkfjgfiaaR5
set_option linter.unusedVariables false
set_option linter.unusedSimpArgs false
namespace Go.Abs
open Go Go.Proofs

/-- A sum that stops once it is great. -/
def wSum {α : Type} (g : α → Int) : Int → List α → Int
  | n, [] => n
  | n, a :: l => if n < 1048576 then wSum g (IntKind.wrap .i64 (n + g a)) l else n
theorem wSum_big {α : Type} {g : α → Int} {n : Int} (h : ¬ n < 1048576) : ∀ l, wSum g n l = n
  | [] => rfl
  | a :: l => by rw [wSum, if_neg h]
theorem wSum_step {α : Type} {g : α → Int} {n : Int} {l : List α} {i : Nat} (hi : i < l.length) (h : n < 1048576) : wSum g n (l.drop i) = wSum g (IntKind.wrap .i64 (n + g l[i])) (l.drop (i + 1)) := by
  rw [List.drop_eq_getElem_cons hi, wSum, if_pos h]
def txW (t : Tx) : Int := wSum (fun b : ByteArray => (b.size : Int)) (IntKind.wrap .i64 (IntKind.wrap .i64 (1 + t.hs.length) + t.bs.length)) t.bs
def txsW (l : List Tx) : Int := wSum txW l.length l
set_option maxHeartbeats 20000000 in
theorem txWeight_c (t : Tx) (o : t.ok) : Pure Try.prog 36 [txV t] (.int .i64 (txW t)) := by
  refine pure_ac ?_ (cleans_cons (clean_txV t) cleans_nil) (.int _ _)
  have o1 := o.hl
  have o2 := o.bl
  (refine enter Try.func36 Try.results36 Try.ntmps36 ty_ok (hw := fun F hF => ?_); simp only [List.length_cons, List.length_nil, Nat.reduceAdd, Nat.reduceSub, List.replicate_succ, List.replicate_zero, List.cons_append, List.nil_append]; apply hF; clear hF F)
  refine wk ?_
  refine aw_loopI (fun (X : Nat × Int) => ⟨(.any :: (.ptr 0 0) :: .any :: (.int .i64 X.2) :: (.int .i64 X.1) :: .any :: .any :: .any :: .any :: .any :: .any :: .any :: .any :: .any :: .any :: .any :: .any :: .any :: .any :: .any :: .any :: .any :: .any :: .any :: .any :: .any :: .any :: .any :: .any :: .any :: .any :: .any :: .any :: []), [.live (txc t)]⟩) (fun X => X.1 ≤ t.bs.length ∧ wSum (fun b : ByteArray => (b.size : Int)) X.2 (t.bs.drop X.1) = txW t) (fun X => t.bs.length - X.1) (0, _) ⟨by show 0 ≤ _; omega, rfl⟩ (wkt [0]) ?_
  rintro ⟨i, n⟩ ⟨hi, hw⟩ K hK
  dsimp only at hi hw
  by_cases h1 : i < t.bs.length
  · have o3 := o.bs _ (List.getElem_mem h1)
    by_cases h2 : n < 1048576
    · rw [wSum_step h1 h2] at hw
      refine wk ?_
      exact hK _ (i + 1, IntKind.wrap .i64 (n + t.bs[i].size)) ⟨by show i + 1 ≤ _; omega, hw⟩ (wkt [0]) (by show t.bs.length - (i + 1) < t.bs.length - i; omega)
    · rw [wSum_big h2] at hw
      refine wk ?_
      refine fin ?_
      rw [hw]
  · rw [List.drop_eq_nil_of_le (by omega), wSum] at hw
    refine wk ?_
    refine fin ?_
    rw [hw]
set_option maxHeartbeats 20000000 in
theorem txsWeight_c (l : List Tx) (x : Bool) (hl : l.length < 9223372036854775808) (o : ∀ t ∈ l, t.ok) : Pure Try.prog 24 [tsV l x] (.int .i64 (txsW l)) := by
  refine pure_ac ?_ (cleans_cons (clean_tsV l x) cleans_nil) (.int _ _)
  (refine enter Try.func24 Try.results24 Try.ntmps24 ty_ok (hw := fun F hF => ?_); simp only [List.length_cons, List.length_nil, Nat.reduceAdd, Nat.reduceSub, List.replicate_succ, List.replicate_zero, List.cons_append, List.nil_append]; apply hF; clear hF F)
  refine wk ?_
  refine aw_loopI (fun (X : Nat × Int) => ⟨((tsV l x) :: .any :: .any :: (.int .i64 X.2) :: (.int .i64 X.1) :: .any :: .any :: .any :: .any :: .any :: .any :: .any :: .any :: .any :: .any :: .any :: .any :: .any :: .any :: .any :: .any :: .any :: .any :: .any :: .any :: []), []⟩) (fun X => X.1 ≤ l.length ∧ wSum txW X.2 (l.drop X.1) = txsW l) (fun X => l.length - X.1) (0, _) ⟨by show 0 ≤ _; omega, rfl⟩ (wkt []) ?_
  rintro ⟨i, n⟩ ⟨hi, hw⟩ K hK
  dsimp only at hi hw
  by_cases h1 : i < l.length
  · have c1 := txWeight_c l[i] (o _ (List.getElem_mem h1))
    by_cases h2 : n < 1048576
    · rw [wSum_step h1 h2] at hw
      refine wk ?_
      exact hK _ (i + 1, IntKind.wrap .i64 (n + txW l[i])) ⟨by show i + 1 ≤ _; omega, hw⟩ (wkt []) (by show l.length - (i + 1) < l.length - i; omega)
    · rw [wSum_big h2] at hw
      refine wk ?_
      refine fin ?_
      rw [hw]
  · rw [List.drop_eq_nil_of_le (by omega), wSum] at hw
    refine wk ?_
    refine fin ?_
    rw [hw]
theorem heavy12_c (p : RAsk) (o : p.ok) : Pure Try.prog 7 [.agg (raskc p)] (.bool (decide (txsW p.l > 3000))) := by
  refine pure_ac ?_ (cleans_cons (clean_agg (cleans_raskc p)) cleans_nil) (.bool _)
  have c1 := txsWeight_c p.l false o.ll o.l
  (refine enter Try.func7 Try.results7 Try.ntmps7 ty_ok (hw := fun F hF => ?_); simp only [List.length_cons, List.length_nil, Nat.reduceAdd, Nat.reduceSub, List.replicate_succ, List.replicate_zero, List.cons_append, List.nil_append]; apply hF; clear hF F)
  refine wk ?_
  refine fin ?_
  rfl
end Go.Abs
