/- What the laws of layers 1 and 3 share. -/
import Derived.Test.YtpaehjjkfjgfiaaN4
set_option linter.unusedVariables false
set_option linter.unusedSimpArgs false
namespace Go.Abs
open Go Go.Proofs

theorem seal_fl (h : List HB) (d : Nat) (ns : List Nat) : sealL h d (fl ns) = fl ns := by
  have one : ∀ v : V, (∃ k n, v = .int k n) → sealV h d v = v := by
    rintro v ⟨k, n, rfl⟩; cases d <;> simp [sealV]
  have lst : ∀ l : List V, (∀ v ∈ l, ∃ k n, v = .int k n) → sealL h d l = l := by
    intro l
    induction l with
    | nil => intro _; simp [sealL]
    | cons v l ih => intro hl; simp only [sealL]; rw [one v (hl v (by simp)), ih fun u hu => hl u (by simp [hu])]
  refine lst _ ?_
  induction ns with
  | nil => simp [flat]
  | cons n ns ih =>
    intro v hv
    rcases List.mem_append.1 hv with h | h
    · simp at h; rcases h with h | h | h | h <;> exact ⟨_, _, h⟩
    · exact ih v h
/-- A slice of numbers that nobody writes. -/
def vecU (ns : List Nat) (x : Bool) : V := .vec (fl ns) ns.length x
theorem clean_vecU (ns : List Nat) (x : Bool) : Clean (vecU ns x) := .vec _ _ _ (cleans_flat ns)

theorem most_c : Pure Try.prog 13 [] (uv 115792089237316195423570985008687907853269984665640564039457584007913129639935) := by
  refine pure_ac ?_ cleans_nil (clean_uv _)
  (refine enter Try.func13 Try.results13 Try.ntmps13 ty_ok (hw := fun F hF => ?_); simp only [List.length_cons, List.length_nil, Nat.reduceAdd, Nat.reduceSub, List.replicate_succ, List.replicate_zero, List.cons_append, List.nil_append]; apply hF; clear hF F)
  refine wk ?_
  refine fin ?_
  rfl
/-- The numbers at the ends. -/
def ends : List Nat := [0, 1, 2, 18446744073709551615, 18446744073709551616, 6277101735386680763835789423207666416102355444464034512896, 57896044618658097711785492504343953926634992332820282019728792003956564819968, 115792089237316195423570985008687907853269984665640564039457584007913129639935]
/-- All numbers that are asked about. -/
def alls (ns : List Nat) : List Nat := ends ++ ns.take 12
theorem alls_lt {ns : List Nat} (h : ∀ n ∈ ns, n < 115792089237316195423570985008687907853269984665640564039457584007913129639936) : ∀ n ∈ alls ns, n < 115792089237316195423570985008687907853269984665640564039457584007913129639936 := by
  intro n hn
  rcases List.mem_append.1 hn with h1 | h1
  · simp [ends] at h1; omega
  · exact h n (List.mem_of_mem_take h1)
theorem alls_len (ns : List Nat) : (alls ns).length ≤ 20 := by simp [alls, ends]; omega
end Go.Abs
