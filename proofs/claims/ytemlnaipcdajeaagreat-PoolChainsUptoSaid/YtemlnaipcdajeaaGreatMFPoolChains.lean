/- The law PoolChains: for every input whose bulk is at most the form's bound it returns true and leaves the input as it was; out of the contract of the law's Go function. -/
import Derived.Test.YtemlnaipcdajeaaGreatM39
import Derived.Test.YtemlnaipcdajeaaGreatRows
import Derived.JoinedCond
import Derived.OpenShut
set_option linter.unusedVariables false
set_option linter.unusedSimpArgs false
/- Each account's chain: the law. -/
namespace Go.Abs
open Go Go.Proofs

set_option maxRecDepth 20000 in
set_option maxHeartbeats 20000000 in
theorem poolChains_c (p : PAsk) (o : p.ok) (s : p.sm) : Pure Tryz.prog 13 [paskV p] (.bool true) := by
  refine pure_ac ?_ (cleans_cons (clean_paskV p) cleans_nil) (.bool _)
  have hone := one_paskc p
  have c1 := heavy16_c p o
  cases h1 : heavy16 p with
  | true =>
    rw [h1] at c1
    clear o s
    (refine enter Tryz.func13 Tryz.results13 Tryz.ntmps13 ty_ok (hw := fun F hF => ?_); simp only [List.length_cons, List.length_nil, Nat.reduceAdd, Nat.reduceSub, List.replicate_succ, List.replicate_zero, List.cons_append, List.nil_append]; apply hF; clear hF F)
    refine wks ?_
    refine fin ?_
    rfl
  | false =>
    rw [h1] at c1
    have w : p.b.whole := whole_of o.b s.b (by unfold heavy16 at h1; rw [Bool.or_eq_false_iff, Bool.or_eq_false_iff] at h1; exact h1.1.1)
    have c2 := rbook_c p.b w
    cases h2 : bookOk p.b with
    | false =>
      rw [h2] at c2
      clear o s w
      (refine enter Tryz.func13 Tryz.results13 Tryz.ntmps13 ty_ok (hw := fun F hF => ?_); simp only [List.length_cons, List.length_nil, Nat.reduceAdd, Nat.reduceSub, List.replicate_succ, List.replicate_zero, List.cons_append, List.nil_append]; apply hF; clear hF F)
      refine wks ?_
      refine fin ?_
      rfl
    | true =>
      rw [h2] at c2
      have hl := w.took.txm
      have c3 := wakes16_c
      have c4 := num16_c 0
      have d1 := fun (a : Int) (ha : 0 ≤ a ∧ a < 8) => pchain_c p.b a w h2 ha
      have d2 := fun a : Int => rof16_c p.b.tx false a hl w.txf
      have d3 := fun a : Int => eqTxs_r (ofA a p.b.tx) false false (Nat.lt_of_le_of_lt (List.length_filter_le _ _) (by omega)) (fun t ht => (w.txf t (List.mem_filter.1 ht).1).took)
      have hk := fun k : Nat => poN_le k p.b.tx
      have hs := fun k : Nat => poN_succ k p.b.tx
      have h8 : poN 8 p.b.tx = p.b.tx.length := poN_all fun t ht => by
        have := of_decide_eq_true (wide_tx (book_wide h2) t ht)
        exact ⟨this.1, by omega⟩
      have d3 := Left.mk d3
      clear o s w
      (refine enter Tryz.func13 Tryz.results13 Tryz.ntmps13 ty_ok (hw := fun F hF => ?_); simp only [List.length_cons, List.length_nil, Nat.reduceAdd, Nat.reduceSub, List.replicate_succ, List.replicate_zero, List.cons_append, List.nil_append]; apply hF; clear hF F)
      refine wks ?_
      refine aw_loopI (fun (i : Nat) => ⟨(.any :: (.ptr 0 0) :: (.bool false) :: (.int .i64 (poN i p.b.tx : Nat)) :: (.int .i64 i) :: .any :: .any :: .any :: .any :: .any :: .any :: .any :: .any :: .any :: .any :: .any :: .any :: .any :: .any :: .any :: .any :: .any :: .any :: .any :: .any :: .any :: .any :: .any :: .any :: .any :: .any :: .any :: .any :: .any :: .any :: .any :: .any :: .any :: .any :: .any :: .any :: .any :: .any :: .any :: .any :: .any :: .any :: .any :: .any :: .any :: .any :: .any :: []), [.live (paskc p)]⟩) (fun i => i ≤ 8) (fun i => 8 - i) 0 (by omega) (by rw [poN_zero]; exact wkt [0]) ?_
      intro i hi K hK
      have k1 := hk i
      have k2 := hk (i + 1)
      have k3 := hs i
      by_cases hi8 : i < 8
      · have e1 := d1 i (by omega)
        have e2 := d2 i
        have e3 := d3.1 i
        generalize hz : ofA (i : Int) p.b.tx = z at *
        clear d1 d2 d3
        refine wks ?_
        refine hK _ (i + 1) (by omega) ?_ (by omega)
        rw [k3]
        exact wkt [0]
      · obtain rfl : i = 8 := by omega
        rw [h8] at *
        clear d1 d2 d3
        refine wks ?_
        refine fin ?_
        rfl
end Go.Abs
namespace Go.Abs
open Go Go.Proofs Go.Proofs.YtemlnaipcdajeaaGreat Go.ChangeShapes Go.WideShapes Go.ChangeAt Go.RowKit

set_option maxRecDepth 100000 in
theorem poolChains_lifted (os : Os) (started : os.Started) (H : Type) (enc : TypeId × Value → H) (F : Stop.Interp) :
    ReturnsInHanded {} Tryz.checked os 13 .any ((Rows.OpenSpec.upto Rows.poolChainsSpec).pre6 enc Tryz.prog Tryz.f13 Rows.poolChainsUptoRow.domain false) (((Rows.OpenSpec.upto Rows.poolChainsSpec).at F).post enc Tryz.prog Tryz.f13 false true false false) := by
  refine returnsInHanded_of_cond (C := Tryz.checked) (s := Rows.OpenSpec.upto Rows.poolChainsSpec) (k := Rows.uptoSmall) rfl own started (by kernel_rfl) Tryz.func13
    (OpenSpec.witness (enc := enc) (C := Tryz.checked) (s := Rows.OpenSpec.upto Rows.poolChainsSpec) (k := Rows.uptoSmall) rfl false ⟨#[], #[.agg #[.int .i64 0, .int .i64 0, .int .u64 0, .int .u64 0, .int .u64 0, .int .u64 0, .int .i64 0, .slice none 0 0, .slice none 0 0, .slice none 0 0, .slice none 0 0, .slice none 0 0]], []⟩ 8 (by kernel_rfl) (by kernel_rfl) (by kernel_rfl)
      (x := ([.agg [.agg [.lit (.int .i64 0), .agg [.lit (.int .i64 0), .agg [.lit (.int .u64 0), .lit (.int .u64 0), .lit (.int .u64 0), .lit (.int .u64 0)], .lit (.int .i64 0)], .nil, .nil, .nil], .nil, .nil]], [], [])) (by kernel_rfl) rfl (by kernel_rfl)) ?_
  intro W base args ds gs before hval0 hW _ hk _
  have hval : ∀ (j : Nat) t v, Tryz.f13.params[j]? = some t → args[j]? = some v → Value.okWide Tryz.prog W .any base t v := hval0
  have hW' := hW
  obtain ⟨p, q, hA0, hV, rfl, _, _⟩ := hW
  have hA : DataW.TrodAll enc Tryz.prog W 0 (fun _ => true) true Tryz.f13.params.toList args.toList ds p := hA0
  rw [Tryz.params13] at hA hval
  obtain ⟨v0, d0, rfl, rfl, h0⟩ := trodAll_one hA
  obtain ⟨rfl, rfl⟩ := trodVars_none hV
  obtain ⟨a0, rfl, _⟩ := okWide_struct Tryz.underlying59 (hval 0 59 v0 rfl rfl)
  clear hA0 hval0
  simp only [List.append_nil] at hW' hk
  have hlt : ∀ x ∈ p, x.block < W.heap.size := fun x hx => by simpa using hW'.lt x hx
  obtain ⟨ns, hns1, hns2, hrv⟩ := open_pask ⟨_, rfl⟩ h0
  have hsm : ns.sm := pask_sm (by
    have h1 : Rows.uptoBulkAll [d0] ≤ 1048576 := of_decide_eq_true hk
    have h2 := bulk_le d0
    simp only [Rows.uptoBulkAll] at h1
    omega)
  refine (calls_of (poolChains_c ns hns1 hsm) (enters_of Tryz.func13 (by decide) rfl) rfl (by
    intro i v x h1 h2
    match i with
    | 0 => simp at h1 h2; subst h1; subst h2; exact hrv
    | i + 1 => simp at h1)).mono fun e W' ⟨x, ρ', I', he, hx, hb⟩ => ?_
  cases hx
  subst he
  refine ⟨_, rfl, _, _, _, [], _, [], hW', ?_, trodAll_mk1 (Below.trod laidOut (by kernel_rfl) (of_decide_eq_true (by kernel_rfl)) h0 hb hlt), rfl, hb.frame _, fun h => by cases h⟩
  exact trodAll_mk1 (shut_bool Tryz.underlying4 true)
end Go.Abs
namespace Go.Proofs.YtemlnaipcdajeaaGreat
open Go Go.Abs
theorem poolChainsUpto_holds : Rows.PoolChainsUptoSaid :=
  OpenClaim.holds_of_cond 13 Tryz.f13 rfl rfl rfl rfl rfl rfl rfl ⟨rfl, rfl, rfl, rfl, rfl⟩ rfl rfl rfl rfl rfl (by kernel_rfl) Tryz.func13 (by kernel_rfl)
    (of_decide_eq_true (by kernel_rfl)) (by unfold Func.isWrapper; first | (rw [if_pos (by decide +kernel)]; kernel_rfl) | (rw [if_neg (by decide +kernel)]; exact ⟨rfl, rfl⟩))
    (fun os started H enc _ F => poolChains_lifted os started H enc F)
end Go.Proofs.YtemlnaipcdajeaaGreat
