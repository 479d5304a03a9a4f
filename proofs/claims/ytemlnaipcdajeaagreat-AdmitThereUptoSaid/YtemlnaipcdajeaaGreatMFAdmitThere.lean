/- The law AdmitThere: for every input whose bulk is at most the form's bound it returns true and leaves the input as it was; out of the contract of the law's Go function. -/
import Derived.Test.YtemlnaipcdajeaaGreatM42
import Derived.Test.YtemlnaipcdajeaaGreatRows
import Derived.JoinedCond
import Derived.OpenShut
set_option linter.unusedVariables false
set_option linter.unusedSimpArgs false
/- The law that what is in a book is there: the walk. -/
namespace Go.Abs
open Go Go.Proofs

set_option maxRecDepth 20000 in
set_option maxHeartbeats 20000000 in
theorem admitThere_c (p : PAsk) (o : p.ok) (s : p.sm) : Pure Tryz.prog 10 [paskV p] (.bool true) := by
  refine pure_ac ?_ (cleans_cons (clean_paskV p) cleans_nil) (.bool _)
  have hone := one_paskc p
  have c1 := heavy_c p.b o.b
  cases h1 : heavyB p.b with
  | true =>
    rw [h1] at c1
    clear o s
    (refine enter Tryz.func10 Tryz.results10 Tryz.ntmps10 ty_ok (hw := fun F hF => ?_); simp only [List.length_cons, List.length_nil, Nat.reduceAdd, Nat.reduceSub, List.replicate_succ, List.replicate_zero, List.cons_append, List.nil_append]; apply hF; clear hF F)
    refine wks ?_
    refine fin ?_
    rfl
  | false =>
    rw [h1] at c1
    have w : p.b.whole := whole_of o.b s.b h1
    have c2 := rbook_c p.b w
    cases h2 : bookOk p.b with
    | false =>
      rw [h2] at c2
      clear o s w
      (refine enter Tryz.func10 Tryz.results10 Tryz.ntmps10 ty_ok (hw := fun F hF => ?_); simp only [List.length_cons, List.length_nil, Nat.reduceAdd, Nat.reduceSub, List.replicate_succ, List.replicate_zero, List.cons_append, List.nil_append]; apply hF; clear hF F)
      refine wks ?_
      refine fin ?_
      rfl
    | true =>
      rw [h2] at c2
      obtain ⟨w1, w2, w3, w4, w5⟩ := wide_parts (book_wide h2)
      have c3 := wakes17_c
      have c4 : Pure Tryz.prog 33 [errV 4] (.int .i64 4) := num17a_c 4
      have d1 := fun (i : Nat) (hi : i < p.b.tx.length) => amay_c p.b p.b.tx[i] w h2 (w.txf _ (List.getElem_mem hi)) (w2 _ (List.getElem_mem hi))
      have e1 := fun (i : Nat) (hi : i < p.b.tx.length) => admit_there (b := p.b) (t := p.b.tx[i]) (by unfold idsN; exact List.mem_append_left _ (List.mem_map_of_mem (List.getElem_mem hi)))
      have d2 := fun (i : Nat) (hi : i < p.b.li.length) => amay_c p.b p.b.li[i].t w h2 (w.lif _ (List.getElem_mem hi)).took (w3 _ (List.getElem_mem hi))
      have e2 := fun (i : Nat) (hi : i < p.b.li.length) => admit_there (b := p.b) (t := p.b.li[i].t) (by unfold idsN; exact List.mem_append_right _ (List.mem_map_of_mem (f := fun x : Held => idN x.t) (List.getElem_mem hi)))
      have d3 := fun (i : Nat) (hi : i < p.b.li.length) => rtx_c p.b.li[i].t (w.lif _ (List.getElem_mem hi)).took.took
      replace d1 := Left.mk d1
      replace d2 := Left.mk d2
      replace d3 := Left.mk d3
      replace w3 := Left.mk w3
      clear o s w w2
      (refine enter Tryz.func10 Tryz.results10 Tryz.ntmps10 ty_ok (hw := fun F hF => ?_); simp only [List.length_cons, List.length_nil, Nat.reduceAdd, Nat.reduceSub, List.replicate_succ, List.replicate_zero, List.cons_append, List.nil_append]; apply hF; clear hF F)
      refine wks ?_
      refine aw_loopI (fun (i : Nat) => ⟨(.any :: (.ptr 0 0) :: (.bool false) :: (.int .i64 i) :: .any :: .any :: .any :: .any :: .any :: .any :: .any :: .any :: .any :: .any :: .any :: .any :: .any :: .any :: .any :: .any :: .any :: .any :: .any :: .any :: .any :: .any :: .any :: .any :: .any :: .any :: .any :: .any :: .any :: .any :: .any :: .any :: .any :: .any :: .any :: .any :: .any :: .any :: .any :: .any :: .any :: .any :: .any :: .any :: .any :: .any :: .any :: .any :: .any :: .any :: .any :: .any :: .any :: .any :: .any :: .any :: .any :: .any :: .any :: .any :: .any :: .any :: .any :: .any :: .any :: .any :: .any :: .any :: .any :: []), [.live (paskc p)]⟩) (fun i => i ≤ p.b.tx.length) (fun i => p.b.tx.length - i) 0 (by omega) (wkt [0]) ?_
      intro i hi K hK
      by_cases hlo : i < p.b.tx.length ∧ i < 10
      · obtain ⟨g1, g2⟩ := hlo
        have hone2 : ∀ v ∈ txc p.b.tx[i], v.one = true := Rows.one (f := txc) p.b.tx[i]
        have c5 := d1.left i g1
        rw [e1 i g1] at c5
        clear d1 d2 d3 e1 e2
        refine wks ?_
        exact hK _ (i + 1) (by omega) (wkt [0]) (by omega)
      · clear d1 e1
        refine aw_exitJ ⟨(.any :: (.ptr 0 0) :: (.bool false) :: .any :: .any :: .any :: .any :: .any :: .any :: .any :: .any :: .any :: .any :: .any :: .any :: .any :: .any :: .any :: .any :: .any :: .any :: .any :: .any :: .any :: .any :: .any :: .any :: .any :: .any :: .any :: .any :: .any :: .any :: .any :: .any :: .any :: .any :: .any :: .any :: .any :: .any :: .any :: .any :: .any :: .any :: .any :: .any :: .any :: .any :: .any :: .any :: .any :: .any :: .any :: .any :: .any :: .any :: .any :: .any :: .any :: .any :: .any :: .any :: .any :: .any :: .any :: .any :: .any :: .any :: .any :: .any :: .any :: .any :: []), [.live (paskc p)]⟩ ?_ ?_
        · clear d2 d3 e2
          by_cases g1 : i < p.b.tx.length
          · have g2 : ¬ i < 10 := fun h => hlo ⟨g1, h⟩
            clear hlo
            refine wks ?_
            exact wkt [0]
          · clear hlo
            refine wks ?_
            exact wkt [0]
        clear hlo hK
        refine wks ?_
        refine aw_loopI (fun (i : Nat) => ⟨(.any :: (.ptr 0 0) :: (.bool false) :: .any :: (.int .i64 i) :: .any :: .any :: .any :: .any :: .any :: .any :: .any :: .any :: .any :: .any :: .any :: .any :: .any :: .any :: .any :: .any :: .any :: .any :: .any :: .any :: .any :: .any :: .any :: .any :: .any :: .any :: .any :: .any :: .any :: .any :: .any :: .any :: .any :: .any :: .any :: .any :: .any :: .any :: .any :: .any :: .any :: .any :: .any :: .any :: .any :: .any :: .any :: .any :: .any :: .any :: .any :: .any :: .any :: .any :: .any :: .any :: .any :: .any :: .any :: .any :: .any :: .any :: .any :: .any :: .any :: .any :: .any :: .any :: []), [.live (paskc p)]⟩) (fun i => i ≤ p.b.li.length) (fun i => p.b.li.length - i) 0 (by omega) (wkt [0]) ?_
        intro i hi K hK
        by_cases hlo : i < p.b.li.length ∧ i < 10
        · obtain ⟨g1, g2⟩ := hlo
          have hone2 : ∀ v ∈ heldc p.b.li[i], v.one = true := Rows.one (f := heldc) p.b.li[i]
          have c5 := d2.left i g1
          rw [e2 i g1] at c5
          have c6 := d3.left i g1
          rw [w3.left _ (List.getElem_mem g1)] at c6
          clear d2 d3 e2
          refine wks ?_
          exact hK _ (i + 1) (by omega) (wkt [0]) (by omega)
        · clear d2 d3 e2
          refine aw_exitJ ⟨(.any :: (.ptr 0 0) :: (.bool false) :: .any :: .any :: .any :: .any :: .any :: .any :: .any :: .any :: .any :: .any :: .any :: .any :: .any :: .any :: .any :: .any :: .any :: .any :: .any :: .any :: .any :: .any :: .any :: .any :: .any :: .any :: .any :: .any :: .any :: .any :: .any :: .any :: .any :: .any :: .any :: .any :: .any :: .any :: .any :: .any :: .any :: .any :: .any :: .any :: .any :: .any :: .any :: .any :: .any :: .any :: .any :: .any :: .any :: .any :: .any :: .any :: .any :: .any :: .any :: .any :: .any :: .any :: .any :: .any :: .any :: .any :: .any :: .any :: .any :: .any :: []), [.live (paskc p)]⟩ ?_ ?_
          · by_cases g1 : i < p.b.li.length
            · have g2 : ¬ i < 10 := fun h => hlo ⟨g1, h⟩
              clear hlo
              refine wks ?_
              exact wkt [0]
            · clear hlo
              refine wks ?_
              exact wkt [0]
          clear hlo hK
          refine wks ?_
          refine fin ?_
          rfl
end Go.Abs
namespace Go.Abs
open Go Go.Proofs Go.Proofs.YtemlnaipcdajeaaGreat Go.ChangeShapes Go.WideShapes Go.ChangeAt Go.RowKit

set_option maxRecDepth 100000 in
theorem admitThere_lifted (os : Os) (started : os.Started) (H : Type) (enc : TypeId × Value → H) (F : Stop.Interp) :
    ReturnsInHanded {} Tryz.checked os 10 .any ((Rows.OpenSpec.upto Rows.admitThereSpec).pre6 enc Tryz.prog Tryz.f10 Rows.admitThereUptoRow.domain false) (((Rows.OpenSpec.upto Rows.admitThereSpec).at F).post enc Tryz.prog Tryz.f10 false true false false) := by
  refine returnsInHanded_of_cond (C := Tryz.checked) (s := Rows.OpenSpec.upto Rows.admitThereSpec) (k := Rows.uptoSmall) rfl own started (by kernel_rfl) Tryz.func10
    (OpenSpec.witness (enc := enc) (C := Tryz.checked) (s := Rows.OpenSpec.upto Rows.admitThereSpec) (k := Rows.uptoSmall) rfl false ⟨#[], #[.agg #[.int .i64 0, .int .i64 0, .int .u64 0, .int .u64 0, .int .u64 0, .int .u64 0, .int .i64 0, .slice none 0 0, .slice none 0 0, .slice none 0 0, .slice none 0 0, .slice none 0 0]], []⟩ 8 (by kernel_rfl) (by kernel_rfl) (by kernel_rfl)
      (x := ([.agg [.agg [.lit (.int .i64 0), .agg [.lit (.int .i64 0), .agg [.lit (.int .u64 0), .lit (.int .u64 0), .lit (.int .u64 0), .lit (.int .u64 0)], .lit (.int .i64 0)], .nil, .nil, .nil], .nil, .nil]], [], [])) (by kernel_rfl) rfl (by kernel_rfl)) ?_
  intro W base args ds gs before hval0 hW _ hk _
  have hval : ∀ (j : Nat) t v, Tryz.f10.params[j]? = some t → args[j]? = some v → Value.okWide Tryz.prog W .any base t v := hval0
  have hW' := hW
  obtain ⟨p, q, hA0, hV, rfl, _, _⟩ := hW
  have hA : DataW.TrodAll enc Tryz.prog W 0 (fun _ => true) true Tryz.f10.params.toList args.toList ds p := hA0
  rw [Tryz.params10] at hA hval
  obtain ⟨v0, d0, rfl, rfl, h0⟩ := trodAll_one hA
  obtain ⟨rfl, rfl⟩ := trodVars_none hV
  obtain ⟨a0, rfl, _⟩ := okWide_struct Tryz.underlying59 (hval 0 59 v0 rfl rfl)
  clear hA0 hval0
  simp only [List.append_nil] at hW' hk
  have hlt : ∀ x ∈ p, x.block < W.heap.size := fun x hx => by simpa using hW'.lt x hx
  obtain ⟨ns, hns1, hns2, hrv⟩ := open_pask ⟨_, rfl⟩ h0
  have hsm : ns.sm := pask_sm (by
    have h1 : Rows.uptoBulkAll [d0] ≤ 1048576 := of_decide_eq_true hk
    have h2 := bulk_le d0
    simp only [Rows.uptoBulkAll] at h1
    omega)
  refine (calls_of (admitThere_c ns hns1 hsm) (enters_of Tryz.func10 (by decide) rfl) rfl (by
    intro i v x h1 h2
    match i with
    | 0 => simp at h1 h2; subst h1; subst h2; exact hrv
    | i + 1 => simp at h1)).mono fun e W' ⟨x, ρ', I', he, hx, hb⟩ => ?_
  cases hx
  subst he
  refine ⟨_, rfl, _, _, _, [], _, [], hW', ?_, trodAll_mk1 (Below.trod laidOut (by kernel_rfl) (of_decide_eq_true (by kernel_rfl)) h0 hb hlt), rfl, hb.frame _, fun h => by cases h⟩
  exact trodAll_mk1 (shut_bool Tryz.underlying4 true)
end Go.Abs
namespace Go.Proofs.YtemlnaipcdajeaaGreat
open Go Go.Abs
theorem admitThereUpto_holds : Rows.AdmitThereUptoSaid :=
  OpenClaim.holds_of_cond 10 Tryz.f10 rfl rfl rfl rfl rfl rfl rfl ⟨rfl, rfl, rfl, rfl, rfl⟩ rfl rfl rfl rfl rfl (by kernel_rfl) Tryz.func10 (by kernel_rfl)
    (of_decide_eq_true (by kernel_rfl)) (by unfold Func.isWrapper; first | (rw [if_pos (by decide +kernel)]; kernel_rfl) | (rw [if_neg (by decide +kernel)]; exact ⟨rfl, rfl⟩))
    (fun os started H enc _ F => admitThere_lifted os started H enc F)
end Go.Proofs.YtemlnaipcdajeaaGreat
