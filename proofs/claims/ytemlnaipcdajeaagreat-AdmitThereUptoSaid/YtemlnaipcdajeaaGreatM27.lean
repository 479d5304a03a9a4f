/- Sorting: the whole: the walk. -/
import Derived.Test.YtemlnaipcdajeaaGreatM26
set_option linter.unusedVariables false
set_option linter.unusedSimpArgs false
namespace Go.Abs
open Go Go.Proofs

/-- Branches join, or return. -/
theorem aw_joinT {P : Program} {N : Nat} {s : St} {X : Type} (J : X → St) (Inv : X → Prop) {c rest : Code} {Q Q2 : Exit → St → Prop} (h : ∀ K : Exit → St → Prop, (∀ s x, Inv x → Wk N s (J x) → K .normal s) → (∀ s, Q2 .ret s → K .ret s) → AW P N c K s)
    (k : ∀ x, Inv x → AW P N rest Q (J x)) : AW P N c (thenK (AW P N rest Q) Q2) s := by
  refine AW.mono (h (fun e s => (e = .normal ∧ ∃ x, Inv x ∧ Wk N s (J x)) ∨ (e = .ret ∧ Q2 .ret s)) (fun s x hx hw => .inl ⟨rfl, x, hx, hw⟩) (fun s hs => .inr ⟨rfl, hs⟩)) ?_
  rintro e s (⟨rfl, x, hx, hw⟩ | ⟨rfl, hs⟩)
  · exact aw_wk hw (k x hx)
  · exact hs
theorem ins_d (l : List Nat) (a b : Nat) (ha : a ≤ b) (hb : b ≤ l.length) (hd : l.length < 1000000) : CallD Tryz.prog 185 [slV l.length, .int .i64 a, .int .i64 b] [.live (flat hc l)] (.tup []) [.live (flat hc (Sort.insertionSort lt64 l.toArray a b).toList)] := inplace_d (clean_tup cleans_nil) rfl (ins_a l a b ha hb hd)
theorem heap_d (l : List Nat) (a b : Nat) (ha : a < b) (hb : b ≤ l.length) (hd : l.length < 1000000) : CallD Tryz.prog 186 [slV l.length, .int .i64 a, .int .i64 b] [.live (flat hc l)] (.tup []) [.live (flat hc (Sort.heapSort lt64 l.toArray a b).toList)] := inplace_d (clean_tup cleans_nil) rfl (heap_a l a b ha hb hd)
theorem break_d (l : List Nat) (a b : Nat) (ha : a + 12 < b) (hb : b ≤ l.length) (hd : l.length < 1000000) : CallD Tryz.prog 187 [slV l.length, .int .i64 a, .int .i64 b] [.live (flat hc l)] (.tup []) [.live (flat hc (Sort.breakPatterns l.toArray a b).toList)] := inplace_d (clean_tup cleans_nil) rfl (break_a l a b ha hb hd)
theorem pivot_d (l : List Nat) (a b : Nat) (ha : a + 12 < b) (hb : b ≤ l.length) (hd : l.length < 1000000) : CallD Tryz.prog 188 [slV l.length, .int .i64 a, .int .i64 b] [.live (flat hc l)] (.tup [.int .i64 ((Sort.choosePivot lt64 l.toArray a b).1 : Nat), .int .i64 (hintN (Sort.choosePivot lt64 l.toArray a b).2 : Nat)]) [.live (flat hc l)] := inplace_d (clean_tup (cleans_cons (.int _ _) (cleans_cons (.int _ _) cleans_nil))) rfl (pivot_a l a b ha hb hd)
theorem rev_d (l : List Nat) (a b : Nat) (ha : a < b) (hb : b ≤ l.length) (hd : l.length < 1000000) : CallD Tryz.prog 189 [slV l.length, .int .i64 a, .int .i64 b] [.live (flat hc l)] (.tup []) [.live (flat hc (Sort.reverseRange l.toArray a b).toList)] := inplace_d (clean_tup cleans_nil) rfl (rev_a l a b ha hb hd)
theorem par_d (l : List Nat) (a b : Nat) (ha : a + 12 < b) (hb : b ≤ l.length) (hd : l.length < 1000000) : CallD Tryz.prog 190 [slV l.length, .int .i64 a, .int .i64 b] [.live (flat hc l)] (.bool (Sort.partialInsertionSort lt64 l.toArray a b).2) [.live (flat hc (Sort.partialInsertionSort lt64 l.toArray a b).1.toList)] := inplace_d (.bool _) rfl (par_a l a b ha hb hd)
theorem partEq_d (l : List Nat) (a b pv : Nat) (ha : a < b) (hb : b ≤ l.length) (hp : pv < l.length) (hd : l.length < 1000000) : CallD Tryz.prog 192 [slV l.length, .int .i64 a, .int .i64 b, .int .i64 pv] [.live (flat hc l)] (.int .i64 ((Sort.partitionEqual lt64 l.toArray a b pv).1 : Nat)) [.live (flat hc (Sort.partitionEqual lt64 l.toArray a b pv).2.toList)] := inplace_d (.int _ _) rfl (partEq_a l a b pv ha hb hp hd)
theorem part_d (l : List Nat) (a b pv : Nat) (ha : a < b) (hb : b ≤ l.length) (hp : pv < l.length) (hd : l.length < 1000000) : CallD Tryz.prog 193 [slV l.length, .int .i64 a, .int .i64 b, .int .i64 pv] [.live (flat hc l)] (.tup [.int .i64 ((Sort.partition lt64 l.toArray a b pv).1 : Nat), .bool (Sort.partition lt64 l.toArray a b pv).2.1]) [.live (flat hc (Sort.partition lt64 l.toArray a b pv).2.2.toList)] := inplace_d (clean_tup (cleans_cons (.int _ _) (cleans_cons (.bool _) cleans_nil))) rfl (part_a l a b pv ha hb hp hd)
set_option maxRecDepth 20000 in
set_option maxHeartbeats 40000000 in
theorem pdq_a : ∀ (n : Nat) (l : List Nat) (a b limit : Nat), b - a ≤ n → a ≤ b → b ≤ l.length → l.length < 1000000 → limit < 1000 → AC Tryz.prog 175 [slV l.length, .int .i64 a, .int .i64 b, .int .i64 limit] [.live (flat hc l)] (OutS (.tup []) (Sort.pdq lt64 l.toArray a b limit true true)) := by
  intro n
  induction n with
  | zero =>
    intro l a b limit hn hab hb hd hlim
    have d1 := ins_d l a b hab hb hd
    rw [show Sort.pdq lt64 l.toArray a b limit true true = Sort.insertionSort lt64 l.toArray a b from by rw [Sort.pdq, if_pos (by omega)]]
    (refine enter Tryz.func175 Tryz.results175 Tryz.ntmps175 ty_ok (hw := fun F hF => ?_); simp only [List.length_cons, List.length_nil, Nat.reduceAdd, Nat.reduceSub, List.replicate_succ, List.replicate_zero, List.cons_append, List.nil_append]; apply hF; clear hF F)
    refine wks ?_
    refine aw_rounds 1 ?_
    refine wks ?_
    refine st_call rfl rfl d1 ?_
    refine wks ?_
    refine fin ?_
    exact ⟨rfl, rfl⟩
  | succ n ih =>
    intro l a b limit hn hab hb hd hlim
    generalize hG : Sort.pdq lt64 l.toArray a b limit true true = G
    (refine enter Tryz.func175 Tryz.results175 Tryz.ntmps175 ty_ok (hw := fun F hF => ?_); simp only [List.length_cons, List.length_nil, Nat.reduceAdd, Nat.reduceSub, List.replicate_succ, List.replicate_zero, List.cons_append, List.nil_append]; apply hF; clear hF F)
    refine wks ?_
    refine aw_loopI (fun (x : Nat × Nat × Nat × Bool × Bool × List Nat) => ⟨((slV l.length) :: (.int .i64 x.1) :: (.int .i64 x.2.1) :: (.int .i64 x.2.2.1) :: .any :: .any :: .any :: .any :: (.bool x.2.2.2.1) :: (.bool x.2.2.2.2.1) :: .any :: .any :: .any :: .any :: .any :: .any :: .any :: .any :: .any :: .any :: .any :: .any :: .any :: .any :: .any :: .any :: .any :: .any :: .any :: .any :: .any :: .any :: .any :: .any :: .any :: .any :: .any :: .any :: .any :: .any :: .any :: .any :: .any :: .any :: .any :: .any :: .any :: .any :: .any :: .any :: .any :: .any :: .any :: .any :: .any :: .any :: .any :: .any :: .any :: .any :: .any :: .any :: .any :: .any :: .any :: .any :: .any :: .any :: .any :: .any :: .any :: .any :: .any :: .any :: .any :: .any :: .any :: .any :: .any :: .any :: .any :: .any :: .any :: .any :: .any :: .any :: .any :: .any :: .any :: .any :: .any :: .any :: .any :: .any :: .any :: .any :: .any :: .any :: .any :: .any :: .any :: .any :: .any :: .any :: .any :: .any :: .any :: .any :: .any :: .any :: .any :: .any :: .any :: .any :: .any :: .any :: .any :: .any :: .any :: .any :: .any :: .any :: .any :: .any :: .any :: .any :: .any :: .any :: .any :: .any :: .any :: .any :: .any :: .any :: []), [.live (flat hc x.2.2.2.2.2)]⟩) (fun x => x.1 ≤ x.2.1 ∧ x.2.1 ≤ l.length ∧ x.2.1 - x.1 ≤ n + 1 ∧ x.2.2.1 < 1000 ∧ x.2.2.2.2.2.length = l.length ∧ G = Sort.pdq lt64 x.2.2.2.2.2.toArray x.1 x.2.1 x.2.2.1 x.2.2.2.1 x.2.2.2.2.1) (fun x => x.2.1 - x.1) (a, b, limit, true, true, l) ⟨hab, hb, hn, hlim, rfl, hG.symm⟩ (by dsimp only; exact wkt [0]) ?_
    clear hG hn hab hb hlim limit a b
    rintro ⟨a, b, limit, wb, wp, e⟩ ⟨hab, hb, hn, hlim, he, hG⟩ K hK
    dsimp only at hab hb hn hlim he hG ⊢
    by_cases hA : b - a ≤ 12
    · have d1 := ins_d e a b hab (by omega) (by omega)
      rw [he] at d1
      rw [show G = Sort.insertionSort lt64 e.toArray a b from by rw [hG, Sort.pdq, if_pos hA]]
      clear hG ih hK
      refine wks ?_
      refine st_call rfl rfl d1 ?_
      refine wks ?_
      refine fin ?_
      exact ⟨rfl, rfl⟩
    · by_cases hL : limit = 0
      · have d1 := heap_d e a b (by omega) (by omega) (by omega)
        rw [he] at d1
        rw [show G = Sort.heapSort lt64 e.toArray a b from by rw [hG, Sort.pdq, if_neg hA, if_pos hL]]
        clear hG ih hK
        refine wks ?_
        refine st_call rfl rfl d1 ?_
        refine wks ?_
        refine fin ?_
        exact ⟨rfl, rfl⟩
      · obtain ⟨e1, limit1, c, e2, pv, hint, R⟩ := round_ex e a b limit wb wp hA hL
        obtain ⟨s1, s2, p1, p2⟩ := round_ok R (by omega)
        have hcp : a ≤ c.1 ∧ c.1 < b := by
          have := Sort.choosePivot_holds lt64 e1.toArray a b (by omega)
          rw [R.hc] at this; exact this
        obtain ⟨e3, done, hN⟩ : ∃ (e3 : List Nat) (done : Bool), nearB wb wp hint a b e2 = (e3.toArray, done) := ⟨_, _, Prod.ext (Array.toArray_toList).symm rfl⟩
        have s3 : e3.length = e.length := by
          have h1 : (nearB wb wp hint a b e2).1.size = e2.length := near_size
          rw [hN] at h1
          rw [← s2, ← h1]; simp
        have hlim1 : limit1 < 1000 := by have := R.hl; split at this <;> omega
        refine wks ?_
        refine aw_joinR (fun (_ : Unit) => ⟨((slV l.length) :: (.int .i64 a) :: (.int .i64 b) :: (.int .i64 limit1) :: .any :: .any :: .any :: .any :: (.bool wb) :: (.bool wp) :: (.int .i64 (b - a : Nat)) :: .any :: .any :: .any :: .any :: .any :: .any :: .any :: .any :: .any :: .any :: .any :: .any :: .any :: .any :: .any :: .any :: .any :: .any :: .any :: .any :: .any :: .any :: .any :: .any :: .any :: .any :: .any :: .any :: .any :: .any :: .any :: .any :: .any :: .any :: .any :: .any :: .any :: .any :: .any :: .any :: .any :: .any :: .any :: .any :: .any :: .any :: .any :: .any :: .any :: .any :: .any :: .any :: .any :: .any :: .any :: .any :: .any :: .any :: .any :: .any :: .any :: .any :: .any :: .any :: .any :: .any :: .any :: .any :: .any :: .any :: .any :: .any :: .any :: .any :: .any :: .any :: .any :: .any :: .any :: .any :: .any :: .any :: .any :: .any :: .any :: .any :: .any :: .any :: .any :: .any :: .any :: .any :: .any :: .any :: .any :: .any :: .any :: .any :: .any :: .any :: .any :: .any :: .any :: .any :: .any :: .any :: .any :: .any :: .any :: .any :: .any :: .any :: .any :: .any :: .any :: .any :: .any :: .any :: .any :: .any :: .any :: .any :: .any :: []), [.live (flat hc e1)]⟩) (fun _ => True) (fun K1 hK1 => ?_) (fun _ _ => ?_)
        · have h1 := R.h1
          have h2 := R.hl
          clear hK hG ih R hN
          cases wb with
          | true =>
            have e11 : e = e1 := by simpa using h1
            have e12 : limit = limit1 := by simpa using h2
            rw [e11, e12]
            clear h1 h2 e11
            refine wks ?_
            exact hK1 _ () trivial (wkt [0])
          | false =>
            have e11 : (Sort.breakPatterns e.toArray a b).toList = e1 := by
              have : Sort.breakPatterns e.toArray a b = e1.toArray := by simpa using h1
              rw [this]
            have e12 : limit - 1 = limit1 := by simpa using h2
            have d1 := break_d e a b (by omega) (by omega) (by omega)
            rw [he, e11] at d1
            clear h1 h2 e11
            refine wks ?_
            refine st_call rfl rfl d1 ?_
            refine wks ?_
            rw [e12]
            exact hK1 _ () trivial (wkt [0])
        · try dsimp only
          have d1 := pivot_d e1 a b (by omega) (by omega) (by omega)
          rw [R.hc, s1, he] at d1
          refine wks ?_
          refine st_call rfl rfl d1 ?_
          clear d1
          refine wks ?_
          refine aw_joinR (fun (_ : Unit) => ⟨((slV l.length) :: (.int .i64 a) :: (.int .i64 b) :: (.int .i64 limit1) :: .any :: .any :: .any :: .any :: (.bool wb) :: (.bool wp) :: (.int .i64 (b - a : Nat)) :: (.int .i64 pv) :: (.int .i64 (hintN hint : Nat)) :: .any :: .any :: .any :: .any :: .any :: .any :: .any :: .any :: .any :: .any :: .any :: .any :: .any :: .any :: .any :: .any :: .any :: .any :: .any :: .any :: .any :: .any :: .any :: .any :: .any :: .any :: .any :: .any :: .any :: .any :: .any :: .any :: .any :: .any :: .any :: .any :: .any :: .any :: .any :: .any :: .any :: .any :: .any :: .any :: .any :: .any :: .any :: .any :: .any :: .any :: .any :: .any :: .any :: .any :: .any :: .any :: .any :: .any :: .any :: .any :: .any :: .any :: .any :: .any :: .any :: .any :: .any :: .any :: .any :: .any :: .any :: .any :: .any :: .any :: .any :: .any :: .any :: .any :: .any :: .any :: .any :: .any :: .any :: .any :: .any :: .any :: .any :: .any :: .any :: .any :: .any :: .any :: .any :: .any :: .any :: .any :: .any :: .any :: .any :: .any :: .any :: .any :: .any :: .any :: .any :: .any :: .any :: .any :: .any :: .any :: .any :: .any :: .any :: .any :: .any :: .any :: .any :: .any :: .any :: .any :: .any :: []), [.live (flat hc e2)]⟩) (fun _ => True) (fun K2 hK2 => ?_) (fun _ _ => ?_)
          · have h2 := R.h2
            have h3 := R.hp
            have h4 := R.hh
            clear hK hG ih R hN
            by_cases hdec : c.2 = .decreasing
            · have hz : hintN c.2 = 2 := by rw [hdec]; rfl
              rw [if_pos hdec] at h2 h3 h4
              have d2 := rev_d e1 a b (by omega) (by omega) (by omega)
              rw [h2, s1, he] at d2
              rw [← h4] at hK2
              clear h2 h4 hdec
              refine wks ?_
              refine st_call rfl rfl d2 ?_
              refine wks ?_
              rw [h3]
              exact hK2 _ () trivial (wkt [0])
            · have hz : hintN c.2 ≠ 2 := by
                intro h
                rcases c with ⟨c1, c2⟩
                cases c2 <;> simp [hintN] at h hdec
              rw [if_neg hdec] at h2 h3 h4
              have e12 : e1 = e2 := by simpa using h2
              rw [e12, h3, h4]
              rw [h4] at hz
              clear h2 hdec h3 h4 e12
              refine wks ?_
              exact hK2 _ () trivial (wkt [0])
          · try dsimp only
            cases done with
            | true =>
              have hrun : wb = true ∧ wp = true ∧ hint = .increasing := by
                unfold nearB at hN
                by_cases h : (wb && wp && decide (hint = .increasing)) = true
                · simpa [Bool.and_eq_true, and_assoc] using h
                · rw [if_neg h] at hN; cases (Prod.ext_iff.1 hN).2
              obtain ⟨rfl, rfl, rfl⟩ := hrun
              have hP : Sort.partialInsertionSort lt64 e2.toArray a b = (e3.toArray, true) := by simpa [nearB] using hN
              have d2 := par_d e2 a b (by omega) (by omega) (by omega)
              rw [hP, s2, he] at d2
              rw [show G = e3.toArray from by rw [hG, pdq_done R hN]]
              clear hK hG ih R hN hP
              simp only [hintN] at *
              refine wks ?_
              refine st_call rfl rfl d2 ?_
              refine wks ?_
              refine fin ?_
              exact ⟨rfl, rfl⟩
            | false =>
              refine aw_seq ?_
              refine aw_joinR (fun (_ : Unit) => ⟨((slV l.length) :: (.int .i64 a) :: (.int .i64 b) :: (.int .i64 limit1) :: .any :: .any :: .any :: .any :: (.bool wb) :: (.bool wp) :: (.int .i64 (b - a : Nat)) :: (.int .i64 pv) :: .any :: .any :: .any :: .any :: .any :: .any :: .any :: .any :: .any :: .any :: .any :: .any :: .any :: .any :: .any :: .any :: .any :: .any :: .any :: .any :: .any :: .any :: .any :: .any :: .any :: .any :: .any :: .any :: .any :: .any :: .any :: .any :: .any :: .any :: .any :: .any :: .any :: .any :: .any :: .any :: .any :: .any :: .any :: .any :: .any :: .any :: .any :: .any :: .any :: .any :: .any :: .any :: .any :: .any :: .any :: .any :: .any :: .any :: .any :: .any :: .any :: .any :: .any :: .any :: .any :: .any :: .any :: .any :: .any :: .any :: .any :: .any :: .any :: .any :: .any :: .any :: .any :: .any :: .any :: .any :: .any :: .any :: .any :: .any :: .any :: .any :: .any :: .any :: .any :: .any :: .any :: .any :: .any :: .any :: .any :: .any :: .any :: .any :: .any :: .any :: .any :: .any :: .any :: .any :: .any :: .any :: .any :: .any :: .any :: .any :: .any :: .any :: .any :: .any :: .any :: .any :: .any :: .any :: .any :: .any :: .any :: .any :: []), [.live (flat hc e3)]⟩) (fun _ => True) (fun K3 hK3 => ?_) (fun _ _ => ?_)
              · clear hK hG ih R
                by_cases hrun : (wb && wp && decide (hint = .increasing)) = true
                · have hP : Sort.partialInsertionSort lt64 e2.toArray a b = (e3.toArray, false) := by
                    unfold nearB at hN; rw [if_pos hrun] at hN; exact hN
                  have d2 := par_d e2 a b (by omega) (by omega) (by omega)
                  rw [hP, s2, he] at d2
                  have hr : wb = true ∧ wp = true ∧ hint = .increasing := by simpa [Bool.and_eq_true, and_assoc] using hrun
                  obtain ⟨rfl, rfl, rfl⟩ := hr
                  clear hN hP hrun
                  simp only [hintN] at *
                  refine wks ?_
                  refine st_call rfl rfl d2 ?_
                  refine wks ?_
                  exact hK3 _ () trivial (wkt [0])
                · have e23 : e2 = e3 := by
                    unfold nearB at hN; rw [if_neg hrun] at hN
                    simpa using (Prod.ext_iff.1 hN).1
                  rw [← e23] at hK3
                  cases wb with
                  | false =>
                    refine wks ?_
                    exact hK3 _ () trivial (wkt [0])
                  | true =>
                    cases wp with
                    | false =>
                      refine wks ?_
                      exact hK3 _ () trivial (wkt [0])
                    | true =>
                      have hz : hintN hint ≠ 1 := by
                        intro h
                        cases hint <;> simp [hintN] at h hrun
                      clear hrun
                      refine wks ?_
                      exact hK3 _ () trivial (wkt [0])
              · try dsimp only
                have hpv : pv < e3.length := by omega
                by_cases hq : 0 < a ∧ lt64 e3.toArray[a - 1]! e3.toArray[pv]! = false
                · obtain ⟨m1, m2, m3⟩ := partEq_ok e3 (a := a) (b := b) (p := pv) (by omega) (by omega)
                  obtain ⟨e4, h4⟩ : ∃ e4 : List Nat, (Sort.partitionEqual lt64 e3.toArray a b pv).2 = e4.toArray := ⟨_, (Array.toArray_toList).symm⟩
                  have s4 : e4.length = l.length := by
                    have : e4.toArray.size = l.length := by rw [← h4, m3, s3, he]
                    simpa using this
                  have hE := pdq_eqb R hN hq.1 hq.2 (mid := (Sort.partitionEqual lt64 e3.toArray a b pv).1) (e4 := e4) (Prod.ext rfl h4) ⟨m1, m2⟩
                  have d4 := partEq_d e3 a b pv (by omega) (by omega) hpv (by omega)
                  rw [h4, s3, he] at d4
                  generalize (Sort.partitionEqual lt64 e3.toArray a b pv).1 = mid at *
                  have ha1 : a - 1 < e3.length := by omega
                  obtain ⟨hq1, hq2⟩ := hq
                  rw [arr_at ha1, arr_at hpv] at hq2
                  have hl2 := less_c (e3[a - 1]'ha1) (e3[pv]'hpv)
                  have hG2 := hG.trans hE
                  clear R hN hE hG ih h4
                  refine wks ?_
                  refine st_call rfl rfl d4 ?_
                  refine wks ?_
                  exact hK _ (mid, b, limit1, wb, wp, e4) ⟨by dsimp only; omega, hb, by dsimp only; omega, hlim1, s4, hG2⟩ (by dsimp only; exact wkt [0]) (by dsimp only; omega)
                · obtain ⟨m1, m2, m3⟩ := part_ok e3 (a := a) (b := b) (p := pv) p1 p2 (by omega)
                  obtain ⟨e4, h4⟩ : ∃ e4 : List Nat, (Sort.partition lt64 e3.toArray a b pv).2.2 = e4.toArray := ⟨_, (Array.toArray_toList).symm⟩
                  have s4 : e4.length = l.length := by
                    have : e4.toArray.size = l.length := by rw [← h4, m3, s3, he]
                    simpa using this
                  obtain ⟨mid, hm⟩ : ∃ mid, (Sort.partition lt64 e3.toArray a b pv).1 = mid := ⟨_, rfl⟩
                  obtain ⟨ap, hap⟩ : ∃ ap, (Sort.partition lt64 e3.toArray a b pv).2.1 = ap := ⟨_, rfl⟩
                  have hP : Sort.partition lt64 e3.toArray a b pv = (mid, ap, e4.toArray) := Prod.ext hm (Prod.ext hap h4)
                  have d4 := part_d e3 a b pv (by omega) (by omega) hpv (by omega)
                  rw [hP, s3, he] at d4
                  rw [hm] at m1 m2
                  have hEl := pdq_left R hN hq hP ⟨m1, m2⟩
                  have hEr := pdq_right R hN hq hP ⟨m1, m2⟩
                  clear R hN hm hap h4 m3 hP
                  refine aw_seq ?_
                  refine aw_joinR (fun (_ : Unit) => ⟨((slV l.length) :: (.int .i64 a) :: (.int .i64 b) :: (.int .i64 limit1) :: .any :: .any :: .any :: .any :: (.bool wb) :: (.bool wp) :: (.int .i64 (b - a : Nat)) :: (.int .i64 pv) :: .any :: .any :: .any :: .any :: .any :: .any :: .any :: .any :: .any :: .any :: .any :: .any :: .any :: .any :: .any :: .any :: .any :: .any :: .any :: .any :: .any :: .any :: .any :: .any :: .any :: .any :: .any :: .any :: .any :: .any :: .any :: .any :: .any :: .any :: .any :: .any :: .any :: .any :: .any :: .any :: .any :: .any :: .any :: .any :: .any :: .any :: .any :: .any :: .any :: .any :: .any :: .any :: .any :: .any :: .any :: .any :: .any :: .any :: .any :: .any :: .any :: .any :: .any :: .any :: .any :: .any :: .any :: .any :: .any :: .any :: .any :: .any :: .any :: .any :: .any :: .any :: .any :: .any :: .any :: .any :: .any :: .any :: .any :: .any :: .any :: .any :: .any :: .any :: .any :: .any :: .any :: .any :: .any :: .any :: .any :: .any :: .any :: .any :: .any :: .any :: .any :: .any :: .any :: .any :: .any :: .any :: .any :: .any :: .any :: .any :: .any :: .any :: .any :: .any :: .any :: .any :: .any :: .any :: .any :: .any :: .any :: .any :: []), [.live (flat hc e3)]⟩) (fun _ => True) (fun K4 hK4 => ?_) (fun _ _ => ?_)
                  · clear hEl hEr hG ih hK d4
                    by_cases ha0 : 0 < a
                    · have ha1 : a - 1 < e3.length := by omega
                      have hq2 : lt64 (e3[a - 1]'ha1) (e3[pv]'hpv) = true := by
                        cases hx : lt64 (e3[a - 1]'ha1) (e3[pv]'hpv) with
                        | true => rfl
                        | false => exact absurd ⟨ha0, by rw [arr_at ha1, arr_at hpv]; exact hx⟩ hq
                      have hl2 := less_c (e3[a - 1]'ha1) (e3[pv]'hpv)
                      clear hq
                      refine wks ?_
                      exact hK4 _ () trivial (wkt [0])
                    · clear hq
                      refine wks ?_
                      exact hK4 _ () trivial (wkt [0])
                  · try dsimp only
                    clear hq
                    by_cases h5 : mid - a < b - mid
                    · obtain ⟨e5, he5⟩ : ∃ e5 : List Nat, Sort.pdq lt64 e4.toArray a mid limit1 true true = e5.toArray := ⟨_, (Array.toArray_toList).symm⟩
                      have s5 : e5.length = l.length := by
                        have : e5.toArray.size = l.length := by rw [← he5, pdq_size _ _ _ _ _ _ _ (Nat.le_refl _) (by omega) (by omega), s4]
                        simpa using this
                      have i5 := ih e4 a mid limit1 (by omega) (by omega) (by omega) (by omega) hlim1
                      rw [he5] at i5
                      have d5 : CallD Tryz.prog 175 [slV e4.length, .int .i64 a, .int .i64 mid, .int .i64 limit1] [.live (flat hc e4)] (.tup []) [.live (flat hc e5)] := inplace_d (clean_tup cleans_nil) rfl i5
                      rw [s4] at d5
                      have hE := hEl h5
                      rw [he5] at hE
                      have hG2 := hG.trans hE
                      have hb8 : decide (((mid - a : Nat) : Int) ≥ (((b - a) / 8 : Nat) : Int)) = decide (mid - a ≥ (b - a) / 8) := decide_eq_decide.2 (by omega)
                      clear hEl hEr hE hG ih he5 i5
                      refine wks ?_
                      refine st_call rfl rfl d4 ?_
                      refine wks ?_
                      refine st_call rfl rfl d5 ?_
                      refine wks ?_
                      rw [hb8]
                      exact hK _ (mid + 1, b, limit1, _, ap, e5) ⟨by dsimp only; omega, hb, by dsimp only; omega, hlim1, s5, hG2⟩ (by dsimp only; exact wkt [0]) (by dsimp only; omega)
                    · obtain ⟨e5, he5⟩ : ∃ e5 : List Nat, Sort.pdq lt64 e4.toArray (mid + 1) b limit1 true true = e5.toArray := ⟨_, (Array.toArray_toList).symm⟩
                      have s5 : e5.length = l.length := by
                        have : e5.toArray.size = l.length := by rw [← he5, pdq_size _ _ _ _ _ _ _ (Nat.le_refl _) (by omega) (by omega), s4]
                        simpa using this
                      have i5 := ih e4 (mid + 1) b limit1 (by omega) (by omega) (by omega) (by omega) hlim1
                      rw [he5] at i5
                      have d5 : CallD Tryz.prog 175 [slV e4.length, .int .i64 (mid + 1 : Nat), .int .i64 b, .int .i64 limit1] [.live (flat hc e4)] (.tup []) [.live (flat hc e5)] := inplace_d (clean_tup cleans_nil) rfl i5
                      rw [s4] at d5
                      have hE := hEr h5
                      rw [he5] at hE
                      have hG2 := hG.trans hE
                      have hb8 : decide (((b - mid : Nat) : Int) ≥ (((b - a) / 8 : Nat) : Int)) = decide (b - mid ≥ (b - a) / 8) := decide_eq_decide.2 (by omega)
                      clear hEl hEr hE hG ih he5 i5
                      refine wks ?_
                      refine st_call rfl rfl d4 ?_
                      refine wks ?_
                      refine st_call rfl rfl d5 ?_
                      refine wks ?_
                      rw [hb8]
                      exact hK _ (a, mid, limit1, _, ap, e5) ⟨by dsimp only; omega, by dsimp only; omega, by dsimp only; omega, hlim1, s5, hG2⟩ (by dsimp only; exact wkt [0]) (by dsimp only; omega)
set_option maxHeartbeats 20000000 in
theorem sort_a (l : List Nat) (hd : l.length < 1000000) : AC Tryz.prog 150 [slV l.length] [.live (flat hc l)] (OutS (.tup []) (Sort.sort lt64 l.toArray)) := by
  have hb := blen_le_of_lt (n := l.length) (k := 20) (by omega)
  have c1 := blen_c l.length (by omega)
  have hp := pdq_a _ l 0 l.length (blen l.length) (Nat.le_refl _) (Nat.zero_le _) (Nat.le_refl _) hd (by omega)
  have hs : Sort.sort lt64 l.toArray = Sort.pdq lt64 l.toArray 0 l.length (blen l.length) true true := by unfold Sort.sort; simp; rfl
  obtain ⟨l', h'⟩ : ∃ l' : List Nat, Sort.pdq lt64 l.toArray 0 l.length (blen l.length) true true = l'.toArray := ⟨_, (Array.toArray_toList).symm⟩
  rw [hs, h']
  rw [h'] at hp
  have d1 : CallD Tryz.prog 175 [slV l.length, .int .i64 (0 : Nat), .int .i64 l.length, .int .i64 (blen l.length : Nat)] [.live (flat hc l)] (.tup []) [.live (flat hc l')] := inplace_d (clean_tup cleans_nil) rfl hp
  clear hs h' hp
  (refine enter Tryz.func150 Tryz.results150 Tryz.ntmps150 ty_ok (hw := fun F hF => ?_); simp only [List.length_cons, List.length_nil, Nat.reduceAdd, Nat.reduceSub, List.replicate_succ, List.replicate_zero, List.cons_append, List.nil_append]; apply hF; clear hF F)
  refine wks ?_
  refine st_call rfl rfl d1 ?_
  refine wks ?_
  refine fin ?_
  exact ⟨rfl, rfl⟩
/-- **slices.Sort sorts.** -/
theorem sort_ok (l : List Nat) : ∃ s : List Nat, Sort.sort lt64 l.toArray = s.toArray ∧ s.Perm l ∧ s.Pairwise (· ≤ ·) := by
  obtain ⟨h1, h2⟩ := Sort.sort_sorts lt64 swo64 l.toArray
  refine ⟨(Sort.sort lt64 l.toArray).toList, (Array.toArray_toList).symm, ?_, ?_⟩
  · have := h1.2.2
    rw [show (l.toArray.extract 0 l.toArray.size).toList = l from by simp] at this
    rw [← h1.1] at this
    simpa using this
  · rw [List.pairwise_iff_getElem]
    intro i j hi hj hij
    have hs : (Sort.sort lt64 l.toArray).size = l.toArray.size := h1.1
    have := h2 i j (Nat.zero_le _) hij (by rw [← hs]; simpa using hj)
    rw [← Array.toArray_toList (xs := Sort.sort lt64 l.toArray), arr_at hi, arr_at hj] at this
    simp [lt64] at this
    simpa using this
end Go.Abs
/- One of each: the walk. -/
namespace Go.Abs
open Go Go.Proofs

/-- How many differ from the one ahead of them. -/
def chN (l : List Nat) : Nat → Nat
  | 0 => 0
  | i + 1 => chN l i + (if 0 < i ∧ l.getD i 0 ≠ l.getD (i - 1) 0 then 1 else 0)
theorem chN_cons (a : Nat) (l : List Nat) : ∀ i, chN (a :: l) (i + 1 + 1) = (if l.getD 0 0 ≠ a then 1 else 0) + chN l (i + 1)
  | 0 => by simp [chN]
  | i + 1 => by
    have e0 : chN (a :: l) (i + 1 + 1 + 1) = chN (a :: l) (i + 1 + 1) + (if 0 < i + 1 + 1 ∧ (a :: l).getD (i + 1 + 1) 0 ≠ (a :: l).getD (i + 1 + 1 - 1) 0 then 1 else 0) := rfl
    have e4 : chN l (i + 1 + 1) = chN l (i + 1) + (if 0 < i + 1 ∧ l.getD (i + 1) 0 ≠ l.getD (i + 1 - 1) 0 then 1 else 0) := rfl
    have e1 : (a :: l).getD (i + 1 + 1) 0 = l.getD (i + 1) 0 := getD_cons1 _ _ _ _
    have e2 : (a :: l).getD (i + 1 + 1 - 1) 0 = l.getD (i + 1 - 1) 0 := getD_cons1 _ _ _ _
    rw [e0, chN_cons a l i, e4, e1, e2]
    have : (0 < i + 1 + 1 ∧ l.getD (i + 1) 0 ≠ l.getD (i + 1 - 1) 0) = (0 < i + 1 ∧ l.getD (i + 1) 0 ≠ l.getD (i + 1 - 1) 0) := by simp
    simp only [this]
    rw [Nat.add_assoc]
theorem compactN_chN : ∀ l : List Nat, l ≠ [] → (compactN l).length = 1 + chN l l.length
  | [], h => absurd rfl h
  | [a], _ => by simp [compactN, chN]
  | a :: b :: l, _ => by
    have ih := compactN_chN (b :: l) (by simp)
    have hc := chN_cons a (b :: l) l.length
    simp only [List.length_cons] at ih ⊢
    rw [hc]
    unfold compactN
    by_cases h : a = b
    · rw [if_pos h, ih, if_neg (by simpa using h.symm)]; omega
    · rw [if_neg h, List.length_cons, ih, if_pos (by simpa using fun e => h e.symm)]; omega
/-- What is left of a row when one of each run stays: how many, and the cells. -/
def cpIn (l : List Nat) : Nat → Nat → Nat → List Nat → Nat × List Nat
  | 0, _, k, e => (k, e)
  | f + 1, j, k, e => if l.getD j 0 ≠ l.getD (j - 1) 0 then cpIn l f (j + 1) (k + 1) (e.set k (l.getD j 0)) else cpIn l f (j + 1) k e
theorem cpIn_fst (l : List Nat) : ∀ (f j k : Nat) (e : List Nat), 1 ≤ j → chN l j + (cpIn l f j k e).1 = k + chN l (j + f)
  | 0, j, k, e, h => by simp [cpIn]; omega
  | f + 1, j, k, e, h => by
    unfold cpIn
    have hs : chN l (j + 1) = chN l j + (if 0 < j ∧ l.getD j 0 ≠ l.getD (j - 1) 0 then 1 else 0) := rfl
    split
    · rename_i h2
      have := cpIn_fst l f (j + 1) (k + 1) (e.set k (l.getD j 0)) (by omega)
      rw [hs, if_pos ⟨by omega, h2⟩] at this
      rw [show j + (f + 1) = j + 1 + f from by omega]; omega
    · rename_i h2
      have := cpIn_fst l f (j + 1) k e (by omega)
      rw [hs, if_neg (fun h => h2 h.2)] at this
      rw [show j + (f + 1) = j + 1 + f from by omega]; omega
theorem splice_cleans {cs : List V} {o : Nat} {vs : List V} (h1 : Cleans cs) (h2 : Cleans vs) : Cleans (splice cs o vs) := by
  induction vs generalizing cs o with
  | nil => exact h1
  | cons v vs ih =>
    refine ih (fun u hu => ?_) fun u hu => h2 u (by simp [hu])
    rcases List.mem_or_eq_of_mem_set hu with h | rfl
    · exact h1 u h
    · exact h2 u (by simp)
theorem hx_at {e : List Nat} {a b : Nat} (h : a + b < e.length) : nth (flat hc e) (a * 1 + b * 1) = .int .u64 (e[a + b] : Nat) := by
  rw [← Nat.add_mul]
  exact nth_flat0L (f := hc) e (a + b) h (by omega)
set_option maxHeartbeats 20000000 in
theorem compact_a (l : List Nat) (h0 : 0 < l.length) (hd : l.length < 1000000) : ∃ (cap : Nat) (c' : List V), Cleans c' ∧ AC Tryz.prog 151 [slV l.length] [.live (flat hc l)] (fun v h' => v = .slc 0 0 1 (compactN l).length cap ∧ h'[0]? = some (.live c')) := by
  have hne : l ≠ [] := by intro h; rw [h] at h0; simp at h0
  by_cases h2 : l.length < 2
  · have h1 : (compactN l).length = l.length := by
      rw [compactN_chN l hne, show l.length = 1 from by omega]; rfl
    refine ⟨l.length, flat hc l, cleans_flat _, ?_⟩
    rw [h1]
    (refine enter Tryz.func151 Tryz.results151 Tryz.ntmps151 ty_ok (hw := fun F hF => ?_); simp only [List.length_cons, List.length_nil, Nat.reduceAdd, Nat.reduceSub, List.replicate_succ, List.replicate_zero, List.cons_append, List.nil_append]; apply hF; clear hF F)
    refine wks ?_
    refine fin ?_
    exact ⟨rfl, rfl⟩
  · -- the first that is as the one ahead of it
    by_cases hex : ∃ k, ∃ (hk : k < l.length), 1 ≤ k ∧ l[k] = l[k - 1] ∧ ∀ j (hj : j < l.length), 1 ≤ j → j < k → l[j] ≠ l[j - 1]
    · obtain ⟨k0, hk0, hk1, hk2, hk3⟩ := hex
      obtain ⟨G, hG⟩ : ∃ G, cpIn l (l.length - k0 - 1) (k0 + 1) k0 l = G := ⟨_, rfl⟩
      have hch : ∀ i, 1 ≤ i → i ≤ k0 → chN l i = i - 1 := by
        intro i hi1 hi2
        induction i with
        | zero => omega
        | succ i ih =>
          rw [chN]
          rcases Nat.eq_zero_or_pos i with rfl | hp
          · simp [chN]
          · have h9 : l.getD i 0 ≠ l.getD (i - 1) 0 := by
              have := hk3 i (by omega) (by omega) (by omega)
              rw [getD_at (by omega), getD_at (by omega)]; exact this
            rw [ih (by omega) (by omega), if_pos ⟨hp, h9⟩]
            omega
      have hG1 : G.1 = (compactN l).length := by
        have h3 := cpIn_fst l (l.length - k0 - 1) (k0 + 1) k0 l (by omega)
        rw [hG, chN, hch k0 hk1 (Nat.le_refl _), if_neg (by
          rintro ⟨_, h⟩
          rw [getD_at hk0, getD_at (by omega)] at h; exact h hk2), show k0 + 1 + (l.length - k0 - 1) = l.length from by omega] at h3
        rw [compactN_chN l hne]; omega
      refine ⟨l.length, splice (flat hc G.2) (G.1 * 1) (List.replicate (l.length - G.1) [V.int .u64 0]).flatten, splice_cleans (cleans_flat _) (fun v hv => by
        obtain ⟨r, hr1, hr2⟩ := List.mem_flatten.1 hv
        rw [List.eq_of_mem_replicate hr1] at hr2
        rw [List.mem_singleton.1 hr2]; exact .int _ _), ?_⟩
      rw [← hG1]
      clear hG1 hch
      (refine enter Tryz.func151 Tryz.results151 Tryz.ntmps151 ty_ok (hw := fun F hF => ?_); simp only [List.length_cons, List.length_nil, Nat.reduceAdd, Nat.reduceSub, List.replicate_succ, List.replicate_zero, List.cons_append, List.nil_append]; apply hF; clear hF F)
      refine wks ?_
      refine aw_loopI (fun (k : Nat) => ⟨((slV l.length) :: .any :: .any :: (.int .i64 k) :: .any :: .any :: .any :: .any :: .any :: .any :: .any :: .any :: .any :: .any :: .any :: .any :: .any :: .any :: .any :: .any :: .any :: .any :: .any :: .any :: .any :: .any :: .any :: .any :: .any :: .any :: .any :: .any :: .any :: .any :: .any :: .any :: .any :: .any :: .any :: .any :: .any :: .any :: .any :: .any :: .any :: .any :: .any :: .any :: .any :: .any :: .any :: .any :: .any :: .any :: .any :: .any :: .any :: .any :: .any :: .any :: .any :: []), [.live (flat hc l)]⟩) (fun k => 1 ≤ k ∧ k ≤ k0) (fun k => k0 - k) 1 ⟨Nat.le_refl _, hk1⟩ (wkt [0]) ?_
      rintro k ⟨q1, q2⟩ K hK
      have hkl : k < l.length := by omega
      have hkl1 : k - 1 < l.length := by omega
      by_cases hkk : k < k0
      · have q3 : l[k]'hkl ≠ l[k - 1]'hkl1 := hk3 k hkl q1 hkk
        have q4 : ¬ (l[k]'hkl = l[k - 1]'hkl1) := q3
        clear hk3
        refine wks ?_
        exact hK _ (k + 1) ⟨by omega, by omega⟩ (wkt [0]) (by omega)
      · obtain rfl : k = k0 := by omega
        clear hk3
        refine wks ?_
        refine aw_loopI (fun (x : Nat × Nat × List Nat) => ⟨((slV l.length) :: .any :: .any :: (.int .i64 x.2.1) :: (.slc 0 (k * 1) 1 (l.length - k) (l.length - k)) :: (.int .i64 x.1) :: .any :: .any :: .any :: .any :: .any :: .any :: .any :: .any :: .any :: .any :: .any :: .any :: .any :: .any :: .any :: .any :: .any :: .any :: .any :: .any :: .any :: .any :: .any :: .any :: .any :: .any :: .any :: .any :: .any :: .any :: .any :: .any :: .any :: .any :: .any :: .any :: .any :: .any :: .any :: .any :: .any :: .any :: .any :: .any :: .any :: .any :: .any :: .any :: .any :: .any :: .any :: .any :: .any :: .any :: .any :: []), [.live (flat hc x.2.2)]⟩) (fun x => 1 ≤ x.1 ∧ x.1 ≤ l.length - k ∧ k ≤ x.2.1 ∧ x.2.1 ≤ k + x.1 - 1 ∧ x.2.2.length = l.length ∧ (∀ i, x.2.1 ≤ i → x.2.2.getD i 0 = l.getD i 0) ∧ G = cpIn l (l.length - k - x.1) (k + x.1) x.2.1 x.2.2) (fun x => l.length - k - x.1) (1, k, l) ⟨Nat.le_refl _, by dsimp only; omega, Nat.le_refl _, by dsimp only; omega, rfl, fun i _ => rfl, hG.symm⟩ (by dsimp only; exact wkt [0]) ?_
        clear hG
        rintro ⟨j, m, e⟩ ⟨r1, r2, r3, r4, r5, r6, r7⟩ K2 hK2
        dsimp only at r1 r2 r3 r4 r5 r6 r7 ⊢
        by_cases hj : j < l.length - k
        · have he : k + j < e.length := by omega
          have he1 : k + (j - 1) < e.length := by omega
          have hx1 := hx_at he
          have hx2 := hx_at he1
          have v1 : e[k + j] = l.getD (k + j) 0 := by rw [← r6 (k + j) (by omega), getD_at he]
          have v2 : e[k + (j - 1)] = l.getD (k + j - 1) 0 := by rw [show k + j - 1 = k + (j - 1) from by omega, ← r6 (k + (j - 1)) (by omega), getD_at he1]
          rw [show l.length - k - j = (l.length - k - (j + 1)) + 1 from by omega, cpIn] at r7
          by_cases hv : e[k + j] = e[k + (j - 1)]
          · rw [if_neg (by rw [← v1, ← v2]; exact fun h => h hv)] at r7
            refine wks ?_
            (refine aseq_fx (fun F hF => ?_); simp only [hx1, hx2]; apply hF; clear hF F)
            refine wks ?_
            refine hK2 _ (j + 1, m, e) ⟨by dsimp only; omega, by dsimp only; omega, r3, by dsimp only; omega, r5, r6, r7⟩ (by dsimp only; exact wkt [0]) (by dsimp only; omega)
          · rw [if_pos (by rw [← v1, ← v2]; exact hv), ← v1] at r7
            have r6' : ∀ i, m + 1 ≤ i → (e.set m e[k + j]).getD i 0 = l.getD i 0 := fun i hi => by
              rw [← r6 i (by omega), List.getD_eq_getElem?_getD, List.getD_eq_getElem?_getD, List.getElem?_set_ne (by omega)]
            have k6 := flat_hset e m e[k + j]
            clear r6
            refine wks ?_
            (refine aseq_fx (fun F hF => ?_); simp only [hx1, hx2]; apply hF; clear hF F)
            refine wks ?_
            (refine aseq_fx (fun F hF => ?_); simp only [hx1]; apply hF; clear hF F)
            refine wks ?_
            refine hK2 _ (j + 1, m + 1, e.set m e[k + j]) ⟨by dsimp only; omega, by dsimp only; omega, by dsimp only; omega, by dsimp only; omega, by dsimp only; rw [List.length_set]; exact r5, r6', r7⟩ ?_ (by dsimp only; omega)
            rw [k6]
            dsimp only
            exact wkt [0]
        · have hj2 : l.length - k - j = 0 := by omega
          rw [hj2] at r7
          have hG2 : G = (m, e) := r7
          rw [hG2]
          clear r6 r7 hG2 hK2
          dsimp only
          refine wks ?_
          refine fin ?_
          exact ⟨rfl, rfl⟩
    · have hall : ∀ n j (hj : j < l.length), j ≤ n → 1 ≤ j → l[j] ≠ l[j - 1] := by
        intro n
        induction n with
        | zero => intro j hj h1 h2; omega
        | succ n ih =>
          intro j hj h1 h2 e
          exact hex ⟨j, hj, h2, e, fun i hi q1 q2 => ih i hi (by omega) q1⟩
      have hch : ∀ i, 1 ≤ i → i ≤ l.length → chN l i = i - 1 := by
        intro i hi1 hi2
        induction i with
        | zero => omega
        | succ i ih =>
          rw [chN]
          rcases Nat.eq_zero_or_pos i with rfl | hp
          · simp [chN]
          · have h9 : l.getD i 0 ≠ l.getD (i - 1) 0 := by
              have := hall i i (by omega) (Nat.le_refl _) (by omega)
              rw [getD_at (by omega), getD_at (by omega)]; exact this
            rw [ih (by omega) (by omega), if_pos ⟨hp, h9⟩]
            omega
      have h1 : (compactN l).length = l.length := by
        rw [compactN_chN l hne, hch _ (by omega) (Nat.le_refl _)]; omega
      refine ⟨l.length, flat hc l, cleans_flat _, ?_⟩
      rw [h1]
      clear hex hch h1
      (refine enter Tryz.func151 Tryz.results151 Tryz.ntmps151 ty_ok (hw := fun F hF => ?_); simp only [List.length_cons, List.length_nil, Nat.reduceAdd, Nat.reduceSub, List.replicate_succ, List.replicate_zero, List.cons_append, List.nil_append]; apply hF; clear hF F)
      refine wks ?_
      refine aw_loopI (fun (k : Nat) => ⟨((slV l.length) :: .any :: .any :: (.int .i64 k) :: .any :: .any :: .any :: .any :: .any :: .any :: .any :: .any :: .any :: .any :: .any :: .any :: .any :: .any :: .any :: .any :: .any :: .any :: .any :: .any :: .any :: .any :: .any :: .any :: .any :: .any :: .any :: .any :: .any :: .any :: .any :: .any :: .any :: .any :: .any :: .any :: .any :: .any :: .any :: .any :: .any :: .any :: .any :: .any :: .any :: .any :: .any :: .any :: .any :: .any :: .any :: .any :: .any :: .any :: .any :: .any :: .any :: []), [.live (flat hc l)]⟩) (fun k => 1 ≤ k ∧ k ≤ l.length) (fun k => l.length - k) 1 ⟨Nat.le_refl _, by omega⟩ (wkt [0]) ?_
      rintro k ⟨q1, q2⟩ K hK
      by_cases hkk : k < l.length
      · have hkl1 : k - 1 < l.length := by omega
        have q3 : l[k]'hkk ≠ l[k - 1]'hkl1 := hall k k hkk (Nat.le_refl _) q1
        have q4 : ¬ (l[k]'hkk = l[k - 1]'hkl1) := q3
        clear hall
        refine wks ?_
        exact hK _ (k + 1) ⟨by omega, by omega⟩ (wkt [0]) (by omega)
      · obtain rfl : k = l.length := by omega
        clear hall
        refine wks ?_
        refine fin ?_
        exact ⟨rfl, rfl⟩
end Go.Abs
