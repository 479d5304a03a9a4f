/- The chains of a row; what a book may be: the walks. -/
import Derived.Test.YtemlnaipcdajeaaGreatM21
import Derived.Test.YtemlnaipcdajeaaGreatM10
set_option linter.unusedVariables false
set_option linter.unusedSimpArgs false
namespace Go.Abs
open Go Go.Proofs

theorem chains_c (l : List Tx) (x : Bool) (H : List HB) : CallD Tryz.prog 148 [tsV l x] H (.fn 174 [.ptr H.length 0]) (H ++ [.live [tsV l x]]) := by
  unfold CallD
  (refine enter Tryz.func148 Tryz.results148 Tryz.ntmps148 ty_ok (hw := fun F hF => ?_); simp only [List.length_cons, List.length_nil, Nat.reduceAdd, Nat.reduceSub, List.replicate_succ, List.replicate_zero, List.cons_append, List.nil_append]; apply hF; clear hF F)
  refine wk ?_
  refine fin ?_
  exact ⟨rfl, rfl⟩
/-- May this be the chain of its account? -/
def acctB (ac : List Acct) (a : Int) (l : List Tx) : Bool := chainB l && decide ((l.getD 0 default).no = (ac.getD a.toNat default).no) && decide (spentN l ≤ (ac.getD a.toNat default).bal)
/-- The chains of a row, one behind the other. -/
def groupsB (ac : List Acct) : Nat → Int → List Tx → Bool
  | _, _, [] => true
  | 0, _, _ :: _ => false
  | k + 1, last, t :: l => decide (last < t.fr ∧ t.fr < 8) && acctB ac t.fr ((t :: l).take (runN t.fr (t :: l))) && groupsB ac k t.fr ((t :: l).drop (runN t.fr (t :: l)))
theorem acctB_iff {ac : List Acct} {a : Int} {l : List Tx} (h : l ≠ []) : acctB ac a l = true ↔ AcctP ac a l := by
  unfold acctB AcctP
  rw [Bool.and_eq_true, Bool.and_eq_true, chainB_iff, decide_eq_true_iff, decide_eq_true_iff, headD_getD]
  exact ⟨fun h1 => ⟨h1.1.1, fun _ => h1.1.2, h1.2⟩, fun h1 => ⟨⟨h1.1, h1.2.1 h⟩, h1.2.2⟩⟩
theorem runN_pos (t : Tx) (l : List Tx) : 0 < runN t.fr (t :: l) := by unfold runN; rw [if_pos rfl]; omega
theorem groupsB_iff (ac : List Acct) : ∀ (k : Nat) (last : Int) (l : List Tx), groupsB ac k last l = true ↔ Groups ac k last l
  | k, last, [] => by cases k <;> simp [groupsB, Groups]
  | 0, last, t :: l => by simp [groupsB, Groups]
  | k + 1, last, t :: l => by
    unfold groupsB Groups
    have hne : (t :: l).take (runN t.fr (t :: l)) ≠ [] := by
      have := runN_pos t l
      cases h : runN t.fr (t :: l) with
      | zero => omega
      | succ n => simp
    rw [Bool.and_eq_true, Bool.and_eq_true, decide_eq_true_iff, acctB_iff hne, groupsB_iff ac k]
    exact ⟨fun h => ⟨h.1.1, h.1.2, h.2⟩, fun h => ⟨⟨h.1, h.2.1⟩, h.2.2⟩⟩
theorem runN_at (f : Int) : ∀ (l : List Tx) (n : Nat), n ≤ l.length → (∀ j, (h : j < n) → (hl : j < l.length) → l[j].fr = f) → (∀ h : n < l.length, l[n].fr ≠ f) → runN f l = n
  | [], n, hn, _, _ => by simp at hn; subst hn; rfl
  | t :: l, n, hn, h1, h2 => by
    unfold runN
    cases n with
    | zero =>
      have := h2 (by simp)
      rw [if_neg (by simpa using this)]
    | succ n =>
      have := h1 0 (by omega) (by simp)
      rw [if_pos (by simpa using this), runN_at f l n (by simpa using hn) (fun j h hl => by have := h1 (j + 1) (by omega) (by simp; omega); simpa using this) (fun h => by have := h2 (by simp; omega); simpa using this)]
theorem groups_go {ac : List Acct} {k n : Nat} {last f : Int} {l : List Tx} (h0 : 0 < l.length) (hk : l.length ≤ k) (hf : l[0].fr = f) (hn : runN f l = n) : groupsB ac k last l = (decide (last < f ∧ f < 8) && acctB ac f (l.take n) && groupsB ac (k - 1) f (l.drop n)) := by
  cases l with
  | nil => simp at h0
  | cons t l =>
    obtain ⟨m, rfl⟩ : ∃ m, k = m + 1 := ⟨k - 1, by simp at hk; omega⟩
    simp at hf
    subst hf
    subst hn
    rfl
theorem take_tsV (l : List Tx) (n : Nat) (h : n ≤ l.length) : V.vec (List.take (n * 21) (flat txc l)) n false = tsV (l.take n) false := by
  have := flat_sub (f := txc) l 0 n
  rw [Nat.zero_mul, List.drop_zero, List.drop_zero] at this
  show _ = V.vec (flat txc (l.take n)) (l.take n).length false
  rw [this, List.length_take, Nat.min_eq_left h]
theorem drop_tsV (l : List Tx) (n : Nat) : V.vec (List.take ((l.length - n) * 21) (List.drop (n * 21) (flat txc l))) (l.length - n) false = tsV (l.drop n) false := by
  have := flat_sub (f := txc) l n (l.length - n)
  rw [this]
  show _ = V.vec (flat txc (l.drop n)) (l.drop n).length false
  rw [List.length_drop, List.take_of_length_le (by rw [List.length_drop]; exact Nat.le_refl _)]
set_option maxRecDepth 20000 in
set_option maxHeartbeats 20000000 in
/-- The chains, told one by one to a loop that may be left. -/
theorem iter_a (ac : List Acct) (LB : LoopB) (hLt : renL [0, 1, 2, 3] LB.t = LB.t) (j : Code) (c0 c1 : List V) (hc0 : Cleans c0) (hc1 : Cleans c1) (l : List Tx) (hd : l.length < 1000000) (o : ∀ t ∈ l, t.ok)
    (hgood : ∀ (f : Int) (g : List Tx), acctB ac f g = true → 0 ≤ f → f < 8 → 0 < g.length → g.length ≤ l.length → (∀ t ∈ g, t.ok) → ∀ r : List Tx, RoundD Tryz.prog LB [.int .i64 f, tsV g false] [.live c0, .live c1, .live [tsV r false], .dead] [.live c0, .live c1, .live [tsV r false], .dead])
    (hbad : ∀ (f : Int) (g : List Tx), acctB ac f g = false → 0 ≤ f → f < 8 → 0 < g.length → g.length ≤ l.length → (∀ t ∈ g, t.ok) → ∀ r : List Tx, RoundD Tryz.prog LB [.int .i64 f, tsV g false] [.live c0, .live c1, .live [tsV r false], .dead] [.live c0, .live c1, .live [tsV r false], .dead] (some j))
    (hout : ∀ (r : List Tx), RoundD Tryz.prog LB [.int .i64 (-1), tsV r false] [.live c0, .live c1, .live [tsV r false], .dead] [.live c0, .live c1, .live [tsV r false], .dead] (some j)) :
    AC Tryz.prog 174 [.yld 3, .ptr 2 0] [.live c0, .live c1, .live [tsV l false], .loop LB] (fun _ h' => ∃ (pd : Option Code) (r : List Tx), h' = [.live c0, .live c1, .live [tsV r false], .loop { LB with pend := pd }] ∧ pd = if groupsB ac l.length (-1) l = true then none else some j) := by
  generalize hG : groupsB ac l.length (-1) l = G
  have hq : ∀ (σ : List Nat) (l : List Tx), renL σ (flat txc l) = flat txc l := fun σ l => renL_clean σ (cleans_flat l)
  have hp : LB = { LB with pend := none } := by
    have := (hout []).2.2.2.1
    cases LB; cases this; rfl
  (refine enter Tryz.func174 Tryz.results174 Tryz.ntmps174 ty_ok (hw := fun F hF => ?_); simp only [List.length_cons, List.length_nil, Nat.reduceAdd, Nat.reduceSub, List.replicate_succ, List.replicate_zero, List.cons_append, List.nil_append]; apply hF; clear hF F)
  refine wks ?_
  refine aw_loopI (fun (x : Int × List Tx) => ⟨((.yld 3) :: (.ptr 2 0) :: .any :: (.int .i64 x.1) :: .any :: .any :: .any :: .any :: .any :: .any :: .any :: .any :: .any :: .any :: .any :: .any :: .any :: .any :: .any :: .any :: .any :: .any :: .any :: .any :: .any :: .any :: .any :: .any :: .any :: .any :: .any :: .any :: .any :: .any :: .any :: .any :: .any :: .any :: .any :: .any :: .any :: .any :: .any :: .any :: .any :: .any :: .any :: .any :: .any :: []), [.live c0, .live c1, .live [tsV x.2 false], .loop LB]⟩) (fun x => -1 ≤ x.1 ∧ x.1 < 8 ∧ x.2.length ≤ l.length ∧ (∀ t ∈ x.2, t.ok) ∧ ∃ k, x.2.length ≤ k ∧ G = groupsB ac k x.1 x.2) (fun x => x.2.length) (-1, l) ⟨by dsimp only; omega, by dsimp only; omega, Nat.le_refl _, o, l.length, Nat.le_refl _, hG.symm⟩ (by dsimp only; exact (wkt [0, 1, 2, 3] (hh := by dsimp only [renS, renH, renL, renV, renB, hbAt, List.map_cons, List.map_nil, List.getElem?_cons_zero, List.getElem?_cons_succ]; simp only [renL_clean _ hc0, renL_clean _ hc1, hq, hLt]))) ?_
  clear hG
  rintro ⟨last, r⟩ ⟨h1, h2, h3, h4, k, h5, h6⟩ K hK
  dsimp only at h1 h2 h3 h4 h5 h6 ⊢
  by_cases h0 : 0 < r.length
  · obtain ⟨f, hf⟩ : ∃ f, r[0].fr = f := ⟨_, rfl⟩
    have hfb := (h4 _ (List.getElem_mem h0)).fr
    rw [hf] at hfb
    have hfl : (flat txc r).length = r.length * 21 := flat_length r
    replace hgood := Left.mk hgood
    replace hbad := Left.mk hbad
    replace hout := Left.mk hout
    refine wks ?_
    rw [hf]
    refine aw_loopI (fun (i : Nat) => ⟨((.yld 3) :: (.ptr 2 0) :: .any :: (.int .i64 last) :: (.int .i64 f) :: (.int .i64 i) :: .any :: .any :: .any :: .any :: .any :: .any :: .any :: .any :: .any :: .any :: .any :: .any :: .any :: .any :: .any :: .any :: .any :: .any :: .any :: .any :: .any :: .any :: .any :: .any :: .any :: .any :: .any :: .any :: .any :: .any :: .any :: .any :: .any :: .any :: .any :: .any :: .any :: .any :: .any :: .any :: .any :: .any :: .any :: []), [.live c0, .live c1, .live [tsV r false], .loop LB]⟩) (fun i => i ≤ r.length ∧ ∀ j, (h : j < i) → (hl : j < r.length) → r[j].fr = f) (fun i => r.length - i) 0 ⟨by omega, fun j h => absurd h (Nat.not_lt_zero j)⟩ (wkt [0, 1, 2, 3] (hh := by dsimp only [renS, renH, renL, renV, renB, hbAt, List.map_cons, List.map_nil, List.getElem?_cons_zero, List.getElem?_cons_succ]; simp only [renL_clean _ hc0, renL_clean _ hc1, hq, hLt])) ?_
    rintro i ⟨hi, hst⟩ K2 hK2
    by_cases hc : ∃ h : i < r.length, r[i].fr = f
    · obtain ⟨hil, hif⟩ := hc
      have hst' : ∀ j, (h : j < i + 1) → (hl : j < r.length) → r[j].fr = f := fun j h hl => by
        rcases Nat.lt_succ_iff_lt_or_eq.1 h with h2 | rfl
        · exact hst j h2 hl
        · exact hif
      clear hst
      refine wks ?_
      exact hK2 _ (i + 1) ⟨by omega, hst'⟩ (wkt [0, 1, 2, 3] (hh := by dsimp only [renS, renH, renL, renV, renB, hbAt, List.map_cons, List.map_nil, List.getElem?_cons_zero, List.getElem?_cons_succ]; simp only [renL_clean _ hc0, renL_clean _ hc1, hq, hLt])) (by omega)
    · have hrun : runN f r = i := runN_at f r i hi hst fun h e => hc ⟨h, e⟩
      have hi0 : 0 < i := by
        rcases Nat.eq_zero_or_pos i with rfl | h
        · exact absurd ⟨h0, hf⟩ hc
        · exact h
      have hgo := groups_go (ac := ac) (last := last) h0 h5 hf hrun
      clear hst hK2
      refine aw_exitJ ⟨((.yld 3) :: (.ptr 2 0) :: .any :: (.int .i64 last) :: (.int .i64 f) :: (.int .i64 i) :: .any :: .any :: .any :: .any :: .any :: .any :: .any :: .any :: .any :: .any :: .any :: .any :: .any :: .any :: .any :: .any :: .any :: .any :: .any :: .any :: .any :: .any :: .any :: .any :: .any :: .any :: .any :: .any :: .any :: .any :: .any :: .any :: .any :: .any :: .any :: .any :: .any :: .any :: .any :: .any :: .any :: .any :: .any :: []), [.live c0, .live c1, .live [tsV r false], .loop LB]⟩ ?_ ?_
      · clear hgo hK
        by_cases hil : i < r.length
        · have hif : ¬ r[i].fr = f := fun e => hc ⟨hil, e⟩
          clear hc
          refine wks ?_
          exact (wkt [0, 1, 2, 3] (hh := by dsimp only [renS, renH, renL, renV, renB, hbAt, List.map_cons, List.map_nil, List.getElem?_cons_zero, List.getElem?_cons_succ]; simp only [renL_clean _ hc0, renL_clean _ hc1, hq, hLt]))
        · clear hc
          refine wks ?_
          exact (wkt [0, 1, 2, 3] (hh := by dsimp only [renS, renH, renL, renV, renB, hbAt, List.map_cons, List.map_nil, List.getElem?_cons_zero, List.getElem?_cons_succ]; simp only [renL_clean _ hc0, renL_clean _ hc1, hq, hLt]))
      · clear hc hrun
        by_cases hb : last < f ∧ f < 8
        · obtain ⟨hb1, hb2⟩ := hb
          have q1 : (r.take i).length = i := by rw [List.length_take]; omega
          have q2 : ∀ t ∈ r.take i, t.ok := fun t ht => h4 t (List.mem_of_mem_take ht)
          have q3 : ∀ t ∈ r.drop i, t.ok := fun t ht => h4 t (List.mem_of_mem_drop ht)
          cases hA : acctB ac f (r.take i) with
          | true =>
            have hr := hgood.left f (r.take i) hA (by omega) hb2 (by omega) (by omega) q2 r
            rw [hA, decide_eq_true ⟨hb1, hb2⟩, Bool.true_and, Bool.true_and] at hgo
            rw [hgo] at h6
            have hm := Left.mk h6
            clear hgo h6 hA q2
            refine wks ?_
            (refine aseq_fx (fun F hF => ?_); simp only [Nat.sub_zero, take_tsV r i hi]; apply hF; clear hF F)
            refine st_yield rfl rfl rfl rfl hr ?_
            clear hr
            refine wks ?_
            rw [drop_tsV r i]
            refine hK _ (f, r.drop i) ⟨by dsimp only; omega, hb2, by dsimp only; rw [List.length_drop]; omega, q3, k - 1, by dsimp only; rw [List.length_drop]; omega, hm.left⟩ (by dsimp only; exact (wkt [0, 1, 2, 3] (hh := by dsimp only [renS, renH, renL, renV, renB, hbAt, List.map_cons, List.map_nil, List.getElem?_cons_zero, List.getElem?_cons_succ]; simp only [renL_clean _ hc0, renL_clean _ hc1, hq, hLt]))) (by dsimp only; rw [List.length_drop]; omega)
          | false =>
            have hr := hbad.left f (r.take i) hA (by omega) hb2 (by omega) (by omega) q2 r
            rw [hA, Bool.and_false, Bool.false_and] at hgo
            rw [hgo] at h6
            clear hgo hA q2 q3 hK
            refine wks ?_
            (refine aseq_fx (fun F hF => ?_); simp only [Nat.sub_zero, take_tsV r i hi]; apply hF; clear hF F)
            refine st_yieldX j rfl rfl rfl rfl hr ?_
            clear hr
            refine wks ?_
            refine fin ?_
            exact ⟨some j, r, rfl, by rw [h6]; rfl⟩
        · have hr := hout.left r
          rw [decide_eq_false hb, Bool.false_and, Bool.false_and] at hgo
          rw [hgo] at h6
          clear hgo hK
          by_cases hb1 : f ≤ last
          · clear hb
            refine wks ?_
            refine st_yieldX j rfl rfl rfl rfl hr ?_
            clear hr
            refine wks ?_
            refine fin ?_
            exact ⟨some j, r, rfl, by rw [h6]; rfl⟩
          · have hb2 : 8 ≤ f := by omega
            clear hb
            refine wks ?_
            refine st_yieldX j rfl rfl rfl rfl hr ?_
            clear hr
            refine wks ?_
            refine fin ?_
            exact ⟨some j, r, rfl, by rw [h6]; rfl⟩
  · have hr : r = [] := List.length_eq_zero_iff.1 (by omega)
    subst hr
    have hGt : G = true := by rw [h6]; cases k <;> rfl
    clear hgood hbad hout hK
    refine wks ?_
    refine fin ?_
    refine ⟨none, [], ?_, by rw [if_pos hGt]⟩
    rw [← hp]
end Go.Abs
