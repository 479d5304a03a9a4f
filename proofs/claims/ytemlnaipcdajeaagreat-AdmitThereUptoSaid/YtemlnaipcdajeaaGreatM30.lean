/- Copies; what is the same. -/
import Derived.Test.YtemlnaipcdajeaaGreatM29
set_option linter.unusedVariables false
set_option linter.unusedSimpArgs false
namespace Go.Abs
open Go Go.Proofs

/-- What nobody writes any more comes out as a value. -/
theorem ac_frow {P : Program} {f : FuncId} {args cs : List V} {n z : Nat} (hl : cs.length = n * z) (h : AC P f args [] fun v h' => ∃ b, v = .slc b 0 z n n ∧ h'[b]? = some (.live cs)) : AC P f args [] fun v _ => v = .vec cs n false := by
  refine ac_wk h ?_
  rintro v h' ⟨b, rfl, hb⟩
  refine ⟨_, frzH h' [b] 1 0 h', rfl, ?_⟩
  have w := wk_frz (N := 0) [b] 1 ⟨[.slc b 0 z n n], h'⟩
  have e : frzL h' [b] 1 [.slc b 0 z n n] = [.vec cs n false] := by
    have e0 : frzAt h' [b] b = some cs := by unfold frzAt; rw [if_pos (by simp), hb]
    have e1 : ∀ l : List V, frzL h' [b] 0 l = l := fun l => by
      induction l with
      | nil => simp [frzL]
      | cons a l ih => simp [frzL, frzV, ih]
    simp only [frzL, frzV, e0, List.drop_zero, e1]
    rw [List.take_of_length_le (by omega)]
  unfold frzS at w
  rw [e] at w
  exact w
theorem pure_row {P : Program} {f : FuncId} {args : List V} {α : Type} {g : α → List V} {k : Nat} [Rows g k] (l : List α) (ha : Cleans args) (h0 : l = [] → Pure P f args .nils) (h1 : 0 < l.length → AC P f args [] fun v h' => ∃ b, v = .slc b 0 k l.length l.length ∧ h'[b]? = some (.live (flat g l))) : Pure P f args (.vec (flat g l) l.length false) := by
  rcases Nat.eq_zero_or_pos l.length with h | h
  · have e : l = [] := List.length_eq_zero_iff.1 h
    have := pure_says (h0 e) (says_nil false)
    subst e; exact this
  · exact pure_ac (ac_frow (flat_length l) (h1 h)) ha (.vec _ _ _ (cleans_flat l))
structure Tx.fine (q : Tx) : Prop where
  took : q.ok
  hsm : q.hs.length < 1000000
  bsm : q.bs.length < 1000000
structure Held.fine (q : Held) : Prop where
  took : q.t.fine
  blk : -9223372036854775808 ≤ q.blk ∧ q.blk < 9223372036854775808
theorem Held.fine.ok {q : Held} (h : q.fine) : q.ok := ⟨h.took.took, h.blk⟩
/-- A book that is not beyond what is played, with all within. -/
structure Book.whole (q : Book) : Prop where
  took : q.fine
  acm : q.ac.length < 1000000
  txf : ∀ t ∈ q.tx, t.fine
  lif : ∀ x ∈ q.li, x.fine
abbrev hxV (l : List Nat) (x : Bool) : V := .vec (flat hc l) l.length x
abbrev sxV (l : List ByteArray) (x : Bool) : V := .vec (flat sc l) l.length x
set_option maxRecDepth 20000 in
theorem cpMarks_nil (x : Bool) : Pure Tryz.prog 64 [hxV [] x] .nils := by
  refine pure_ac ?_ (cleans_cons (.vec _ _ _ (cleans_flat [])) cleans_nil) .nils
  (refine enter Tryz.func64 Tryz.results64 Tryz.ntmps64 ty_ok (hw := fun F hF => ?_); simp only [List.length_cons, List.length_nil, Nat.reduceAdd, Nat.reduceSub, List.replicate_succ, List.replicate_zero, List.cons_append, List.nil_append]; apply hF; clear hF F)
  refine wk ?_
  refine aw_rounds 1 ?_
  refine wk ?_
  refine fin ?_
  rfl
set_option maxRecDepth 20000 in
set_option maxHeartbeats 20000000 in
theorem cpMarks_a (l : List Nat) (x : Bool) (h0 : 0 < l.length) (hl : l.length < 1000000) : AC Tryz.prog 64 [hxV l x] [] (fun v h' => ∃ k, v = .slc k 0 1 l.length l.length ∧ h'[k]? = some (.live (flat hc l))) := by
  (refine enter Tryz.func64 Tryz.results64 Tryz.ntmps64 ty_ok (hw := fun F hF => ?_); simp only [List.length_cons, List.length_nil, Nat.reduceAdd, Nat.reduceSub, List.replicate_succ, List.replicate_zero, List.cons_append, List.nil_append]; apply hF; clear hF F)
  refine wks ?_
  refine aw_loopI (fun (i : Nat) => match i with
    | 0 => ⟨((hxV l x) :: .any :: .any :: .nils :: (.int .i64 0) :: .any :: .any :: .any :: .any :: .any :: .any :: .any :: .any :: .any :: .any :: .any :: .any :: .any :: .any :: []), []⟩
    | i + 1 => ⟨((hxV l x) :: .any :: .any :: (.slc 0 0 1 (i + 1) (i + 1)) :: (.int .i64 ((i + 1 : Nat) : Int)) :: .any :: .any :: .any :: .any :: .any :: .any :: .any :: .any :: .any :: .any :: .any :: .any :: .any :: .any :: []), [.live (flat hc (l.take (i + 1)))]⟩) (fun i => i ≤ l.length) (fun i => l.length - i) 0 (by omega) (wkt []) ?_
  intro i hi K hK
  cases i with
  | zero =>
    dsimp only
    have hone : ∀ v ∈ hc l[0], v.one = true := Rows.one (f := hc) l[0]
    have e1 : flat hc (l.take (0 + 1)) = hc l[0] := by rw [List.take_succ_eq_append_getElem h0, List.take_zero, List.nil_append, flat_single]
    skip
    refine wks ?_
    simp only [one_eq0, if_false, List.set_cons_zero, List.set_cons_succ, List.cons_append, List.nil_append, List.length_cons, List.length_nil, Nat.reduceAdd]
    refine hK _ 1 (by omega) ?_ (by omega)
    show Wk _ _ ⟨_, [.live (flat hc (l.take (0 + 1)))]⟩
    rw [e1]
    exact wkt [1]
  | succ i =>
    dsimp only
    by_cases h1 : i + 1 < l.length
    · have hone : ∀ v ∈ hc l[i + 1], v.one = true := Rows.one (f := hc) l[i + 1]
      have e1 : flat hc (l.take (i + 1 + 1)) = flat hc (l.take (i + 1)) ++ hc l[i + 1] := by rw [List.take_succ_eq_append_getElem h1, flat_append, flat_single]
      have g1 : (flat hc (l.take (i + 1))).length = (i + 1) * 1 := by rw [flat_length, List.length_take]; omega
      skip
      refine wks ?_
      refine hK _ (i + 1 + 1) (by omega) ?_ (by omega)
      show Wk _ _ ⟨_, [.live (flat hc (l.take (i + 1 + 1)))]⟩
      rw [e1]
      exact wkt [2] (hh := by dsimp only [renS, renH, renL, renV, renB, hbAt, List.map_cons, List.map_nil, List.getElem?_cons_zero, List.getElem?_cons_succ]; simp only [renL_append, renL_clean _ (cleans_flat _), renL, renV]; try rfl)
    · have e1 : l.take (i + 1) = l := List.take_of_length_le (by omega)
      have e3 : i + 1 = l.length := by omega
      rw [e1, e3]
      skip
      refine wks ?_
      refine fin ?_
      exact ⟨0, rfl, rfl⟩
theorem cpMarks_c (l : List Nat) (x : Bool) (hl : l.length < 1000000) : Pure Tryz.prog 64 [hxV l x] (hxV l false) :=
  pure_row l (cleans_cons (.vec _ _ _ (cleans_flat l)) cleans_nil) (fun h => by subst h; exact cpMarks_nil x) (fun h0 => cpMarks_a l x h0 hl)

set_option maxRecDepth 20000 in
theorem cpStrs_nil (x : Bool) : Pure Tryz.prog 65 [sxV [] x] .nils := by
  refine pure_ac ?_ (cleans_cons (.vec _ _ _ (cleans_flat [])) cleans_nil) .nils
  (refine enter Tryz.func65 Tryz.results65 Tryz.ntmps65 ty_ok (hw := fun F hF => ?_); simp only [List.length_cons, List.length_nil, Nat.reduceAdd, Nat.reduceSub, List.replicate_succ, List.replicate_zero, List.cons_append, List.nil_append]; apply hF; clear hF F)
  refine wk ?_
  refine aw_rounds 1 ?_
  refine wk ?_
  refine fin ?_
  rfl
set_option maxRecDepth 20000 in
set_option maxHeartbeats 20000000 in
theorem cpStrs_a (l : List ByteArray) (x : Bool) (h0 : 0 < l.length) (hl : l.length < 1000000) : AC Tryz.prog 65 [sxV l x] [] (fun v h' => ∃ k, v = .slc k 0 1 l.length l.length ∧ h'[k]? = some (.live (flat sc l))) := by
  (refine enter Tryz.func65 Tryz.results65 Tryz.ntmps65 ty_ok (hw := fun F hF => ?_); simp only [List.length_cons, List.length_nil, Nat.reduceAdd, Nat.reduceSub, List.replicate_succ, List.replicate_zero, List.cons_append, List.nil_append]; apply hF; clear hF F)
  refine wks ?_
  refine aw_loopI (fun (i : Nat) => match i with
    | 0 => ⟨((sxV l x) :: .any :: .any :: .nils :: (.int .i64 0) :: .any :: .any :: .any :: .any :: .any :: .any :: .any :: .any :: .any :: .any :: .any :: .any :: .any :: .any :: []), []⟩
    | i + 1 => ⟨((sxV l x) :: .any :: .any :: (.slc 0 0 1 (i + 1) (i + 1)) :: (.int .i64 ((i + 1 : Nat) : Int)) :: .any :: .any :: .any :: .any :: .any :: .any :: .any :: .any :: .any :: .any :: .any :: .any :: .any :: .any :: []), [.live (flat sc (l.take (i + 1)))]⟩) (fun i => i ≤ l.length) (fun i => l.length - i) 0 (by omega) (wkt []) ?_
  intro i hi K hK
  cases i with
  | zero =>
    dsimp only
    have hone : ∀ v ∈ sc l[0], v.one = true := Rows.one (f := sc) l[0]
    have e1 : flat sc (l.take (0 + 1)) = sc l[0] := by rw [List.take_succ_eq_append_getElem h0, List.take_zero, List.nil_append, flat_single]
    skip
    refine wks ?_
    simp only [one_eq0, if_false, List.set_cons_zero, List.set_cons_succ, List.cons_append, List.nil_append, List.length_cons, List.length_nil, Nat.reduceAdd]
    refine hK _ 1 (by omega) ?_ (by omega)
    show Wk _ _ ⟨_, [.live (flat sc (l.take (0 + 1)))]⟩
    rw [e1]
    exact wkt [1]
  | succ i =>
    dsimp only
    by_cases h1 : i + 1 < l.length
    · have hone : ∀ v ∈ sc l[i + 1], v.one = true := Rows.one (f := sc) l[i + 1]
      have e1 : flat sc (l.take (i + 1 + 1)) = flat sc (l.take (i + 1)) ++ sc l[i + 1] := by rw [List.take_succ_eq_append_getElem h1, flat_append, flat_single]
      have g1 : (flat sc (l.take (i + 1))).length = (i + 1) * 1 := by rw [flat_length, List.length_take]; omega
      skip
      refine wks ?_
      refine hK _ (i + 1 + 1) (by omega) ?_ (by omega)
      show Wk _ _ ⟨_, [.live (flat sc (l.take (i + 1 + 1)))]⟩
      rw [e1]
      exact wkt [2] (hh := by dsimp only [renS, renH, renL, renV, renB, hbAt, List.map_cons, List.map_nil, List.getElem?_cons_zero, List.getElem?_cons_succ]; simp only [renL_append, renL_clean _ (cleans_flat _), renL, renV]; try rfl)
    · have e1 : l.take (i + 1) = l := List.take_of_length_le (by omega)
      have e3 : i + 1 = l.length := by omega
      rw [e1, e3]
      skip
      refine wks ?_
      refine fin ?_
      exact ⟨0, rfl, rfl⟩
theorem cpStrs_c (l : List ByteArray) (x : Bool) (hl : l.length < 1000000) : Pure Tryz.prog 65 [sxV l x] (sxV l false) :=
  pure_row l (cleans_cons (.vec _ _ _ (cleans_flat l)) cleans_nil) (fun h => by subst h; exact cpStrs_nil x) (fun h0 => cpStrs_a l x h0 hl)

set_option maxRecDepth 20000 in
theorem cpAccts_nil (x : Bool) : Pure Tryz.prog 54 [acsV [] x] .nils := by
  refine pure_ac ?_ (cleans_cons (.vec _ _ _ (cleans_flat [])) cleans_nil) .nils
  (refine enter Tryz.func54 Tryz.results54 Tryz.ntmps54 ty_ok (hw := fun F hF => ?_); simp only [List.length_cons, List.length_nil, Nat.reduceAdd, Nat.reduceSub, List.replicate_succ, List.replicate_zero, List.cons_append, List.nil_append]; apply hF; clear hF F)
  refine wk ?_
  refine aw_rounds 1 ?_
  refine wk ?_
  refine fin ?_
  rfl
set_option maxRecDepth 20000 in
set_option maxHeartbeats 20000000 in
theorem cpAccts_a (l : List Acct) (x : Bool) (h0 : 0 < l.length) (hl : l.length < 1000000) : AC Tryz.prog 54 [acsV l x] [] (fun v h' => ∃ k, v = .slc k 0 5 l.length l.length ∧ h'[k]? = some (.live (flat acc l))) := by
  (refine enter Tryz.func54 Tryz.results54 Tryz.ntmps54 ty_ok (hw := fun F hF => ?_); simp only [List.length_cons, List.length_nil, Nat.reduceAdd, Nat.reduceSub, List.replicate_succ, List.replicate_zero, List.cons_append, List.nil_append]; apply hF; clear hF F)
  refine wks ?_
  refine aw_loopI (fun (i : Nat) => match i with
    | 0 => ⟨((acsV l x) :: .any :: .any :: .nils :: (.int .i64 0) :: .any :: .any :: .any :: .any :: .any :: .any :: .any :: .any :: .any :: .any :: .any :: .any :: .any :: .any :: []), []⟩
    | i + 1 => ⟨((acsV l x) :: .any :: .any :: (.slc 0 0 5 (i + 1) (i + 1)) :: (.int .i64 ((i + 1 : Nat) : Int)) :: .any :: .any :: .any :: .any :: .any :: .any :: .any :: .any :: .any :: .any :: .any :: .any :: .any :: .any :: []), [.live (flat acc (l.take (i + 1)))]⟩) (fun i => i ≤ l.length) (fun i => l.length - i) 0 (by omega) (wkt []) ?_
  intro i hi K hK
  cases i with
  | zero =>
    dsimp only
    have hone : ∀ v ∈ acc l[0], v.one = true := Rows.one (f := acc) l[0]
    have e1 : flat acc (l.take (0 + 1)) = acc l[0] := by rw [List.take_succ_eq_append_getElem h0, List.take_zero, List.nil_append, flat_single]
    skip
    refine wks ?_
    simp only [one_eq0, if_false, List.set_cons_zero, List.set_cons_succ, List.cons_append, List.nil_append, List.length_cons, List.length_nil, Nat.reduceAdd]
    refine hK _ 1 (by omega) ?_ (by omega)
    show Wk _ _ ⟨_, [.live (flat acc (l.take (0 + 1)))]⟩
    rw [e1]
    exact wkt [1]
  | succ i =>
    dsimp only
    by_cases h1 : i + 1 < l.length
    · have hone : ∀ v ∈ acc l[i + 1], v.one = true := Rows.one (f := acc) l[i + 1]
      have e1 : flat acc (l.take (i + 1 + 1)) = flat acc (l.take (i + 1)) ++ acc l[i + 1] := by rw [List.take_succ_eq_append_getElem h1, flat_append, flat_single]
      have g1 : (flat acc (l.take (i + 1))).length = (i + 1) * 5 := by rw [flat_length, List.length_take]; omega
      skip
      refine wks ?_
      refine hK _ (i + 1 + 1) (by omega) ?_ (by omega)
      show Wk _ _ ⟨_, [.live (flat acc (l.take (i + 1 + 1)))]⟩
      rw [e1]
      exact wkt [2] (hh := by dsimp only [renS, renH, renL, renV, renB, hbAt, List.map_cons, List.map_nil, List.getElem?_cons_zero, List.getElem?_cons_succ]; simp only [renL_append, renL_clean _ (cleans_flat _), renL, renV]; try rfl)
    · have e1 : l.take (i + 1) = l := List.take_of_length_le (by omega)
      have e3 : i + 1 = l.length := by omega
      rw [e1, e3]
      skip
      refine wks ?_
      refine fin ?_
      exact ⟨0, rfl, rfl⟩
theorem cpAccts_c (l : List Acct) (x : Bool) (hl : l.length < 1000000) : Pure Tryz.prog 54 [acsV l x] (acsV l false) :=
  pure_row l (cleans_cons (.vec _ _ _ (cleans_flat l)) cleans_nil) (fun h => by subst h; exact cpAccts_nil x) (fun h0 => cpAccts_a l x h0 hl)

set_option maxRecDepth 20000 in
theorem cpTx_c (t : Tx) (o : t.fine) : Pure Tryz.prog 30 [txV t] (txV t) := by
  refine pure_ac ?_ (cleans_cons (clean_txV t) cleans_nil) (clean_txV t)
  have hone : ∀ v ∈ txc t, v.one = true := Rows.one (f := txc) t
  have c1 := cpMarks_c t.hs false o.hsm
  have c2 := cpStrs_c t.bs false o.bsm
  clear o
  (refine enter Tryz.func30 Tryz.results30 Tryz.ntmps30 ty_ok (hw := fun F hF => ?_); simp only [List.length_cons, List.length_nil, Nat.reduceAdd, Nat.reduceSub, List.replicate_succ, List.replicate_zero, List.cons_append, List.nil_append]; apply hF; clear hF F)
  refine wks ?_
  refine fin ?_
  rfl
set_option maxRecDepth 20000 in
theorem cpTxs_nil (x : Bool) : Pure Tryz.prog 29 [tsV [] x] .nils := by
  refine pure_ac ?_ (cleans_cons (.vec _ _ _ (cleans_flat [])) cleans_nil) .nils
  (refine enter Tryz.func29 Tryz.results29 Tryz.ntmps29 ty_ok (hw := fun F hF => ?_); simp only [List.length_cons, List.length_nil, Nat.reduceAdd, Nat.reduceSub, List.replicate_succ, List.replicate_zero, List.cons_append, List.nil_append]; apply hF; clear hF F)
  refine wk ?_
  refine aw_rounds 1 ?_
  refine wk ?_
  refine fin ?_
  rfl
set_option maxRecDepth 20000 in
set_option maxHeartbeats 20000000 in
theorem cpTxs_a (l : List Tx) (x : Bool) (h0 : 0 < l.length) (hl : l.length < 1000000) (o : ∀ a ∈ l, a.fine) : AC Tryz.prog 29 [tsV l x] [] (fun v h' => ∃ k, v = .slc k 0 21 l.length l.length ∧ h'[k]? = some (.live (flat txc l))) := by
  (refine enter Tryz.func29 Tryz.results29 Tryz.ntmps29 ty_ok (hw := fun F hF => ?_); simp only [List.length_cons, List.length_nil, Nat.reduceAdd, Nat.reduceSub, List.replicate_succ, List.replicate_zero, List.cons_append, List.nil_append]; apply hF; clear hF F)
  refine wks ?_
  refine aw_loopI (fun (i : Nat) => match i with
    | 0 => ⟨((tsV l x) :: .any :: .any :: .nils :: (.int .i64 0) :: .any :: .any :: .any :: .any :: .any :: .any :: .any :: .any :: .any :: .any :: .any :: .any :: .any :: .any :: .any :: []), []⟩
    | i + 1 => ⟨((tsV l x) :: .any :: .any :: (.slc 0 0 21 (i + 1) (i + 1)) :: (.int .i64 ((i + 1 : Nat) : Int)) :: .any :: .any :: .any :: .any :: .any :: .any :: .any :: .any :: .any :: .any :: .any :: .any :: .any :: .any :: .any :: []), [.live (flat txc (l.take (i + 1)))]⟩) (fun i => i ≤ l.length) (fun i => l.length - i) 0 (by omega) (wkt []) ?_
  intro i hi K hK
  cases i with
  | zero =>
    dsimp only
    have c1 := cpTx_c l[0] (o _ (List.getElem_mem h0))
    have hone : ∀ v ∈ txc l[0], v.one = true := Rows.one (f := txc) l[0]
    have e1 : flat txc (l.take (0 + 1)) = txc l[0] := by rw [List.take_succ_eq_append_getElem h0, List.take_zero, List.nil_append, flat_single]
    clear o
    refine wks ?_
    simp only [one_eq0, if_false, List.set_cons_zero, List.set_cons_succ, List.cons_append, List.nil_append, List.length_cons, List.length_nil, Nat.reduceAdd]
    refine hK _ 1 (by omega) ?_ (by omega)
    show Wk _ _ ⟨_, [.live (flat txc (l.take (0 + 1)))]⟩
    rw [e1]
    exact wkt [1]
  | succ i =>
    dsimp only
    by_cases h1 : i + 1 < l.length
    · have hone : ∀ v ∈ txc l[i + 1], v.one = true := Rows.one (f := txc) l[i + 1]
      have c1 := cpTx_c l[i + 1] (o _ (List.getElem_mem h1))
      have e1 : flat txc (l.take (i + 1 + 1)) = flat txc (l.take (i + 1)) ++ txc l[i + 1] := by rw [List.take_succ_eq_append_getElem h1, flat_append, flat_single]
      have g1 : (flat txc (l.take (i + 1))).length = (i + 1) * 21 := by rw [flat_length, List.length_take]; omega
      clear o
      refine wks ?_
      refine hK _ (i + 1 + 1) (by omega) ?_ (by omega)
      show Wk _ _ ⟨_, [.live (flat txc (l.take (i + 1 + 1)))]⟩
      rw [e1]
      exact wkt [2] (hh := by dsimp only [renS, renH, renL, renV, renB, hbAt, List.map_cons, List.map_nil, List.getElem?_cons_zero, List.getElem?_cons_succ]; simp only [renL_append, renL_clean _ (cleans_flat _), renL, renV]; try rfl)
    · have e1 : l.take (i + 1) = l := List.take_of_length_le (by omega)
      have e3 : i + 1 = l.length := by omega
      rw [e1, e3]
      clear o
      refine wks ?_
      refine fin ?_
      exact ⟨0, rfl, rfl⟩
theorem cpTxs_c (l : List Tx) (x : Bool) (hl : l.length < 1000000) (o : ∀ a ∈ l, a.fine) : Pure Tryz.prog 29 [tsV l x] (tsV l false) :=
  pure_row l (cleans_cons (.vec _ _ _ (cleans_flat l)) cleans_nil) (fun h => by subst h; exact cpTxs_nil x) (fun h0 => cpTxs_a l x h0 hl o)

set_option maxRecDepth 20000 in
theorem cpHeld_c (x : Held) (o : x.fine) : Pure Tryz.prog 107 [.agg (heldc x)] (.agg (heldc x)) := by
  refine pure_ac ?_ (cleans_cons (clean_agg (cleans_heldc x)) cleans_nil) (clean_agg (cleans_heldc x))
  have hone : ∀ v ∈ heldc x, v.one = true := Rows.one (f := heldc) x
  have hone2 : ∀ v ∈ txc x.t, v.one = true := Rows.one (f := txc) x.t
  have c1 := cpTx_c x.t o.took
  clear o
  (refine enter Tryz.func107 Tryz.results107 Tryz.ntmps107 ty_ok (hw := fun F hF => ?_); simp only [List.length_cons, List.length_nil, Nat.reduceAdd, Nat.reduceSub, List.replicate_succ, List.replicate_zero, List.cons_append, List.nil_append]; apply hF; clear hF F)
  refine wks ?_
  refine fin ?_
  rfl
set_option maxRecDepth 20000 in
theorem cpLimbo_nil (x : Bool) : Pure Tryz.prog 55 [lisV [] x] .nils := by
  refine pure_ac ?_ (cleans_cons (.vec _ _ _ (cleans_flat [])) cleans_nil) .nils
  (refine enter Tryz.func55 Tryz.results55 Tryz.ntmps55 ty_ok (hw := fun F hF => ?_); simp only [List.length_cons, List.length_nil, Nat.reduceAdd, Nat.reduceSub, List.replicate_succ, List.replicate_zero, List.cons_append, List.nil_append]; apply hF; clear hF F)
  refine wk ?_
  refine aw_rounds 1 ?_
  refine wk ?_
  refine fin ?_
  rfl
set_option maxRecDepth 20000 in
set_option maxHeartbeats 20000000 in
theorem cpLimbo_a (l : List Held) (x : Bool) (h0 : 0 < l.length) (hl : l.length < 1000000) (o : ∀ a ∈ l, a.fine) : AC Tryz.prog 55 [lisV l x] [] (fun v h' => ∃ k, v = .slc k 0 22 l.length l.length ∧ h'[k]? = some (.live (flat heldc l))) := by
  (refine enter Tryz.func55 Tryz.results55 Tryz.ntmps55 ty_ok (hw := fun F hF => ?_); simp only [List.length_cons, List.length_nil, Nat.reduceAdd, Nat.reduceSub, List.replicate_succ, List.replicate_zero, List.cons_append, List.nil_append]; apply hF; clear hF F)
  refine wks ?_
  refine aw_loopI (fun (i : Nat) => match i with
    | 0 => ⟨((lisV l x) :: .any :: .any :: .nils :: (.int .i64 0) :: .any :: .any :: .any :: .any :: .any :: .any :: .any :: .any :: .any :: .any :: .any :: .any :: .any :: .any :: .any :: []), []⟩
    | i + 1 => ⟨((lisV l x) :: .any :: .any :: (.slc 0 0 22 (i + 1) (i + 1)) :: (.int .i64 ((i + 1 : Nat) : Int)) :: .any :: .any :: .any :: .any :: .any :: .any :: .any :: .any :: .any :: .any :: .any :: .any :: .any :: .any :: .any :: []), [.live (flat heldc (l.take (i + 1)))]⟩) (fun i => i ≤ l.length) (fun i => l.length - i) 0 (by omega) (wkt []) ?_
  intro i hi K hK
  cases i with
  | zero =>
    dsimp only
    have c1 := cpHeld_c l[0] (o _ (List.getElem_mem h0))
    have hone : ∀ v ∈ heldc l[0], v.one = true := Rows.one (f := heldc) l[0]
    have e1 : flat heldc (l.take (0 + 1)) = heldc l[0] := by rw [List.take_succ_eq_append_getElem h0, List.take_zero, List.nil_append, flat_single]
    clear o
    refine wks ?_
    simp only [one_eq0, if_false, List.set_cons_zero, List.set_cons_succ, List.cons_append, List.nil_append, List.length_cons, List.length_nil, Nat.reduceAdd]
    refine hK _ 1 (by omega) ?_ (by omega)
    show Wk _ _ ⟨_, [.live (flat heldc (l.take (0 + 1)))]⟩
    rw [e1]
    exact wkt [1]
  | succ i =>
    dsimp only
    by_cases h1 : i + 1 < l.length
    · have hone : ∀ v ∈ heldc l[i + 1], v.one = true := Rows.one (f := heldc) l[i + 1]
      have c1 := cpHeld_c l[i + 1] (o _ (List.getElem_mem h1))
      have e1 : flat heldc (l.take (i + 1 + 1)) = flat heldc (l.take (i + 1)) ++ heldc l[i + 1] := by rw [List.take_succ_eq_append_getElem h1, flat_append, flat_single]
      have g1 : (flat heldc (l.take (i + 1))).length = (i + 1) * 22 := by rw [flat_length, List.length_take]; omega
      clear o
      refine wks ?_
      refine hK _ (i + 1 + 1) (by omega) ?_ (by omega)
      show Wk _ _ ⟨_, [.live (flat heldc (l.take (i + 1 + 1)))]⟩
      rw [e1]
      exact wkt [2] (hh := by dsimp only [renS, renH, renL, renV, renB, hbAt, List.map_cons, List.map_nil, List.getElem?_cons_zero, List.getElem?_cons_succ]; simp only [renL_append, renL_clean _ (cleans_flat _), renL, renV]; try rfl)
    · have e1 : l.take (i + 1) = l := List.take_of_length_le (by omega)
      have e3 : i + 1 = l.length := by omega
      rw [e1, e3]
      clear o
      refine wks ?_
      refine fin ?_
      exact ⟨0, rfl, rfl⟩
theorem cpLimbo_c (l : List Held) (x : Bool) (hl : l.length < 1000000) (o : ∀ a ∈ l, a.fine) : Pure Tryz.prog 55 [lisV l x] (lisV l false) :=
  pure_row l (cleans_cons (.vec _ _ _ (cleans_flat l)) cleans_nil) (fun h => by subst h; exact cpLimbo_nil x) (fun h0 => cpLimbo_a l x h0 hl o)

theorem one_bookc (b : Book) : ∀ v ∈ bookc b, v.one = true := by
  intro v hv
  simp only [List.mem_cons, List.not_mem_nil, or_false] at hv
  rcases hv with h | h | h | h | h | h | h | h | h | h <;> rw [h] <;> rfl
set_option maxRecDepth 20000 in
theorem cpBook_c (b : Book) (o : b.whole) : Pure Tryz.prog 15 [bookV b] (bookV b) := by
  refine pure_ac ?_ (cleans_cons (clean_bookV b) cleans_nil) (clean_bookV b)
  have hone := one_bookc b
  have c1 := cpAccts_c b.ac false o.acm
  have c2 := cpTxs_c b.tx false o.took.txm o.txf
  have c3 := cpLimbo_c b.li false o.took.lim o.lif
  clear o
  (refine enter Tryz.func15 Tryz.results15 Tryz.ntmps15 ty_ok (hw := fun F hF => ?_); simp only [List.length_cons, List.length_nil, Nat.reduceAdd, Nat.reduceSub, List.replicate_succ, List.replicate_zero, List.cons_append, List.nil_append]; apply hF; clear hF F)
  refine wks ?_
  refine fin ?_
  rfl
set_option maxRecDepth 20000 in
set_option maxHeartbeats 20000000 in
theorem eqMarks_r (l : List Nat) (x y : Bool) (hl : l.length < 9223372036854775808) : Pure Tryz.prog 92 [hxV l x, hxV l y] (.bool true) := by
  refine pure_ac ?_ (cleans_cons (.vec _ _ _ (cleans_flat l)) (cleans_cons (.vec _ _ _ (cleans_flat l)) cleans_nil)) (.bool _)
  (refine enter Tryz.func92 Tryz.results92 Tryz.ntmps92 ty_ok (hw := fun F hF => ?_); simp only [List.length_cons, List.length_nil, Nat.reduceAdd, Nat.reduceSub, List.replicate_succ, List.replicate_zero, List.cons_append, List.nil_append]; apply hF; clear hF F)
  refine wks ?_
  refine aw_loopI (fun (i : Nat) => ⟨((hxV l x) :: (hxV l y) :: .any :: .any :: (.bool false) :: (.int .i64 i) :: .any :: .any :: .any :: .any :: .any :: .any :: .any :: .any :: .any :: .any :: .any :: .any :: .any :: .any :: .any :: .any :: .any :: .any :: .any :: .any :: []), []⟩) (fun i => i ≤ l.length) (fun i => l.length - i) 0 (by omega) (wkt []) ?_
  intro i hi K hK
  by_cases h1 : i < l.length
  · have hone : ∀ v ∈ hc l[i], v.one = true := Rows.one (f := hc) l[i]
    skip
    refine wks ?_
    exact hK _ (i + 1) (by omega) (wkt []) (by omega)
  · obtain rfl : i = l.length := by omega
    skip
    refine wks ?_
    refine fin ?_
    rfl

set_option maxRecDepth 20000 in
set_option maxHeartbeats 20000000 in
theorem eqStrs_r (l : List ByteArray) (x y : Bool) (hl : l.length < 9223372036854775808) : Pure Tryz.prog 93 [sxV l x, sxV l y] (.bool true) := by
  refine pure_ac ?_ (cleans_cons (.vec _ _ _ (cleans_flat l)) (cleans_cons (.vec _ _ _ (cleans_flat l)) cleans_nil)) (.bool _)
  (refine enter Tryz.func93 Tryz.results93 Tryz.ntmps93 ty_ok (hw := fun F hF => ?_); simp only [List.length_cons, List.length_nil, Nat.reduceAdd, Nat.reduceSub, List.replicate_succ, List.replicate_zero, List.cons_append, List.nil_append]; apply hF; clear hF F)
  refine wks ?_
  refine aw_loopI (fun (i : Nat) => ⟨((sxV l x) :: (sxV l y) :: .any :: .any :: (.bool false) :: (.int .i64 i) :: .any :: .any :: .any :: .any :: .any :: .any :: .any :: .any :: .any :: .any :: .any :: .any :: .any :: .any :: .any :: .any :: .any :: .any :: .any :: .any :: []), []⟩) (fun i => i ≤ l.length) (fun i => l.length - i) 0 (by omega) (wkt []) ?_
  intro i hi K hK
  by_cases h1 : i < l.length
  · have hone : ∀ v ∈ sc l[i], v.one = true := Rows.one (f := sc) l[i]
    skip
    refine wks ?_
    exact hK _ (i + 1) (by omega) (wkt []) (by omega)
  · obtain rfl : i = l.length := by omega
    skip
    refine wks ?_
    refine fin ?_
    rfl

set_option maxRecDepth 20000 in
set_option maxHeartbeats 20000000 in
theorem eqAccts_r (l : List Acct) (x y : Bool) (hl : l.length < 9223372036854775808) : Pure Tryz.prog 61 [acsV l x, acsV l y] (.bool true) := by
  refine pure_ac ?_ (cleans_cons (.vec _ _ _ (cleans_flat l)) (cleans_cons (.vec _ _ _ (cleans_flat l)) cleans_nil)) (.bool _)
  (refine enter Tryz.func61 Tryz.results61 Tryz.ntmps61 ty_ok (hw := fun F hF => ?_); simp only [List.length_cons, List.length_nil, Nat.reduceAdd, Nat.reduceSub, List.replicate_succ, List.replicate_zero, List.cons_append, List.nil_append]; apply hF; clear hF F)
  refine wks ?_
  refine aw_loopI (fun (i : Nat) => ⟨((acsV l x) :: (acsV l y) :: .any :: .any :: (.bool false) :: (.int .i64 i) :: .any :: .any :: .any :: .any :: .any :: .any :: .any :: .any :: .any :: .any :: .any :: .any :: .any :: .any :: .any :: .any :: .any :: .any :: .any :: .any :: []), []⟩) (fun i => i ≤ l.length) (fun i => l.length - i) 0 (by omega) (wkt []) ?_
  intro i hi K hK
  by_cases h1 : i < l.length
  · have hone : ∀ v ∈ acc l[i], v.one = true := Rows.one (f := acc) l[i]
    skip
    refine wks ?_
    exact hK _ (i + 1) (by omega) (wkt []) (by omega)
  · obtain rfl : i = l.length := by omega
    skip
    refine wks ?_
    refine fin ?_
    rfl

set_option maxRecDepth 20000 in
theorem eqTx_r (t : Tx) (o : t.ok) : Pure Tryz.prog 43 [txV t, txV t] (.bool true) := by
  refine pure_ac ?_ (cleans_cons (clean_txV t) (cleans_cons (clean_txV t) cleans_nil)) (.bool _)
  have hone : ∀ v ∈ txc t, v.one = true := Rows.one (f := txc) t
  have c1 := eqMarks_r t.hs false false o.hl
  have c2 := eqStrs_r t.bs false false o.bl
  clear o
  (refine enter Tryz.func43 Tryz.results43 Tryz.ntmps43 ty_ok (hw := fun F hF => ?_); simp only [List.length_cons, List.length_nil, Nat.reduceAdd, Nat.reduceSub, List.replicate_succ, List.replicate_zero, List.cons_append, List.nil_append]; apply hF; clear hF F)
  refine wks ?_
  refine fin ?_
  rfl
set_option maxRecDepth 20000 in
set_option maxHeartbeats 20000000 in
theorem eqTxs_r (l : List Tx) (x y : Bool) (hl : l.length < 9223372036854775808) (o : ∀ a ∈ l, a.ok) : Pure Tryz.prog 20 [tsV l x, tsV l y] (.bool true) := by
  refine pure_ac ?_ (cleans_cons (.vec _ _ _ (cleans_flat l)) (cleans_cons (.vec _ _ _ (cleans_flat l)) cleans_nil)) (.bool _)
  (refine enter Tryz.func20 Tryz.results20 Tryz.ntmps20 ty_ok (hw := fun F hF => ?_); simp only [List.length_cons, List.length_nil, Nat.reduceAdd, Nat.reduceSub, List.replicate_succ, List.replicate_zero, List.cons_append, List.nil_append]; apply hF; clear hF F)
  refine wks ?_
  refine aw_loopI (fun (i : Nat) => ⟨((tsV l x) :: (tsV l y) :: .any :: .any :: (.bool false) :: (.int .i64 i) :: .any :: .any :: .any :: .any :: .any :: .any :: .any :: .any :: .any :: .any :: .any :: .any :: .any :: .any :: .any :: .any :: .any :: .any :: .any :: .any :: .any :: []), []⟩) (fun i => i ≤ l.length) (fun i => l.length - i) 0 (by omega) (wkt []) ?_
  intro i hi K hK
  by_cases h1 : i < l.length
  · have hone : ∀ v ∈ txc l[i], v.one = true := Rows.one (f := txc) l[i]
    have c1 := eqTx_r l[i] (o _ (List.getElem_mem h1))
    clear o
    refine wks ?_
    exact hK _ (i + 1) (by omega) (wkt []) (by omega)
  · obtain rfl : i = l.length := by omega
    clear o
    refine wks ?_
    refine fin ?_
    rfl

set_option maxRecDepth 20000 in
theorem eqHeld_r (x : Held) (o : x.ok) : Pure Tryz.prog 114 [.agg (heldc x), .agg (heldc x)] (.bool true) := by
  refine pure_ac ?_ (cleans_cons (clean_agg (cleans_heldc x)) (cleans_cons (clean_agg (cleans_heldc x)) cleans_nil)) (.bool _)
  have hone : ∀ v ∈ heldc x, v.one = true := Rows.one (f := heldc) x
  have c1 := eqTx_r x.t o.t
  clear o
  (refine enter Tryz.func114 Tryz.results114 Tryz.ntmps114 ty_ok (hw := fun F hF => ?_); simp only [List.length_cons, List.length_nil, Nat.reduceAdd, Nat.reduceSub, List.replicate_succ, List.replicate_zero, List.cons_append, List.nil_append]; apply hF; clear hF F)
  refine wks ?_
  refine fin ?_
  rfl
set_option maxRecDepth 20000 in
set_option maxHeartbeats 20000000 in
theorem eqLimbo_r (l : List Held) (x y : Bool) (hl : l.length < 9223372036854775808) (o : ∀ a ∈ l, a.ok) : Pure Tryz.prog 62 [lisV l x, lisV l y] (.bool true) := by
  refine pure_ac ?_ (cleans_cons (.vec _ _ _ (cleans_flat l)) (cleans_cons (.vec _ _ _ (cleans_flat l)) cleans_nil)) (.bool _)
  (refine enter Tryz.func62 Tryz.results62 Tryz.ntmps62 ty_ok (hw := fun F hF => ?_); simp only [List.length_cons, List.length_nil, Nat.reduceAdd, Nat.reduceSub, List.replicate_succ, List.replicate_zero, List.cons_append, List.nil_append]; apply hF; clear hF F)
  refine wks ?_
  refine aw_loopI (fun (i : Nat) => ⟨((lisV l x) :: (lisV l y) :: .any :: .any :: (.bool false) :: (.int .i64 i) :: .any :: .any :: .any :: .any :: .any :: .any :: .any :: .any :: .any :: .any :: .any :: .any :: .any :: .any :: .any :: .any :: .any :: .any :: .any :: .any :: .any :: []), []⟩) (fun i => i ≤ l.length) (fun i => l.length - i) 0 (by omega) (wkt []) ?_
  intro i hi K hK
  by_cases h1 : i < l.length
  · have hone : ∀ v ∈ heldc l[i], v.one = true := Rows.one (f := heldc) l[i]
    have c1 := eqHeld_r l[i] (o _ (List.getElem_mem h1))
    clear o
    refine wks ?_
    exact hK _ (i + 1) (by omega) (wkt []) (by omega)
  · obtain rfl : i = l.length := by omega
    clear o
    refine wks ?_
    refine fin ?_
    rfl

set_option maxRecDepth 20000 in
theorem eqBook_r (b : Book) (o : b.ok) : Pure Tryz.prog 23 [bookV b, bookV b] (.bool true) := by
  refine pure_ac ?_ (cleans_cons (clean_bookV b) (cleans_cons (clean_bookV b) cleans_nil)) (.bool _)
  have hone := one_bookc b
  have c1 := eqAccts_r b.ac false false o.acl
  have c2 := eqTxs_r b.tx false false o.txl o.tx
  have c3 := eqLimbo_r b.li false false o.lil o.li
  clear o
  (refine enter Tryz.func23 Tryz.results23 Tryz.ntmps23 ty_ok (hw := fun F hF => ?_); simp only [List.length_cons, List.length_nil, Nat.reduceAdd, Nat.reduceSub, List.replicate_succ, List.replicate_zero, List.cons_append, List.nil_append]; apply hF; clear hF F)
  refine wks ?_
  refine fin ?_
  rfl
end Go.Abs
