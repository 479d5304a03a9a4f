/- Copies of the program's own: the walks. -/
import Derived.Test.YtemlnaipcdajeaaGreatM30
import Derived.Test.YtemlnaipcdajeaaGreatM10
set_option linter.unusedVariables false
set_option linter.unusedSimpArgs false
namespace Go.Abs
open Go Go.Proofs

set_option maxRecDepth 20000 in
theorem clU_a (l : List Nat) (x : Bool) (h0 : 0 < l.length) (hl : l.length < 1000000) : AC Tryz.prog 140 [hxV l x] [] (fun v h' => ∃ k, v = .slc k 0 1 l.length l.length ∧ h'[k]? = some (.live (flat hc l))) := by
  have hfl : (flat hc l).length = l.length * 1 := flat_length l
  have ho : ∀ v ∈ flat hc l, v.one = true := one_flat l
  (refine enter Tryz.func140 Tryz.results140 Tryz.ntmps140 ty_ok (hw := fun F hF => ?_); simp only [List.length_cons, List.length_nil, Nat.reduceAdd, Nat.reduceSub, List.replicate_succ, List.replicate_zero, List.cons_append, List.nil_append]; apply hF; clear hF F)
  refine aw_seq ?_
  refine aw_region ty_ok (L := []) ?_
  refine st_t rfl (fun F hF => ?_)
  dsimp only [put, ev, ofC, ofS, List.set_cons_zero, List.set_cons_succ]
  apply hF; clear hF F
  refine st_nil ?_
  refine thenK_n ?_
  refine aw_seq ?_
  refine aw_seq ?_
  refine aw_regionS (L := []) ty_ok 1 _ rfl ?_
  dsimp only [List.take, List.drop]
  refine wks ?_
  refine sem_notnil ty_ok (cs := flat hc l) (len := l.length) (f := x) rfl rfl h0 rfl rfl ?_
  refine wks ?_
  refine fin ?_
  refine ⟨1, ?_, ?_⟩
  · simp
  · simp
theorem clU_c (l : List Nat) (x : Bool) (h0 : 0 < l.length) (hl : l.length < 1000000) : Pure Tryz.prog 140 [hxV l x] (hxV l false) :=
  pure_row l (cleans_cons (.vec _ _ _ (cleans_flat l)) cleans_nil) (fun h => by rw [h] at h0; simp at h0) (fun _ => clU_a l x h0 hl)

set_option maxRecDepth 20000 in
theorem clS_a (l : List ByteArray) (x : Bool) (h0 : 0 < l.length) (hl : l.length < 1000000) : AC Tryz.prog 141 [sxV l x] [] (fun v h' => ∃ k, v = .slc k 0 1 l.length l.length ∧ h'[k]? = some (.live (flat sc l))) := by
  have hfl : (flat sc l).length = l.length * 1 := flat_length l
  have ho : ∀ v ∈ flat sc l, v.one = true := one_flat l
  (refine enter Tryz.func141 Tryz.results141 Tryz.ntmps141 ty_ok (hw := fun F hF => ?_); simp only [List.length_cons, List.length_nil, Nat.reduceAdd, Nat.reduceSub, List.replicate_succ, List.replicate_zero, List.cons_append, List.nil_append]; apply hF; clear hF F)
  refine aw_seq ?_
  refine aw_region ty_ok (L := []) ?_
  refine st_t rfl (fun F hF => ?_)
  dsimp only [put, ev, ofC, ofS, List.set_cons_zero, List.set_cons_succ]
  apply hF; clear hF F
  refine st_nil ?_
  refine thenK_n ?_
  refine aw_seq ?_
  refine aw_seq ?_
  refine aw_regionS (L := []) ty_ok 1 _ rfl ?_
  dsimp only [List.take, List.drop]
  refine wks ?_
  refine sem_notnil ty_ok (cs := flat sc l) (len := l.length) (f := x) rfl rfl h0 rfl rfl ?_
  refine wks ?_
  refine fin ?_
  refine ⟨1, ?_, ?_⟩
  · simp
  · simp
theorem clS_c (l : List ByteArray) (x : Bool) (h0 : 0 < l.length) (hl : l.length < 1000000) : Pure Tryz.prog 141 [sxV l x] (sxV l false) :=
  pure_row l (cleans_cons (.vec _ _ _ (cleans_flat l)) cleans_nil) (fun h => by rw [h] at h0; simp at h0) (fun _ => clS_a l x h0 hl)

set_option maxRecDepth 20000 in
theorem clA_a (l : List Acct) (x : Bool) (h0 : 0 < l.length) (hl : l.length < 1000000) : AC Tryz.prog 137 [acsV l x] [] (fun v h' => ∃ k, v = .slc k 0 5 l.length l.length ∧ h'[k]? = some (.live (flat acc l))) := by
  have hfl : (flat acc l).length = l.length * 5 := flat_length l
  have ho : ∀ v ∈ flat acc l, v.one = true := one_flat l
  (refine enter Tryz.func137 Tryz.results137 Tryz.ntmps137 ty_ok (hw := fun F hF => ?_); simp only [List.length_cons, List.length_nil, Nat.reduceAdd, Nat.reduceSub, List.replicate_succ, List.replicate_zero, List.cons_append, List.nil_append]; apply hF; clear hF F)
  refine aw_seq ?_
  refine aw_region ty_ok (L := []) ?_
  refine st_t rfl (fun F hF => ?_)
  dsimp only [put, ev, ofC, ofS, List.set_cons_zero, List.set_cons_succ]
  apply hF; clear hF F
  refine st_nil ?_
  refine thenK_n ?_
  refine aw_seq ?_
  refine aw_seq ?_
  refine aw_regionS (L := []) ty_ok 1 _ rfl ?_
  dsimp only [List.take, List.drop]
  refine wks ?_
  refine sem_notnil ty_ok (cs := flat acc l) (len := l.length) (f := x) rfl rfl h0 rfl rfl ?_
  refine wks ?_
  refine fin ?_
  refine ⟨1, ?_, ?_⟩
  · simp
  · simp
theorem clA_c (l : List Acct) (x : Bool) (h0 : 0 < l.length) (hl : l.length < 1000000) : Pure Tryz.prog 137 [acsV l x] (acsV l false) :=
  pure_row l (cleans_cons (.vec _ _ _ (cleans_flat l)) cleans_nil) (fun h => by rw [h] at h0; simp at h0) (fun _ => clA_a l x h0 hl)

theorem txOk_some {t : Tx} (h : txOk t = true) : 0 < t.hs.length ∧ 0 < t.bs.length := by
  have := fits_zero (of_decide_eq_true h).2.2.2.2.2.2.2.1
  omega
set_option maxRecDepth 20000 in
theorem txcopy_c (t : Tx) (o : t.fine) (h : txOk t = true) : Pure Tryz.prog 102 [txV t] (txV t) := by
  refine pure_ac ?_ (cleans_cons (clean_txV t) cleans_nil) (clean_txV t)
  have hone : ∀ v ∈ txc t, v.one = true := Rows.one (f := txc) t
  have hs := txOk_some h
  have c1 := clU_c t.hs false hs.1 o.hsm
  have c2 := clS_c t.bs false hs.2 o.bsm
  clear o h hs
  (refine enter Tryz.func102 Tryz.results102 Tryz.ntmps102 ty_ok (hw := fun F hF => ?_); simp only [List.length_cons, List.length_nil, Nat.reduceAdd, Nat.reduceSub, List.replicate_succ, List.replicate_zero, List.cons_append, List.nil_append]; apply hF; clear hF F)
  refine wks ?_
  refine fin ?_
  rfl
set_option maxRecDepth 20000 in
theorem copies_nil (x : Bool) : Pure Tryz.prog 105 [tsV [] x] .nils := by
  refine pure_ac ?_ (cleans_cons (.vec _ _ _ (cleans_flat [])) cleans_nil) .nils
  (refine enter Tryz.func105 Tryz.results105 Tryz.ntmps105 ty_ok (hw := fun F hF => ?_); simp only [List.length_cons, List.length_nil, Nat.reduceAdd, Nat.reduceSub, List.replicate_succ, List.replicate_zero, List.cons_append, List.nil_append]; apply hF; clear hF F)
  refine wk ?_
  refine aw_rounds 1 ?_
  refine wk ?_
  refine fin ?_
  rfl
set_option maxRecDepth 20000 in
set_option maxHeartbeats 20000000 in
theorem copies_a (l : List Tx) (x : Bool) (h0 : 0 < l.length) (hl : l.length < 1000000) (o : ∀ a ∈ l, a.fine) (k : ∀ a ∈ l, txOk a = true) : AC Tryz.prog 105 [tsV l x] [] (fun v h' => ∃ k, v = .slc k 0 21 l.length l.length ∧ h'[k]? = some (.live (flat txc l))) := by
  (refine enter Tryz.func105 Tryz.results105 Tryz.ntmps105 ty_ok (hw := fun F hF => ?_); simp only [List.length_cons, List.length_nil, Nat.reduceAdd, Nat.reduceSub, List.replicate_succ, List.replicate_zero, List.cons_append, List.nil_append]; apply hF; clear hF F)
  refine wks ?_
  refine aw_loopI (fun (i : Nat) => match i with
    | 0 => ⟨((tsV l x) :: .any :: .any :: .nils :: .any :: .any :: (tsV l x) :: (.int .i64 l.length) :: (.int .i64 0) :: .any :: .any :: .any :: .any :: .any :: .any :: .any :: .any :: .any :: .any :: []), []⟩
    | i + 1 => ⟨((tsV l x) :: .any :: .any :: (.slc 0 0 21 (i + 1) (i + 1)) :: .any :: .any :: (tsV l x) :: (.int .i64 l.length) :: (.int .i64 ((i + 1 : Nat) : Int)) :: .any :: .any :: .any :: .any :: .any :: .any :: .any :: .any :: .any :: .any :: []), [.live (flat txc (l.take (i + 1)))]⟩) (fun i => i ≤ l.length) (fun i => l.length - i) 0 (by omega) (wkt []) ?_
  intro i hi K hK
  cases i with
  | zero =>
    dsimp only
    have c1 := txcopy_c l[0] (o _ (List.getElem_mem h0)) (k _ (List.getElem_mem h0))
    have hone : ∀ v ∈ txc l[0], v.one = true := Rows.one (f := txc) l[0]
    have e1 : flat txc (l.take (0 + 1)) = txc l[0] := by rw [List.take_succ_eq_append_getElem h0, List.take_zero, List.nil_append, flat_single]
    clear o k
    refine wks ?_
    simp only [one_eq0, if_false, List.set_cons_zero, List.set_cons_succ, List.cons_append, List.nil_append, List.length_cons, List.length_nil, Nat.reduceAdd]
    refine hK _ 1 (by omega) ?_ (by omega)
    show Wk _ _ ⟨_, [.live (flat txc (l.take (0 + 1)))]⟩
    rw [e1]
    exact wkt [2]
  | succ i =>
    dsimp only
    by_cases h1 : i + 1 < l.length
    · have hone : ∀ v ∈ txc l[i + 1], v.one = true := Rows.one (f := txc) l[i + 1]
      have c1 := txcopy_c l[i + 1] (o _ (List.getElem_mem h1)) (k _ (List.getElem_mem h1))
      have e1 : flat txc (l.take (i + 1 + 1)) = flat txc (l.take (i + 1)) ++ txc l[i + 1] := by rw [List.take_succ_eq_append_getElem h1, flat_append, flat_single]
      have g1 : (flat txc (l.take (i + 1))).length = (i + 1) * 21 := by rw [flat_length, List.length_take]; omega
      clear o k
      refine wks ?_
      refine hK _ (i + 1 + 1) (by omega) ?_ (by omega)
      show Wk _ _ ⟨_, [.live (flat txc (l.take (i + 1 + 1)))]⟩
      rw [e1]
      exact wkt [3] (hh := by dsimp only [renS, renH, renL, renV, renB, hbAt, List.map_cons, List.map_nil, List.getElem?_cons_zero, List.getElem?_cons_succ]; simp only [renL_append, renL_clean _ (cleans_flat _), renL, renV]; try rfl)
    · have e1 : l.take (i + 1) = l := List.take_of_length_le (by omega)
      have e3 : i + 1 = l.length := by omega
      rw [e1, e3]
      clear o k
      refine wks ?_
      refine fin ?_
      exact ⟨0, rfl, rfl⟩
theorem copies_c (l : List Tx) (x : Bool) (hl : l.length < 1000000) (o : ∀ a ∈ l, a.fine) (k : ∀ a ∈ l, txOk a = true) : Pure Tryz.prog 105 [tsV l x] (tsV l false) :=
  pure_row l (cleans_cons (.vec _ _ _ (cleans_flat l)) cleans_nil) (fun h => by subst h; exact copies_nil x) (fun h0 => copies_a l x h0 hl o k)

set_option maxRecDepth 20000 in
theorem helds_nil (x : Bool) : Pure Tryz.prog 138 [lisV [] x] .nils := by
  refine pure_ac ?_ (cleans_cons (.vec _ _ _ (cleans_flat [])) cleans_nil) .nils
  (refine enter Tryz.func138 Tryz.results138 Tryz.ntmps138 ty_ok (hw := fun F hF => ?_); simp only [List.length_cons, List.length_nil, Nat.reduceAdd, Nat.reduceSub, List.replicate_succ, List.replicate_zero, List.cons_append, List.nil_append]; apply hF; clear hF F)
  refine wk ?_
  refine aw_rounds 1 ?_
  refine wk ?_
  refine fin ?_
  rfl
set_option maxRecDepth 20000 in
set_option maxHeartbeats 20000000 in
theorem helds_a (l : List Held) (x : Bool) (h0 : 0 < l.length) (hl : l.length < 1000000) (o : ∀ a ∈ l, a.fine) (k : ∀ a ∈ l, txOk a.t = true) : AC Tryz.prog 138 [lisV l x] [] (fun v h' => ∃ k, v = .slc k 0 22 l.length l.length ∧ h'[k]? = some (.live (flat heldc l))) := by
  (refine enter Tryz.func138 Tryz.results138 Tryz.ntmps138 ty_ok (hw := fun F hF => ?_); simp only [List.length_cons, List.length_nil, Nat.reduceAdd, Nat.reduceSub, List.replicate_succ, List.replicate_zero, List.cons_append, List.nil_append]; apply hF; clear hF F)
  refine wks ?_
  refine aw_loopI (fun (i : Nat) => match i with
    | 0 => ⟨((lisV l x) :: .any :: .any :: .nils :: .any :: .any :: (lisV l x) :: (.int .i64 l.length) :: (.int .i64 0) :: .any :: .any :: .any :: .any :: .any :: .any :: .any :: .any :: .any :: .any :: .any :: .any :: .any :: .any :: []), []⟩
    | i + 1 => ⟨((lisV l x) :: .any :: .any :: (.slc 0 0 22 (i + 1) (i + 1)) :: .any :: .any :: (lisV l x) :: (.int .i64 l.length) :: (.int .i64 ((i + 1 : Nat) : Int)) :: .any :: .any :: .any :: .any :: .any :: .any :: .any :: .any :: .any :: .any :: .any :: .any :: .any :: .any :: []), [.live (flat heldc (l.take (i + 1)))]⟩) (fun i => i ≤ l.length) (fun i => l.length - i) 0 (by omega) (wkt []) ?_
  intro i hi K hK
  cases i with
  | zero =>
    dsimp only
    have c1 := txcopy_c l[0].t (o _ (List.getElem_mem h0)).took (k _ (List.getElem_mem h0))
    have hone : ∀ v ∈ heldc l[0], v.one = true := Rows.one (f := heldc) l[0]
    have e1 : flat heldc (l.take (0 + 1)) = heldc l[0] := by rw [List.take_succ_eq_append_getElem h0, List.take_zero, List.nil_append, flat_single]
    clear o k
    refine wks ?_
    simp only [one_eq0, if_false, List.set_cons_zero, List.set_cons_succ, List.cons_append, List.nil_append, List.length_cons, List.length_nil, Nat.reduceAdd]
    refine hK _ 1 (by omega) ?_ (by omega)
    show Wk _ _ ⟨_, [.live (flat heldc (l.take (0 + 1)))]⟩
    rw [e1]
    exact wkt [2]
  | succ i =>
    dsimp only
    by_cases h1 : i + 1 < l.length
    · have hone : ∀ v ∈ heldc l[i + 1], v.one = true := Rows.one (f := heldc) l[i + 1]
      have c1 := txcopy_c l[i + 1].t (o _ (List.getElem_mem h1)).took (k _ (List.getElem_mem h1))
      have e1 : flat heldc (l.take (i + 1 + 1)) = flat heldc (l.take (i + 1)) ++ heldc l[i + 1] := by rw [List.take_succ_eq_append_getElem h1, flat_append, flat_single]
      have g1 : (flat heldc (l.take (i + 1))).length = (i + 1) * 22 := by rw [flat_length, List.length_take]; omega
      clear o k
      refine wks ?_
      refine hK _ (i + 1 + 1) (by omega) ?_ (by omega)
      show Wk _ _ ⟨_, [.live (flat heldc (l.take (i + 1 + 1)))]⟩
      rw [e1]
      exact wkt [3] (hh := by dsimp only [renS, renH, renL, renV, renB, hbAt, List.map_cons, List.map_nil, List.getElem?_cons_zero, List.getElem?_cons_succ]; simp only [renL_append, renL_clean _ (cleans_flat _), renL, renV]; try rfl)
    · have e1 : l.take (i + 1) = l := List.take_of_length_le (by omega)
      have e3 : i + 1 = l.length := by omega
      rw [e1, e3]
      clear o k
      refine wks ?_
      refine fin ?_
      exact ⟨0, rfl, rfl⟩
theorem helds_c (l : List Held) (x : Bool) (hl : l.length < 1000000) (o : ∀ a ∈ l, a.fine) (k : ∀ a ∈ l, txOk a.t = true) : Pure Tryz.prog 138 [lisV l x] (lisV l false) :=
  pure_row l (cleans_cons (.vec _ _ _ (cleans_flat l)) cleans_nil) (fun h => by subst h; exact helds_nil x) (fun h0 => helds_a l x h0 hl o k)

theorem wide_parts {b : Book} (h : wideOk b = true) : b.ac.length = 8 ∧ (∀ t ∈ b.tx, txOk t = true) ∧ (∀ x ∈ b.li, txOk x.t = true) ∧ b.tx.length ≤ 48 ∧ b.li.length ≤ 48 := by
  have h2 := wide_tx h
  unfold wideOk at h
  simp only [Bool.and_eq_true] at h
  obtain ⟨⟨⟨⟨⟨h0, ha⟩, hl⟩, h48⟩, hg⟩, hn⟩ := h
  unfold acctsOk at ha
  rw [Bool.and_eq_true] at ha
  refine ⟨of_decide_eq_true ha.1, h2, fun x hx => ?_, of_decide_eq_true h48, (limboOk_true.1 hl).1⟩
  obtain ⟨j, hj, rfl⟩ := List.getElem_of_mem hx
  exact limbo_tx hl hj
set_option maxRecDepth 20000 in
theorem pcopy_c (b : Book) (o : b.whole) (h : wideOk b = true) : Pure Tryz.prog 97 [bookV b] (bookV b) := by
  refine pure_ac ?_ (cleans_cons (clean_bookV b) cleans_nil) (clean_bookV b)
  have hone := one_bookc b
  obtain ⟨h1, h2, h3, _⟩ := wide_parts h
  have c1 := clA_c b.ac false (by omega) o.acm
  have c2 := copies_c b.tx false o.took.txm o.txf h2
  have c3 := helds_c b.li false o.took.lim o.lif h3
  clear o h h1 h2 h3
  (refine enter Tryz.func97 Tryz.results97 Tryz.ntmps97 ty_ok (hw := fun F hF => ?_); simp only [List.length_cons, List.length_nil, Nat.reduceAdd, Nat.reduceSub, List.replicate_succ, List.replicate_zero, List.cons_append, List.nil_append]; apply hF; clear hF F)
  refine wks ?_
  refine fin ?_
  rfl
end Go.Abs
