/- Is it known? The walks. -/
import Derived.Test.YtemlnaipcdajeaaGreatM40
import Derived.Test.YtemlnaipcdajeaaGreatM34
set_option linter.unusedVariables false
set_option linter.unusedSimpArgs false
namespace Go.Abs
open Go Go.Proofs

theorem firstBad {α : Type} (p : α → Bool) : ∀ (l : List α), l.all p = false → ∃ j, ∃ h : j < l.length, p l[j] = false ∧ ∀ k (hk : k < j), p (l[k]'(by omega)) = true
  | [], ha => by simp at ha
  | a :: l, ha => by
    cases hpa : p a with
    | false => exact ⟨0, by simp, by simpa using hpa, fun k hk => absurd hk (Nat.not_lt_zero k)⟩
    | true =>
      rw [List.all_cons, hpa, Bool.true_and] at ha
      obtain ⟨j, h1, h2, h3⟩ := firstBad p l ha
      refine ⟨j + 1, by simp; omega, by simpa using h2, fun k hk => ?_⟩
      cases k with
      | zero => simpa using hpa
      | succ k => simpa using h3 k (by omega)
/-- A call that reads a block and leaves it. -/
theorem calld_same {P : Program} {f : FuncId} {args args0 : List V} {H : List HB} {b : Nat} {c : List V} {r : V} (hb : H[b]? = some (.live c)) (hc : Cleans c) (hr : Clean r) (ha : renL [b] args = args0)
    (h : AC P f args0 [.live c] fun v h' => v = r ∧ h'[0]? = some (.live c)) : CallD P f args H r H := by
  have := calld_inplace hb hc hc hr ha h
  rwa [show H.set b (.live c) = H from by
    obtain ⟨hlt, he⟩ := List.getElem?_eq_some_iff.1 hb
    rw [← he]; exact List.set_getElem_self hlt] at this
set_option maxRecDepth 20000 in
set_option maxHeartbeats 20000000 in
theorem index64_c (l : List Nat) (x : Bool) (id : Nat) (hl : l.length < 9223372036854775808) : ∃ r : Int, (0 ≤ r ↔ id ∈ l) ∧ Pure Tryz.prog 164 [hxV l x, .int .u64 id] (.int .i64 r) := by
  have hcl : Cleans [hxV l x, V.int .u64 (id : Nat)] := cleans_cons (.vec _ _ _ (cleans_flat l)) (cleans_cons (.int _ _) cleans_nil)
  by_cases hm : id ∈ l
  · obtain ⟨j, h1, h2, h3⟩ := firstBad (fun a => decide (a ≠ id)) l (by
      refine Bool.eq_false_iff.2 fun h => ?_
      have := of_decide_eq_true (List.all_eq_true.1 h id hm)
      exact this rfl)
    have h2 : l[j] = id := by simpa using h2
    refine ⟨j, ⟨fun _ => hm, fun _ => by omega⟩, ?_⟩
    refine pure_ac ?_ hcl (.int _ _)
    (refine enter Tryz.func164 Tryz.results164 Tryz.ntmps164 ty_ok (hw := fun F hF => ?_); simp only [List.length_cons, List.length_nil, Nat.reduceAdd, Nat.reduceSub, List.replicate_succ, List.replicate_zero, List.cons_append, List.nil_append]; apply hF; clear hF F)
    refine wks ?_
    refine aw_loopI (fun (i : Nat) => ⟨((hxV l x) :: (.int .u64 id) :: .any :: .any :: .any :: .any :: .any :: (.int .i64 l.length) :: (.int .i64 i) :: .any :: .any :: .any :: .any :: .any :: .any :: .any :: .any :: .any :: .any :: []), []⟩) (fun i => i ≤ j) (fun i => j - i) 0 (by omega) (wkt []) ?_
    intro i hi K hK
    by_cases he : i < j
    · have hne : ¬ ((id : Nat) : Int) = ((l[i]'(by omega) : Nat) : Int) := by
        have := of_decide_eq_true (h3 i he)
        omega
      have hil : i < l.length := by omega
      clear hm h3 h2
      refine wks ?_
      exact hK _ (i + 1) (by omega) (wkt []) (by omega)
    · obtain rfl : i = j := by omega
      have hee : ((id : Nat) : Int) = ((l[i] : Nat) : Int) := by rw [h2]
      clear hm h3 h2
      refine wks ?_
      refine fin ?_
      rfl
  · refine ⟨-1, ⟨fun h => by omega, fun h => (hm h).elim⟩, ?_⟩
    refine pure_ac ?_ hcl (.int _ _)
    (refine enter Tryz.func164 Tryz.results164 Tryz.ntmps164 ty_ok (hw := fun F hF => ?_); simp only [List.length_cons, List.length_nil, Nat.reduceAdd, Nat.reduceSub, List.replicate_succ, List.replicate_zero, List.cons_append, List.nil_append]; apply hF; clear hF F)
    refine wks ?_
    refine aw_loopI (fun (i : Nat) => ⟨((hxV l x) :: (.int .u64 id) :: .any :: .any :: .any :: .any :: .any :: (.int .i64 l.length) :: (.int .i64 i) :: .any :: .any :: .any :: .any :: .any :: .any :: .any :: .any :: .any :: .any :: []), []⟩) (fun i => i ≤ l.length) (fun i => l.length - i) 0 (by omega) (wkt []) ?_
    intro i hi K hK
    by_cases he : i < l.length
    · have hne : ¬ ((id : Nat) : Int) = ((l[i] : Nat) : Int) := fun h => hm (by
        have : id = l[i] := by omega
        rw [this]; exact List.getElem_mem he)
      clear hm
      refine wks ?_
      exact hK _ (i + 1) (by omega) (wkt []) (by omega)
    · obtain rfl : i = l.length := by omega
      clear hm
      refine wks ?_
      refine fin ?_
      rfl
theorem contains64_c (l : List Nat) (x : Bool) (id : Nat) (hl : l.length < 9223372036854775808) : Pure Tryz.prog 123 [hxV l x, .int .u64 id] (.bool (decide (id ∈ l))) := by
  refine pure_ac ?_ (cleans_cons (.vec _ _ _ (cleans_flat l)) (cleans_cons (.int _ _) cleans_nil)) (.bool _)
  obtain ⟨r, h1, c1⟩ := index64_c l x id hl
  (refine enter Tryz.func123 Tryz.results123 Tryz.ntmps123 ty_ok (hw := fun F hF => ?_); simp only [List.length_cons, List.length_nil, Nat.reduceAdd, Nat.reduceSub, List.replicate_succ, List.replicate_zero, List.cons_append, List.nil_append]; apply hF; clear hF F)
  refine wks ?_
  refine fin ?_
  exact congrArg V.bool (decide_eq_decide.2 h1)
theorem known1_a (t : Held) (id : Nat) (o : t.ok) (k : txOk t.t = true) : AC Tryz.prog 126 [.agg (heldc t), .ptr 0 0] [.live [.int .u64 id]] fun v h' => v = .bool (decide (idN t.t = id)) ∧ h'[0]? = some (.live [.int .u64 id]) := by
  have hone : ∀ v ∈ heldc t, v.one = true := Rows.one (f := heldc) t
  have c1 := txid_c t.t o.t k
  clear o k
  (refine enter Tryz.func126 Tryz.results126 Tryz.ntmps126 ty_ok (hw := fun F hF => ?_); simp only [List.length_cons, List.length_nil, Nat.reduceAdd, Nat.reduceSub, List.replicate_succ, List.replicate_zero, List.cons_append, List.nil_append]; apply hF; clear hF F)
  refine wks ?_
  refine fin ?_
  refine ⟨?_, rfl⟩
  show V.bool (((idN t.t : Nat) : Int) == ((id : Nat) : Int)) = _
  refine congrArg V.bool ?_
  by_cases h : idN t.t = id
  · rw [h]; simp
  · rw [decide_eq_false h]; exact beq_eq_false_iff_ne.2 (by omega)
theorem known1_d (t : Held) (id : Nat) (o : t.ok) (k : txOk t.t = true) (H : List HB) (b : Nat) (hb : H[b]? = some (.live [.int .u64 id])) : CallD Tryz.prog 126 [.agg (heldc t), .ptr b 0] H (.bool (decide (idN t.t = id))) H :=
  calld_same hb (cleans_cons (.int _ _) cleans_nil) (.bool _) (by simp only [renL, renV, List.idxOf?_cons, renL_clean _ (cleans_flat _)]; simp) (known1_a t id o k)
set_option maxRecDepth 20000 in
set_option maxHeartbeats 20000000 in
theorem indexH_a (l : List Held) (x : Bool) (id : Nat) (hl : l.length < 1000000) (o : ∀ t ∈ l, t.ok) (k : ∀ t ∈ l, txOk t.t = true) : ∃ r : Int, (0 ≤ r ↔ ∃ t ∈ l, idN t.t = id) ∧ AC Tryz.prog 165 [lisV l x, .fn 126 [.ptr 0 0]] [.live [.int .u64 id]] fun v h' => v = .int .i64 r ∧ h'[0]? = some (.live [.int .u64 id]) := by
  cases ha : l.all (fun t => decide (idN t.t ≠ id)) with
  | false =>
    obtain ⟨j, h1, h2, h3⟩ := firstBad _ l ha
    have h2 : idN (l[j]).t = id := by simpa using h2
    refine ⟨j, ⟨fun _ => ⟨l[j], List.getElem_mem h1, h2⟩, fun _ => by omega⟩, ?_⟩
    (refine enter Tryz.func165 Tryz.results165 Tryz.ntmps165 ty_ok (hw := fun F hF => ?_); simp only [List.length_cons, List.length_nil, Nat.reduceAdd, Nat.reduceSub, List.replicate_succ, List.replicate_zero, List.cons_append, List.nil_append]; apply hF; clear hF F)
    refine wks ?_
    refine aw_loopI (fun (i : Nat) => ⟨((lisV l x) :: (.fn 126 [.ptr 0 0]) :: .any :: .any :: .any :: .any :: .any :: (.int .i64 l.length) :: (.int .i64 i) :: .any :: .any :: .any :: .any :: .any :: .any :: .any :: .any :: .any :: .any :: []), [.live [.int .u64 id]]⟩) (fun i => i ≤ j) (fun i => j - i) 0 (by omega) (wkt [0]) ?_
    intro i hi K hK
    have hil : i < l.length := by omega
    have hone : ∀ v ∈ heldc l[i], v.one = true := Rows.one (f := heldc) l[i]
    have d1 := known1_d l[i] id (o _ (List.getElem_mem hil)) (k _ (List.getElem_mem hil))
    by_cases he : i < j
    · have hne : decide (idN (l[i]).t = id) = false := by
        have := of_decide_eq_true (h3 i he)
        exact decide_eq_false this
      clear h3 h2 ha o k
      refine wks ?_
      refine st_call rfl rfl (d1 _ 0 rfl) ?_
      (refine aseq_fx (fun F hF => ?_); simp only [hne]; apply hF; clear hF F)
      refine wks ?_
      exact hK _ (i + 1) (by omega) (wkt [0]) (by omega)
    · obtain rfl : i = j := by omega
      have hee : decide (idN (l[i]).t = id) = true := decide_eq_true h2
      clear h3 h2 ha o k
      refine wks ?_
      refine st_call rfl rfl (d1 _ 0 rfl) ?_
      (refine aseq_fx (fun F hF => ?_); simp only [hee]; apply hF; clear hF F)
      refine wks ?_
      refine fin ?_
      exact ⟨rfl, rfl⟩
  | true =>
    have hall : ∀ t ∈ l, ¬ idN t.t = id := fun t ht => by simpa using List.all_eq_true.1 ha t ht
    refine ⟨-1, ⟨fun h => by omega, fun ⟨t, ht, e⟩ => (hall t ht e).elim⟩, ?_⟩
    (refine enter Tryz.func165 Tryz.results165 Tryz.ntmps165 ty_ok (hw := fun F hF => ?_); simp only [List.length_cons, List.length_nil, Nat.reduceAdd, Nat.reduceSub, List.replicate_succ, List.replicate_zero, List.cons_append, List.nil_append]; apply hF; clear hF F)
    refine wks ?_
    refine aw_loopI (fun (i : Nat) => ⟨((lisV l x) :: (.fn 126 [.ptr 0 0]) :: .any :: .any :: .any :: .any :: .any :: (.int .i64 l.length) :: (.int .i64 i) :: .any :: .any :: .any :: .any :: .any :: .any :: .any :: .any :: .any :: .any :: []), [.live [.int .u64 id]]⟩) (fun i => i ≤ l.length) (fun i => l.length - i) 0 (by omega) (wkt [0]) ?_
    intro i hi K hK
    by_cases he : i < l.length
    · have hone : ∀ v ∈ heldc l[i], v.one = true := Rows.one (f := heldc) l[i]
      have d1 := known1_d l[i] id (o _ (List.getElem_mem he)) (k _ (List.getElem_mem he))
      have hne : decide (idN (l[i]).t = id) = false := decide_eq_false (hall _ (List.getElem_mem he))
      clear hall ha o k
      refine wks ?_
      refine st_call rfl rfl (d1 _ 0 rfl) ?_
      (refine aseq_fx (fun F hF => ?_); simp only [hne]; apply hF; clear hF F)
      refine wks ?_
      exact hK _ (i + 1) (by omega) (wkt [0]) (by omega)
    · obtain rfl : i = l.length := by omega
      clear hall ha o k
      refine wks ?_
      refine fin ?_
      exact ⟨rfl, rfl⟩
theorem containsH_d (l : List Held) (x : Bool) (id : Nat) (hl : l.length < 1000000) (o : ∀ t ∈ l, t.ok) (k : ∀ t ∈ l, txOk t.t = true) (H : List HB) (b : Nat) (hb : H[b]? = some (.live [.int .u64 id])) : CallD Tryz.prog 125 [lisV l x, .fn 126 [.ptr b 0]] H (.bool (decide (∃ t ∈ l, idN t.t = id))) H := by
  refine calld_same (args0 := [lisV l x, .fn 126 [.ptr 0 0]]) hb (cleans_cons (.int _ _) cleans_nil) (.bool _) (by simp only [renL, renV, List.idxOf?_cons]; rw [renL_clean _ (cleans_flat l)]; simp) ?_
  obtain ⟨r, h1, c1⟩ := indexH_a l x id hl o k
  have d1 : ∀ (H : List HB) (b : Nat), H[b]? = some (.live [.int .u64 id]) → CallD Tryz.prog 165 [lisV l x, .fn 126 [.ptr b 0]] H (.int .i64 r) H := fun H b hb =>
    calld_same hb (cleans_cons (.int _ _) cleans_nil) (.int _ _) (by simp only [renL, renV, List.idxOf?_cons]; rw [renL_clean _ (cleans_flat l)]; simp) c1
  clear c1 o k
  (refine enter Tryz.func125 Tryz.results125 Tryz.ntmps125 ty_ok (hw := fun F hF => ?_); simp only [List.length_cons, List.length_nil, Nat.reduceAdd, Nat.reduceSub, List.replicate_succ, List.replicate_zero, List.cons_append, List.nil_append]; apply hF; clear hF F)
  refine wks ?_
  refine st_call rfl rfl (d1 _ 0 rfl) ?_
  refine wks ?_
  refine fin ?_
  exact ⟨congrArg V.bool (decide_eq_decide.2 h1), rfl⟩
theorem ids_c (l : List Tx) (x : Bool) (hl : l.length < 1000000) (o : ∀ t ∈ l, t.ok) (h : ∀ t ∈ l, txOk t = true) : Pure Tryz.prog 124 [tsV l x] (hxV (l.map idN) false) := by
  refine pure_row (g := hc) (l.map idN) (cleans_cons (clean_tsV l x) cleans_nil) (fun e => ?_) fun h0 => ?_
  · rw [List.map_eq_nil_iff] at e
    subst e
    exact ids_nil x
  · rw [List.length_map] at h0 ⊢
    exact ids_a l x h0 hl o h
set_option maxRecDepth 20000 in
set_option maxHeartbeats 20000000 in
theorem known_c (b : Book) (o : b.whole) (h : wideOk b = true) (id : Nat) : Pure Tryz.prog 78 [bookV b, .int .u64 id] (.bool (decide (id ∈ idsN b))) := by
  refine pure_ac ?_ (cleans_cons (clean_bookV b) (cleans_cons (.int _ _) cleans_nil)) (.bool _)
  have hone := one_bookc b
  obtain ⟨w1, w2, w3, w4, w5⟩ := wide_parts h
  have c1 := ids_c b.tx false o.took.txm (fun t ht => (o.txf t ht).took) w2
  have c2 := contains64_c (b.tx.map idN) false id (by rw [List.length_map]; have := o.took.txm; omega)
  have d3 := containsH_d b.li false id o.took.lim (fun t ht => (o.lif t ht).ok) w3
  have hm : (id ∈ idsN b) ↔ (id ∈ b.tx.map idN ∨ ∃ t ∈ b.li, idN t.t = id) := by
    unfold idsN; rw [List.mem_append, List.mem_map (l := b.li)]
  by_cases g1 : id ∈ b.tx.map idN
  · rw [decide_eq_true g1] at c2
    rw [decide_eq_true (hm.2 (.inl g1))]
    clear o h w1 w2 w3 w4 w5 hm g1
    (refine enter Tryz.func78 Tryz.results78 Tryz.ntmps78 ty_ok (hw := fun F hF => ?_); simp only [List.length_cons, List.length_nil, Nat.reduceAdd, Nat.reduceSub, List.replicate_succ, List.replicate_zero, List.cons_append, List.nil_append]; apply hF; clear hF F)
    refine wks ?_
    refine fin ?_
    rfl
  · rw [decide_eq_false g1] at c2
    rw [show decide (id ∈ idsN b) = decide (∃ t ∈ b.li, idN t.t = id) from decide_eq_decide.2 (hm.trans ⟨fun h => h.resolve_left g1, .inr⟩)]
    clear o h w1 w2 w3 w4 w5 hm g1
    (refine enter Tryz.func78 Tryz.results78 Tryz.ntmps78 ty_ok (hw := fun F hF => ?_); simp only [List.length_cons, List.length_nil, Nat.reduceAdd, Nat.reduceSub, List.replicate_succ, List.replicate_zero, List.cons_append, List.nil_append]; apply hF; clear hF F)
    refine aw_seq ?_
    refine aw_joinR (fun (_ : Unit) => ⟨(.any :: .any :: (.ptr 0 0) :: (.ptr 1 0) :: (.bool false) :: .any :: .any :: .any :: .any :: .any :: .any :: .any :: .any :: .any :: .any :: .any :: []), [.live (bookc b), .live [.int .u64 id]]⟩) (fun _ => True) (fun K3 hK3 => ?_) (fun _ _ => ?_)
    · refine wks ?_
      exact hK3 _ () trivial (wkt [0, 1])
    refine aw_seq ?_
    refine aw_draw1 ty_ok (pureL.erase 125) rfl (by kernel_rfl) ?_
    refine wks ?_
    refine st_call rfl rfl (d3 _ 1 rfl) ?_
    refine wks ?_
    refine fin ?_
    rfl
end Go.Abs
/- Who is let in: the walk. -/
namespace Go.Abs
open Go Go.Proofs

theorem copies_d (l : List Tx) (x : Bool) (h0 : 0 < l.length) (hl : l.length < 1000000) (o : ∀ a ∈ l, a.fine) (k : ∀ a ∈ l, txOk a = true) (H : List HB) : CallD Tryz.prog 105 [tsV l x] H (.slc H.length 0 21 l.length l.length) (H ++ [.live (flat txc l)]) :=
  calld_own (cleans_flat l) (cleans_cons (clean_tsV l x) cleans_nil) (copies_a l x h0 hl o k)
set_option maxRecDepth 20000 in
set_option maxHeartbeats 20000000 in
theorem pchain_a (b : Book) (a : Int) (o : b.whole) (h : bookOk b = true) (ha : 0 ≤ a ∧ a < 8) (h0 : 0 < (ofA a b.tx).length) : AC Tryz.prog 52 [bookV b, .int .i64 a] [] fun v h' => ∃ k, v = .tup [.slc k 0 21 (ofA a b.tx).length (ofA a b.tx).length, errV 0] ∧ h'[k]? = some (.live (flat txc (ofA a b.tx))) := by
  have hone := one_bookc b
  have c1 := pcheck_c b o.took
  rw [if_pos h] at c1
  have hw := book_wide h
  obtain ⟨w1, w2, w3, w4, w5⟩ := wide_parts hw
  have c2 := span_c b.tx false a 0 o.took.txm
  have e1 := span_take a 0 (wide_sorted hw)
  rw [spM_of (fun t ht => (txOk_no (w2 t ht)).1)] at e1
  have d3 := copies_d (ofA a b.tx) false h0 (by have := ofA_len a b.tx; have := o.took.txm; omega) (fun t ht => o.txf t (ofA_mem ht).1) (fun t ht => w2 t (ofA_mem ht).1)
  have hle := span_count a 0 b.tx
  have hle2 := cnt_le (spT a) b.tx
  have hfl : (flat txc b.tx).length = b.tx.length * 21 := flat_length b.tx
  obtain ⟨f, hf⟩ : ∃ f, b.tx.countP (spF a 0) = f := ⟨_, rfl⟩
  obtain ⟨g, hg⟩ : ∃ g, b.tx.countP (spT a) = g := ⟨_, rfl⟩
  rw [hf, hg] at e1 c2
  rw [hf, hg] at hle
  rw [hg] at hle2
  have e2 : V.vec (List.take ((g - f) * 21) (List.drop (f * 21) (flat txc b.tx))) (g - f) false = tsV (ofA a b.tx) false := by
    rw [flat_sub, e1]
    have : (ofA a b.tx).length = g - f := by rw [← e1, List.length_take, List.length_drop]; omega
    show _ = V.vec (flat txc (ofA a b.tx)) (ofA a b.tx).length false
    rw [this]
  clear o h hw w1 w2 w3 w4 w5 e1 hf hg
  (refine enter Tryz.func52 Tryz.results52 Tryz.ntmps52 ty_ok (hw := fun F hF => ?_); simp only [List.length_cons, List.length_nil, Nat.reduceAdd, Nat.reduceSub, List.replicate_succ, List.replicate_zero, List.cons_append, List.nil_append]; apply hF; clear hF F)
  refine wks ?_
  (refine aseq_fx (fun F hF => ?_); simp only [e2]; apply hF; clear hF F)
  refine st_call rfl rfl (d3 _) ?_
  simp only [List.length_cons, List.length_nil, Nat.reduceAdd, List.cons_append, List.nil_append]
  refine wks ?_
  refine fin ?_
  exact ⟨1, rfl, rfl⟩
theorem pchain_d (b : Book) (a : Int) (o : b.whole) (h : bookOk b = true) (ha : 0 ≤ a ∧ a < 8) {l : List Tx} (e : ofA a b.tx = l) (h0 : 0 < l.length) (H : List HB) : CallD Tryz.prog 52 [bookV b, .int .i64 a] H (.tup [.slc H.length 0 21 l.length l.length, errV 0]) (H ++ [.live (flat txc l)]) := by
  subst e
  have := calld_fresh (P := Tryz.prog) (f := 52) (args := [bookV b, .int .i64 a]) (H := H) (H1 := H) (hx := [.live (flat txc (ofA a b.tx))]) [] (r0 := .tup [.slc 0 0 21 (ofA a b.tx).length (ofA a b.tx).length, errV 0]) (by simp) rfl (by simp) (by simp) (by
    intro x hx; rw [List.mem_singleton.1 hx]; exact True.intro) (by
    rw [renL_clean _ (cleans_cons (clean_bookV b) (cleans_cons (.int _ _) cleans_nil))]
    refine ac_to (pchain_a b a o h ha h0) fun v h' q => ?_
    obtain ⟨k, rfl, hk⟩ := q
    refine ⟨[k], by simp, ?_, ?_⟩
    · simp [renV, renL, errV, List.idxOf?_cons]
    · simp only [renH, hbAt, hk, renB]
      rw [renL_clean _ (cleans_flat _)])
  simpa [shV, shL, shB, errV, shL_clean _ (cleans_flat _)] using this
theorem pchain_nil (b : Book) (a : Int) (o : b.whole) (h : bookOk b = true) (ha : 0 ≤ a ∧ a < 8) (e : ofA a b.tx = []) : Pure Tryz.prog 52 [bookV b, .int .i64 a] (.tup [.nils, errV 0]) := by
  refine pure_ac ?_ (cleans_cons (clean_bookV b) (cleans_cons (.int _ _) cleans_nil)) (clean_tup (cleans_cons .nils (cleans_cons (.int _ _) cleans_nil)))
  have hone := one_bookc b
  have c1 := pcheck_c b o.took
  rw [if_pos h] at c1
  have hw := book_wide h
  obtain ⟨w1, w2, w3, w4, w5⟩ := wide_parts hw
  have c2 := span_c b.tx false a 0 o.took.txm
  have e1 := span_take a 0 (wide_sorted hw)
  rw [spM_of (fun t ht => (txOk_no (w2 t ht)).1), e] at e1
  have c3 := copies_nil false
  have hle := span_count a 0 b.tx
  have hle2 := cnt_le (spT a) b.tx
  have hfl : (flat txc b.tx).length = b.tx.length * 21 := flat_length b.tx
  obtain ⟨f, hf⟩ : ∃ f, b.tx.countP (spF a 0) = f := ⟨_, rfl⟩
  obtain ⟨g, hg⟩ : ∃ g, b.tx.countP (spT a) = g := ⟨_, rfl⟩
  rw [hf, hg] at e1 c2
  rw [hf, hg] at hle
  rw [hg] at hle2
  have e2 : V.vec (List.take ((g - f) * 21) (List.drop (f * 21) (flat txc b.tx))) (g - f) false = tsV [] false := by
    rw [flat_sub, e1]
    have : ([] : List Tx).length = g - f := by rw [← e1, List.length_take, List.length_drop]; omega
    show _ = V.vec (flat txc []) ([] : List Tx).length false
    rw [this]
  clear o h hw w1 w2 w3 w4 w5 e1 hf hg
  (refine enter Tryz.func52 Tryz.results52 Tryz.ntmps52 ty_ok (hw := fun F hF => ?_); simp only [List.length_cons, List.length_nil, Nat.reduceAdd, Nat.reduceSub, List.replicate_succ, List.replicate_zero, List.cons_append, List.nil_append]; apply hF; clear hF F)
  refine wks ?_
  (refine aseq_fx (fun F hF => ?_); simp only [e2]; apply hF; clear hF F)
  refine wks ?_
  refine fin ?_
  rfl
theorem frz_row {H : List HB} {k : Nat} {l : List Tx} {r : V} (hk : H[k]? = some (.live (flat txc l))) (hr : Clean r) : frzL H [k] 1 [.slc k 0 21 l.length l.length, r] = [tsV l false, r] := by
  have e0 : frzAt H [k] k = some (flat txc l) := by unfold frzAt; rw [if_pos (by simp), hk]
  have e2 : List.take (l.length * 21) (flat txc l) = flat txc l := List.take_of_length_le (by rw [flat_length]; exact Nat.le_refl _)
  have e3 := frzL_clean H [k] 1 (cleans_cons hr cleans_nil)
  simp only [frzL] at e3
  simp only [frzL, frzV, e0, List.drop_zero, Nat.zero_mul, e2, frzL_clean _ _ _ (cleans_flat _)]
  rw [e3]
theorem next_read (l : List Tx) (n : Int) (hl : l.length < 1000000) (o : ∀ t ∈ l, t.ok) (h : chainB l = true) (hn : 0 ≤ n ∧ n ≤ 1099511627776) (hno : ∀ j (hj : j < l.length), l[j].no = n + j) : ∀ (H : List HB) (k : Nat), H[k]? = some (.live (flat txc l)) → CallD Tryz.prog 77 [.slc k 0 21 l.length l.length, .int .i64 n] H (.tup [.int .i64 (n + l.length), errV 0]) H := fun H k hk =>
  calld_read [k] 1 (frz_row hk (.int _ _)) (.tup _ fun v hv => by
    simp only [List.mem_cons, List.not_mem_nil, or_false] at hv
    rcases hv with rfl | rfl <;> exact .int _ _) (cleans_cons (clean_tsV _ _) (cleans_cons (.int _ _) cleans_nil)) (cnext_c l false n hl o h hn hno)
theorem covered_read (l : List Tx) (bal : Nat) (hb : bal < 115792089237316195423570985008687907853269984665640564039457584007913129639936) (hl : l.length < 1000000) (o : ∀ t ∈ l, t.ok) (k : ∀ t ∈ l, txOk t = true) : ∀ (H : List HB) (k : Nat), H[k]? = some (.live (flat txc l)) → CallD Tryz.prog 80 [.slc k 0 21 l.length l.length, uv bal] H (.bool (decide (spentN l ≤ bal))) H := fun H j hk =>
  calld_read [j] 1 (frz_row hk (clean_uv _)) (.bool _) (cleans_cons (clean_tsV _ _) (cleans_cons (clean_uv _) cleans_nil)) (covered_c l false bal hb hl o k)
theorem may_facts (b : Book) (t : Tx) (o : b.whole) (h : bookOk b = true) (hk : txOk t = true) (l : List Tx) (hl : ofA t.fr b.tx = l) (n0 : Int) (hi : t.fr.toNat < b.ac.length) (hn0 : b.ac[t.fr.toNat].no = n0) :
    b.ac.length = 8 ∧ (∀ t ∈ l, t.fine) ∧ (∀ t ∈ l, txOk t = true) ∧ l.length ≤ 6 ∧ (∀ t' ∈ l, t'.fr = t.fr) ∧ chainB l = true ∧ (0 ≤ n0 ∧ n0 ≤ 1099511627776) ∧ (∀ j (hj : j < l.length), l[j].no = n0 + j) ∧ l.length < 1000000 ∧ (∀ t ∈ l, t.ok) := by
  have hw := book_wide h
  obtain ⟨w1, w2, w3, w4, w5⟩ := wide_parts hw
  have hfr : 0 ≤ t.fr ∧ t.fr < 8 := by have := of_decide_eq_true hk; exact ⟨this.1, by omega⟩
  obtain ⟨g1, g2, g3, g4, ⟨g5, g6, g7⟩, g8⟩ := (wide_iff b).1 hw
  have hA := g7 t.fr hfr.1 hfr.2
  rw [hl] at hA
  obtain ⟨hC, hN, hS⟩ := hA
  have hcb := (chainB_iff l).2 hC
  obtain ⟨k1, k2, k3, k4⟩ := (chainB_iff2 l).1 hcb
  have hm : ∀ t' ∈ l, t' ∈ b.tx ∧ t'.fr = t.fr := fun t' ht => by rw [← hl] at ht; exact ofA_mem ht
  have hac : 0 ≤ n0 ∧ n0 ≤ 1099511627776 := by
    unfold acctsOk at g2
    rw [Bool.and_eq_true] at g2
    have := of_decide_eq_true (List.all_eq_true.1 g2.2 _ (List.getElem_mem hi))
    rw [hn0] at this
    exact this
  refine ⟨w1, fun t' ht => o.txf t' (hm t' ht).1, fun t' ht => w2 t' (hm t' ht).1, k1, fun t' ht => (hm t' ht).2, hcb, hac, ?_, by omega, fun t' ht => (o.txf t' (hm t' ht).1).took⟩
  intro j
  induction j with
  | zero =>
    intro hj
    have hne : l ≠ [] := fun e => by rw [e] at hj; simp at hj
    have e := hN hne
    rw [headD_getD, getD_at hj, getD_at hi, hn0] at e
    rw [e]; simp
  | succ j ih =>
    intro hj
    have e := (k3 (j + 1) (by omega) hj).2
    rw [getD_at hj, Nat.add_sub_cancel, getD_at (show j < l.length by omega)] at e
    rw [e, ih (by omega)]
    omega
theorem spent_nils : Pure Tryz.prog 163 [.nils] (ub 0 true) := by
  refine pure_ac ?_ (cleans_cons .nils cleans_nil) (clean_ub _ _)
  (refine enter Tryz.func163 Tryz.results163 Tryz.ntmps163 ty_ok (hw := fun F hF => ?_); simp only [List.length_cons, List.length_nil, Nat.reduceAdd, Nat.reduceSub, List.replicate_succ, List.replicate_zero, List.cons_append, List.nil_append]; apply hF; clear hF F)
  refine wk ?_
  refine aw_rounds 1 ?_
  refine wk ?_
  refine fin ?_
  rfl
theorem chcheck_nils : Pure Tryz.prog 122 [.nils] (errV 0) := by
  refine pure_ac ?_ (cleans_cons .nils cleans_nil) (.int _ _)
  have c1 := spent_nils
  unfold ub at c1
  (refine enter Tryz.func122 Tryz.results122 Tryz.ntmps122 ty_ok (hw := fun F hF => ?_); simp only [List.length_cons, List.length_nil, Nat.reduceAdd, Nat.reduceSub, List.replicate_succ, List.replicate_zero, List.cons_append, List.nil_append]; apply hF; clear hF F)
  refine wk ?_
  refine fin ?_
  rfl
theorem cnext_nils (n : Int) (hn : 0 ≤ n ∧ n ≤ 1099511627776) : Pure Tryz.prog 77 [.nils, .int .i64 n] (.tup [.int .i64 n, errV 0]) := by
  refine pure_ac ?_ (cleans_cons .nils (cleans_cons (.int _ _) cleans_nil)) (clean_tup (cleans_cons (.int _ _) (cleans_cons (.int _ _) cleans_nil)))
  have c1 := chcheck_nils
  (refine enter Tryz.func77 Tryz.results77 Tryz.ntmps77 ty_ok (hw := fun F hF => ?_); simp only [List.length_cons, List.length_nil, Nat.reduceAdd, Nat.reduceSub, List.replicate_succ, List.replicate_zero, List.cons_append, List.nil_append]; apply hF; clear hF F)
  refine wkn ?_
  refine fin ?_
  rfl
set_option maxRecDepth 20000 in
set_option maxHeartbeats 20000000 in
theorem amay_known_n (b : Book) (t : Tx) (o : b.whole) (h : bookOk b = true) (ot : t.fine) (hk : txOk t = true) (l : List Tx) (hl : ofA t.fr b.tx = l) (n0 : Int) (hi : t.fr.toNat < b.ac.length) (hn0 : b.ac[t.fr.toNat].no = n0) (hnil : l = []) (hm : idN t ∈ idsN b) : AC Tryz.prog 34 [bookV b, txV t] [] fun v _ => v = errV 4 := by
  have hone := one_bookc b
  have hone2 : ∀ v ∈ txc t, v.one = true := Rows.one (f := txc) t
  have c1 := txid_c t ot.took hk
  have c2 := pcheck_c b o.took
  rw [if_pos h] at c2
  obtain ⟨w1, w2, w3, w4, w5, q1, q2, q3, q4, q5⟩ := may_facts b t o h hk l hl n0 hi hn0
  have c3 := known_c b o (book_wide h) (idN t)
  rw [decide_eq_true hm] at c3
  have hfr : 0 ≤ t.fr ∧ t.fr < 8 := by have := of_decide_eq_true hk; exact ⟨this.1, by omega⟩
  subst hnil
  have d4 := pchain_nil b t.fr o h hfr hl
  have d5 := cnext_nils n0 q2
  clear o h ot hk q1 q2 q3 q4 q5 w2 w3 hl
  (refine enter Tryz.func34 Tryz.results34 Tryz.ntmps34 ty_ok (hw := fun F hF => ?_); simp only [List.length_cons, List.length_nil, Nat.reduceAdd, Nat.reduceSub, List.replicate_succ, List.replicate_zero, List.cons_append, List.nil_append]; apply hF; clear hF F)
  refine wks ?_
  (refine aseq_fx (fun F hF => ?_); simp only [hn0]; apply hF; clear hF F)
  refine wks ?_
  refine fin ?_
  rfl
set_option maxRecDepth 20000 in
set_option maxHeartbeats 20000000 in
theorem amay_stale_n (b : Book) (t : Tx) (o : b.whole) (h : bookOk b = true) (ot : t.fine) (hk : txOk t = true) (l : List Tx) (hl : ofA t.fr b.tx = l) (n0 : Int) (hi : t.fr.toNat < b.ac.length) (hn0 : b.ac[t.fr.toNat].no = n0) (hnil : l = []) (hm : ¬ idN t ∈ idsN b) (hs : t.no < n0) : AC Tryz.prog 34 [bookV b, txV t] [] fun v _ => v = errV 9 := by
  have hone := one_bookc b
  have hone2 : ∀ v ∈ txc t, v.one = true := Rows.one (f := txc) t
  have c1 := txid_c t ot.took hk
  have c2 := pcheck_c b o.took
  rw [if_pos h] at c2
  obtain ⟨w1, w2, w3, w4, w5, q1, q2, q3, q4, q5⟩ := may_facts b t o h hk l hl n0 hi hn0
  have c3 := known_c b o (book_wide h) (idN t)
  rw [decide_eq_false hm] at c3
  have hfr : 0 ≤ t.fr ∧ t.fr < 8 := by have := of_decide_eq_true hk; exact ⟨this.1, by omega⟩
  subst hnil
  have d4 := pchain_nil b t.fr o h hfr hl
  have d5 := cnext_nils n0 q2
  clear o h ot hk q1 q2 q3 q4 q5 w2 w3 hl
  (refine enter Tryz.func34 Tryz.results34 Tryz.ntmps34 ty_ok (hw := fun F hF => ?_); simp only [List.length_cons, List.length_nil, Nat.reduceAdd, Nat.reduceSub, List.replicate_succ, List.replicate_zero, List.cons_append, List.nil_append]; apply hF; clear hF F)
  refine wks ?_
  (refine aseq_fx (fun F hF => ?_); simp only [hn0]; apply hF; clear hF F)
  refine wks ?_
  refine fin ?_
  rfl
set_option maxRecDepth 20000 in
set_option maxHeartbeats 20000000 in
theorem amay_gap_n (b : Book) (t : Tx) (o : b.whole) (h : bookOk b = true) (ot : t.fine) (hk : txOk t = true) (l : List Tx) (hl : ofA t.fr b.tx = l) (n0 : Int) (hi : t.fr.toNat < b.ac.length) (hn0 : b.ac[t.fr.toNat].no = n0) (hnil : l = []) (hm : ¬ idN t ∈ idsN b) (hs : ¬ t.no < n0) (hg : n0 + (l.length : Int) < t.no) : AC Tryz.prog 34 [bookV b, txV t] [] fun v _ => v = errV 10 := by
  have hone := one_bookc b
  have hone2 : ∀ v ∈ txc t, v.one = true := Rows.one (f := txc) t
  have c1 := txid_c t ot.took hk
  have c2 := pcheck_c b o.took
  rw [if_pos h] at c2
  obtain ⟨w1, w2, w3, w4, w5, q1, q2, q3, q4, q5⟩ := may_facts b t o h hk l hl n0 hi hn0
  have c3 := known_c b o (book_wide h) (idN t)
  rw [decide_eq_false hm] at c3
  have hfr : 0 ≤ t.fr ∧ t.fr < 8 := by have := of_decide_eq_true hk; exact ⟨this.1, by omega⟩
  subst hnil
  have d4 := pchain_nil b t.fr o h hfr hl
  have d5 := cnext_nils n0 q2
  have hg : n0 < t.no := by simpa using hg
  clear o h ot hk q1 q2 q3 q4 q5 w2 w3 hl
  (refine enter Tryz.func34 Tryz.results34 Tryz.ntmps34 ty_ok (hw := fun F hF => ?_); simp only [List.length_cons, List.length_nil, Nat.reduceAdd, Nat.reduceSub, List.replicate_succ, List.replicate_zero, List.cons_append, List.nil_append]; apply hF; clear hF F)
  refine wks ?_
  (refine aseq_fx (fun F hF => ?_); simp only [hn0]; apply hF; clear hF F)
  refine wks ?_
  refine fin ?_
  rfl
set_option maxRecDepth 20000 in
set_option maxHeartbeats 20000000 in
theorem amay_known_r (b : Book) (t : Tx) (o : b.whole) (h : bookOk b = true) (ot : t.fine) (hk : txOk t = true) (l : List Tx) (hl : ofA t.fr b.tx = l) (n0 : Int) (hi : t.fr.toNat < b.ac.length) (hn0 : b.ac[t.fr.toNat].no = n0) (h0 : 0 < l.length) (hm : idN t ∈ idsN b) : AC Tryz.prog 34 [bookV b, txV t] [] fun v _ => v = errV 4 := by
  have hone := one_bookc b
  have hone2 : ∀ v ∈ txc t, v.one = true := Rows.one (f := txc) t
  have c1 := txid_c t ot.took hk
  have c2 := pcheck_c b o.took
  rw [if_pos h] at c2
  obtain ⟨w1, w2, w3, w4, w5, q1, q2, q3, q4, q5⟩ := may_facts b t o h hk l hl n0 hi hn0
  have c3 := known_c b o (book_wide h) (idN t)
  rw [decide_eq_true hm] at c3
  have hfr : 0 ≤ t.fr ∧ t.fr < 8 := by have := of_decide_eq_true hk; exact ⟨this.1, by omega⟩
  have d4 := fun H => pchain_d b t.fr o h hfr hl h0 H
  have d5 := next_read l n0 q4 q5 q1 q2 q3
  clear o h ot hk q1 q2 q3 q4 q5 w2 w3 hl
  (refine enter Tryz.func34 Tryz.results34 Tryz.ntmps34 ty_ok (hw := fun F hF => ?_); simp only [List.length_cons, List.length_nil, Nat.reduceAdd, Nat.reduceSub, List.replicate_succ, List.replicate_zero, List.cons_append, List.nil_append]; apply hF; clear hF F)
  refine wks ?_
  refine st_call rfl rfl (d4 _) ?_
  simp only [List.length_cons, List.length_nil, Nat.reduceAdd, List.cons_append, List.nil_append]
  refine wks ?_
  (refine aseq_fx (fun F hF => ?_); simp only [hn0]; apply hF; clear hF F)
  refine st_call rfl rfl (d5 _ 3 rfl) ?_
  refine wks ?_
  refine fin ?_
  rfl
set_option maxRecDepth 20000 in
set_option maxHeartbeats 20000000 in
theorem amay_stale_r (b : Book) (t : Tx) (o : b.whole) (h : bookOk b = true) (ot : t.fine) (hk : txOk t = true) (l : List Tx) (hl : ofA t.fr b.tx = l) (n0 : Int) (hi : t.fr.toNat < b.ac.length) (hn0 : b.ac[t.fr.toNat].no = n0) (h0 : 0 < l.length) (hm : ¬ idN t ∈ idsN b) (hs : t.no < n0) : AC Tryz.prog 34 [bookV b, txV t] [] fun v _ => v = errV 9 := by
  have hone := one_bookc b
  have hone2 : ∀ v ∈ txc t, v.one = true := Rows.one (f := txc) t
  have c1 := txid_c t ot.took hk
  have c2 := pcheck_c b o.took
  rw [if_pos h] at c2
  obtain ⟨w1, w2, w3, w4, w5, q1, q2, q3, q4, q5⟩ := may_facts b t o h hk l hl n0 hi hn0
  have c3 := known_c b o (book_wide h) (idN t)
  rw [decide_eq_false hm] at c3
  have hfr : 0 ≤ t.fr ∧ t.fr < 8 := by have := of_decide_eq_true hk; exact ⟨this.1, by omega⟩
  have d4 := fun H => pchain_d b t.fr o h hfr hl h0 H
  have d5 := next_read l n0 q4 q5 q1 q2 q3
  clear o h ot hk q1 q2 q3 q4 q5 w2 w3 hl
  (refine enter Tryz.func34 Tryz.results34 Tryz.ntmps34 ty_ok (hw := fun F hF => ?_); simp only [List.length_cons, List.length_nil, Nat.reduceAdd, Nat.reduceSub, List.replicate_succ, List.replicate_zero, List.cons_append, List.nil_append]; apply hF; clear hF F)
  refine wks ?_
  refine st_call rfl rfl (d4 _) ?_
  simp only [List.length_cons, List.length_nil, Nat.reduceAdd, List.cons_append, List.nil_append]
  refine wks ?_
  (refine aseq_fx (fun F hF => ?_); simp only [hn0]; apply hF; clear hF F)
  refine st_call rfl rfl (d5 _ 3 rfl) ?_
  refine wks ?_
  refine fin ?_
  rfl
set_option maxRecDepth 20000 in
set_option maxHeartbeats 20000000 in
theorem amay_gap_r (b : Book) (t : Tx) (o : b.whole) (h : bookOk b = true) (ot : t.fine) (hk : txOk t = true) (l : List Tx) (hl : ofA t.fr b.tx = l) (n0 : Int) (hi : t.fr.toNat < b.ac.length) (hn0 : b.ac[t.fr.toNat].no = n0) (h0 : 0 < l.length) (hm : ¬ idN t ∈ idsN b) (hs : ¬ t.no < n0) (hg : n0 + (l.length : Int) < t.no) : AC Tryz.prog 34 [bookV b, txV t] [] fun v _ => v = errV 10 := by
  have hone := one_bookc b
  have hone2 : ∀ v ∈ txc t, v.one = true := Rows.one (f := txc) t
  have c1 := txid_c t ot.took hk
  have c2 := pcheck_c b o.took
  rw [if_pos h] at c2
  obtain ⟨w1, w2, w3, w4, w5, q1, q2, q3, q4, q5⟩ := may_facts b t o h hk l hl n0 hi hn0
  have c3 := known_c b o (book_wide h) (idN t)
  rw [decide_eq_false hm] at c3
  have hfr : 0 ≤ t.fr ∧ t.fr < 8 := by have := of_decide_eq_true hk; exact ⟨this.1, by omega⟩
  have d4 := fun H => pchain_d b t.fr o h hfr hl h0 H
  have d5 := next_read l n0 q4 q5 q1 q2 q3
  clear o h ot hk q1 q2 q3 q4 q5 w2 w3 hl
  (refine enter Tryz.func34 Tryz.results34 Tryz.ntmps34 ty_ok (hw := fun F hF => ?_); simp only [List.length_cons, List.length_nil, Nat.reduceAdd, Nat.reduceSub, List.replicate_succ, List.replicate_zero, List.cons_append, List.nil_append]; apply hF; clear hF F)
  refine wks ?_
  refine st_call rfl rfl (d4 _) ?_
  simp only [List.length_cons, List.length_nil, Nat.reduceAdd, List.cons_append, List.nil_append]
  refine wks ?_
  (refine aseq_fx (fun F hF => ?_); simp only [hn0]; apply hF; clear hF F)
  refine st_call rfl rfl (d5 _ 3 rfl) ?_
  refine wks ?_
  refine fin ?_
  rfl
end Go.Abs
