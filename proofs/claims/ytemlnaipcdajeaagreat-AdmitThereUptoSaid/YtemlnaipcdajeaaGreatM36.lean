/- How much a book is: the walks; what is not beyond what is played is small. -/
import Derived.Test.YtemlnaipcdajeaaGreatM34
set_option linter.unusedVariables false
set_option linter.unusedSimpArgs false
namespace Go.Abs
open Go Go.Proofs

/-- A sum that stops once it is great. -/
def wSum {α : Type} (g : α → Int) : Int → List α → Int
  | n, [] => n
  | n, a :: l => if n < 1048576 then wSum g (IntKind.wrap .i64 (n + g a)) l else n
theorem wSum_big {α : Type} {g : α → Int} {n : Int} (h : ¬ n < 1048576) : ∀ l, wSum g n l = n
  | [] => rfl
  | a :: l => by rw [wSum, if_neg h]
theorem wSum_step {α : Type} {g : α → Int} {n : Int} {l : List α} {i : Nat} (hi : i < l.length) (h : n < 1048576) : wSum g n (l.drop i) = wSum g (IntKind.wrap .i64 (n + g l[i])) (l.drop (i + 1)) := by
  rw [List.drop_eq_getElem_cons hi, wSum, if_pos h]
/-- Where nothing is very great, and the sum is small, so is each. -/
theorem wSum_small {α : Type} {g : α → Int} : ∀ (l : List α) (n : Int), 0 ≤ n → n < 2199023255552 → (∀ a ∈ l, 0 ≤ g a ∧ g a < 1099511627776) → wSum g n l ≤ 4000 → n ≤ 4000 ∧ (∀ a ∈ l, g a ≤ 4000) ∧ 0 ≤ wSum g n l
  | [], n, h0, h1, _, h => ⟨h, by simp, h0⟩
  | a :: l, n, h0, h1, hg, h => by
    unfold wSum at h ⊢
    obtain ⟨g0, g1⟩ := hg a (by simp)
    by_cases hn : n < 1048576
    · rw [if_pos hn, wi64 ⟨by omega, by omega⟩] at h ⊢
      obtain ⟨q1, q2, q3⟩ := wSum_small l (n + g a) (by omega) (by omega) (fun b hb => hg b (by simp [hb])) h
      refine ⟨by omega, fun b hb => ?_, q3⟩
      rcases List.mem_cons.1 hb with rfl | hb
      · omega
      · exact q2 b hb
    · rw [if_neg hn] at h; omega
def txW (t : Tx) : Int := wSum (fun b : ByteArray => (b.size : Int)) (IntKind.wrap .i64 (IntKind.wrap .i64 (1 + t.hs.length) + t.bs.length)) t.bs
def txsW (l : List Tx) : Int := wSum txW l.length l
def limW (l : List Held) : Int := wSum (fun x => txW x.t) l.length l
def bookW (b : Book) : Int := IntKind.wrap .i64 (IntKind.wrap .i64 (b.ac.length + txsW b.tx) + limW b.li)
def heavyB (b : Book) : Bool := decide (bookW b > 4000) || decide (b.tx.length > 60) || decide (b.li.length > 60)
set_option maxHeartbeats 20000000 in
theorem txWeight_c (t : Tx) (o : t.ok) : Pure Tryz.prog 63 [txV t] (.int .i64 (txW t)) := by
  refine pure_ac ?_ (cleans_cons (clean_txV t) cleans_nil) (.int _ _)
  have o1 := o.hl
  have o2 := o.bl
  (refine enter Tryz.func63 Tryz.results63 Tryz.ntmps63 ty_ok (hw := fun F hF => ?_); simp only [List.length_cons, List.length_nil, Nat.reduceAdd, Nat.reduceSub, List.replicate_succ, List.replicate_zero, List.cons_append, List.nil_append]; apply hF; clear hF F)
  refine wk ?_
  refine aw_loopI (fun (X : Nat × Int) => ⟨(.any :: (.ptr 0 0) :: .any :: (.int .i64 X.2) :: (.int .i64 X.1) :: .any :: .any :: .any :: .any :: .any :: .any :: .any :: .any :: .any :: .any :: .any :: .any :: .any :: .any :: .any :: .any :: .any :: .any :: .any :: .any :: .any :: .any :: .any :: .any :: .any :: .any :: .any :: .any :: []), [.live (txc t)]⟩) (fun X => X.1 ≤ t.bs.length ∧ wSum (fun b : ByteArray => (b.size : Int)) X.2 (t.bs.drop X.1) = txW t) (fun X => t.bs.length - X.1) (0, _) ⟨by show 0 ≤ _; omega, rfl⟩ (wkt [0]) ?_
  rintro ⟨i, n⟩ ⟨hi, hw⟩ K hK
  dsimp only at hi hw
  by_cases h1 : i < t.bs.length
  · have o3 := o.bs _ (List.getElem_mem h1)
    by_cases h2 : n < 1048576
    · rw [wSum_step h1 h2] at hw
      refine wk ?_
      exact hK _ (i + 1, IntKind.wrap .i64 (n + t.bs[i].size)) ⟨by show i + 1 ≤ _; omega, hw⟩ (wkt [0]) (by show t.bs.length - (i + 1) < t.bs.length - i; omega)
    · rw [wSum_big h2] at hw
      refine wk ?_
      refine fin ?_
      rw [hw]
  · rw [List.drop_eq_nil_of_le (by omega), wSum] at hw
    refine wk ?_
    refine fin ?_
    rw [hw]
set_option maxHeartbeats 20000000 in
theorem txsWeight_c (l : List Tx) (x : Bool) (hl : l.length < 9223372036854775808) (o : ∀ t ∈ l, t.ok) : Pure Tryz.prog 28 [tsV l x] (.int .i64 (txsW l)) := by
  refine pure_ac ?_ (cleans_cons (clean_tsV l x) cleans_nil) (.int _ _)
  (refine enter Tryz.func28 Tryz.results28 Tryz.ntmps28 ty_ok (hw := fun F hF => ?_); simp only [List.length_cons, List.length_nil, Nat.reduceAdd, Nat.reduceSub, List.replicate_succ, List.replicate_zero, List.cons_append, List.nil_append]; apply hF; clear hF F)
  refine wk ?_
  refine aw_loopI (fun (X : Nat × Int) => ⟨((tsV l x) :: .any :: .any :: (.int .i64 X.2) :: (.int .i64 X.1) :: .any :: .any :: .any :: .any :: .any :: .any :: .any :: .any :: .any :: .any :: .any :: .any :: .any :: .any :: .any :: .any :: .any :: .any :: .any :: .any :: []), []⟩) (fun X => X.1 ≤ l.length ∧ wSum txW X.2 (l.drop X.1) = txsW l) (fun X => l.length - X.1) (0, _) ⟨by show 0 ≤ _; omega, rfl⟩ (wkt []) ?_
  rintro ⟨i, n⟩ ⟨hi, hw⟩ K hK
  dsimp only at hi hw
  by_cases h1 : i < l.length
  · have c1 := txWeight_c l[i] (o _ (List.getElem_mem h1))
    by_cases h2 : n < 1048576
    · rw [wSum_step h1 h2] at hw
      refine wk ?_
      exact hK _ (i + 1, IntKind.wrap .i64 (n + txW l[i])) ⟨by show i + 1 ≤ _; omega, hw⟩ (wkt []) (by show l.length - (i + 1) < l.length - i; omega)
    · rw [wSum_big h2] at hw
      refine wk ?_
      refine fin ?_
      rw [hw]
  · rw [List.drop_eq_nil_of_le (by omega), wSum] at hw
    refine wk ?_
    refine fin ?_
    rw [hw]
set_option maxHeartbeats 20000000 in
theorem limWeight_c (l : List Held) (x : Bool) (hl : l.length < 9223372036854775808) (o : ∀ t ∈ l, t.ok) : Pure Tryz.prog 106 [lisV l x] (.int .i64 (limW l)) := by
  refine pure_ac ?_ (cleans_cons (clean_lisV l x) cleans_nil) (.int _ _)
  (refine enter Tryz.func106 Tryz.results106 Tryz.ntmps106 ty_ok (hw := fun F hF => ?_); simp only [List.length_cons, List.length_nil, Nat.reduceAdd, Nat.reduceSub, List.replicate_succ, List.replicate_zero, List.cons_append, List.nil_append]; apply hF; clear hF F)
  refine wk ?_
  refine aw_loopI (fun (X : Nat × Int) => ⟨((lisV l x) :: .any :: .any :: (.int .i64 X.2) :: (.int .i64 X.1) :: .any :: .any :: .any :: .any :: .any :: .any :: .any :: .any :: .any :: .any :: .any :: .any :: .any :: .any :: .any :: .any :: .any :: .any :: .any :: .any :: .any :: []), []⟩) (fun X => X.1 ≤ l.length ∧ wSum (fun x : Held => txW x.t) X.2 (l.drop X.1) = limW l) (fun X => l.length - X.1) (0, _) ⟨by show 0 ≤ _; omega, rfl⟩ (wkt []) ?_
  rintro ⟨i, n⟩ ⟨hi, hw⟩ K hK
  dsimp only at hi hw
  by_cases h1 : i < l.length
  · have c1 := txWeight_c l[i].t (o _ (List.getElem_mem h1)).t
    by_cases h2 : n < 1048576
    · rw [wSum_step h1 h2] at hw
      refine wk ?_
      exact hK _ (i + 1, IntKind.wrap .i64 (n + txW l[i].t)) ⟨by show i + 1 ≤ _; omega, hw⟩ (wkt []) (by show l.length - (i + 1) < l.length - i; omega)
    · rw [wSum_big h2] at hw
      refine wk ?_
      refine fin ?_
      rw [hw]
  · rw [List.drop_eq_nil_of_le (by omega), wSum] at hw
    refine wk ?_
    refine fin ?_
    rw [hw]
theorem bookWeight_c (b : Book) (o : b.ok) : Pure Tryz.prog 53 [bookV b] (.int .i64 (bookW b)) := by
  refine pure_ac ?_ (cleans_cons (clean_bookV b) cleans_nil) (.int _ _)
  have hone := one_bookc b
  have c1 := txsWeight_c b.tx false o.txl o.tx
  have c2 := limWeight_c b.li false o.lil o.li
  clear o
  (refine enter Tryz.func53 Tryz.results53 Tryz.ntmps53 ty_ok (hw := fun F hF => ?_); simp only [List.length_cons, List.length_nil, Nat.reduceAdd, Nat.reduceSub, List.replicate_succ, List.replicate_zero, List.cons_append, List.nil_append]; apply hF; clear hF F)
  refine aw_seq ?_
  refine aw_joinR (fun (_ : Unit) => ⟨(.any :: (.ptr 0 0) :: (.int .i64 0) :: .any :: .any :: .any :: .any :: .any :: .any :: .any :: .any :: .any :: .any :: .any :: []), [.live (bookc b)]⟩) (fun _ => True) (fun K3 hK3 => ?_) (fun _ _ => ?_)
  · refine wks ?_
    exact hK3 _ () trivial (wkt [0] (hh := by dsimp only [renS, renH, renL, renV, renB, hbAt, List.map_cons, List.map_nil, List.getElem?_cons_zero, List.getElem?_cons_succ]; (try simp only [renL_clean _ (cleans_flat _)]); try rfl))
  refine aw_seq ?_
  refine aw_draw1 ty_ok (28 :: 106 :: pureL) rfl (by kernel_rfl) ?_
  refine wk ?_
  refine fin ?_
  rfl
theorem heavy_c (b : Book) (o : b.ok) : Pure Tryz.prog 14 [bookV b] (.bool (heavyB b)) := by
  refine pure_ac ?_ (cleans_cons (clean_bookV b) cleans_nil) (.bool _)
  have hone := one_bookc b
  have c1 := bookWeight_c b o
  clear o
  unfold heavyB
  by_cases h1 : bookW b > 4000
  · rw [decide_eq_true h1, Bool.true_or, Bool.true_or]
    (refine enter Tryz.func14 Tryz.results14 Tryz.ntmps14 ty_ok (hw := fun F hF => ?_); simp only [List.length_cons, List.length_nil, Nat.reduceAdd, Nat.reduceSub, List.replicate_succ, List.replicate_zero, List.cons_append, List.nil_append]; apply hF; clear hF F)
    refine wk ?_
    refine fin ?_
    rfl
  · rw [decide_eq_false h1, Bool.false_or]
    by_cases h2 : b.tx.length > 60
    · rw [decide_eq_true h2, Bool.true_or]
      (refine enter Tryz.func14 Tryz.results14 Tryz.ntmps14 ty_ok (hw := fun F hF => ?_); simp only [List.length_cons, List.length_nil, Nat.reduceAdd, Nat.reduceSub, List.replicate_succ, List.replicate_zero, List.cons_append, List.nil_append]; apply hF; clear hF F)
      refine wk ?_
      refine fin ?_
      rfl
    · rw [decide_eq_false h2, Bool.false_or]
      by_cases h3 : b.li.length > 60
      · rw [decide_eq_true h3]
        (refine enter Tryz.func14 Tryz.results14 Tryz.ntmps14 ty_ok (hw := fun F hF => ?_); simp only [List.length_cons, List.length_nil, Nat.reduceAdd, Nat.reduceSub, List.replicate_succ, List.replicate_zero, List.cons_append, List.nil_append]; apply hF; clear hF F)
        refine wk ?_
        refine fin ?_
        rw [decide_eq_true (by omega)]
      · rw [decide_eq_false h3]
        (refine enter Tryz.func14 Tryz.results14 Tryz.ntmps14 ty_ok (hw := fun F hF => ?_); simp only [List.length_cons, List.length_nil, Nat.reduceAdd, Nat.reduceSub, List.replicate_succ, List.replicate_zero, List.cons_append, List.nil_append]; apply hF; clear hF F)
        refine wk ?_
        refine fin ?_
        rw [decide_eq_false (by omega)]
/-- Nothing in it is very great. -/
structure Tx.sm (q : Tx) : Prop where
  hs : q.hs.length < 10000000
  bs : q.bs.length < 10000000
  ss : ∀ s ∈ q.bs, s.size < 10000000
theorem wsum_bd {α : Type} {g : α → Int} : ∀ (l : List α) (n : Int), 0 ≤ n → n < 1000000000 → (∀ a ∈ l, 0 ≤ g a ∧ g a < 1000000000) → 0 ≤ wSum g n l ∧ wSum g n l < 1099511627776
  | [], n, h0, h1, _ => ⟨h0, by unfold wSum; omega⟩
  | a :: l, n, h0, h1, hg => by
    unfold wSum
    obtain ⟨g0, g1⟩ := hg a (by simp)
    by_cases hn : n < 1048576
    · rw [if_pos hn, wi64 ⟨by omega, by omega⟩]
      by_cases hb : n + g a < 1000000000
      · exact wsum_bd l _ (by omega) hb (fun b hb => hg b (by simp [hb]))
      · rw [wSum_big (by omega)]; omega
    · rw [if_neg hn]; omega
theorem txW_bd {t : Tx} (h : t.sm) : 0 ≤ txW t ∧ txW t < 1099511627776 := by
  have h1 := h.hs
  have h2 := h.bs
  unfold txW
  rw [show IntKind.wrap .i64 (1 + (t.hs.length : Int)) = 1 + (t.hs.length : Int) from wi64 ⟨by omega, by omega⟩, wi64 ⟨by omega, by omega⟩]
  exact wsum_bd _ _ (by omega) (by omega) (fun s hs => ⟨by omega, by have := h.ss s hs; omega⟩)
theorem txW_small {t : Tx} (h : t.sm) (hw : txW t ≤ 4000) : t.hs.length ≤ 4000 ∧ t.bs.length ≤ 4000 := by
  have h1 := h.hs
  have h2 := h.bs
  unfold txW at hw
  rw [show IntKind.wrap .i64 (1 + (t.hs.length : Int)) = 1 + (t.hs.length : Int) from wi64 ⟨by omega, by omega⟩, wi64 ⟨by omega, by omega⟩] at hw
  obtain ⟨q, _⟩ := wSum_small t.bs _ (by omega) (by omega) (fun s hs => ⟨by omega, by have := h.ss s hs; omega⟩) hw
  omega
theorem txsW_small {l : List Tx} (hl : l.length < 10000000) (h : ∀ t ∈ l, t.sm) (hw : txsW l ≤ 4000) : l.length ≤ 4000 ∧ (∀ t ∈ l, t.hs.length ≤ 4000 ∧ t.bs.length ≤ 4000) ∧ 0 ≤ txsW l := by
  unfold txsW at hw ⊢
  obtain ⟨q1, q2, q3⟩ := wSum_small l _ (by omega) (by omega) (fun t ht => txW_bd (h t ht)) hw
  exact ⟨by omega, fun t ht => txW_small (h t ht) (q2 t ht), q3⟩
theorem limW_small {l : List Held} (hl : l.length < 10000000) (h : ∀ x ∈ l, x.t.sm) (hw : limW l ≤ 4000) : l.length ≤ 4000 ∧ (∀ x ∈ l, x.t.hs.length ≤ 4000 ∧ x.t.bs.length ≤ 4000) ∧ 0 ≤ limW l := by
  unfold limW at hw ⊢
  obtain ⟨q1, q2, q3⟩ := wSum_small (g := fun x : Held => txW x.t) l _ (by omega) (by omega) (fun x hx => txW_bd (h x hx)) hw
  exact ⟨by omega, fun x hx => txW_small (h x hx) (q2 x hx), q3⟩
structure Book.sm (q : Book) : Prop where
  ac : q.ac.length < 10000000
  tx : q.tx.length < 10000000
  txs : ∀ t ∈ q.tx, t.sm
  li : q.li.length < 10000000
  lis : ∀ x ∈ q.li, x.t.sm
theorem wsum_pos {α : Type} {g : α → Int} (l : List α) (n : Int) (h0 : 0 ≤ n) (h1 : n < 1000000000) (hg : ∀ a ∈ l, 0 ≤ g a ∧ g a < 1099511627776) : 0 ≤ wSum g n l ∧ wSum g n l < 2199023255552 := by
  induction l generalizing n with
  | nil => exact ⟨h0, by unfold wSum; omega⟩
  | cons a l ih =>
    unfold wSum
    obtain ⟨g0, g1⟩ := hg a (by simp)
    by_cases hn : n < 1048576
    · rw [if_pos hn, wi64 ⟨by omega, by omega⟩]
      by_cases hb : n + g a < 1000000000
      · exact ih _ (by omega) hb (fun b hb => hg b (by simp [hb]))
      · rw [wSum_big (by omega)]; omega
    · rw [if_neg hn]; omega
/-- **What is played is small.** -/
theorem whole_of {b : Book} (o : b.ok) (s : b.sm) (h : heavyB b = false) : b.whole := by
  unfold heavyB at h
  rw [Bool.or_eq_false_iff, Bool.or_eq_false_iff] at h
  obtain ⟨⟨h1, h2⟩, h3⟩ := h
  have h1 := of_decide_eq_false h1
  have h2 := of_decide_eq_false h2
  have h3 := of_decide_eq_false h3
  have s1 := s.ac
  have b1 : 0 ≤ txsW b.tx ∧ txsW b.tx < 2199023255552 := wsum_pos b.tx _ (by omega) (by have := s.tx; omega) (fun t ht => txW_bd (s.txs t ht))
  have b2 : 0 ≤ limW b.li ∧ limW b.li < 2199023255552 := wsum_pos (g := fun x : Held => txW x.t) b.li _ (by omega) (by have := s.li; omega) (fun x hx => txW_bd (s.lis x hx))
  unfold bookW at h1
  rw [show IntKind.wrap .i64 ((b.ac.length : Int) + txsW b.tx) = (b.ac.length : Int) + txsW b.tx from wi64 ⟨by omega, by omega⟩, wi64 ⟨by omega, by omega⟩] at h1
  obtain ⟨t1, t2, t3⟩ := txsW_small s.tx s.txs (by omega)
  obtain ⟨l1, l2, l3⟩ := limW_small s.li s.lis (by omega)
  refine ⟨⟨o, by omega, by omega⟩, by omega, fun t ht => ⟨o.tx t ht, ?_, ?_⟩, fun x hx => ⟨⟨(o.li x hx).t, ?_, ?_⟩, (o.li x hx).blk⟩⟩
  · have := t2 t ht; omega
  · have := t2 t ht; omega
  · have := l2 x hx; omega
  · have := l2 x hx; omega
end Go.Abs
