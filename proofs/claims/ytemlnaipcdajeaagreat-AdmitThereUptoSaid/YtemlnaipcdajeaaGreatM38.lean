/- A plain book; one transaction laid into an empty book; the pool wakes. -/
import Derived.Test.YtemlnaipcdajeaaGreatM36
set_option linter.unusedVariables false
set_option linter.unusedSimpArgs false
namespace Go.Abs
open Go Go.Proofs

def ac16 : Acct := ⟨0, 18446744073709551616⟩
def b16 (room : Int) : Book := ⟨room, 0, 0, 0, List.replicate 8 ac16, [], []⟩
theorem acc_ac16 : acc ac16 = [.int .i64 0, .int .u64 0, .int .u64 1, .int .u64 0, .int .u64 0] := rfl
set_option maxRecDepth 20000 in
set_option maxHeartbeats 20000000 in
theorem b16_c (room : Int) : Pure Tryz.prog 50 [.int .i64 room] (bookV (b16 room)) := by
  have hcells : flat acc (List.replicate 8 ac16) = flat acc (b16 room).ac := rfl
  refine pure_says (r := .agg [.int .i64 room, .int .i64 0, .int .u64 0, .int .u64 0, .int .u64 0, .int .u64 0, .int .i64 0, .vec (flat acc (List.replicate 8 ac16)) 8 false, .nils, .nils]) ?_ ?_
  · refine pure_seal 2 (R := fun v h' => ∃ k, v = .agg [.int .i64 room, .int .i64 0, .int .u64 0, .int .u64 0, .int .u64 0, .int .u64 0, .int .i64 0, .slc k 0 5 8 8, .nils, .nils] ∧ h'[k]? = some (.live (flat acc (List.replicate 8 ac16)))) ?_ (cleans_cons (.int _ _) cleans_nil) ?_ ?_
    · (refine enter Tryz.func50 Tryz.results50 Tryz.ntmps50 ty_ok (hw := fun F hF => ?_); simp only [List.length_cons, List.length_nil, Nat.reduceAdd, Nat.reduceSub, List.replicate_succ, List.replicate_zero, List.cons_append, List.nil_append]; apply hF; clear hF F)
      refine wks ?_
      refine aw_loopI (fun (i : Nat) => ⟨(.any :: .any :: (.ptr 0 0) :: (.ptr 1 0) :: (.int .i64 i) :: .any :: .any :: .any :: .any :: .any :: .any :: .any :: .any :: .any :: .any :: .any :: .any :: .any :: .any :: []), [.live [.int .i64 0, .int .i64 0, .int .u64 0, .int .u64 0, .int .u64 0, .int .u64 0, .int .i64 0, .nils, .nils, .nils], .live [.int .i64 room, .int .i64 0, .int .u64 0, .int .u64 0, .int .u64 0, .int .u64 0, .int .i64 0, rwV 2 5 (List.replicate i ac16), .nils, .nils]] ++ rwH acc (List.replicate i ac16)⟩) (fun i => i ≤ 8) (fun i => 8 - i) 0 (by omega) (wkt [0, 1]) ?_
      intro i hi K hK
      by_cases h8 : i < 8
      · cases i with
        | zero =>
          dsimp only [List.replicate, rwV, rwH, List.cons_append, List.nil_append]
          refine wks ?_
          simp only [one_eq0, if_false, List.set_cons_zero, List.set_cons_succ, List.cons_append, List.nil_append, List.length_cons, List.length_nil, Nat.reduceAdd]
          refine hK _ 1 (by omega) ?_ (by omega)
          exact wkt [0, 1, 3]
        | succ i =>
          have g1 : (flat acc (ac16 :: List.replicate i ac16)).length = ((List.replicate i ac16).length + 1) * 5 := by rw [flat_length]; rfl
          have g0 : (List.replicate i ac16).length = i := List.length_replicate ..
          have g2 : flat acc (List.replicate (i + 1 + 1) ac16) = flat acc (ac16 :: List.replicate i ac16) ++ acc ac16 := by rw [List.replicate_succ' (n := i + 1), flat_append, flat_single]; rfl
          have g3 : rwH acc (List.replicate (i + 1 + 1) ac16) = [.live (flat acc (List.replicate (i + 1 + 1) ac16))] := rfl
          have g4 : rwV 2 5 (List.replicate (i + 1 + 1) ac16) = .slc 2 0 5 (i + 1 + 1) (i + 1 + 1) := by show V.slc 2 0 5 ((List.replicate (i + 1) ac16).length + 1) ((List.replicate (i + 1) ac16).length + 1) = _; rw [List.length_replicate]
          rw [g0] at g1
          dsimp only [List.replicate, rwV, rwH, List.cons_append, List.nil_append]
          rw [g0]
          refine wks ?_
          refine hK _ (i + 1 + 1) (by omega) ?_ (by omega)
          rw [g3, g4, g2]
          exact wkt [0, 1, 4] (hh := by dsimp only [renS, renH, renL, renV, renB, hbAt, List.map_cons, List.map_nil, List.getElem?_cons_zero, List.getElem?_cons_succ]; simp only [renL_append, renL_clean _ (cleans_flat _), renL, renV]; rfl)
      · obtain rfl : i = 8 := by omega
        dsimp only [List.replicate, rwV, rwH, List.cons_append, List.nil_append, List.length_cons, List.length_nil, Nat.reduceAdd]
        refine wks ?_
        refine fin ?_
        exact ⟨2, rfl, rfl⟩
    · rintro v h' ⟨k, rfl, hk⟩
      simp [sealV, sealL, hk, flat, List.replicate, acc, ac16]
    · exact clean_agg (cleans_cons (.int _ _) (cleans_cons (.int _ _) (cleans_cons (.int _ _) (cleans_cons (.int _ _) (cleans_cons (.int _ _) (cleans_cons (.int _ _) (cleans_cons (.int _ _) (cleans_cons (.vec _ _ _ (cleans_flat _)) (cleans_cons .nils (cleans_cons .nils cleans_nil))))))))))
  · have l0 : ∀ i, ((lb (b16 room).b i : Nat) : Int) = 0 := fun i => by
      show ((lb 0 i : Nat) : Int) = 0
      unfold lb; rw [Nat.zero_div]; rfl
    show Says (.agg (bookc (b16 room))) _
    unfold bookc
    rw [l0, l0, l0, l0]
    exact says_agg ⟨Says.refl _, Says.refl _, Says.refl _, Says.refl _, Says.refl _, Says.refl _, Says.refl _, Says.refl _, says_nil _, says_nil _, True.intro⟩
end Go.Abs
/- Where an account's stand; its chain: the walks. -/
namespace Go.Abs
open Go Go.Proofs

def spF (a n : Int) (t : Tx) : Bool := decide (t.fr < a) || (decide (t.fr = a) && decide (t.no < n))
def spT (a : Int) (t : Tx) : Bool := decide (t.fr ≤ a)
def spM (a n : Int) (t : Tx) : Bool := decide (t.fr = a) && decide (n ≤ t.no)
def spH (a : Int) (t : Tx) : Bool := decide (a < t.fr)
theorem ltT_trans {a b c : Tx} (h1 : ltT a b) (h2 : ltT b c) : ltT a c := by unfold ltT at *; omega
theorem sorted_all : ∀ {l : List Tx} {t : Tx}, SortedT (t :: l) → ∀ u ∈ l, ltT t u
  | [], t, _, u, hu => by cases hu
  | b :: l, t, h, u, hu => by
    rcases List.mem_cons.1 hu with rfl | hu
    · exact h.1
    · exact ltT_trans h.1 (sorted_all h.2 u hu)
/-- A row in order falls into three parts. -/
theorem span_parts (a n : Int) : ∀ {l : List Tx}, SortedT l → l = l.filter (spF a n) ++ (l.filter (spM a n) ++ l.filter (spH a))
  | [], _ => rfl
  | t :: l, h => by
    have ih := span_parts a n (sorted_tail h)
    have hall := sorted_all h
    by_cases h1 : spF a n t = true
    · have h2 : spM a n t = false := by simp [spF, spM] at *; omega
      have h3 : spH a t = false := by simp [spF, spH] at *; omega
      rw [List.filter_cons_of_pos h1, List.filter_cons_of_neg (by simp [h2]), List.filter_cons_of_neg (by simp [h3]), List.cons_append, ← ih]
    · have hF : l.filter (spF a n) = [] := List.filter_eq_nil_iff.2 fun u hu => by
        have := hall u hu
        simp [spF, ltT] at *; omega
      by_cases h2 : spM a n t = true
      · have h3 : spH a t = false := by simp [spM, spH] at *; omega
        rw [hF, List.nil_append] at ih
        rw [List.filter_cons_of_neg h1, hF, List.filter_cons_of_pos h2, List.filter_cons_of_neg (by simp [h3]), List.nil_append, List.cons_append, ← ih]
      · have h3 : spH a t = true := by simp [spF, spM, spH] at *; omega
        have hM : l.filter (spM a n) = [] := List.filter_eq_nil_iff.2 fun u hu => by
          have := hall u hu
          simp [spF, spM, spH, ltT] at *; omega
        rw [hF, hM, List.nil_append, List.nil_append] at ih
        rw [List.filter_cons_of_neg h1, hF, List.filter_cons_of_neg h2, hM, List.filter_cons_of_pos h3, List.nil_append, List.nil_append, ← ih]
theorem span_count (a n : Int) : ∀ l : List Tx, l.countP (spT a) = l.countP (spF a n) + l.countP (spM a n)
  | [] => rfl
  | t :: l => by
    have ih := span_count a n l
    rw [List.countP_cons, List.countP_cons, List.countP_cons, ih]
    by_cases h1 : t.fr < a
    · simp [spF, spM, spT, h1, show ¬ t.fr = a by omega, show t.fr ≤ a by omega]; omega
    · by_cases h2 : t.fr = a
      · by_cases h3 : t.no < n
        · simp [spF, spM, spT, h2, h3, show ¬ n ≤ t.no by omega]; omega
        · simp [spF, spM, spT, h2, h3, show n ≤ t.no by omega]; omega
      · simp [spF, spM, spT, h1, h2, show ¬ t.fr ≤ a by omega]
theorem span_take (a n : Int) {l : List Tx} (h : SortedT l) : (l.drop (l.countP (spF a n))).take (l.countP (spT a) - l.countP (spF a n)) = l.filter (spM a n) := by
  have e := span_parts a n h
  have hc := span_count a n l
  have hF : (l.filter (spF a n)).length = l.countP (spF a n) := (List.countP_eq_length_filter).symm
  have hM : (l.filter (spM a n)).length = l.countP (spM a n) := (List.countP_eq_length_filter).symm
  have hd : l.drop (l.countP (spF a n)) = l.filter (spM a n) ++ l.filter (spH a) := by
    have := congrArg (List.drop (l.countP (spF a n))) e
    rw [this, List.drop_left' hF]
  rw [hd, List.take_left' (by omega)]
theorem spM_of {a : Int} {l : List Tx} (h : ∀ t ∈ l, 0 ≤ t.no) : l.filter (spM a 0) = ofA a l := by
  unfold ofA
  refine List.filter_congr fun t ht => ?_
  have := h t ht
  unfold spM
  rw [decide_eq_true this, Bool.and_true]
  by_cases e : t.fr = a
  · rw [decide_eq_true e]; simp [e]
  · rw [decide_eq_false e]; simp [e]
theorem cnt_step {p : Tx → Bool} {l : List Tx} {i : Nat} (h : i < l.length) : (l.take (i + 1)).countP p = (l.take i).countP p + if p l[i] = true then 1 else 0 := by
  rw [List.take_succ_eq_append_getElem h, List.countP_append, List.countP_singleton]
theorem cnt_le (p : Tx → Bool) (l : List Tx) : l.countP p ≤ l.length := List.countP_le_length
set_option maxRecDepth 20000 in
set_option maxHeartbeats 20000000 in
theorem span_c (l : List Tx) (x : Bool) (a n : Int) (hl : l.length < 1000000) : Pure Tryz.prog 104 [tsV l x, .int .i64 a, .int .i64 n] (.tup [.int .i64 (l.countP (spF a n) : Nat), .int .i64 (l.countP (spT a) : Nat)]) := by
  refine pure_ac ?_ (cleans_cons (clean_tsV l x) (cleans_cons (.int _ _) (cleans_cons (.int _ _) cleans_nil))) (clean_tup (cleans_cons (.int _ _) (cleans_cons (.int _ _) cleans_nil)))
  have hcl : ∀ p i, (l.take i).countP p ≤ l.length := fun p i => Nat.le_trans (cnt_le p _) (by rw [List.length_take]; omega)
  (refine enter Tryz.func104 Tryz.results104 Tryz.ntmps104 ty_ok (hw := fun F hF => ?_); simp only [List.length_cons, List.length_nil, Nat.reduceAdd, Nat.reduceSub, List.replicate_succ, List.replicate_zero, List.cons_append, List.nil_append]; apply hF; clear hF F)
  refine wks ?_
  refine aw_loopI (fun (i : Nat) => ⟨((tsV l x) :: (.int .i64 a) :: (.int .i64 n) :: .any :: .any :: .any :: (.int .i64 ((l.take i).countP (spF a n) : Nat)) :: (.int .i64 ((l.take i).countP (spT a) : Nat)) :: .any :: .any :: (tsV l x) :: (.int .i64 l.length) :: (.int .i64 i) :: .any :: .any :: .any :: .any :: .any :: .any :: .any :: .any :: .any :: .any :: .any :: .any :: .any :: .any :: .any :: .any :: .any :: .any :: .any :: .any :: .any :: .any :: .any :: .any :: .any :: .any :: .any :: .any :: .any :: .any :: []), []⟩) (fun i => i ≤ l.length) (fun i => l.length - i) 0 (by omega) (wkt []) ?_
  intro i hi K hK
  have k1 := hcl (spF a n) i
  have k2 := hcl (spT a) i
  clear hcl
  by_cases h1 : i < l.length
  · have hone : ∀ v ∈ txc l[i], v.one = true := Rows.one (f := txc) l[i]
    have s1 := cnt_step (p := spF a n) h1
    have s2 := cnt_step (p := spT a) h1
    by_cases ha : l[i].fr < a
    · rw [if_pos (by simp [spF, ha])] at s1
      rw [if_pos (by simp [spT]; omega)] at s2
      refine wks ?_
      refine hK _ (i + 1) (by omega) ?_ (by omega)
      rw [s1, s2]
      exact wkt []
    · by_cases hb : l[i].fr = a
      · by_cases hc : l[i].no < n
        · rw [if_pos (by simp [spF, hb, hc])] at s1
          rw [if_pos (by simp [spT]; omega)] at s2
          refine wks ?_
          refine hK _ (i + 1) (by omega) ?_ (by omega)
          rw [s1, s2]
          exact wkt []
        · rw [if_neg (by simp [spF, hb, hc])] at s1
          rw [if_pos (by simp [spT]; omega)] at s2
          refine wks ?_
          refine hK _ (i + 1) (by omega) ?_ (by omega)
          rw [s1, s2]
          exact wkt []
      · rw [if_neg (by simp [spF, ha, hb])] at s1
        rw [if_neg (by simp [spT]; omega)] at s2
        refine wks ?_
        refine hK _ (i + 1) (by omega) ?_ (by omega)
        rw [s1, s2]
        exact wkt []
  · obtain rfl : i = l.length := by omega
    rw [List.take_length] at k1 k2 ⊢
    clear hK
    refine wks ?_
    refine fin ?_
    rfl
theorem wide_sorted {b : Book} (h : wideOk b = true) : SortedT b.tx := ((wide_iff b).1 h).2.2.2.2.1.1
theorem txOk_no {t : Tx} (h : txOk t = true) : 0 ≤ t.no ∧ t.no ≤ 1099511627776 := by
  have := of_decide_eq_true h; exact ⟨this.2.2.1, this.2.2.2.1⟩
theorem txOk_fr {t : Tx} (h : txOk t = true) : 0 ≤ t.fr ∧ t.fr ≤ 7 := by
  have := of_decide_eq_true h; exact ⟨this.1, this.2.1⟩
set_option maxRecDepth 20000 in
set_option maxHeartbeats 20000000 in
theorem pchain_c (b : Book) (a : Int) (o : b.whole) (h : bookOk b = true) (ha : 0 ≤ a ∧ a < 8) : Pure Tryz.prog 52 [bookV b, .int .i64 a] (.tup [tsV (ofA a b.tx) false, errV 0]) := by
  refine pure_ac ?_ (cleans_cons (clean_bookV b) (cleans_cons (.int _ _) cleans_nil)) (clean_tup (cleans_cons (clean_tsV _ _) (cleans_cons (.int _ _) cleans_nil)))
  have hone := one_bookc b
  have c1 := pcheck_c b o.took
  rw [if_pos h] at c1
  have hw := book_wide h
  obtain ⟨w1, w2, w3, w4, w5⟩ := wide_parts hw
  have c2 := span_c b.tx false a 0 o.took.txm
  have e1 := span_take a 0 (wide_sorted hw)
  rw [spM_of (fun t ht => (txOk_no (w2 t ht)).1)] at e1
  have c3 := copies_c (ofA a b.tx) false (by have := ofA_len a b.tx; have := o.took.txm; omega) (fun t ht => o.txf t (ofA_mem ht).1) (fun t ht => w2 t (ofA_mem ht).1)
  have hle := span_count a 0 b.tx
  have hle2 := cnt_le (spT a) b.tx
  have hfl : (flat txc b.tx).length = b.tx.length * 21 := flat_length b.tx
  obtain ⟨f, hf⟩ : ∃ f, b.tx.countP (spF a 0) = f := ⟨_, rfl⟩
  obtain ⟨g, hg⟩ : ∃ g, b.tx.countP (spT a) = g := ⟨_, rfl⟩
  rw [hf, hg] at e1 c2
  rw [hf, hg] at hle
  rw [hg] at hle2
  have e2 : V.vec (List.take ((g - f) * 21) (List.drop (f * 21) (flat txc b.tx))) (g - f) false = tsV (ofA a b.tx) false := by
    rw [flat_sub, e1]
    have : (ofA a b.tx).length = g - f := by rw [← e1, List.length_take, List.length_drop]; omega
    show _ = V.vec (flat txc (ofA a b.tx)) (ofA a b.tx).length false
    rw [this]
  clear o h hw w1 w2 w3 w4 w5 e1 hf hg
  (refine enter Tryz.func52 Tryz.results52 Tryz.ntmps52 ty_ok (hw := fun F hF => ?_); simp only [List.length_cons, List.length_nil, Nat.reduceAdd, Nat.reduceSub, List.replicate_succ, List.replicate_zero, List.cons_append, List.nil_append]; apply hF; clear hF F)
  refine wks ?_
  (refine aseq_fx (fun F hF => ?_); simp only [e2]; apply hF; clear hF F)
  refine wks ?_
  refine fin ?_
  rfl
theorem pchain_bad (b : Book) (a : Int) (o : b.fine) (h : ¬ (bookOk b = true ∧ 0 ≤ a ∧ a < 8)) : Pure Tryz.prog 52 [bookV b, .int .i64 a] (.tup [.nils, errV 1]) := by
  refine pure_ac ?_ (cleans_cons (clean_bookV b) (cleans_cons (.int _ _) cleans_nil)) (clean_tup (cleans_cons .nils (cleans_cons (.int _ _) cleans_nil)))
  have hone := one_bookc b
  have c1 := pcheck_c b o
  clear o
  cases e : bookOk b with
  | false =>
    rw [e, if_neg (by simp)] at c1
    clear h
    (refine enter Tryz.func52 Tryz.results52 Tryz.ntmps52 ty_ok (hw := fun F hF => ?_); simp only [List.length_cons, List.length_nil, Nat.reduceAdd, Nat.reduceSub, List.replicate_succ, List.replicate_zero, List.cons_append, List.nil_append]; apply hF; clear hF F)
    refine wks ?_
    refine fin ?_
    rfl
  | true =>
    rw [e, if_pos rfl] at c1
    by_cases h1 : a < 0
    · clear h
      (refine enter Tryz.func52 Tryz.results52 Tryz.ntmps52 ty_ok (hw := fun F hF => ?_); simp only [List.length_cons, List.length_nil, Nat.reduceAdd, Nat.reduceSub, List.replicate_succ, List.replicate_zero, List.cons_append, List.nil_append]; apply hF; clear hF F)
      refine wks ?_
      refine fin ?_
      rfl
    · have h2 : 8 ≤ a := by
        rcases Int.lt_or_le a 8 with q | q
        · exact absurd ⟨e, by omega, q⟩ h
        · exact q
      clear h
      (refine enter Tryz.func52 Tryz.results52 Tryz.ntmps52 ty_ok (hw := fun F hF => ?_); simp only [List.length_cons, List.length_nil, Nat.reduceAdd, Nat.reduceSub, List.replicate_succ, List.replicate_zero, List.cons_append, List.nil_append]; apply hF; clear hF F)
      refine wks ?_
      refine fin ?_
      rfl
end Go.Abs
