/- The page's words on books: heads, accounts, an account's of some, marks: the walks. -/
import Derived.Test.YtemlnaipcdajeaaGreatM31
import Derived.Test.YtemlnaipcdajeaaGreatM10
set_option linter.unusedVariables false
set_option linter.unusedSimpArgs false
namespace Go.Abs
open Go Go.Proofs

@[reducible] def rwV {α : Type} (b z : Nat) : List α → V
  | [] => .nils
  | _ :: l => .slc b 0 z (l.length + 1) (l.length + 1)
@[reducible] def rwH {α : Type} (f : α → List V) : List α → List HB
  | [] => []
  | a :: l => [.live (flat f (a :: l))]
/-- A row comes out: nil, or in a block of its own. -/
def OutR {α : Type} (f : α → List V) (z : Nat) (l : List α) : V → List HB → Prop := fun v h' => (l = [] ∧ v = .nils) ∨ (0 < l.length ∧ ∃ b, v = .slc b 0 z l.length l.length ∧ h'[b]? = some (.live (flat f l)))
theorem pure_rowR {P : Program} {f : FuncId} {args : List V} {α : Type} {g : α → List V} {k : Nat} [Rows g k] (l : List α) (ha : Cleans args) (h : AC P f args [] (OutR g k l)) : Pure P f args (.vec (flat g l) l.length false) := by
  refine pure_row l ha (fun e => ?_) fun h0 => ?_
  · subst e
    refine pure_ac (ac_to h fun v h' q => ?_) ha .nils
    rcases q with ⟨_, q⟩ | ⟨q, _⟩
    · exact q
    · simp at q
  · refine ac_to h fun v h' q => ?_
    rcases q with ⟨q, _⟩ | ⟨_, q⟩
    · rw [q] at h0; simp at h0
    · exact q
theorem rhead_c (n : Int) (b : Nat) (e : Int) : Pure Tryz.prog 81 [hdV n b e] (.bool (headOk n e)) := by
  refine pure_ac ?_ (cleans_cons (clean_hdV n b e) cleans_nil) (.bool _)
  have c1 := znum_c n 1099511627776
  have c2 := znum_c e 1099511627776
  unfold headOk
  by_cases h : 0 ≤ n ∧ n ≤ 1099511627776
  · rw [decide_eq_true h] at c1
    rw [show decide (0 ≤ n ∧ n ≤ 1099511627776 ∧ 0 ≤ e ∧ e ≤ 1099511627776) = decide (0 ≤ e ∧ e ≤ 1099511627776) from decide_eq_decide.2 ⟨fun q => q.2.2, fun q => ⟨h.1, h.2, q⟩⟩]
    (refine enter Tryz.func81 Tryz.results81 Tryz.ntmps81 ty_ok (hw := fun F hF => ?_); simp only [List.length_cons, List.length_nil, Nat.reduceAdd, Nat.reduceSub, List.replicate_succ, List.replicate_zero, List.cons_append, List.nil_append]; apply hF; clear hF F)
    refine wk ?_
    refine fin ?_
    rfl
  · rw [decide_eq_false h] at c1
    rw [decide_eq_false (fun q => h ⟨q.1, q.2.1⟩)]
    (refine enter Tryz.func81 Tryz.results81 Tryz.ntmps81 ty_ok (hw := fun F hF => ?_); simp only [List.length_cons, List.length_nil, Nat.reduceAdd, Nat.reduceSub, List.replicate_succ, List.replicate_zero, List.cons_append, List.nil_append]; apply hF; clear hF F)
    refine wk ?_
    refine fin ?_
    rfl
set_option maxHeartbeats 20000000 in
theorem raccts_c (l : List Acct) (x : Bool) (hl : l.length < 9223372036854775808) : Pure Tryz.prog 82 [acsV l x] (.bool (acctsOk l)) := by
  refine pure_ac ?_ (cleans_cons (clean_acsV l x) cleans_nil) (.bool _)
  have hc : ∀ i (h : i < l.length), Pure Tryz.prog 66 [.int .i64 l[i].no, .int .i64 1099511627776] (.bool (decide (0 ≤ l[i].no ∧ l[i].no ≤ 1099511627776))) := fun i h => znum_c _ _
  (refine enter Tryz.func82 Tryz.results82 Tryz.ntmps82 ty_ok (hw := fun F hF => ?_); simp only [List.length_cons, List.length_nil, Nat.reduceAdd, Nat.reduceSub, List.replicate_succ, List.replicate_zero, List.cons_append, List.nil_append]; apply hF; clear hF F)
  refine wks ?_
  refine aw_loopI (fun (i : Nat) => ⟨((acsV l x) :: .any :: (.bool false) :: (.int .i64 i) :: .any :: .any :: .any :: .any :: .any :: .any :: .any :: .any :: .any :: .any :: .any :: .any :: .any :: .any :: .any :: .any :: []), []⟩) (fun i => i ≤ l.length ∧ (l.take i).all (fun a => decide (0 ≤ a.no ∧ a.no ≤ 1099511627776)) = true) (fun i => l.length - i) 0 ⟨by omega, rfl⟩ (wkt []) ?_
  rintro i ⟨hi, hall⟩ K hK
  by_cases h1 : i < l.length
  · have c1 := hc i h1
    clear hc
    by_cases h2 : 0 ≤ l[i].no ∧ l[i].no ≤ 1099511627776
    · have hn := all_step (p := fun a : Acct => decide (0 ≤ a.no ∧ a.no ≤ 1099511627776)) h1 hall (decide_eq_true h2)
      rw [decide_eq_true h2] at c1
      clear hall
      refine wks ?_
      exact hK _ (i + 1) ⟨by omega, hn⟩ (wkt []) (by omega)
    · have hn : acctsOk l = false := by
        unfold acctsOk
        rw [all_not (p := fun a : Acct => decide (0 ≤ a.no ∧ a.no ≤ 1099511627776)) h1 (decide_eq_false h2), Bool.and_false]
      rw [decide_eq_false h2] at c1
      rw [hn]
      clear hall hn
      refine wks ?_
      refine fin ?_
      rfl
  · obtain rfl : i = l.length := by omega
    rw [List.take_length] at hall
    clear hc
    unfold acctsOk
    rw [hall, Bool.and_true]
    clear hall
    refine wks ?_
    refine fin ?_
    rw [show ((l.length : Int) == 8) = decide (l.length = 8) from by
      by_cases h : l.length = 8
      · rw [h]; rfl
      · rw [decide_eq_false h]; exact beq_eq_false_iff_ne.2 (by omega)]
theorem ofA_take {a : Int} {l : List Tx} {i : Nat} (h : i < l.length) : ofA a (l.take (i + 1)) = if l[i].fr = a then ofA a (l.take i) ++ [l[i]] else ofA a (l.take i) := by
  unfold ofA
  rw [List.take_succ_eq_append_getElem h, List.filter_append]
  by_cases e : l[i].fr = a
  · rw [if_pos e]; simp [e]
  · rw [if_neg e]; simp [e]
theorem ofA_len (a : Int) (l : List Tx) : (ofA a l).length ≤ l.length := List.length_filter_le _ _
theorem ofA_mem {a : Int} {l : List Tx} {t : Tx} (h : t ∈ ofA a l) : t ∈ l ∧ t.fr = a := by
  unfold ofA at h; rw [List.mem_filter] at h; exact ⟨h.1, by simpa using h.2⟩
set_option maxRecDepth 20000 in
set_option maxHeartbeats 20000000 in
theorem rof_a (l : List Tx) (x : Bool) (a : Int) (hl : l.length < 1000000) (o : ∀ t ∈ l, t.fine) : AC Tryz.prog 26 [tsV l x, .int .i64 a] [] (OutR txc 21 (ofA a l)) := by
  (refine enter Tryz.func26 Tryz.results26 Tryz.ntmps26 ty_ok (hw := fun F hF => ?_); simp only [List.length_cons, List.length_nil, Nat.reduceAdd, Nat.reduceSub, List.replicate_succ, List.replicate_zero, List.cons_append, List.nil_append]; apply hF; clear hF F)
  refine wks ?_
  refine aw_loopI (fun (i : Nat) => ⟨((tsV l x) :: (.int .i64 a) :: .any :: .any :: .any :: (rwV 0 21 (ofA a (l.take i))) :: (.int .i64 i) :: .any :: .any :: .any :: .any :: .any :: .any :: .any :: .any :: .any :: .any :: .any :: .any :: .any :: .any :: .any :: .any :: .any :: .any :: .any :: .any :: .any :: .any :: []), rwH txc (ofA a (l.take i))⟩) (fun i => i ≤ l.length) (fun i => l.length - i) 0 (by omega) (by
    rw [List.take_zero]; exact wkt []) ?_
  intro i hi K hK
  have hlm := ofA_len a (l.take i)
  rw [List.length_take, Nat.min_eq_left hi] at hlm
  by_cases h1 : i < l.length
  · have hone : ∀ v ∈ txc l[i], v.one = true := Rows.one (f := txc) l[i]
    have c1 := cpTx_c l[i] (o _ (List.getElem_mem h1))
    have hs := ofA_take (a := a) h1
    clear o
    by_cases h2 : l[i].fr = a
    · rw [if_pos h2] at hs
      cases hm : ofA a (l.take i) with
      | nil =>
        rw [hm, List.nil_append] at hs
        dsimp only [rwV, rwH]
        refine wks ?_
        simp only [one_eq0, if_false, List.set_cons_zero, List.set_cons_succ, List.cons_append, List.nil_append, List.length_cons, List.length_nil, Nat.reduceAdd]
        refine hK _ (i + 1) (by omega) ?_ (by omega)
        rw [hs]
        dsimp only [rwV, rwH]
        rw [flat_single]
        exact wkt [1]
      | cons t m =>
        rw [hm, List.cons_append] at hs
        rw [hm, List.length_cons] at hlm
        have g1 : (flat txc (t :: m)).length = (m.length + 1) * 21 := by rw [flat_length]; rfl
        have g2 : flat txc (t :: (m ++ [l[i]])) = flat txc (t :: m) ++ txc l[i] := by rw [← List.cons_append, flat_append, flat_single]
        have g3 : (m ++ [l[i]]).length + 1 = m.length + 1 + 1 := by simp
        dsimp only [rwV, rwH]
        refine wks ?_
        refine hK _ (i + 1) (by omega) ?_ (by omega)
        rw [hs]
        dsimp only [rwV, rwH]
        rw [g2, g3]
        exact wkt [2] (hh := by dsimp only [renS, renH, renL, renV, renB, hbAt, List.map_cons, List.map_nil, List.getElem?_cons_zero, List.getElem?_cons_succ]; simp only [renL_append, renL_clean _ (cleans_flat _), renL, renV]; try rfl)
    · rw [if_neg h2] at hs
      cases hm : ofA a (l.take i) with
      | nil =>
        rw [hm] at hs
        dsimp only [rwV, rwH]
        refine wks ?_
        refine hK _ (i + 1) (by omega) ?_ (by omega)
        rw [hs]
        dsimp only [rwV, rwH]
        exact wkt []
      | cons t m =>
        rw [hm] at hs
        dsimp only [rwV, rwH]
        refine wks ?_
        refine hK _ (i + 1) (by omega) ?_ (by omega)
        rw [hs]
        dsimp only [rwV, rwH]
        exact wkt [0] (hh := by dsimp only [renS, renH, renL, renV, renB, hbAt, List.map_cons, List.map_nil, List.getElem?_cons_zero, List.getElem?_cons_succ]; simp only [renL_clean _ (cleans_flat _)])
  · obtain rfl : i = l.length := by omega
    rw [List.take_length]
    clear o hK
    cases hm : ofA a l with
    | nil =>
      dsimp only [rwV, rwH]
      refine wks ?_
      refine fin ?_
      exact .inl ⟨rfl, rfl⟩
    | cons t m =>
      dsimp only [rwV, rwH]
      refine wks ?_
      refine fin ?_
      exact .inr ⟨by simp, 0, rfl, rfl⟩
theorem rof16_c (l : List Tx) (x : Bool) (a : Int) (hl : l.length < 1000000) (o : ∀ t ∈ l, t.fine) : Pure Tryz.prog 26 [tsV l x, .int .i64 a] (tsV (ofA a l) false) :=
  pure_rowR (ofA a l) (cleans_cons (clean_tsV l x) (cleans_cons (.int _ _) cleans_nil)) (rof_a l x a hl o)
/-- Where it first is; -1: nowhere. -/
def idxI (n : Nat) : List Nat → Int
  | [] => -1
  | a :: l => if a = n then 0 else if idxI n l < 0 then -1 else idxI n l + 1
theorem idxI_ge (n : Nat) : ∀ l, -1 ≤ idxI n l
  | [] => by simp [idxI]
  | a :: l => by
    have := idxI_ge n l
    unfold idxI; split
    · omega
    · split <;> omega
theorem idxI_iff (n : Nat) : ∀ l, 0 ≤ idxI n l ↔ n ∈ l
  | [] => by simp [idxI]
  | a :: l => by
    have ih := idxI_iff n l
    have hg := idxI_ge n l
    unfold idxI
    by_cases h : a = n
    · rw [if_pos h]; simp [h]
    · rw [if_neg h, List.mem_cons]
      constructor
      · intro h2
        split at h2
        · omega
        · exact .inr (ih.1 (by omega))
      · rintro (h2 | h2)
        · exact absurd h2.symm h
        · have := ih.2 h2
          rw [if_neg (by omega)]; omega
theorem idxI_at (n : Nat) : ∀ (l : List Nat) (i : Nat) (h : i < l.length), l[i] = n → (∀ j (hj : j < i), l[j] ≠ n) → idxI n l = i
  | a :: l, 0, h, e, _ => by unfold idxI; rw [if_pos (by simpa using e)]; rfl
  | a :: l, i + 1, h, e, hj => by
    have h0 := hj 0 (by omega)
    unfold idxI
    rw [if_neg (by simpa using h0), idxI_at n l i (by simpa using h) (by simpa using e) (fun j q => by simpa using hj (j + 1) (by omega)), if_neg (by omega)]
    omega
theorem idxI_none {n : Nat} {l : List Nat} (h : ∀ j (hj : j < l.length), l[j] ≠ n) : idxI n l = -1 := by
  have h1 := idxI_ge n l
  have h2 : ¬ 0 ≤ idxI n l := fun h3 => by
    obtain ⟨j, hj, e⟩ := List.getElem_of_mem ((idxI_iff n l).1 h3)
    exact h j hj e
  omega
set_option maxHeartbeats 20000000 in
theorem inMarks_c (l : List Nat) (x : Bool) (n : Nat) (hl : l.length < 9223372036854775808) : Pure Tryz.prog 87 [hxV l x, .int .u64 n] (.int .i64 (idxI n l)) := by
  refine pure_ac ?_ (cleans_cons (.vec _ _ _ (cleans_flat l)) (cleans_cons (.int _ _) cleans_nil)) (.int _ _)
  (refine enter Tryz.func87 Tryz.results87 Tryz.ntmps87 ty_ok (hw := fun F hF => ?_); simp only [List.length_cons, List.length_nil, Nat.reduceAdd, Nat.reduceSub, List.replicate_succ, List.replicate_zero, List.cons_append, List.nil_append]; apply hF; clear hF F)
  refine wks ?_
  refine aw_loopI (fun (i : Nat) => ⟨((hxV l x) :: (.int .u64 n) :: .any :: .any :: (.int .i64 0) :: (.int .i64 i) :: .any :: .any :: .any :: .any :: .any :: .any :: .any :: .any :: .any :: .any :: .any :: .any :: .any :: []), []⟩) (fun i => i ≤ l.length ∧ ∀ j, j < i → (hj : j < l.length) → l[j] ≠ n) (fun i => l.length - i) 0 ⟨by omega, fun j h => absurd h (Nat.not_lt_zero j)⟩ (wkt []) ?_
  rintro i ⟨hi, hn⟩ K hK
  by_cases h1 : i < l.length
  · by_cases h2 : l[i] = n
    · have e := idxI_at n l i h1 h2 (fun j hj => hn j hj (by omega))
      rw [e]
      clear hn hK e
      refine wks ?_
      refine fin ?_
      rfl
    · have hn' : ∀ j, j < i + 1 → (hj : j < l.length) → l[j] ≠ n := fun j hj hjl => by
        rcases Nat.lt_succ_iff_lt_or_eq.1 hj with q | rfl
        · exact hn j q hjl
        · exact h2
      clear hn
      refine wks ?_
      exact hK _ (i + 1) ⟨by omega, hn'⟩ (wkt []) (by omega)
  · obtain rfl : i = l.length := by omega
    rw [idxI_none fun j hj => hn j hj hj]
    clear hn hK
    refine wks ?_
    refine fin ?_
    rfl
end Go.Abs
/- The page's bytes of a transaction: the walks. -/
namespace Go.Abs
open Go Go.Proofs

theorem rtxt_c (s : ByteArray) : Pure Tryz.prog 154 [.str s] (.agg [.bool false, .str s, .nils]) := by
  refine pure_ac ?_ (cleans_cons (.str _) cleans_nil) (clean_itV (.t _))
  (refine enter Tryz.func154 Tryz.results154 Tryz.ntmps154 ty_ok (hw := fun F hF => ?_); simp only [List.length_cons, List.length_nil, Nat.reduceAdd, Nat.reduceSub, List.replicate_succ, List.replicate_zero, List.cons_append, List.nil_append]; apply hF; clear hF F)
  refine wk ?_
  refine fin ?_
  rfl
theorem rnumber_c (i : Int) (hi : 0 ≤ i ∧ i < 9223372036854775808) : Pure Tryz.prog 157 [.int .i64 i] (.agg [.bool false, .str (textS i.toNat), .nils]) := by
  refine pure_ac ?_ (cleans_cons (.int _ _) cleans_nil) (clean_itV (.t _))
  have c1 := rof_c i hi.1 hi.2
  have c2 := rtext_c i.toNat (by omega)
  have c3 := rtxt_c (textS i.toNat)
  (refine enter Tryz.func157 Tryz.results157 Tryz.ntmps157 ty_ok (hw := fun F hF => ?_); simp only [List.length_cons, List.length_nil, Nat.reduceAdd, Nat.reduceSub, List.replicate_succ, List.replicate_zero, List.cons_append, List.nil_append]; apply hF; clear hF F)
  refine wk ?_
  refine fin ?_
  rfl
set_option maxRecDepth 20000 in
set_option maxHeartbeats 20000000 in
theorem rmtext_c (m : Nat) (hm : m < 18446744073709551616) : Pure Tryz.prog 155 [.int .u64 m] (.str (markT m)) := by
  refine pure_ac ?_ (cleans_cons (.int _ _) cleans_nil) (.str _)
  (refine enter Tryz.func155 Tryz.results155 Tryz.ntmps155 ty_ok (hw := fun F hF => ?_); simp only [List.length_cons, List.length_nil, Nat.reduceAdd, Nat.reduceSub, List.replicate_succ, List.replicate_zero, List.cons_append, List.nil_append]; apply hF; clear hF F)
  refine wk ?_
  refine aw_loopI (fun (j : Nat) => match j with
    | 0 => ⟨((.int .u64 m) :: .any :: .any :: .nils :: (.int .i64 7) :: .any :: .any :: .any :: .any :: .any :: .any :: .any :: .any :: .any :: .any :: .any :: .any :: .any :: .any :: []), []⟩
    | j + 1 => ⟨((.int .u64 m) :: .any :: .any :: (.slc 0 0 1 (j + 1) (j + 1)) :: (.int .i64 (7 - ((j + 1 : Nat) : Int))) :: .any :: .any :: .any :: .any :: .any :: .any :: .any :: .any :: .any :: .any :: .any :: .any :: .any :: .any :: []), [.live ((be m 8).take (j + 1))]⟩) (fun j => j ≤ 8) (fun j => 8 - j) 0 (by omega) (wkt []) ?_
  intro j hj K hK
  have hcases : j = 0 ∨ j = 1 ∨ j = 2 ∨ j = 3 ∨ j = 4 ∨ j = 5 ∨ j = 6 ∨ j = 7 ∨ j = 8 := by omega
  rcases hcases with rfl | rfl | rfl | rfl | rfl | rfl | rfl | rfl | rfl
  · have e1 : ((m : Int) / 72057594037927936) = ((byt m 7 : Nat) : Int) := by show _ = ((m / 72057594037927936 % 256 : Nat) : Int); omega
    dsimp only
    refine wk ?_
    rw [e1]
    simp only [one_eq0, if_false, List.set_cons_zero, List.set_cons_succ, List.cons_append, List.nil_append, List.length_cons, List.length_nil, Nat.reduceAdd]
    exact hK _ 1 (by omega) (wkt [1]) (by omega)
  · have e1 : ((m : Int) / 281474976710656 % 256) = ((byt m 6 : Nat) : Int) := by show _ = ((m / 281474976710656 % 256 : Nat) : Int); omega
    dsimp only
    refine wk ?_
    have e2 : (m : Int) / 2 ^ (8 * (7 - ((1 : Nat) : Int))).toNat % 256 = ((byt m 6 : Nat) : Int) := by
      rw [show (8 * (7 - ((1 : Nat) : Int))).toNat = 48 from rfl, show (2 : Int) ^ 48 = 281474976710656 from rfl]; exact e1
    have e3 : List.take 1 (be m 8) ++ [V.int .u8 ((byt m 6 : Nat) : Int)] = List.take 2 (be m 8) := rfl
    rw [e2, e3]
    exact hK _ 2 (by omega) (wkt [2] (hh := by dsimp only [renS, renH, renL, renV, renB, hbAt, List.map_cons, List.map_nil, List.getElem?_cons_zero, List.getElem?_cons_succ]; rw [renL_clean _ (fun v hv => clean_be m 8 v (List.mem_of_mem_take hv))])) (by omega)
  · have e1 : ((m : Int) / 1099511627776 % 256) = ((byt m 5 : Nat) : Int) := by show _ = ((m / 1099511627776 % 256 : Nat) : Int); omega
    dsimp only
    refine wk ?_
    have e2 : (m : Int) / 2 ^ (8 * (7 - ((2 : Nat) : Int))).toNat % 256 = ((byt m 5 : Nat) : Int) := by
      rw [show (8 * (7 - ((2 : Nat) : Int))).toNat = 40 from rfl, show (2 : Int) ^ 40 = 1099511627776 from rfl]; exact e1
    have e3 : List.take 2 (be m 8) ++ [V.int .u8 ((byt m 5 : Nat) : Int)] = List.take 3 (be m 8) := rfl
    rw [e2, e3]
    exact hK _ 3 (by omega) (wkt [2] (hh := by dsimp only [renS, renH, renL, renV, renB, hbAt, List.map_cons, List.map_nil, List.getElem?_cons_zero, List.getElem?_cons_succ]; rw [renL_clean _ (fun v hv => clean_be m 8 v (List.mem_of_mem_take hv))])) (by omega)
  · have e1 : ((m : Int) / 4294967296 % 256) = ((byt m 4 : Nat) : Int) := by show _ = ((m / 4294967296 % 256 : Nat) : Int); omega
    dsimp only
    refine wk ?_
    have e2 : (m : Int) / 2 ^ (8 * (7 - ((3 : Nat) : Int))).toNat % 256 = ((byt m 4 : Nat) : Int) := by
      rw [show (8 * (7 - ((3 : Nat) : Int))).toNat = 32 from rfl, show (2 : Int) ^ 32 = 4294967296 from rfl]; exact e1
    have e3 : List.take 3 (be m 8) ++ [V.int .u8 ((byt m 4 : Nat) : Int)] = List.take 4 (be m 8) := rfl
    rw [e2, e3]
    exact hK _ 4 (by omega) (wkt [2] (hh := by dsimp only [renS, renH, renL, renV, renB, hbAt, List.map_cons, List.map_nil, List.getElem?_cons_zero, List.getElem?_cons_succ]; rw [renL_clean _ (fun v hv => clean_be m 8 v (List.mem_of_mem_take hv))])) (by omega)
  · have e1 : ((m : Int) / 16777216 % 256) = ((byt m 3 : Nat) : Int) := by show _ = ((m / 16777216 % 256 : Nat) : Int); omega
    dsimp only
    refine wk ?_
    have e2 : (m : Int) / 2 ^ (8 * (7 - ((4 : Nat) : Int))).toNat % 256 = ((byt m 3 : Nat) : Int) := by
      rw [show (8 * (7 - ((4 : Nat) : Int))).toNat = 24 from rfl, show (2 : Int) ^ 24 = 16777216 from rfl]; exact e1
    have e3 : List.take 4 (be m 8) ++ [V.int .u8 ((byt m 3 : Nat) : Int)] = List.take 5 (be m 8) := rfl
    rw [e2, e3]
    exact hK _ 5 (by omega) (wkt [2] (hh := by dsimp only [renS, renH, renL, renV, renB, hbAt, List.map_cons, List.map_nil, List.getElem?_cons_zero, List.getElem?_cons_succ]; rw [renL_clean _ (fun v hv => clean_be m 8 v (List.mem_of_mem_take hv))])) (by omega)
  · have e1 : ((m : Int) / 65536 % 256) = ((byt m 2 : Nat) : Int) := by show _ = ((m / 65536 % 256 : Nat) : Int); omega
    dsimp only
    refine wk ?_
    have e2 : (m : Int) / 2 ^ (8 * (7 - ((5 : Nat) : Int))).toNat % 256 = ((byt m 2 : Nat) : Int) := by
      rw [show (8 * (7 - ((5 : Nat) : Int))).toNat = 16 from rfl, show (2 : Int) ^ 16 = 65536 from rfl]; exact e1
    have e3 : List.take 5 (be m 8) ++ [V.int .u8 ((byt m 2 : Nat) : Int)] = List.take 6 (be m 8) := rfl
    rw [e2, e3]
    exact hK _ 6 (by omega) (wkt [2] (hh := by dsimp only [renS, renH, renL, renV, renB, hbAt, List.map_cons, List.map_nil, List.getElem?_cons_zero, List.getElem?_cons_succ]; rw [renL_clean _ (fun v hv => clean_be m 8 v (List.mem_of_mem_take hv))])) (by omega)
  · have e1 : ((m : Int) / 256 % 256) = ((byt m 1 : Nat) : Int) := by show _ = ((m / 256 % 256 : Nat) : Int); omega
    dsimp only
    refine wk ?_
    have e2 : (m : Int) / 2 ^ (8 * (7 - ((6 : Nat) : Int))).toNat % 256 = ((byt m 1 : Nat) : Int) := by
      rw [show (8 * (7 - ((6 : Nat) : Int))).toNat = 8 from rfl, show (2 : Int) ^ 8 = 256 from rfl]; exact e1
    have e3 : List.take 6 (be m 8) ++ [V.int .u8 ((byt m 1 : Nat) : Int)] = List.take 7 (be m 8) := rfl
    rw [e2, e3]
    exact hK _ 7 (by omega) (wkt [2] (hh := by dsimp only [renS, renH, renL, renV, renB, hbAt, List.map_cons, List.map_nil, List.getElem?_cons_zero, List.getElem?_cons_succ]; rw [renL_clean _ (fun v hv => clean_be m 8 v (List.mem_of_mem_take hv))])) (by omega)
  · have e1 : ((m : Int) / 1 % 256) = ((byt m 0 : Nat) : Int) := by show _ = ((m / 1 % 256 : Nat) : Int); omega
    dsimp only
    refine wk ?_
    have e2 : (m : Int) / 2 ^ (8 * (7 - ((7 : Nat) : Int))).toNat % 256 = ((byt m 0 : Nat) : Int) := by
      rw [show (8 * (7 - ((7 : Nat) : Int))).toNat = 0 from rfl, show (2 : Int) ^ 0 = 1 from rfl]; exact e1
    have e3 : List.take 7 (be m 8) ++ [V.int .u8 ((byt m 0 : Nat) : Int)] = List.take 8 (be m 8) := rfl
    rw [e2, e3]
    exact hK _ 8 (by omega) (wkt [2] (hh := by dsimp only [renS, renH, renL, renV, renB, hbAt, List.map_cons, List.map_nil, List.getElem?_cons_zero, List.getElem?_cons_succ]; rw [renL_clean _ (fun v hv => clean_be m 8 v (List.mem_of_mem_take hv))])) (by omega)
  · dsimp only
    refine wk ?_
    refine fin ?_
    rfl
theorem rhead4_c (n b : Nat) (hn : n < 65536) (hb : b ≤ 192) : Pure Tryz.prog 196 [.int .i64 n, .int .i64 b] (.str (headB b n)) := by
  refine pure_ac ?_ (cleans_cons (.int _ _) (cleans_cons (.int _ _) cleans_nil)) (.str _)
  have c1 := rof_c n (by omega) (by omega)
  rw [Int.toNat_natCast] at c1
  have c2 := rtext_c n (by omega)
  have h1 := textS_sz n
  have h2 := nb_small (n := n) (k := 2) (by omega)
  unfold headB
  by_cases h : n ≤ 55
  · rw [if_pos h]
    (refine enter Tryz.func196 Tryz.results196 Tryz.ntmps196 ty_ok (hw := fun F hF => ?_); simp only [List.length_cons, List.length_nil, Nat.reduceAdd, Nat.reduceSub, List.replicate_succ, List.replicate_zero, List.cons_append, List.nil_append]; apply hF; clear hF F)
    refine wks ?_
    refine fin ?_
    rfl
  · rw [if_neg h]
    have hq : (⟨#[UInt8.ofNat ((b : Int) + 55 + ((textS n).size : Nat)).toNat]⟩ : ByteArray) = oneB (b + 55 + nb n) := by
      rw [h1, show ((b : Int) + 55 + (nb n : Nat)).toNat = b + 55 + nb n from by omega]; rfl
    have hs1 : (oneB (b + 55 + nb n)).size = 1 := rfl
    (refine enter Tryz.func196 Tryz.results196 Tryz.ntmps196 ty_ok (hw := fun F hF => ?_); simp only [List.length_cons, List.length_nil, Nat.reduceAdd, Nat.reduceSub, List.replicate_succ, List.replicate_zero, List.cons_append, List.nil_append]; apply hF; clear hF F)
    refine wks ?_
    (refine aseq_fx (fun F hF => ?_); simp only [hq]; apply hF; clear hF F)
    refine wks ?_
    refine fin ?_
    rfl
end Go.Abs
