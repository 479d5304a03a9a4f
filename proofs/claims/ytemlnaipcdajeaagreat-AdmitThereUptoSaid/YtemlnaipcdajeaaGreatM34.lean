/- The page's chains, limbo: the walks. -/
import Derived.Test.YtemlnaipcdajeaaGreatM33
set_option linter.unusedVariables false
set_option linter.unusedSimpArgs false
namespace Go.Abs
open Go Go.Proofs

theorem txOk_cost {t : Tx} (h : txOk t = true) : costN t < 115792089237316195423570985008687907853269984665640564039457584007913129639936 := (of_decide_eq_true h).2.2.2.2.2.2.2.2
theorem costV_ok {t : Tx} (h : txOk t = true) : costV t = ub (costN t) true := by unfold costV; rw [if_pos (txOk_cost h)]
def rspV (l : List Tx) : V := if spentN l < 115792089237316195423570985008687907853269984665640564039457584007913129639936 then ub (spentN l) true else ub 0 false
set_option maxRecDepth 20000 in
set_option maxHeartbeats 20000000 in
theorem rspent_c (l : List Tx) (x : Bool) (hl : l.length < 9223372036854775808) (o : ∀ t ∈ l, t.ok) (h : ∀ t ∈ l, txOk t = true) : Pure Tryz.prog 74 [tsV l x] (rspV l) := by
  unfold rspV
  refine pure_ac ?_ (cleans_cons (clean_tsV l x) cleans_nil) (by split <;> exact clean_ub _ _)
  (refine enter Tryz.func74 Tryz.results74 Tryz.ntmps74 ty_ok (hw := fun F hF => ?_); simp only [List.length_cons, List.length_nil, Nat.reduceAdd, Nat.reduceSub, List.replicate_succ, List.replicate_zero, List.cons_append, List.nil_append]; apply hF; clear hF F)
  refine wks ?_
  refine aw_loopI (fun (i : Nat) => ⟨((tsV l x) :: .any :: (.ptr 0 0) :: (.bool false) :: (.ptr 1 0) :: (.int .i64 i) :: .any :: .any :: .any :: .any :: .any :: .any :: .any :: .any :: .any :: .any :: .any :: .any :: .any :: .any :: .any :: .any :: .any :: .any :: .any :: .any :: .any :: .any :: .any :: .any :: .any :: .any :: .any :: .any :: .any :: .any :: []), [.live (uvc 0), .live (uvc (spentN (l.take i)))]⟩) (fun i => i ≤ l.length ∧ spentN (l.take i) < 115792089237316195423570985008687907853269984665640564039457584007913129639936) (fun i => l.length - i) 0 ⟨by omega, by show (0 : Nat) < _; omega⟩ (wkt [0, 1]) ?_
  rintro i ⟨hi, hsum⟩ K hK
  by_cases h1 : i < l.length
  · have hone : ∀ v ∈ txc l[i], v.one = true := Rows.one (f := txc) l[i]
    have e1 := spentN_take h1
    have ht := h l[i] (List.getElem_mem h1)
    have hk := of_decide_eq_true ht
    have c1 := rcost_c l[i] (o _ (List.getElem_mem h1)) ⟨hk.2.2.2.2.1, hk.2.2.2.2.2.1⟩ (fits_zero hk.2.2.2.2.2.2.2.1).2.1
    rw [costV_ok ht] at c1
    have c2 := radd_c (spentN (l.take i)) (costN l[i]) hsum (txOk_cost ht)
    unfold rsumV at c2
    rw [← e1] at c2
    have hle := spentN_le l (i + 1)
    clear h o hk ht
    by_cases hs : spentN (l.take (i + 1)) < 115792089237316195423570985008687907853269984665640564039457584007913129639936
    · rw [if_pos hs] at c2
      clear hsum e1
      refine wks ?_
      exact hK _ (i + 1) ⟨by omega, hs⟩ (wkt [0, 1]) (by omega)
    · rw [if_neg hs] at c2
      rw [if_neg (by omega)]
      clear hsum e1
      refine wks ?_
      refine fin ?_
      rfl
  · obtain rfl : i = l.length := by omega
    rw [List.take_length] at hsum ⊢
    rw [if_pos hsum]
    clear h o
    refine wks ?_
    refine fin ?_
    rfl
theorem chainB_iff2 (l : List Tx) : chainB l = true ↔ l.length ≤ 6 ∧ l.all txOk = true ∧ (∀ j, 1 ≤ j → j < l.length → (l.getD j default).fr = (l.getD 0 default).fr ∧ (l.getD j default).no = (l.getD (j - 1) default).no + 1) ∧ spentN l < 115792089237316195423570985008687907853269984665640564039457584007913129639936 := by
  rw [chainB_iff]
  unfold ChainP
  rw [next_iff, List.all_eq_true, headD_getD]
  constructor
  · rintro ⟨h1, h2, ⟨h3, h4⟩, h5⟩
    refine ⟨h1, h2, fun j hj hl => ⟨h3 j hl, ?_⟩, h5⟩
    have := h4 (j - 1) (by omega)
    rwa [show j - 1 + 1 = j from by omega] at this
  · rintro ⟨h1, h2, h3, h5⟩
    refine ⟨h1, h2, ⟨fun j hj => ?_, fun j hj => ?_⟩, h5⟩
    · cases j with
      | zero => rfl
      | succ j => exact (h3 (j + 1) (by omega) hj).1
    · have := (h3 (j + 1) (by omega) hj).2
      rwa [show j + 1 - 1 = j from by omega] at this
theorem chainB_false {l : List Tx} (h : ¬ (l.length ≤ 6 ∧ l.all txOk = true ∧ (∀ j, 1 ≤ j → j < l.length → (l.getD j default).fr = (l.getD 0 default).fr ∧ (l.getD j default).no = (l.getD (j - 1) default).no + 1) ∧ spentN l < 115792089237316195423570985008687907853269984665640564039457584007913129639936)) : chainB l = false := by
  cases e : chainB l with
  | false => rfl
  | true => exact absurd ((chainB_iff2 l).1 e) h
set_option maxRecDepth 20000 in
set_option maxHeartbeats 20000000 in
theorem rchain_c (l : List Tx) (x : Bool) (hl : l.length < 9223372036854775808) (o : ∀ t ∈ l, t.ok) : Pure Tryz.prog 85 [tsV l x] (.bool (chainB l)) := by
  refine pure_ac ?_ (cleans_cons (clean_tsV l x) cleans_nil) (.bool _)
  have c1 := rtxs_c l x hl o
  by_cases h6 : l.length ≤ 6
  · cases ha : l.all txOk with
    | false =>
      rw [chainB_false (fun h => by rw [ha] at h; exact absurd h.2.1 (by simp))]
      rw [ha] at c1
      clear o
      (refine enter Tryz.func85 Tryz.results85 Tryz.ntmps85 ty_ok (hw := fun F hF => ?_); simp only [List.length_cons, List.length_nil, Nat.reduceAdd, Nat.reduceSub, List.replicate_succ, List.replicate_zero, List.cons_append, List.nil_append]; apply hF; clear hF F)
      refine wks ?_
      refine fin ?_
      rfl
    | true =>
      have hok := List.all_eq_true.1 ha
      have c2 := rspent_c l x hl o hok
      have hno : ∀ i (h : i < l.length), 0 ≤ l[i].no ∧ l[i].no ≤ 1099511627776 := fun i h => by
        have := of_decide_eq_true (hok _ (List.getElem_mem h)); exact ⟨this.2.2.1, this.2.2.2.1⟩
      rw [ha] at c1
      unfold rspV at c2
      have hok' := Left.mk hok
      clear o hok
      (refine enter Tryz.func85 Tryz.results85 Tryz.ntmps85 ty_ok (hw := fun F hF => ?_); simp only [List.length_cons, List.length_nil, Nat.reduceAdd, Nat.reduceSub, List.replicate_succ, List.replicate_zero, List.cons_append, List.nil_append]; apply hF; clear hF F)
      refine wks ?_
      refine aw_loopI (fun (i : Nat) => ⟨((tsV l x) :: .any :: (.bool false) :: (.int .i64 i) :: .any :: .any :: .any :: .any :: .any :: .any :: .any :: .any :: .any :: .any :: .any :: .any :: .any :: .any :: .any :: .any :: .any :: .any :: .any :: .any :: .any :: .any :: .any :: .any :: .any :: .any :: .any :: .any :: .any :: .any :: .any :: .any :: .any :: .any :: .any :: .any :: .any :: .any :: .any :: .any :: .any :: .any :: .any :: .any :: .any :: .any :: .any :: []), []⟩) (fun i => 1 ≤ i ∧ ∀ j, 1 ≤ j → j < i → j < l.length → (l.getD j default).fr = (l.getD 0 default).fr ∧ (l.getD j default).no = (l.getD (j - 1) default).no + 1) (fun i => l.length - i) 1 ⟨Nat.le_refl _, fun j h1 h2 => by omega⟩ (wkt []) ?_
      rintro i ⟨hi0, hst⟩ K hK
      by_cases h1 : i < l.length
      · have h0 : 0 < l.length := by omega
        have hi1 : i - 1 < l.length := by omega
        have hn := hno (i - 1) hi1
        have g1 := getD_at h1 (default : Tx)
        have g2 := getD_at h0 (default : Tx)
        have g3 := getD_at hi1 (default : Tx)
        clear c1 c2 hno
        by_cases hf : l[i].fr = l[0].fr
        · by_cases hn2 : l[i].no = (l[i - 1]'hi1).no + 1
          · have hst' : ∀ j, 1 ≤ j → j < i + 1 → j < l.length → (l.getD j default).fr = (l.getD 0 default).fr ∧ (l.getD j default).no = (l.getD (j - 1) default).no + 1 := fun j q1 q2 q3 => by
              rcases Nat.lt_succ_iff_lt_or_eq.1 q2 with q | rfl
              · exact hst j q1 q q3
              · rw [g1, g2, g3]; exact ⟨hf, hn2⟩
            clear hst g1 g2 g3
            refine wks ?_
            exact hK _ (i + 1) ⟨by omega, hst'⟩ (wkt []) (by omega)
          · rw [chainB_false (fun h => hn2 (by have := (h.2.2.1 i hi0 h1).2; rwa [g1, g3] at this))]
            clear hst g1 g2 g3 hK
            refine wks ?_
            refine fin ?_
            rfl
        · rw [chainB_false (fun h => hf (by have := (h.2.2.1 i hi0 h1).1; rwa [g1, g2] at this))]
          clear hst g1 g2 g3 hK
          refine wks ?_
          refine fin ?_
          rfl
      · have hst2 : ∀ j, 1 ≤ j → j < l.length → (l.getD j default).fr = (l.getD 0 default).fr ∧ (l.getD j default).no = (l.getD (j - 1) default).no + 1 := fun j q1 q2 => hst j q1 (by omega) q2
        by_cases hs : spentN l < 115792089237316195423570985008687907853269984665640564039457584007913129639936
        · rw [if_pos hs] at c2
          rw [(chainB_iff2 l).2 ⟨h6, ha, hst2, hs⟩]
          clear hst hst2 hK hno c1
          refine wks ?_
          refine fin ?_
          rfl
        · rw [if_neg hs] at c2
          rw [chainB_false (fun h => hs h.2.2.2)]
          clear hst hst2 hK hno c1
          refine wks ?_
          refine fin ?_
          rfl
  · rw [chainB_false (fun h => h6 h.1)]
    clear o c1
    (refine enter Tryz.func85 Tryz.results85 Tryz.ntmps85 ty_ok (hw := fun F hF => ?_); simp only [List.length_cons, List.length_nil, Nat.reduceAdd, Nat.reduceSub, List.replicate_succ, List.replicate_zero, List.cons_append, List.nil_append]; apply hF; clear hF F)
    refine wks ?_
    refine fin ?_
    rfl
def covN (l : List Tx) (bal : Nat) : Nat → Nat
  | 0 => 0
  | n + 1 => if spentN (l.take (n + 1)) ≤ bal then n + 1 else covN l bal n
theorem covN_le (l : List Tx) (bal : Nat) : ∀ n, covN l bal n ≤ n
  | 0 => Nat.le_refl _
  | n + 1 => by
    have := covN_le l bal n
    unfold covN; split <;> omega
theorem covN_all (l : List Tx) (bal : Nat) : covN l bal l.length = l.length ↔ spentN l ≤ bal := by
  cases hn : l.length with
  | zero =>
    rw [List.length_eq_zero_iff.1 hn]
    exact ⟨fun _ => Nat.zero_le _, fun _ => rfl⟩
  | succ n =>
    unfold covN
    rw [← hn, List.take_length]
    have := covN_le l bal n
    constructor
    · intro h
      split at h
      · assumption
      · omega
    · intro h; rw [if_pos h]
set_option maxRecDepth 20000 in
set_option maxHeartbeats 20000000 in
theorem rcov_c (l : List Tx) (x : Bool) (bal : Nat) (hb : bal < 115792089237316195423570985008687907853269984665640564039457584007913129639936) (hl : l.length < 1000000) (o : ∀ t ∈ l, t.ok) (h : ∀ t ∈ l, txOk t = true) (hs : spentN l < 115792089237316195423570985008687907853269984665640564039457584007913129639936) : Pure Tryz.prog 86 [tsV l x, uv bal] (.int .i64 (covN l bal l.length : Nat)) := by
  refine pure_ac ?_ (cleans_cons (clean_tsV l x) (cleans_cons (clean_uv _) cleans_nil)) (.int _ _)
  have hfl : (flat txc l).length = l.length * 21 := flat_length l
  obtain ⟨G, hG⟩ : ∃ G, covN l bal l.length = G := ⟨_, rfl⟩
  rw [hG]
  (refine enter Tryz.func86 Tryz.results86 Tryz.ntmps86 ty_ok (hw := fun F hF => ?_); simp only [List.length_cons, List.length_nil, Nat.reduceAdd, Nat.reduceSub, List.replicate_succ, List.replicate_zero, List.cons_append, List.nil_append]; apply hF; clear hF F)
  refine wks ?_
  refine aw_loopI (fun (n : Nat) => ⟨((tsV l x) :: .any :: .any :: (.ptr 0 0) :: (.int .i64 0) :: (.int .i64 n) :: .any :: .any :: .any :: .any :: .any :: .any :: .any :: .any :: .any :: .any :: .any :: .any :: .any :: .any :: .any :: .any :: .any :: .any :: .any :: .any :: .any :: .any :: .any :: []), [.live (uvc bal)]⟩) (fun n => n ≤ l.length ∧ covN l bal n = G) (fun n => n) l.length ⟨Nat.le_refl _, hG⟩ (wkt [0]) ?_
  clear hG
  rintro n ⟨hn, hG⟩ K hK
  cases n with
  | zero =>
    have hG2 : G = 0 := hG.symm
    clear hG h o
    refine wks ?_
    refine fin ?_
    rw [hG2]; rfl
  | succ n =>
    have hlt : (l.take (n + 1)).length = n + 1 := by rw [List.length_take]; omega
    have hsle := spentN_le l (n + 1)
    have c1 := rspent_c (l.take (n + 1)) false (by omega) (fun t ht => o t (List.mem_of_mem_take ht)) (fun t ht => h t (List.mem_of_mem_take ht))
    unfold rspV at c1
    rw [if_pos (by omega)] at c1
    have c2 := rcmp_c (spentN (l.take (n + 1))) bal (by omega) hb
    unfold covN at hG
    have ht := take_tsV l (n + 1) hn
    clear h o
    by_cases hle : spentN (l.take (n + 1)) ≤ bal
    · rw [if_pos hle] at hG
      obtain ⟨z, hz, hz0⟩ : ∃ z, cmpN (spentN (l.take (n + 1))) bal = z ∧ z ≤ 0 := ⟨_, rfl, by rcases cmpN_cases (spentN (l.take (n + 1))) bal with h | h | h <;> omega⟩
      rw [hz] at c2
      clear hK hz
      refine wks ?_
      (refine aseq_fx (fun F hF => ?_); simp only [Nat.sub_zero, ht]; apply hF; clear hF F)
      refine wks ?_
      refine fin ?_
      rw [← hG]
    · rw [if_neg hle] at hG
      obtain ⟨z, hz, hz0⟩ : ∃ z, cmpN (spentN (l.take (n + 1))) bal = z ∧ ¬ z ≤ 0 := ⟨_, rfl, by rcases cmpN_cases (spentN (l.take (n + 1))) bal with h | h | h <;> omega⟩
      rw [hz] at c2
      clear hz
      refine wks ?_
      (refine aseq_fx (fun F hF => ?_); simp only [Nat.sub_zero, ht]; apply hF; clear hF F)
      refine wks ?_
      exact hK _ n ⟨by omega, hG⟩ (wkt [0]) (by omega)
end Go.Abs
/- The page's IDs, slots, limbo: the walks. -/
namespace Go.Abs
open Go Go.Proofs

theorem rid_c (t : Tx) (o : t.ok) (h : txOk t = true) : Pure Tryz.prog 69 [txV t] (.int .u64 (idN t : Nat)) := by
  refine pure_ac ?_ (cleans_cons (clean_txV t) cleans_nil) (.int _ _)
  have hone : ∀ v ∈ txc t, v.one = true := Rows.one (f := txc) t
  have c1 := rbytes_c t o h
  have h2 := bytesB_le o h
  have c2 := rmark_c (bytesB t) (by omega)
  clear o h
  (refine enter Tryz.func69 Tryz.results69 Tryz.ntmps69 ty_ok (hw := fun F hF => ?_); simp only [List.length_cons, List.length_nil, Nat.reduceAdd, Nat.reduceSub, List.replicate_succ, List.replicate_zero, List.cons_append, List.nil_append]; apply hF; clear hF F)
  refine wks ?_
  refine fin ?_
  rfl
theorem rslot_c (k : Nat) (h : k ≤ 3) : Pure Tryz.prog 113 [.int .i64 k] (.int .i64 (128 * 2 ^ k : Nat)) := by
  refine pure_ac ?_ (cleans_cons (.int _ _) cleans_nil) (.int _ _)
  have : k = 0 ∨ k = 1 ∨ k = 2 ∨ k = 3 := by omega
  rcases this with rfl | rfl | rfl | rfl
  all_goals
    (refine enter Tryz.func113 Tryz.results113 Tryz.ntmps113 ty_ok (hw := fun F hF => ?_); simp only [List.length_cons, List.length_nil, Nat.reduceAdd, Nat.reduceSub, List.replicate_succ, List.replicate_zero, List.cons_append, List.nil_append]; apply hF; clear hF F)
    refine wk ?_
    refine fin ?_
    rfl
theorem slot_shelf (n : Nat) : 128 * 2 ^ shelfN n = slotN n := by
  unfold shelfN slotN
  split
  · rfl
  · split
    · rfl
    · split <;> rfl
theorem shelfN_le (n : Nat) : shelfN n ≤ 3 := by
  unfold shelfN
  split
  · omega
  · split
    · omega
    · split <;> omega
set_option maxHeartbeats 20000000 in
theorem rshelf_c (n : Nat) (hn : n ≤ 1008) : Pure Tryz.prog 134 [.int .i64 n] (.tup [.int .i64 (shelfN n : Nat), .bool true]) := by
  refine pure_ac ?_ (cleans_cons (.int _ _) cleans_nil) (clean_tup (cleans_cons (.int _ _) (cleans_cons (.bool _) cleans_nil)))
  have c0 := rslot_c 0 (by omega)
  have c1 := rslot_c 1 (by omega)
  have c2 := rslot_c 2 (by omega)
  have c3 := rslot_c 3 (by omega)
  replace c0 : Pure Tryz.prog 113 [.int .i64 0] (.int .i64 128) := c0
  replace c1 : Pure Tryz.prog 113 [.int .i64 1] (.int .i64 256) := c1
  replace c2 : Pure Tryz.prog 113 [.int .i64 2] (.int .i64 512) := c2
  replace c3 : Pure Tryz.prog 113 [.int .i64 3] (.int .i64 1024) := c3
  unfold shelfN
  by_cases h1 : n ≤ 112
  · rw [if_pos h1]
    (refine enter Tryz.func134 Tryz.results134 Tryz.ntmps134 ty_ok (hw := fun F hF => ?_); simp only [List.length_cons, List.length_nil, Nat.reduceAdd, Nat.reduceSub, List.replicate_succ, List.replicate_zero, List.cons_append, List.nil_append]; apply hF; clear hF F)
    refine wk ?_
    refine aw_rounds 1 ?_
    refine wk ?_
    refine fin ?_
    rfl
  · rw [if_neg h1]
    by_cases h2 : n ≤ 240
    · rw [if_pos h2]
      (refine enter Tryz.func134 Tryz.results134 Tryz.ntmps134 ty_ok (hw := fun F hF => ?_); simp only [List.length_cons, List.length_nil, Nat.reduceAdd, Nat.reduceSub, List.replicate_succ, List.replicate_zero, List.cons_append, List.nil_append]; apply hF; clear hF F)
      refine wk ?_
      refine aw_rounds 2 ?_
      refine wk ?_
      refine fin ?_
      rfl
    · rw [if_neg h2]
      by_cases h3 : n ≤ 496
      · rw [if_pos h3]
        (refine enter Tryz.func134 Tryz.results134 Tryz.ntmps134 ty_ok (hw := fun F hF => ?_); simp only [List.length_cons, List.length_nil, Nat.reduceAdd, Nat.reduceSub, List.replicate_succ, List.replicate_zero, List.cons_append, List.nil_append]; apply hF; clear hF F)
        refine wk ?_
        refine aw_rounds 3 ?_
        refine wk ?_
        refine fin ?_
        rfl
      · rw [if_neg h3]
        (refine enter Tryz.func134 Tryz.results134 Tryz.ntmps134 ty_ok (hw := fun F hF => ?_); simp only [List.length_cons, List.length_nil, Nat.reduceAdd, Nat.reduceSub, List.replicate_succ, List.replicate_zero, List.cons_append, List.nil_append]; apply hF; clear hF F)
        refine wk ?_
        refine aw_rounds 4 ?_
        refine wk ?_
        refine fin ?_
        rfl
theorem rroom_c (t : Tx) (o : t.ok) (h : txOk t = true) : Pure Tryz.prog 95 [txV t] (.int .i64 (roomN t : Nat)) := by
  refine pure_ac ?_ (cleans_cons (clean_txV t) cleans_nil) (.int _ _)
  have hone : ∀ v ∈ txc t, v.one = true := Rows.one (f := txc) t
  have c1 := rbytes_c t o h
  have h2 := bytesB_le o h
  have c2 := rshelf_c (bytesB t).size (by omega)
  have c3 := rslot_c (shelfN (bytesB t).size) (shelfN_le _)
  rw [slot_shelf] at c3
  clear o h
  (refine enter Tryz.func95 Tryz.results95 Tryz.ntmps95 ty_ok (hw := fun F hF => ?_); simp only [List.length_cons, List.length_nil, Nat.reduceAdd, Nat.reduceSub, List.replicate_succ, List.replicate_zero, List.cons_append, List.nil_append]; apply hF; clear hF F)
  refine wks ?_
  refine fin ?_
  rfl
set_option maxHeartbeats 20000000 in
theorem rbytes16_c (l : List Tx) (x : Bool) (hl : l.length < 1000000) (o : ∀ t ∈ l, t.ok) (h : ∀ t ∈ l, txOk t = true) : Pure Tryz.prog 49 [tsV l x] (.int .i64 (slotsN l : Nat)) := by
  refine pure_ac ?_ (cleans_cons (clean_tsV l x) cleans_nil) (.int _ _)
  have hb : ∀ i, slotsN (l.take i) ≤ 1024 * l.length := fun i => by
    have := slotsN_le (l.take i)
    rw [List.length_take] at this; omega
  (refine enter Tryz.func49 Tryz.results49 Tryz.ntmps49 ty_ok (hw := fun F hF => ?_); simp only [List.length_cons, List.length_nil, Nat.reduceAdd, Nat.reduceSub, List.replicate_succ, List.replicate_zero, List.cons_append, List.nil_append]; apply hF; clear hF F)
  refine wks ?_
  refine aw_loopI (fun (i : Nat) => ⟨((tsV l x) :: .any :: .any :: (.int .i64 (slotsN (l.take i) : Nat)) :: (.int .i64 i) :: .any :: .any :: .any :: .any :: .any :: .any :: .any :: .any :: .any :: .any :: .any :: .any :: .any :: .any :: []), []⟩) (fun i => i ≤ l.length) (fun i => l.length - i) 0 (by omega) (wkt []) ?_
  intro i hi K hK
  have hb1 := hb i
  have hb2 := hb (i + 1)
  clear hb
  by_cases h1 : i < l.length
  · have hone : ∀ v ∈ txc l[i], v.one = true := Rows.one (f := txc) l[i]
    have c1 := rroom_c l[i] (o _ (List.getElem_mem h1)) (h _ (List.getElem_mem h1))
    have hs := slotsN_take h1
    clear o h
    refine wks ?_
    refine hK _ (i + 1) (by omega) ?_ (by omega)
    rw [hs]
    exact wkt []
  · obtain rfl : i = l.length := by omega
    rw [List.take_length]
    clear o h
    refine wks ?_
    refine fin ?_
    rfl
theorem rroom16_c (n : Int) : Pure Tryz.prog 59 [.int .i64 n] (.bool (decide (1024 ≤ n ∧ n ≤ 1048576))) := by
  refine pure_ac ?_ (cleans_cons (.int _ _) cleans_nil) (.bool _)
  have c3 := rslot_c 3 (by omega)
  replace c3 : Pure Tryz.prog 113 [.int .i64 3] (.int .i64 1024) := c3
  by_cases h1 : 1024 ≤ n
  · rw [show decide (1024 ≤ n ∧ n ≤ 1048576) = decide (n ≤ 1048576) from decide_eq_decide.2 ⟨fun h => h.2, fun h => ⟨h1, h⟩⟩]
    (refine enter Tryz.func59 Tryz.results59 Tryz.ntmps59 ty_ok (hw := fun F hF => ?_); simp only [List.length_cons, List.length_nil, Nat.reduceAdd, Nat.reduceSub, List.replicate_succ, List.replicate_zero, List.cons_append, List.nil_append]; apply hF; clear hF F)
    refine wk ?_
    refine fin ?_
    rfl
  · rw [decide_eq_false (fun h => h1 h.1)]
    (refine enter Tryz.func59 Tryz.results59 Tryz.ntmps59 ty_ok (hw := fun F hF => ?_); simp only [List.length_cons, List.length_nil, Nat.reduceAdd, Nat.reduceSub, List.replicate_succ, List.replicate_zero, List.cons_append, List.nil_append]; apply hF; clear hF F)
    refine wk ?_
    refine fin ?_
    rfl
set_option maxRecDepth 20000 in
set_option maxHeartbeats 20000000 in
theorem rlimbo_c (l : List Held) (x : Bool) (hl : l.length < 9223372036854775808) (o : ∀ t ∈ l, t.ok) : Pure Tryz.prog 84 [lisV l x] (.bool (limboOk l)) := by
  refine pure_ac ?_ (cleans_cons (clean_lisV l x) cleans_nil) (.bool _)
  have o' := Left.mk o
  clear o
  (refine enter Tryz.func84 Tryz.results84 Tryz.ntmps84 ty_ok (hw := fun F hF => ?_); simp only [List.length_cons, List.length_nil, Nat.reduceAdd, Nat.reduceSub, List.replicate_succ, List.replicate_zero, List.cons_append, List.nil_append]; apply hF; clear hF F)
  refine wks ?_
  refine aw_loopI (fun (i : Nat) => ⟨((lisV l x) :: .any :: (.bool false) :: (.int .i64 i) :: .any :: .any :: .any :: .any :: .any :: .any :: .any :: .any :: .any :: .any :: .any :: .any :: .any :: .any :: .any :: .any :: .any :: .any :: .any :: .any :: .any :: .any :: .any :: .any :: .any :: .any :: .any :: .any :: .any :: .any :: .any :: .any :: .any :: .any :: .any :: .any :: .any :: .any :: .any :: .any :: .any :: .any :: .any :: .any :: .any :: []), []⟩) (fun i => i ≤ l.length ∧ ∀ j, j < i → limStep l j = true) (fun i => l.length - i) 0 ⟨by omega, fun j hj => absurd hj (Nat.not_lt_zero j)⟩ (wkt []) ?_
  rintro i ⟨hi, hst⟩ K hK
  by_cases h1 : i < l.length
  · have hone : ∀ v ∈ heldc l[i], v.one = true := Rows.one (f := heldc) l[i]
    have hone2 : ∀ v ∈ txc l[i].t, v.one = true := Rows.one (f := txc) l[i].t
    have hnext : limStep l i = true → ∀ j, j < i + 1 → limStep l j = true := fun h j hj => by
      rcases Nat.lt_succ_iff_lt_or_eq.1 hj with h2 | rfl
      · exact hst j h2
      · exact h
    have hoi := (o'.left l[i] (List.getElem_mem h1)).t
    have cn := znum_c l[i].blk 1099511627776
    have ct := rtx_c l[i].t hoi
    cases ht : txOk l[i].t with
    | false =>
      have hn : limStep l i = false := by
        cases i with
        | zero => rw [limStep_0 h1, ht]; rfl
        | succ k => rw [limStep_s h1, ht]; rfl
      rw [ht] at ct
      rw [limboOk_no h1 hn]
      clear hst hnext hn hoi hK
      refine wks ?_
      refine fin ?_
      rfl
    | true =>
      rw [ht] at ct
      by_cases hb : 0 ≤ l[i].blk ∧ l[i].blk ≤ 1099511627776
      · rw [decide_eq_true hb] at cn
        cases i with
        | zero =>
          have hq := hnext (by rw [limStep_0 h1, ht, Bool.true_and]; exact decide_eq_true hb)
          clear hst hnext hoi hb
          refine wks ?_
          exact hK _ (0 + 1) ⟨by omega, hq⟩ (wkt []) (by omega)
        | succ k =>
          have hk : k + 1 - 1 < l.length := by omega
          have hkt : txOk (l[k + 1 - 1]'hk).t = true := by
            have := hst k (by omega)
            unfold limStep at this
            rw [Bool.and_eq_true, Bool.and_eq_true, getD_at (show k < l.length by omega)] at this
            exact this.1.1
          have c1 := rid_c (l[k + 1 - 1]'hk).t ((o'.left (l[k + 1 - 1]'hk) (List.getElem_mem hk)).t) hkt
          have c2 := rid_c l[k + 1].t hoi ht
          have honek : ∀ v ∈ heldc (l[k + 1 - 1]'hk), v.one = true := Rows.one (f := heldc) (l[k + 1 - 1]'hk)
          have honek2 : ∀ v ∈ txc (l[k + 1 - 1]'hk).t, v.one = true := Rows.one (f := txc) (l[k + 1 - 1]'hk).t
          by_cases hi2 : idN (l[k + 1 - 1]'hk).t < idN l[k + 1].t
          · have hq := hnext (by rw [limStep_s h1, ht, decide_eq_true hb, show decide (idN l[k].t < idN l[k + 1].t) = true from decide_eq_true hi2]; rfl)
            clear hst hnext hoi hb hkt
            refine wks ?_
            exact hK _ (k + 1 + 1) ⟨by omega, hq⟩ (wkt []) (by omega)
          · have hn : limStep l (k + 1) = false := by rw [limStep_s h1, ht, show decide (idN l[k].t < idN l[k + 1].t) = false from decide_eq_false hi2]; rfl
            rw [limboOk_no h1 hn]
            clear hst hnext hn hoi hb hkt hK
            refine wks ?_
            refine fin ?_
            rfl
      · have hn : limStep l i = false := by
          cases i with
          | zero => rw [limStep_0 h1, ht, Bool.true_and]; exact decide_eq_false hb
          | succ k =>
            rw [limStep_s h1, ht, Bool.true_and]
            cases decide (idN l[k].t < idN l[k + 1].t) with
            | false => rfl
            | true => exact decide_eq_false hb
        rw [decide_eq_false hb] at cn
        rw [limboOk_no h1 hn]
        clear hst hnext hn hoi hb hK
        refine wks ?_
        refine fin ?_
        rfl
  · obtain rfl : i = l.length := by omega
    have e : limboOk l = decide (l.length ≤ 48) := by
      by_cases h : l.length ≤ 48
      · rw [decide_eq_true h]; exact limboOk_true.2 ⟨h, hst⟩
      · rw [decide_eq_false h]
        cases e : limboOk l with
        | false => rfl
        | true => exact absurd (limboOk_true.1 e).1 h
    rw [e]
    clear hst hK e
    refine wks ?_
    refine fin ?_
    rw [show decide ((l.length : Int) ≤ 48) = decide (l.length ≤ 48) from decide_eq_decide.2 (by omega)]
end Go.Abs
/- What a book may be, by the page: plain laws. -/
namespace Go.Abs
open Go Go.Proofs

theorem sorted_iff : ∀ {l : List Tx}, SortedT l ↔ ∀ j, 1 ≤ j → j < l.length → ltT (l.getD (j - 1) default) (l.getD j default)
  | [] => by simp [SortedT]
  | [a] => by simp [SortedT]; intro j h1 h2; omega
  | a :: b :: l => by
    unfold SortedT
    rw [sorted_iff (l := b :: l)]
    constructor
    · rintro ⟨h1, h2⟩ j hj hl
      cases j with
      | zero => omega
      | succ j =>
        cases j with
        | zero => exact h1
        | succ j =>
          have := h2 (j + 1) (by omega) (by simp at hl ⊢; omega)
          rw [Nat.add_sub_cancel, getD_cons1]
          rw [Nat.add_sub_cancel] at this
          rw [getD_cons1]; exact this
    · intro h
      refine ⟨h 1 (by omega) (by simp), fun j hj hl => ?_⟩
      have := h (j + 1) (by omega) (by simp at hl ⊢; omega)
      rw [getD_cons1, Nat.add_sub_cancel] at this
      cases j with
      | zero => omega
      | succ j => rw [getD_cons1] at this; exact this
theorem wide_iff (b : Book) : wideOk b = true ↔ headOk b.n b.e = true ∧ acctsOk b.ac = true ∧ limboOk b.li = true ∧ b.tx.length ≤ 48 ∧ (SortedT b.tx ∧ b.tx.all txOk = true ∧ ∀ a, 0 ≤ a → a < 8 → AcctP b.ac a (ofA a b.tx)) ∧ (idsN b).Nodup := by
  unfold wideOk
  simp only [Bool.and_eq_true, decide_eq_true_iff]
  rw [groupsB_iff, groups_iff b.ac b.tx.length (-1) b.tx (Nat.le_refl _) (by omega), List.all_eq_true]
  constructor
  · rintro ⟨⟨⟨⟨⟨h1, h2⟩, h3⟩, h4⟩, h5, _, h6, h7⟩, h8⟩
    exact ⟨h1, h2, h3, h4, ⟨h5, h6, h7⟩, h8⟩
  · rintro ⟨h1, h2, h3, h4, ⟨h5, h6, h7⟩, h8⟩
    refine ⟨⟨⟨⟨⟨h1, h2⟩, h3⟩, h4⟩, h5, fun t ht => ?_, h6, h7⟩, h8⟩
    have := (of_decide_eq_true (h6 t ht)).1
    omega
theorem wide_no {b : Book} (h : ¬ (headOk b.n b.e = true ∧ acctsOk b.ac = true ∧ limboOk b.li = true ∧ b.tx.length ≤ 48 ∧ (SortedT b.tx ∧ b.tx.all txOk = true ∧ ∀ a, 0 ≤ a → a < 8 → AcctP b.ac a (ofA a b.tx)) ∧ (idsN b).Nodup)) : wideOk b = false := by
  cases e : wideOk b with
  | false => rfl
  | true => exact absurd ((wide_iff b).1 e) h
theorem limbo_mono {l : List Held} (h : limboOk l = true) : ∀ (k i : Nat) (hk : i + k + 1 < l.length), idN (l[i]'(by omega)).t < idN (l[i + k + 1]'hk).t
  | 0, i, hk => by
    have := (limboOk_true.1 h).2 (i + 1) hk
    rw [limStep_s hk, Bool.and_eq_true, Bool.and_eq_true] at this
    exact of_decide_eq_true this.1.2
  | k + 1, i, hk => by
    have h1 := limbo_mono h k i (by omega)
    have := (limboOk_true.1 h).2 (i + k + 1 + 1) (by omega)
    rw [limStep_s (by omega), Bool.and_eq_true, Bool.and_eq_true] at this
    have h2 := of_decide_eq_true this.1.2
    exact Nat.lt_trans h1 h2
theorem limbo_nodup {l : List Held} (h : limboOk l = true) : (l.map fun x => idN x.t).Nodup := by
  unfold List.Nodup
  rw [List.pairwise_iff_getElem]
  intro i j hi hj hij
  rw [List.length_map] at hi hj
  rw [List.getElem_map, List.getElem_map]
  have := limbo_mono h (j - i - 1) i (by omega)
  have e : i + (j - i - 1) + 1 = j := by omega
  simp only [e] at this
  exact Nat.ne_of_lt this
theorem ids_nodup {b : Book} (h : limboOk b.li = true) : (idsN b).Nodup ↔ (b.tx.map idN).Nodup ∧ ∀ i (hi : i < b.li.length), idN b.li[i].t ∉ b.tx.map idN := by
  unfold idsN
  rw [List.nodup_append]
  constructor
  · rintro ⟨h1, _, h3⟩
    refine ⟨h1, fun i hi hm => ?_⟩
    exact h3 _ hm _ (List.mem_map.2 ⟨b.li[i], List.getElem_mem hi, rfl⟩) rfl
  · rintro ⟨h1, h2⟩
    refine ⟨h1, limbo_nodup h, fun a ha c hc e => ?_⟩
    obtain ⟨x, hx, rfl⟩ := List.mem_map.1 hc
    obtain ⟨i, hi, rfl⟩ := List.getElem_of_mem hx
    subst e
    exact h2 i hi ha
theorem nodup_take {l : List Nat} {i : Nat} (h : i < l.length) (h1 : (l.take i).Nodup) (h2 : l[i] ∉ l.take i) : (l.take (i + 1)).Nodup := by
  rw [List.take_succ_eq_append_getElem h, List.nodup_append]
  refine ⟨h1, by simp, fun a ha c hc e => ?_⟩
  rw [List.mem_singleton] at hc
  subst e; rw [hc] at ha; exact h2 ha
theorem nodup_take_of {l : List Nat} {i : Nat} (h : i < l.length) (h1 : l.Nodup) : l[i] ∉ l.take i := by
  intro hm
  obtain ⟨j, hj, e⟩ := List.getElem_of_mem hm
  rw [List.length_take] at hj
  rw [List.getElem_take] at e
  unfold List.Nodup at h1
  rw [List.pairwise_iff_getElem] at h1
  exact h1 j i (by omega) h (by omega) e
theorem acctP_iff {ac : List Acct} {n : Nat} (hn : n < ac.length) (g : List Tx) : AcctP ac (n : Nat) g ↔ chainB g = true ∧ (∀ h : 0 < g.length, g[0].no = ac[n].no) ∧ spentN g ≤ ac[n].bal := by
  unfold AcctP
  rw [chainB_iff, headD_getD, Int.toNat_natCast, getD_at hn]
  refine and_congr_right fun _ => and_congr_left fun _ => ⟨fun h h0 => ?_, fun h hne => ?_⟩
  · have := h (by intro e; rw [e] at h0; simp at h0)
    rwa [getD_at h0] at this
  · have h0 : 0 < g.length := List.length_pos_iff.2 hne
    rw [getD_at h0]; exact h h0
end Go.Abs
