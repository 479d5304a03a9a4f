/- Items copied; how long they are: the walks. -/
import Derived.Test.YtemlnaipcdajeaaGreatM18
set_option linter.unusedVariables false
set_option linter.unusedSimpArgs false
namespace Go.Abs
open Go Go.Proofs

set_option maxHeartbeats 20000000 in
theorem copied_t (s : ByteArray) : Pure Tryz.prog 211 [itV (.t s)] (itV (.t s)) := by
  show Pure Tryz.prog 211 [.agg [.bool false, .str s, .nils]] (.agg [.bool false, .str s, .nils])
  refine pure_ac ?_ (cleans_cons (clean_itV (.t s)) cleans_nil) (clean_itV (.t s))
  (refine enter Tryz.func211 Tryz.results211 Tryz.ntmps211 ty_ok (hw := fun F hF => ?_); simp only [List.length_cons, List.length_nil, Nat.reduceAdd, Nat.reduceSub, List.replicate_succ, List.replicate_zero, List.cons_append, List.nil_append]; apply hF; clear hF F)
  refine wk ?_
  refine aw_rounds 1 ?_
  refine wk ?_
  refine fin ?_
  rfl
set_option maxHeartbeats 20000000 in
theorem copied_l (ss : List ByteArray) (h0 : 0 < ss.length) (hl : ss.length < 1000) : Pure Tryz.prog 211 [itV (.l ss)] (itV (.l ss)) := by
  show Pure Tryz.prog 211 [.agg [.bool true, .str ByteArray.empty, .vec (flat itt ss) ss.length false]] (.agg [.bool true, .str ByteArray.empty, .vec (flat itt ss) ss.length false])
  refine pure_seal 2 (R := fun v h' => ∃ k, v = .agg [.bool true, .str ByteArray.empty, .slc k 0 3 ss.length ss.length] ∧ h'[k]? = some (.live (flat itt ss))) ?_ (cleans_cons (clean_itV (.l ss)) cleans_nil) ?_ (clean_itV (.l ss))
  · have hc := fun s => copied_t s
    (refine enter Tryz.func211 Tryz.results211 Tryz.ntmps211 ty_ok (hw := fun F hF => ?_); simp only [List.length_cons, List.length_nil, Nat.reduceAdd, Nat.reduceSub, List.replicate_succ, List.replicate_zero, List.cons_append, List.nil_append]; apply hF; clear hF F)
    refine wk ?_
    refine aw_loopI (fun (i : Nat) => match i with
      | 0 => ⟨(.any :: (.ptr 0 0) :: (.ptr 1 0) :: (.ptr 2 0) :: .any :: .any :: .any :: .any :: .any :: .any :: .any :: .any :: (.vec (flat itt ss) ss.length false) :: (.int .i64 ss.length) :: (.int .i64 0) :: .any :: .any :: .any :: .any :: .any :: .any :: .any :: .any :: .any :: .any :: .any :: .any :: []), [.live [.bool true, .str ByteArray.empty, .vec (flat itt ss) ss.length false], .live [.bool false, .str ByteArray.empty, .nils], .live [.bool true, .str ByteArray.empty, .nils]]⟩
      | i + 1 => ⟨(.any :: (.ptr 0 0) :: (.ptr 1 0) :: (.ptr 2 0) :: .any :: .any :: .any :: .any :: .any :: .any :: .any :: .any :: (.vec (flat itt ss) ss.length false) :: (.int .i64 ss.length) :: (.int .i64 ((i : Int) + 1)) :: .any :: .any :: .any :: .any :: .any :: .any :: .any :: .any :: .any :: .any :: .any :: .any :: []), [.live [.bool true, .str ByteArray.empty, .vec (flat itt ss) ss.length false], .live [.bool false, .str ByteArray.empty, .nils], .live [.bool true, .str ByteArray.empty, .slc 3 0 3 (i + 1) (i + 1)], .live (flat itt (ss.take (i + 1)))]⟩) (fun i => i ≤ ss.length) (fun i => ss.length - i) 0 (by omega) (wkt [0, 1, 2]) ?_
    intro i hi K hK
    cases i with
    | zero =>
      dsimp only
      have ht0 : List.take 3 (flat itt ss) = [.bool false, .str ss[0], .nils] := by
        have := flat_take (f := itt) ss 0 h0
        rw [Nat.zero_mul, List.drop_zero] at this
        exact this
      have e1 : flat itt (ss.take (0 + 1)) = [.bool false, .str ss[0], .nils] := by
        rw [List.take_succ_eq_append_getElem h0, List.take_zero, List.nil_append, flat_single]
      have hcc : Pure Tryz.prog 211 [.agg [.bool false, .str ss[0], .nils]] (.agg [.bool false, .str ss[0], .nils]) := hc ss[0]
      clear hc
      refine wk ?_
      (refine aseq_fx (fun F hF => ?_); simp only [ht0]; apply hF; clear hF F)
      refine wk ?_
      refine hK _ 1 (by omega) ?_ (by omega)
      show Wk _ _ ⟨_, [.live [.bool true, .str ByteArray.empty, .vec (flat itt ss) ss.length false], .live [.bool false, .str ByteArray.empty, .nils], .live [.bool true, .str ByteArray.empty, .slc 3 0 3 (0 + 1) (0 + 1)], .live (flat itt (ss.take (0 + 1)))]⟩
      rw [e1]
      simp only [show ((1 : Nat) = 0) = False from by simp, if_false, List.set_cons_zero, List.set_cons_succ]
      exact wkt [0, 1, 2, 5]
    | succ i =>
      dsimp only
      by_cases h1 : i + 1 < ss.length
      · have ht1 : List.take 3 (List.drop ((i + 1) * 3) (flat itt ss)) = [.bool false, .str ss[i + 1], .nils] := flat_take (f := itt) ss (i + 1) h1
        have ei : ((i : Int) + 1).toNat = i + 1 := by omega
        have hcc : Pure Tryz.prog 211 [.agg [.bool false, .str ss[i + 1], .nils]] (.agg [.bool false, .str ss[i + 1], .nils]) := hc ss[i + 1]
        have e1 : flat itt (ss.take (i + 1 + 1)) = flat itt (ss.take (i + 1)) ++ [.bool false, .str ss[i + 1], .nils] := by
          rw [List.take_succ_eq_append_getElem h1, flat_append, flat_single]
        have hfl : (flat itt (ss.take (i + 1))).length = (i + 1) * 3 := by rw [flat_length, List.length_take]; omega
        clear hc
        refine wk ?_
        refine hK _ (i + 1 + 1) (by omega) ?_ (by omega)
        show Wk _ _ ⟨_, [.live [.bool true, .str ByteArray.empty, .vec (flat itt ss) ss.length false], .live [.bool false, .str ByteArray.empty, .nils], .live [.bool true, .str ByteArray.empty, .slc 3 0 3 (i + 1 + 1) (i + 1 + 1)], .live (flat itt (ss.take (i + 1 + 1)))]⟩
        rw [e1]
        exact wkt [0, 1, 2, 6]
      · have e1 : ss.take (i + 1) = ss := List.take_of_length_le (by omega)
        have e2 : i + 1 = ss.length := by omega
        rw [e1, e2]
        refine wk ?_
        refine fin ?_
        exact ⟨3, rfl, rfl⟩
  · rintro v h' ⟨k, rfl, h1⟩
    have hs : ∀ l : List ByteArray, sealL h' 0 (flat itt l) = flat itt l := by
      intro l
      induction l with
      | nil => simp [flat, sealL]
      | cons s l ih => simp only [flat, itt, List.cons_append, List.nil_append, sealL, sealV, ih]
    simp only [sealV, sealL, h1, List.drop_zero]
    rw [List.take_of_length_le (by rw [flat_length]; exact Nat.le_refl _), hs]
set_option maxHeartbeats 20000000 in
theorem long_t (s : ByteArray) (hs : s.size < 60000) (d : Int) : Pure Tryz.prog 198 [itV (.t s), .int .i64 d] (.tup [.int .i64 (rawT s).size, .bool true]) := by
  show Pure Tryz.prog 198 [.agg [.bool false, .str s, .nils], .int .i64 d] _
  refine pure_ac ?_ (cleans_cons (clean_itV (.t s)) (cleans_cons (.int _ _) cleans_nil)) (clean_tup (cleans_cons (.int _ _) (cleans_cons (.bool _) cleans_nil)))
  have c1 := alone_c s (by omega)
  have c2 := ahead_c s.size (by omega)
  have h1 := headB_size 128 s.size
  have h2 := aheadN_le (n := s.size) (by omega)
  unfold rawT
  cases ha : aloneB s with
  | true =>
    rw [ha] at c1
    rw [if_pos rfl]
    have hs1 : s.size = 1 := (of_decide_eq_true ha).1
    rw [hs1]
    (refine enter Tryz.func198 Tryz.results198 Tryz.ntmps198 ty_ok (hw := fun F hF => ?_); simp only [List.length_cons, List.length_nil, Nat.reduceAdd, Nat.reduceSub, List.replicate_succ, List.replicate_zero, List.cons_append, List.nil_append]; apply hF; clear hF F)
    refine wk ?_
    refine fin ?_
    rfl
  | false =>
    rw [ha] at c1
    rw [if_neg (by simp), ByteArray.size_append, h1]
    generalize aheadN s.size = A at *
    (refine enter Tryz.func198 Tryz.results198 Tryz.ntmps198 ty_ok (hw := fun F hF => ?_); simp only [List.length_cons, List.length_nil, Nat.reduceAdd, Nat.reduceSub, List.replicate_succ, List.replicate_zero, List.cons_append, List.nil_append]; apply hF; clear hF F)
    refine wk ?_
    refine fin ?_
    rw [decide_eq_true (by omega), show (s.size : Int) + A = ((A + s.size : Nat) : Int) from by omega]
set_option maxHeartbeats 20000000 in
theorem long_l (xs : List It) (hxl : xs.length < 1000) (d : Int) (hd : 0 ≤ d ∧ d < 16) (hx : ∀ x ∈ xs, Pure Tryz.prog 198 [itV x, .int .i64 (d + 1)] (.tup [.int .i64 (itR x).size, .bool true])) (hsz : (catB (xs.map itR)).size < 60000) :
    Pure Tryz.prog 198 [lsV xs, .int .i64 d] (.tup [.int .i64 (lsR xs).size, .bool true]) := by
  refine pure_ac ?_ (cleans_cons (clean_lsV xs) (cleans_cons (.int _ _) cleans_nil)) (clean_tup (cleans_cons (.int _ _) (cleans_cons (.bool _) cleans_nil)))
  unfold lsV lsR
  rw [rawL_size]
  have hrl : (xs.map itR).length = xs.length := List.length_map ..
  have hrs := catB_take_le (xs.map itR)
  have c2 := ahead_c (catB (xs.map itR)).size (by omega)
  have h2 := aheadN_le (n := (catB (xs.map itR)).size) (by omega)
  (refine enter Tryz.func198 Tryz.results198 Tryz.ntmps198 ty_ok (hw := fun F hF => ?_); simp only [List.length_cons, List.length_nil, Nat.reduceAdd, Nat.reduceSub, List.replicate_succ, List.replicate_zero, List.cons_append, List.nil_append]; apply hF; clear hF F)
  refine wk ?_
  refine aw_loopI (fun (i : Nat) => ⟨(.any :: (.int .i64 d) :: (.ptr 0 0) :: .any :: (.int .i64 0) :: (.bool false) :: .any :: (.int .i64 (catB ((xs.map itR).take i)).size) :: .any :: .any :: .any :: .any :: .any :: .any :: .any :: .any :: .any :: .any :: .any :: .any :: .any :: .any :: .any :: .any :: .any :: .any :: .any :: .any :: .any :: .any :: .any :: .any :: .any :: .any :: .any :: .any :: .any :: .any :: .any :: .any :: .any :: .any :: .any :: .any :: .any :: .any :: .any :: .any :: .any :: .any :: .any :: .any :: .any :: .any :: .any :: .any :: .any :: .any :: .any :: .any :: .any :: (.vec (flat itc xs) xs.length false) :: (.int .i64 xs.length) :: (.int .i64 i) :: .any :: .any :: .any :: .any :: .any :: .any :: .any :: .any :: .any :: .any :: .any :: .any :: .any :: .any :: .any :: .any :: .any :: .any :: .any :: .any :: .any :: .any :: .any :: .any :: .any :: .any :: .any :: []), [.live [.bool true, .str ByteArray.empty, .vec (flat itc xs) xs.length false]]⟩) (fun i => i ≤ xs.length) (fun i => xs.length - i) 0 (by omega) (wkt [0]) ?_
  intro i hi K hK
  by_cases h1 : i < xs.length
  · have e1 : (catB ((xs.map itR).take (i + 1))).size = (catB ((xs.map itR).take i)).size + (itR xs[i]).size := by
      rw [catB_take (by rw [hrl]; exact h1), List.getElem_map, ByteArray.size_append]
    have hone : ∀ v ∈ [V.bool (itb xs[i]), V.str (its xs[i]), iti xs[i]], v.one = true := Rows.one (f := itc) xs[i]
    have c1 := hx xs[i] (List.getElem_mem h1)
    have hC1 := hrs (i + 1)
    clear hx
    refine wk ?_
    refine hK _ (i + 1) (by omega) ?_ (by omega)
    rw [e1]
    exact wkt [0]
  · have e1 : (xs.map itR).take i = xs.map itR := List.take_of_length_le (by rw [hrl]; omega)
    rw [e1]
    clear hx
    generalize (catB (xs.map itR)).size = C at *
    refine wk ?_
    refine fin ?_
    rw [decide_eq_true (by omega), show (C : Int) + aheadN C = ((aheadN C + C : Nat) : Int) from by omega]
end Go.Abs
/- A transaction's bytes, the program's: the walks. -/
namespace Go.Abs
open Go Go.Proofs

theorem laid_l' (ss : List ByteArray) (h0 : 0 < ss.length) (hl : ss.length < 1000) (hs : ∀ s ∈ ss, s.size < 60000) (hsz : (catB (ss.map rawT)).size < 60000) : LaidP (.l ss) := by
  intro z B hz hB
  rw [itV_l, itR_l]
  have hm : (ss.map It.t).map itR = ss.map rawT := by rw [List.map_map]; rfl
  refine laid_l (ss.map It.t) (by rw [List.length_map]; exact h0) (by rw [List.length_map]; exact hl) (fun x hx => ?_) (fun x hx => ?_) (by rw [hm]; omega) z B hz (by omega)
  · obtain ⟨s, h1, rfl⟩ := List.mem_map.1 hx
    exact laid_t s (by have := hs s h1; omega)
  · obtain ⟨s, h1, rfl⟩ := List.mem_map.1 hx
    exact copied_t s
set_option maxHeartbeats 20000000 in
theorem mtext_c (m : Nat) (hm : m < 18446744073709551616) : Pure Tryz.prog 159 [.int .u64 m] (.str (markT m)) := by
  refine pure_ac ?_ (cleans_cons (.int _ _) cleans_nil) (.str _)
  (refine enter Tryz.func159 Tryz.results159 Tryz.ntmps159 ty_ok (hw := fun F hF => ?_); simp only [List.length_cons, List.length_nil, Nat.reduceAdd, Nat.reduceSub, List.replicate_succ, List.replicate_zero, List.cons_append, List.nil_append]; apply hF; clear hF F)
  refine wk ?_
  refine aw_rounds 9 ?_
  refine wk ?_
  refine fin ?_
  have e7 : ((m : Int) / 72057594037927936).toNat = byt m 7 := by show _ = m / 72057594037927936 % 256; omega
  have e6 : ((m : Int) / 281474976710656 % 256).toNat = byt m 6 := by show _ = m / 281474976710656 % 256; omega
  have e5 : ((m : Int) / 1099511627776 % 256).toNat = byt m 5 := by show _ = m / 1099511627776 % 256; omega
  have e4 : ((m : Int) / 4294967296 % 256).toNat = byt m 4 := by show _ = m / 4294967296 % 256; omega
  have e3 : ((m : Int) / 16777216 % 256).toNat = byt m 3 := by show _ = m / 16777216 % 256; omega
  have e2 : ((m : Int) / 65536 % 256).toNat = byt m 2 := by show _ = m / 65536 % 256; omega
  have e1 : ((m : Int) / 256 % 256).toNat = byt m 1 := by show _ = m / 256 % 256; omega
  have e0 : ((m : Int) / 1 % 256).toNat = byt m 0 := by show _ = m / 1 % 256; omega
  rw [e7, e6, e5, e4, e3, e2, e1, e0]
  rfl
theorem amount_c (n : Nat) (hn : n < 115792089237316195423570985008687907853269984665640564039457584007913129639936) : Pure Tryz.prog 161 [uv n] (.agg [.bool false, .str (textS n), .nils]) := by
  refine pure_ac ?_ (cleans_cons (clean_uv _) cleans_nil) (clean_itV (.t _))
  have c1 := text_c n hn
  (refine enter Tryz.func161 Tryz.results161 Tryz.ntmps161 ty_ok (hw := fun F hF => ?_); simp only [List.length_cons, List.length_nil, Nat.reduceAdd, Nat.reduceSub, List.replicate_succ, List.replicate_zero, List.cons_append, List.nil_append]; apply hF; clear hF F)
  refine wk ?_
  refine fin ?_
  rfl
theorem number_c (i : Int) (hi : 0 ≤ i ∧ i < 9223372036854775808) : Pure Tryz.prog 160 [.int .i64 i] (.agg [.bool false, .str (textS i.toNat), .nils]) := by
  refine pure_ac ?_ (cleans_cons (.int _ _) cleans_nil) (clean_itV (.t _))
  obtain ⟨n, rfl⟩ := Int.eq_ofNat_of_zero_le hi.1
  have c1 := amount_c n (by omega)
  rw [uvs (m := n) (by omega)] at c1
  rw [Int.toNat_natCast]
  (refine enter Tryz.func160 Tryz.results160 Tryz.ntmps160 ty_ok (hw := fun F hF => ?_); simp only [List.length_cons, List.length_nil, Nat.reduceAdd, Nat.reduceSub, List.replicate_succ, List.replicate_zero, List.cons_append, List.nil_append]; apply hF; clear hF F)
  refine wk ?_
  refine fin ?_
  rfl
/-- What an item's bytes ask of it. -/
structure Fine (x : It) : Prop where
  laid : LaidP x
  copied : Pure Tryz.prog 211 [itV x] (itV x)
  long : ∀ d : Int, 0 ≤ d ∧ d < 15 → Pure Tryz.prog 198 [itV x, .int .i64 d] (.tup [.int .i64 (itR x).size, .bool true])
theorem fine_t (s : ByteArray) (hs : s.size < 60000) : Fine (.t s) := ⟨laid_t s (by omega), copied_t s, fun d _ => long_t s hs d⟩
theorem fine_l (ss : List ByteArray) (h0 : 0 < ss.length) (hl : ss.length < 1000) (hs : ∀ s ∈ ss, s.size < 60000) (hsz : (catB (ss.map rawT)).size < 60000) : Fine (.l ss) := by
  refine ⟨laid_l' ss h0 hl hs hsz, copied_l ss h0 hl, fun d hd => ?_⟩
  rw [itV_l, itR_l]
  have hm : (ss.map It.t).map itR = ss.map rawT := by rw [List.map_map]; rfl
  refine long_l (ss.map It.t) (by rw [List.length_map]; exact hl) d ⟨hd.1, by omega⟩ (fun x hx => ?_) (by rw [hm]; omega)
  obtain ⟨s, h1, rfl⟩ := List.mem_map.1 hx
  exact long_t s (hs s h1) _
set_option maxHeartbeats 20000000 in
theorem ibytes_c (xs : List It) (h0 : 0 < xs.length) (hl : xs.length < 1000) (hx : ∀ x ∈ xs, Fine x) (hsz : (catB (xs.map itR)).size < 60000) : Pure Tryz.prog 162 [lsV xs] (.tup [.str (lsR xs), errV 0]) := by
  refine pure_ac ?_ (cleans_cons (clean_lsV xs) cleans_nil) (clean_tup (cleans_cons (.str _) (cleans_cons (.int _ _) cleans_nil)))
  have cl := long_l xs hl 0 (by omega) (fun x hxm => (hx x hxm).long 1 (by omega)) hsz
  have cc : Pure Tryz.prog 180 [lsV xs] (errV 0) := by
    refine pure_ac ?_ (cleans_cons (clean_lsV xs) cleans_nil) (.int _ _)
    unfold lsV at cl ⊢
    (refine enter Tryz.func180 Tryz.results180 Tryz.ntmps180 ty_ok (hw := fun F hF => ?_); simp only [List.length_cons, List.length_nil, Nat.reduceAdd, Nat.reduceSub, List.replicate_succ, List.replicate_zero, List.cons_append, List.nil_append]; apply hF; clear hF F)
    refine wk ?_
    refine fin ?_
    rfl
  have ca := laid_l xs h0 hl (fun x hxm => (hx x hxm).laid) (fun x hxm => (hx x hxm).copied) (by omega) true ByteArray.empty (fun _ => rfl) (by show 0 < _; omega)
  rw [ByteArray.empty_append] at ca
  have hcall : CallD Tryz.prog 181 [.nils, lsV xs] [.live [.bool true, .str ByteArray.empty, .vec (flat itc xs) xs.length false]] (bV 1 (lsR xs).size) [.live [.bool true, .str ByteArray.empty, .vec (flat itc xs) xs.length false], .live (strCells (lsR xs))] := calld_nil (by show [_, renV _ (lsV _)] = _; rw [renV_clean _ (clean_lsV _)]; rfl) ca
  have h3 := strCells_size (lsR xs)
  have h4 := bytesOf_str (lsR xs)
  generalize lsR xs = R at *
  clear cl ca hx
  unfold lsV at cc hcall ⊢
  (refine enter Tryz.func162 Tryz.results162 Tryz.ntmps162 ty_ok (hw := fun F hF => ?_); simp only [List.length_cons, List.length_nil, Nat.reduceAdd, Nat.reduceSub, List.replicate_succ, List.replicate_zero, List.cons_append, List.nil_append]; apply hF; clear hF F)
  refine wk ?_
  refine st_call rfl rfl hcall ?_
  refine wk ?_
  refine st_op (op_toStr (cs := strCells R) (bs := R.data.toList) rfl rfl rfl rfl rfl rfl (by intro s h; cases h) rfl (by show some _ = some _; simp [List.take_of_length_le, h3]) h4) h3 ?_
  refine wk ?_
  refine fin ?_
  rfl
end Go.Abs
/- A transaction's bytes, its ID, its slot, the program's: the walks. -/
namespace Go.Abs
open Go Go.Proofs

/-- A transaction's parts, as items. -/
def partsI (t : Tx) : List It := [.t (textS t.fr.toNat), .t (textS t.no.toNat), .t (textS t.tip), .t (textS t.cap), .t (textS t.bc), .t (textS t.val), .t (textS t.gas.toNat), .l (t.hs.map markT), .l t.bs]
theorem partsI_R (t : Tx) : (partsI t).map itR = partsB t := by
  simp only [partsI, partsB, List.map_cons, List.map_nil, itR, hashesB, blobsB, List.map_map]
  rfl
theorem bytesB_eq (t : Tx) : lsR (partsI t) = bytesB t := by unfold lsR bytesB; rw [partsI_R]
theorem tx_small {t : Tx} (o : t.ok) (h : txOk t = true) : (1 ≤ t.bs.length ∧ t.bs.length ≤ 4 ∧ t.hs.length = t.bs.length) ∧ (∀ b ∈ t.bs, b.size ≤ 64) := by
  have hk := of_decide_eq_true h
  refine ⟨fits_zero hk.2.2.2.2.2.2.2.1, fun b hb => ?_⟩
  have f1 := fits_zero hk.2.2.2.2.2.2.2.1
  have hf := hk.2.2.2.2.2.2.2.1
  unfold fitsN at hf
  rw [if_neg (by omega)] at hf
  by_cases hx : ∃ b ∈ t.bs, 64 < b.size
  · rw [if_pos hx] at hf; cases hf
  · exact Nat.le_of_not_lt fun hlt => hx ⟨b, hb, hlt⟩
/-- A loop is left: on from a state behind it. -/
theorem aw_exitJ {P : Program} {N : Nat} {c rest : Code} {i : Nat} {Q Q2 : Exit → St → Prop} {K : St → Prop} {s : St} (J : St) (h : AW P N c (thenK (fun _ => False) (blockK i (thenK (fun s => Wk N s J) fun _ _ => False))) s) (k : AW P N rest Q J) : AW P N c (thenK K (blockK i (thenK (AW P N rest Q) Q2))) s := by
  refine AW.mono h ?_
  intro e s hq
  cases e with
  | normal => exact hq.elim
  | exit j =>
    show blockK i _ (.exit j) s
    have hq' : blockK i (thenK (fun s => Wk N s J) fun _ _ => False) (.exit j) s := hq
    rw [blockK_exit] at hq' ⊢
    by_cases e : j = i
    · rw [if_pos e] at hq' ⊢; exact aw_wk hq' k
    · rw [if_neg e] at hq'; exact hq'.elim
  | ret => exact hq.elim
  | goto j => exact hq.elim
  | panic c => exact hq.elim
  | outgrown => exact hq.elim
theorem aw_frzT {P : Program} {N : Nat} {c : Code} {Q : Exit → St → Prop} {s : St} (S : List Nat) (d : Nat) (s' : St) (e : frzS S d s = s') (h : AW P N c Q s') : AW P N c Q s := by
  subst e; exact aw_frz S d h
theorem one_eq0 : ((1 : Nat) = 0) = False := by simp
theorem parts_fine {t : Tx} (o : t.ok) (h : txOk t = true) : ∀ x ∈ partsI t, Fine x := by
  obtain ⟨⟨f1, f2, f3⟩, f4⟩ := tx_small o h
  obtain ⟨p1, p2, p3⟩ := parts_le o h
  have hk := of_decide_eq_true h
  have num : ∀ n : Nat, n < 115792089237316195423570985008687907853269984665640564039457584007913129639936 → (textS n).size < 60000 := fun n hn => by have := nb_le hn; rw [textS_sz]; omega
  have g1 := num t.fr.toNat (by omega)
  have g2 := num t.no.toNat (by omega)
  have g3 := num t.gas.toNat (by omega)
  have e1 : (t.hs.map markT).map rawT = t.hs.map fun h => rawT (markT h) := by rw [List.map_map]; rfl
  intro x hx
  simp only [partsI, List.mem_cons, List.not_mem_nil, or_false] at hx
  rcases hx with h | h | h | h | h | h | h | h | h
  · rw [h]; exact fine_t _ g1
  · rw [h]; exact fine_t _ g2
  · rw [h]; exact fine_t _ (num _ o.tip)
  · rw [h]; exact fine_t _ (num _ o.cap)
  · rw [h]; exact fine_t _ (num _ o.bc)
  · rw [h]; exact fine_t _ (num _ o.val)
  · rw [h]; exact fine_t _ g3
  · rw [h]; exact fine_l _ (by rw [List.length_map]; omega) (by rw [List.length_map]; omega) (fun s hs => by obtain ⟨m, _, rfl⟩ := List.mem_map.1 hs; rw [markT_size]; omega) (by rw [e1]; omega)
  · rw [h]; exact fine_l _ (by omega) (by omega) (fun s hs => by have := f4 s hs; omega) (by omega)
set_option maxHeartbeats 20000000 in
theorem txbytes_c (t : Tx) (o : t.ok) (h : txOk t = true) : Pure Tryz.prog 120 [txV t] (.tup [.str (bytesB t), errV 0]) := by
  refine pure_ac ?_ (cleans_cons (clean_txV t) cleans_nil) (clean_tup (cleans_cons (.str _) (cleans_cons (.int _ _) cleans_nil)))
  have cc := check_c t o
  rw [if_pos h] at cc
  obtain ⟨⟨f1, f2, f3⟩, f4⟩ := tx_small o h
  have hk := of_decide_eq_true h
  have ci := ibytes_c (partsI t) (by show 0 < 9; omega) (by show 9 < 1000; omega) (parts_fine o h) (by rw [partsI_R]; have := (parts_le o h).2.2; omega)
  rw [bytesB_eq] at ci
  have n1 := number_c t.fr (by omega)
  have n2 := number_c t.no (by omega)
  have n3 := amount_c t.tip o.tip
  have n4 := amount_c t.cap o.cap
  have n5 := amount_c t.bc o.bc
  have n6 := amount_c t.val o.val
  have n7 := number_c t.gas (by omega)
  have hct := cleans_txc t
  have hml : (t.hs.map markT).length = t.bs.length := by rw [List.length_map]; exact f3
  (refine enter Tryz.func120 Tryz.results120 Tryz.ntmps120 ty_ok (hw := fun F hF => ?_); simp only [List.length_cons, List.length_nil, Nat.reduceAdd, Nat.reduceSub, List.replicate_succ, List.replicate_zero, List.cons_append, List.nil_append]; apply hF; clear hF F)
  refine wk ?_
  refine aw_loopI (fun (i : Nat) => match i with
    | 0 => ⟨(.any :: (.ptr 0 0) :: .any :: .any :: .any :: (.ptr 1 0) :: (.ptr 2 0) :: .any :: .any :: .any :: .any :: .any :: .any :: .any :: .any :: .any :: .any :: .any :: (bsV t.bs) :: (.int .i64 t.bs.length) :: (.int .i64 0) :: .any :: .any :: .any :: .any :: .any :: .any :: .any :: .any :: .any :: .any :: .any :: .any :: .any :: .any :: .any :: .any :: .any :: .any :: .any :: .any :: .any :: .any :: .any :: .any :: .any :: .any :: .any :: .any :: .any :: .any :: .any :: .any :: .any :: .any :: .any :: .any :: .any :: .any :: .any :: .any :: .any :: .any :: .any :: .any :: .any :: .any :: .any :: .any :: .any :: .any :: .any :: .any :: .any :: []), [.live (txc t), .live [.bool true, .str ByteArray.empty, .nils], .live [.bool true, .str ByteArray.empty, .nils]]⟩
    | i + 1 => ⟨(.any :: (.ptr 0 0) :: .any :: .any :: .any :: (.ptr 1 0) :: (.ptr 2 0) :: .any :: .any :: .any :: .any :: .any :: .any :: .any :: .any :: .any :: .any :: .any :: (bsV t.bs) :: (.int .i64 t.bs.length) :: (.int .i64 ((i : Int) + 1)) :: .any :: .any :: .any :: .any :: .any :: .any :: .any :: .any :: .any :: .any :: .any :: .any :: .any :: .any :: .any :: .any :: .any :: .any :: .any :: .any :: .any :: .any :: .any :: .any :: .any :: .any :: .any :: .any :: .any :: .any :: .any :: .any :: .any :: .any :: .any :: .any :: .any :: .any :: .any :: .any :: .any :: .any :: .any :: .any :: .any :: .any :: .any :: .any :: .any :: .any :: .any :: .any :: .any :: []), [.live (txc t), .live [.bool true, .str ByteArray.empty, .slc 3 0 3 (i + 1) (i + 1)], .live [.bool true, .str ByteArray.empty, .slc 4 0 3 (i + 1) (i + 1)], .live (flat itt ((t.hs.map markT).take (i + 1))), .live (flat itt (t.bs.take (i + 1)))]⟩) (fun i => i ≤ t.bs.length) (fun i => t.bs.length - i) 0 (by omega) (wkt [0, 1, 2]) ?_
  intro i hi K hK
  cases i with
  | zero =>
    dsimp only
    have h0 : 0 < t.hs.length := by omega
    have h0b : 0 < t.bs.length := by omega
    have cm := mtext_c t.hs[0] (o.hs _ (List.getElem_mem h0))
    have hn1 : nth (flat hc t.hs) 0 = .int .u64 (t.hs[0] : Nat) := by
      have := nth_flat0 (f := hc) t.hs 0 h0 (by omega)
      rw [Nat.zero_mul] at this; exact this
    have hn2 : nth (flat sc t.bs) 0 = .str t.bs[0] := by
      have := nth_flat0 (f := sc) t.bs 0 h0b (by omega)
      rw [Nat.zero_mul] at this; exact this
    have e1 : flat itt ((t.hs.map markT).take (0 + 1)) = [.bool false, .str (markT t.hs[0]), .nils] := by
      rw [List.take_succ_eq_append_getElem (by rw [hml]; exact h0b), List.take_zero, List.nil_append, flat_single, List.getElem_map]
    have e2 : flat itt (t.bs.take (0 + 1)) = [.bool false, .str t.bs[0], .nils] := by
      rw [List.take_succ_eq_append_getElem h0b, List.take_zero, List.nil_append, flat_single]
    refine wk ?_
    (refine aseq_fx (fun F hF => ?_); simp only [hn1, hn2]; apply hF; clear hF F)
    refine wk ?_
    simp only [one_eq0, if_false, List.set_cons_zero, List.set_cons_succ, List.cons_append, List.nil_append, List.length_cons, List.length_nil, Nat.reduceAdd]
    refine hK _ 1 (by omega) ?_ (by omega)
    show Wk _ _ ⟨_, [.live (txc t), .live [.bool true, .str ByteArray.empty, .slc 3 0 3 (0 + 1) (0 + 1)], .live [.bool true, .str ByteArray.empty, .slc 4 0 3 (0 + 1) (0 + 1)], .live (flat itt ((t.hs.map markT).take (0 + 1))), .live (flat itt (t.bs.take (0 + 1)))]⟩
    rw [e1, e2]
    exact wkt [0, 1, 2, 4, 6]
  | succ i =>
    dsimp only
    by_cases h1 : i + 1 < t.bs.length
    · have h2 : i + 1 < t.hs.length := by omega
      have cm := mtext_c t.hs[i + 1] (o.hs _ (List.getElem_mem h2))
      have e1 : flat itt ((t.hs.map markT).take (i + 1 + 1)) = flat itt ((t.hs.map markT).take (i + 1)) ++ [.bool false, .str (markT t.hs[i + 1]), .nils] := by
        rw [List.take_succ_eq_append_getElem (by rw [hml]; exact h1), flat_append, flat_single, List.getElem_map]
      have e2 : flat itt (t.bs.take (i + 1 + 1)) = flat itt (t.bs.take (i + 1)) ++ [.bool false, .str t.bs[i + 1], .nils] := by
        rw [List.take_succ_eq_append_getElem h1, flat_append, flat_single]
      have g1 : (flat itt ((t.hs.map markT).take (i + 1))).length = (i + 1) * 3 := by rw [flat_length, List.length_take]; omega
      have g2 : (flat itt (t.bs.take (i + 1))).length = (i + 1) * 3 := by rw [flat_length, List.length_take]; omega
      refine wk ?_
      refine hK _ (i + 1 + 1) (by omega) ?_ (by omega)
      show Wk _ _ ⟨_, [.live (txc t), .live [.bool true, .str ByteArray.empty, .slc 3 0 3 (i + 1 + 1) (i + 1 + 1)], .live [.bool true, .str ByteArray.empty, .slc 4 0 3 (i + 1 + 1) (i + 1 + 1)], .live (flat itt ((t.hs.map markT).take (i + 1 + 1))), .live (flat itt (t.bs.take (i + 1 + 1)))]⟩
      rw [e1, e2]
      exact wkt [0, 1, 2, 6, 8]
    · have e1 : (t.hs.map markT).take (i + 1) = t.hs.map markT := List.take_of_length_le (by rw [hml]; omega)
      have e2 : t.bs.take (i + 1) = t.bs := List.take_of_length_le (by omega)
      have e3 : i + 1 = t.bs.length := by omega
      rw [e1, e2, e3]
      have e4 : ((i : Int) + 1) = t.bs.length := by omega
      rw [e4]
      refine aw_exitJ ⟨(.any :: (.ptr 0 0) :: .any :: .any :: .any :: (.ptr 1 0) :: (.ptr 2 0) :: .any :: .any :: .any :: .any :: .any :: .any :: .any :: .any :: .any :: .any :: .any :: .any :: .any :: .any :: .any :: .any :: .any :: .any :: .any :: .any :: .any :: .any :: .any :: .any :: .any :: .any :: .any :: .any :: .any :: .any :: .any :: .any :: .any :: .any :: .any :: .any :: .any :: .any :: .any :: .any :: .any :: .any :: .any :: .any :: .any :: .any :: .any :: .any :: .any :: .any :: .any :: .any :: .any :: .any :: .any :: .any :: .any :: .any :: .any :: .any :: .any :: .any :: .any :: .any :: .any :: .any :: .any :: []), [.live (txc t), .live [.bool true, .str ByteArray.empty, .slc 3 0 3 t.bs.length t.bs.length], .live [.bool true, .str ByteArray.empty, .slc 4 0 3 t.bs.length t.bs.length], .live (flat itt (t.hs.map markT)), .live (flat itt t.bs)]⟩ ?_ ?_
      · refine wk ?_
        exact wkt [0, 1, 2, 3, 4]
      · refine aw_frzT [3, 4] 2 ⟨(.any :: (.ptr 0 0) :: .any :: .any :: .any :: (.ptr 1 0) :: (.ptr 2 0) :: .any :: .any :: .any :: .any :: .any :: .any :: .any :: .any :: .any :: .any :: .any :: .any :: .any :: .any :: .any :: .any :: .any :: .any :: .any :: .any :: .any :: .any :: .any :: .any :: .any :: .any :: .any :: .any :: .any :: .any :: .any :: .any :: .any :: .any :: .any :: .any :: .any :: .any :: .any :: .any :: .any :: .any :: .any :: .any :: .any :: .any :: .any :: .any :: .any :: .any :: .any :: .any :: .any :: .any :: .any :: .any :: .any :: .any :: .any :: .any :: .any :: .any :: .any :: .any :: .any :: .any :: .any :: []), [.live (txc t), .live [.bool true, .str ByteArray.empty, .vec (flat itt (t.hs.map markT)) t.bs.length false], .live [.bool true, .str ByteArray.empty, .vec (flat itt t.bs) t.bs.length false], .dead, .dead]⟩ ?_ ?_
        · have q1 : List.take (t.bs.length * 3) (flat itt (t.hs.map markT)) = flat itt (t.hs.map markT) := List.take_of_length_le (by rw [flat_length, hml]; exact Nat.le_refl _)
          have q2 : List.take (t.bs.length * 3) (flat itt t.bs) = flat itt t.bs := List.take_of_length_le (by rw [flat_length]; exact Nat.le_refl _)
          have q3 : ∀ (h : List HB) (S : List Nat) (d : Nat) (l : List ByteArray), frzL h S d (flat itt l) = flat itt l := fun h S d l => frzL_clean h S d (cleans_flat l)
          have q4 : ∀ (h : List HB) (S : List Nat) (d : Nat), frzL h S d (txc t) = txc t := fun h S d => frzL_clean h S d hct
          simp only [frzS, frzH, frzB, q4, q3]
          simp [frzL, frzV, frzAt, q1, q2, q3]
        refine aw_seq ?_
        refine aw_joinR (fun (_ : Unit) => ⟨(.any :: .any :: .any :: .any :: .any :: .any :: .any :: .any :: .any :: (.slc 0 0 3 9 9) :: .any :: .any :: .any :: .any :: .any :: .any :: .any :: .any :: .any :: .any :: .any :: .any :: .any :: .any :: .any :: .any :: .any :: .any :: .any :: .any :: .any :: .any :: .any :: .any :: .any :: .any :: .any :: .any :: .any :: .any :: .any :: .any :: .any :: .any :: .any :: .any :: .any :: .any :: .any :: .any :: .any :: .any :: .any :: .any :: .any :: .any :: .any :: .any :: .any :: .any :: .any :: .any :: .any :: .any :: .any :: .any :: .any :: .any :: .any :: .any :: .any :: .any :: .any :: .any :: []), [.live (flat itc (partsI t))]⟩) (fun _ => True) (fun K3 hK3 => ?_) (fun _ _ => ?_)
        · refine wk ?_
          have q5 : ∀ (σ : List Nat) (l : List ByteArray), renL σ (flat itt l) = flat itt l := fun σ l => renL_clean σ (cleans_flat l)
          have q6 : V.vec (flat itt (t.hs.map markT)) t.bs.length false = .vec (flat itt (t.hs.map markT)) (t.hs.map markT).length false := by rw [hml]
          refine hK3 _ () trivial (wkt [5] (hh := by dsimp only [renS, renH, renL, renV, renB, hbAt, List.map_cons, List.map_nil, List.getElem?_cons_zero, List.getElem?_cons_succ]; simp only [q5, q6]; rfl))
        · refine aw_frzT [0] 2 ⟨(.any :: .any :: .any :: .any :: .any :: .any :: .any :: .any :: .any :: (.vec (flat itc (partsI t)) 9 false) :: .any :: .any :: .any :: .any :: .any :: .any :: .any :: .any :: .any :: .any :: .any :: .any :: .any :: .any :: .any :: .any :: .any :: .any :: .any :: .any :: .any :: .any :: .any :: .any :: .any :: .any :: .any :: .any :: .any :: .any :: .any :: .any :: .any :: .any :: .any :: .any :: .any :: .any :: .any :: .any :: .any :: .any :: .any :: .any :: .any :: .any :: .any :: .any :: .any :: .any :: .any :: .any :: .any :: .any :: .any :: .any :: .any :: .any :: .any :: .any :: .any :: .any :: .any :: .any :: []), [.dead]⟩ ?_ ?_
          · have q7 : ∀ (h : List HB) (S : List Nat) (d : Nat) (l : List It), frzL h S d (flat itc l) = flat itc l := fun h S d l => frzL_clean h S d (cleans_flat l)
            have q8 : List.take (9 * 3) (flat itc (partsI t)) = flat itc (partsI t) := List.take_of_length_le (by rw [flat_length]; exact Nat.le_refl _)
            simp only [frzS, frzH, frzB, q7]
            simp [frzL, frzV, frzAt, q8, q7]
          refine wk ?_
          refine fin ?_
          rfl
end Go.Abs
