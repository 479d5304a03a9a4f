/- The page's items: how deep, which bytes: the walks. -/
import Derived.Test.YtemlnaipcdajeaaGreatM32
set_option linter.unusedVariables false
set_option linter.unusedSimpArgs false
namespace Go.Abs
open Go Go.Proofs

def dN : It → Nat
  | .t _ => 0
  | .l _ => 1
def dmx (xs : List It) : Nat := xs.foldl (fun n x => max n (dN x)) 0
theorem dmx_take {xs : List It} {i : Nat} (h : i < xs.length) : dmx (xs.take (i + 1)) = max (dmx (xs.take i)) (dN xs[i]) := by
  unfold dmx; rw [List.take_succ_eq_append_getElem h, List.foldl_append]; rfl
theorem dN_le (x : It) : dN x ≤ 1 := by cases x <;> simp [dN]
theorem dmx_le (xs : List It) : ∀ i, i ≤ xs.length → dmx (xs.take i) ≤ 1
  | 0, _ => by simp [dmx]
  | i + 1, h => by
    have := dmx_le xs i (by omega)
    have := dN_le xs[i]
    rw [dmx_take (by omega)]; omega
theorem deep_t (s : ByteArray) : Pure Tryz.prog 177 [itV (.t s)] (.int .i64 (0 : Nat)) := by
  show Pure _ _ [.agg [.bool false, .str s, .nils]] _
  refine pure_ac ?_ (cleans_cons (clean_itV (.t s)) cleans_nil) (.int _ _)
  (refine enter Tryz.func177 Tryz.results177 Tryz.ntmps177 ty_ok (hw := fun F hF => ?_); simp only [List.length_cons, List.length_nil, Nat.reduceAdd, Nat.reduceSub, List.replicate_succ, List.replicate_zero, List.cons_append, List.nil_append]; apply hF; clear hF F)
  refine wk ?_
  refine fin ?_
  rfl
set_option maxHeartbeats 20000000 in
theorem deep_ls (xs : List It) (hl : xs.length < 1000000) (hx : ∀ x ∈ xs, Pure Tryz.prog 177 [itV x] (.int .i64 (dN x : Nat))) : Pure Tryz.prog 177 [lsV xs] (.int .i64 (dmx xs + 1 : Nat)) := by
  refine pure_ac ?_ (cleans_cons (clean_lsV xs) cleans_nil) (.int _ _)
  unfold lsV
  (refine enter Tryz.func177 Tryz.results177 Tryz.ntmps177 ty_ok (hw := fun F hF => ?_); simp only [List.length_cons, List.length_nil, Nat.reduceAdd, Nat.reduceSub, List.replicate_succ, List.replicate_zero, List.cons_append, List.nil_append]; apply hF; clear hF F)
  refine wks ?_
  refine aw_loopI (fun (i : Nat) => ⟨(.any :: (.ptr 0 0) :: .any :: (.int .i64 (dmx (xs.take i) : Nat)) :: (.int .i64 i) :: .any :: .any :: .any :: .any :: .any :: .any :: .any :: .any :: .any :: .any :: .any :: .any :: .any :: .any :: .any :: .any :: .any :: .any :: .any :: .any :: .any :: .any :: .any :: .any :: .any :: .any :: .any :: []), [.live [.bool true, .str ByteArray.empty, .vec (flat itc xs) xs.length false]]⟩) (fun i => i ≤ xs.length) (fun i => xs.length - i) 0 (by omega) (wkt [0] (hh := by dsimp only [renS, renH, renL, renV, renB, hbAt, List.map_cons, List.map_nil, List.getElem?_cons_zero, List.getElem?_cons_succ]; simp only [renL_clean _ (cleans_flat _)])) ?_
  intro i hi K hK
  by_cases h1 : i < xs.length
  · have c1 := hx xs[i] (List.getElem_mem h1)
    have hm := dmx_take h1
    have hone : ∀ v ∈ itc xs[i], v.one = true := Rows.one (f := itc) xs[i]
    have hd : (if ((dN xs[i] : Nat) : Int) > (dmx (xs.take i) : Nat) then ((dN xs[i] : Nat) : Int) else (dmx (xs.take i) : Nat)) = (dmx (xs.take (i + 1)) : Nat) := by rw [hm]; split <;> omega
    clear hx
    refine wks ?_
    rw [hd]
    refine hK _ (i + 1) (by omega) (wkt [0] (hh := by dsimp only [renS, renH, renL, renV, renB, hbAt, List.map_cons, List.map_nil, List.getElem?_cons_zero, List.getElem?_cons_succ]; simp only [renL_clean _ (cleans_flat _)])) (by omega)
  · obtain rfl : i = xs.length := by omega
    have hle := dmx_le xs xs.length (Nat.le_refl _)
    rw [List.take_length] at hle ⊢
    clear hx hK
    refine wks ?_
    refine fin ?_
    rfl
theorem deep_it (x : It) (hl : ∀ ss, x = .l ss → ss.length < 1000000) : Pure Tryz.prog 177 [itV x] (.int .i64 (dN x : Nat)) := by
  cases x with
  | t s => exact deep_t s
  | l ss =>
    have := deep_ls (ss.map It.t) (by rw [List.length_map]; exact hl ss rfl) (fun x hx => by
      obtain ⟨s, _, rfl⟩ := List.mem_map.1 hx; exact deep_t s)
    rw [itV_l]
    have e : dmx (ss.map It.t) = 0 := by
      have : ∀ (ss : List ByteArray) (n : Nat), (ss.map It.t).foldl (fun n x => max n (dN x)) n = n := by
        intro ss
        induction ss with
        | nil => intro n; rfl
        | cons s ss ih => intro n; rw [List.map_cons, List.foldl_cons, ih]; simp [dN]
      exact this ss 0
    rw [e] at this
    exact this
theorem rawr_t (s : ByteArray) (hs : s.size < 60000) : Pure Tryz.prog 178 [itV (.t s)] (.str (rawT s)) := by
  show Pure _ _ [.agg [.bool false, .str s, .nils]] _
  refine pure_ac ?_ (cleans_cons (clean_itV (.t s)) cleans_nil) (.str _)
  have c1 := rhead4_c s.size 128 (by omega) (by omega)
  have h1 := headB_size 128 s.size
  have h2 := aheadN_le (n := s.size) (by omega)
  unfold rawT aloneB
  by_cases hs1 : s.size = 1
  · by_cases hb : bt s 0 < 128
    · rw [decide_eq_true ⟨hs1, hb⟩, if_pos rfl]
      (refine enter Tryz.func178 Tryz.results178 Tryz.ntmps178 ty_ok (hw := fun F hF => ?_); simp only [List.length_cons, List.length_nil, Nat.reduceAdd, Nat.reduceSub, List.replicate_succ, List.replicate_zero, List.cons_append, List.nil_append]; apply hF; clear hF F)
      refine wks ?_
      refine fin ?_
      rfl
    · rw [decide_eq_false (fun h => hb h.2), if_neg (by simp)]
      (refine enter Tryz.func178 Tryz.results178 Tryz.ntmps178 ty_ok (hw := fun F hF => ?_); simp only [List.length_cons, List.length_nil, Nat.reduceAdd, Nat.reduceSub, List.replicate_succ, List.replicate_zero, List.cons_append, List.nil_append]; apply hF; clear hF F)
      refine wks ?_
      refine fin ?_
      rfl
  · rw [decide_eq_false (fun h => hs1 h.1), if_neg (by simp)]
    (refine enter Tryz.func178 Tryz.results178 Tryz.ntmps178 ty_ok (hw := fun F hF => ?_); simp only [List.length_cons, List.length_nil, Nat.reduceAdd, Nat.reduceSub, List.replicate_succ, List.replicate_zero, List.cons_append, List.nil_append]; apply hF; clear hF F)
    refine wks ?_
    refine fin ?_
    rfl
set_option maxHeartbeats 20000000 in
theorem rawr_ls (xs : List It) (hl : xs.length < 1000000) (hx : ∀ x ∈ xs, Pure Tryz.prog 178 [itV x] (.str (itR x))) (hsz : (catB (xs.map itR)).size < 60000) : Pure Tryz.prog 178 [lsV xs] (.str (lsR xs)) := by
  refine pure_ac ?_ (cleans_cons (clean_lsV xs) cleans_nil) (.str _)
  have hml : (xs.map itR).length = xs.length := List.length_map ..
  have hpre : ∀ i, (catB ((xs.map itR).take i)).size ≤ (catB (xs.map itR)).size := fun i => by
    have := congrArg ByteArray.size (catB_append ((xs.map itR).take i) ((xs.map itR).drop i))
    rw [List.take_append_drop, ByteArray.size_append] at this; omega
  unfold lsV
  (refine enter Tryz.func178 Tryz.results178 Tryz.ntmps178 ty_ok (hw := fun F hF => ?_); simp only [List.length_cons, List.length_nil, Nat.reduceAdd, Nat.reduceSub, List.replicate_succ, List.replicate_zero, List.cons_append, List.nil_append]; apply hF; clear hF F)
  refine wks ?_
  refine aw_loopI (fun (i : Nat) => ⟨(.any :: (.ptr 0 0) :: .any :: (.str (catB ((xs.map itR).take i))) :: (.int .i64 i) :: .any :: .any :: .any :: .any :: .any :: .any :: .any :: .any :: .any :: .any :: .any :: .any :: .any :: .any :: .any :: .any :: .any :: .any :: .any :: .any :: .any :: .any :: .any :: .any :: .any :: .any :: .any :: .any :: .any :: .any :: .any :: .any :: .any :: .any :: .any :: .any :: .any :: .any :: .any :: .any :: .any :: .any :: .any :: .any :: .any :: .any :: .any :: []), [.live [.bool true, .str ByteArray.empty, .vec (flat itc xs) xs.length false]]⟩) (fun i => i ≤ xs.length) (fun i => xs.length - i) 0 (by omega) (wkt [0] (hh := by dsimp only [renS, renH, renL, renV, renB, hbAt, List.map_cons, List.map_nil, List.getElem?_cons_zero, List.getElem?_cons_succ]; simp only [renL_clean _ (cleans_flat _)])) ?_
  intro i hi K hK
  have hp := hpre i
  have hp1 := hpre (i + 1)
  clear hpre
  by_cases h1 : i < xs.length
  · have c1 := hx xs[i] (List.getElem_mem h1)
    have hone : ∀ v ∈ itc xs[i], v.one = true := Rows.one (f := itc) xs[i]
    have hd : catB ((xs.map itR).take (i + 1)) = catB ((xs.map itR).take i) ++ itR xs[i] := by rw [catB_take (by rw [hml]; exact h1), List.getElem_map]
    rw [hd, ByteArray.size_append] at hp1
    clear hx
    refine wks ?_
    refine hK _ (i + 1) (by omega) ?_ (by omega)
    rw [hd]
    exact (wkt [0] (hh := by dsimp only [renS, renH, renL, renV, renB, hbAt, List.map_cons, List.map_nil, List.getElem?_cons_zero, List.getElem?_cons_succ]; simp only [renL_clean _ (cleans_flat _)]))
  · obtain rfl : i = xs.length := by omega
    have e1 : (xs.map itR).take xs.length = xs.map itR := List.take_of_length_le (by rw [hml]; exact Nat.le_refl _)
    rw [e1] at hp ⊢
    have c1 := rhead4_c (catB (xs.map itR)).size 192 (by omega) (by omega)
    have h1 := headB_size 192 (catB (xs.map itR)).size
    have h2 := aheadN_le (n := (catB (xs.map itR)).size) (by omega)
    clear hx hK hp1
    refine wks ?_
    refine fin ?_
    rfl
set_option maxRecDepth 20000 in
theorem ritem_c (xs : List It) (hl : xs.length < 1000000) (hd : ∀ x ∈ xs, Pure Tryz.prog 177 [itV x] (.int .i64 (dN x : Nat))) (hx : ∀ x ∈ xs, Pure Tryz.prog 178 [itV x] (.str (itR x))) (hsz : (catB (xs.map itR)).size < 60000) : Pure Tryz.prog 156 [lsV xs] (.tup [.str (lsR xs), .bool true]) := by
  refine pure_ac ?_ (cleans_cons (clean_lsV xs) cleans_nil) (clean_tup (cleans_cons (.str _) (cleans_cons (.bool _) cleans_nil)))
  have c1 := deep_ls xs hl hd
  have c2 := rawr_ls xs hl hx hsz
  have hle := dmx_le xs xs.length (Nat.le_refl _)
  rw [List.take_length] at hle
  have h1 : (lsR xs).size < 65536 := by
    unfold lsR
    rw [rawL_size]
    have := aheadN_le (n := (catB (xs.map itR)).size) (by omega)
    omega
  clear hd hx
  unfold lsV at c1 c2 ⊢
  (refine enter Tryz.func156 Tryz.results156 Tryz.ntmps156 ty_ok (hw := fun F hF => ?_); simp only [List.length_cons, List.length_nil, Nat.reduceAdd, Nat.reduceSub, List.replicate_succ, List.replicate_zero, List.cons_append, List.nil_append]; apply hF; clear hF F)
  refine wks ?_
  refine fin ?_
  rfl
end Go.Abs
/- The page's bytes, ID, slot of a transaction: the walks. -/
namespace Go.Abs
open Go Go.Proofs

theorem part_small {t : Tx} (o : t.ok) (h : txOk t = true) : ∀ x ∈ partsI t, (∀ ss, x = .l ss → ss.length < 1000000) ∧ (∀ s, x = .t s → s.size < 60000) ∧ (∀ ss, x = .l ss → (∀ s ∈ ss, s.size < 60000) ∧ (catB (ss.map rawT)).size < 60000) := by
  obtain ⟨⟨h1, h4, hhl⟩, hb64⟩ := tx_small o h
  obtain ⟨p1, p2, p3⟩ := parts_le o h
  have hw : ∀ n, n < 115792089237316195423570985008687907853269984665640564039457584007913129639936 → (textS n).size < 60000 := fun n hn => by
    rw [textS_sz]
    have := nb_small (n := n) (k := 32) (by simpa using hn)
    omega
  have hk := of_decide_eq_true h
  intro x hx
  simp only [partsI, List.mem_cons, List.not_mem_nil, or_false] at hx
  rcases hx with rfl | rfl | rfl | rfl | rfl | rfl | rfl | rfl | rfl
  · exact ⟨(fun ss e => by cases e), (fun s e => by cases e; exact hw _ (by omega)), fun ss e => by cases e⟩
  · exact ⟨(fun ss e => by cases e), (fun s e => by cases e; exact hw _ (by omega)), fun ss e => by cases e⟩
  · exact ⟨(fun ss e => by cases e), (fun s e => by cases e; exact hw _ o.tip), (fun ss e => by cases e)⟩
  · exact ⟨(fun ss e => by cases e), (fun s e => by cases e; exact hw _ o.cap), fun ss e => by cases e⟩
  · exact ⟨(fun ss e => by cases e), (fun s e => by cases e; exact hw _ o.bc), fun ss e => by cases e⟩
  · exact ⟨(fun ss e => by cases e), (fun s e => by cases e; exact hw _ o.val), fun ss e => by cases e⟩
  · exact ⟨(fun ss e => by cases e), (fun s e => by cases e; exact hw _ (by omega)), fun ss e => by cases e⟩
  · refine ⟨(fun ss e => by cases e; rw [List.length_map]; omega), (fun s e => by cases e), fun ss e => ?_⟩
    cases e
    refine ⟨fun s hs => ?_, by rw [List.map_map]; exact Nat.lt_of_le_of_lt p1 (by omega)⟩
    obtain ⟨m, _, rfl⟩ := List.mem_map.1 hs
    rw [markT_size]; omega
  · refine ⟨(fun ss e => by cases e; omega), (fun s e => by cases e), fun ss e => ?_⟩
    cases e
    exact ⟨fun s hs => by have := hb64 s hs; omega, by omega⟩
theorem parts_item {t : Tx} (o : t.ok) (h : txOk t = true) : Pure Tryz.prog 156 [lsV (partsI t)] (.tup [.str (bytesB t), .bool true]) := by
  have hp := part_small o h
  obtain ⟨_, _, p3⟩ := parts_le o h
  have := ritem_c (partsI t) (by show 9 < _; omega) (fun x hx => deep_it x (hp x hx).1) (fun x hx => ?_) (by rw [partsI_R]; omega)
  · rw [bytesB_eq] at this; exact this
  · obtain ⟨q1, q2, q3⟩ := hp x hx
    cases x with
    | t s => exact rawr_t s (q2 s rfl)
    | l ss =>
      rw [itV_l, itR_l]
      obtain ⟨r1, r2⟩ := q3 ss rfl
      refine rawr_ls (ss.map It.t) (by rw [List.length_map]; exact q1 ss rfl) (fun x hx => ?_) ?_
      · obtain ⟨s, hs, rfl⟩ := List.mem_map.1 hx
        exact rawr_t s (r1 s hs)
      · rw [List.map_map]; exact r2
set_option maxRecDepth 20000 in
set_option maxHeartbeats 40000000 in
theorem rbytes_c (t : Tx) (o : t.ok) (h : txOk t = true) : Pure Tryz.prog 118 [txV t] (.str (bytesB t)) := by
  refine pure_ac ?_ (cleans_cons (clean_txV t) cleans_nil) (.str _)
  obtain ⟨⟨h1, h4, hhl⟩, hb64⟩ := tx_small o h
  have citem := Left.mk (parts_item o h)
  have hmt := Left.mk fun (i : Nat) (hi : i < t.hs.length) => rmtext_c t.hs[i] (o.hs _ (List.getElem_mem hi))
  have hk := of_decide_eq_true h
  have n1 := rnumber_c t.fr ⟨hk.1, by omega⟩
  have n2 := rnumber_c t.no ⟨hk.2.2.1, by omega⟩
  have n3 := rnumber_c t.gas ⟨hk.2.2.2.2.1, by omega⟩
  have m1 := rtext_c t.tip o.tip
  have m2 := rtext_c t.cap o.cap
  have m3 := rtext_c t.bc o.bc
  have m4 := rtext_c t.val o.val
  have k1 := rtxt_c (textS t.tip)
  have k2 := rtxt_c (textS t.cap)
  have k3 := rtxt_c (textS t.bc)
  have k4 := rtxt_c (textS t.val)
  have late := Left.mk (And.intro n1 (And.intro n2 (And.intro n3 (And.intro m1 (And.intro m2 (And.intro m3 (And.intro m4 (And.intro k1 (And.intro k2 (And.intro k3 k4))))))))))
  clear n1 n2 n3 m1 m2 m3 m4 k1 k2 k3 k4 hk
  have hct := cleans_txc t
  have hone : ∀ v ∈ txc t, v.one = true := Rows.one (f := txc) t
  obtain ⟨ms, hms⟩ : ∃ ms, t.hs.map markT = ms := ⟨_, rfl⟩
  have hml : ms.length = t.hs.length := by rw [← hms, List.length_map]
  have hmi : ∀ i (hi : i < t.hs.length), markT t.hs[i] = ms[i]'(by omega) := fun i hi => by simp [← hms]
  clear h o
  (refine enter Tryz.func118 Tryz.results118 Tryz.ntmps118 ty_ok (hw := fun F hF => ?_); simp only [List.length_cons, List.length_nil, Nat.reduceAdd, Nat.reduceSub, List.replicate_succ, List.replicate_zero, List.cons_append, List.nil_append]; apply hF; clear hF F)
  refine wks ?_
  refine aw_loopI (fun (i : Nat) => ⟨(.any :: (.ptr 0 0) :: .any :: (.ptr 1 0) :: (.ptr 2 0) :: (.int .i64 i) :: .any :: .any :: .any :: .any :: .any :: .any :: .any :: .any :: .any :: .any :: .any :: .any :: .any :: .any :: .any :: .any :: .any :: .any :: .any :: .any :: .any :: .any :: .any :: .any :: .any :: .any :: .any :: .any :: .any :: .any :: .any :: .any :: .any :: .any :: .any :: .any :: .any :: .any :: .any :: .any :: .any :: .any :: .any :: .any :: .any :: .any :: .any :: .any :: .any :: .any :: .any :: .any :: .any :: .any :: .any :: .any :: .any :: .any :: .any :: .any :: .any :: .any :: .any :: .any :: .any :: .any :: .any :: .any :: .any :: .any :: .any :: .any :: .any :: .any :: .any :: .any :: []), [.live (txc t), .live [.bool true, .str ByteArray.empty, rwV 3 3 (ms.take i)], .live [.bool true, .str ByteArray.empty, .nils]] ++ rwH itt (ms.take i)⟩) (fun i => i ≤ ms.length) (fun i => ms.length - i) 0 (by omega) (by
    rw [List.take_zero]; exact wkt [0, 1, 2] (hh := by dsimp only [renS, renH, renL, renV, renB, hbAt, List.map_cons, List.map_nil, List.getElem?_cons_zero, List.getElem?_cons_succ]; (try simp only [renL_clean _ (cleans_flat _)]); try rfl)) ?_
  intro i hi K hK
  by_cases hil : i < ms.length
  · have c1 := hmt.left i (by omega)
    have c2 := rtxt_c (ms[i])
    have e1 := hmi i (by omega)
    rw [e1] at c1
    have hh : i < t.hs.length := by omega
    have hs : ms.take (i + 1) = ms.take i ++ [ms[i]] := List.take_succ_eq_append_getElem hil
    have hlen : (ms.take i).length = i := by rw [List.length_take]; omega
    cases hm : ms.take i with
    | nil =>
      rw [hm, List.nil_append] at hs
      dsimp only [rwV, rwH, List.cons_append, List.nil_append]
      refine wks ?_
      simp only [one_eq0, if_false, List.set_cons_zero, List.set_cons_succ, List.cons_append, List.nil_append, List.length_cons, List.length_nil, Nat.reduceAdd]
      refine hK _ (i + 1) (by omega) ?_ (by omega)
      rw [hs]
      dsimp only [rwV, rwH, List.cons_append, List.nil_append]
      rw [flat_single]
      exact wkt [0, 1, 2, 4] (hh := by dsimp only [renS, renH, renL, renV, renB, hbAt, List.map_cons, List.map_nil, List.getElem?_cons_zero, List.getElem?_cons_succ]; (try simp only [renL_clean _ (cleans_flat _)]); try rfl)
    | cons s m =>
      rw [hm, List.cons_append] at hs
      rw [hm, List.length_cons] at hlen
      have g1 : (flat itt (s :: m)).length = (m.length + 1) * 3 := by rw [flat_length]; rfl
      have g2 : flat itt (s :: (m ++ [ms[i]])) = flat itt (s :: m) ++ itt ms[i] := by rw [← List.cons_append, flat_append, flat_single]
      have g3 : (m ++ [ms[i]]).length + 1 = m.length + 1 + 1 := by simp
      dsimp only [rwV, rwH, List.cons_append, List.nil_append]
      refine wks ?_
      refine hK _ (i + 1) (by omega) ?_ (by omega)
      rw [hs]
      dsimp only [rwV, rwH, List.cons_append, List.nil_append]
      rw [g2, g3]
      exact wkt [0, 1, 2, 5] (hh := by dsimp only [renS, renH, renL, renV, renB, hbAt, List.map_cons, List.map_nil, List.getElem?_cons_zero, List.getElem?_cons_succ]; simp only [renL_append, renL_clean _ (cleans_flat _), renL, renV]; try rfl)
  · obtain rfl : i = ms.length := by omega
    rw [List.take_length]
    clear hK
    obtain ⟨s, m, hsm⟩ : ∃ s m, ms = s :: m := by
      cases hx : ms with
      | nil => rw [hx] at hml; simp at hml; omega
      | cons s m => exact ⟨s, m, rfl⟩
    rw [hsm] at hml hms ⊢
    rw [List.length_cons] at hml
    clear hmi hil hi hmt
    dsimp only [rwV, rwH, List.cons_append, List.nil_append]
    refine wks ?_
    refine aw_wk (wkt (t' := (.any :: (.ptr 0 0) :: .any :: (.ptr 1 0) :: (.ptr 2 0) :: .any :: (.int .i64 0) :: .any :: .any :: .any :: .any :: .any :: .any :: .any :: .any :: .any :: .any :: .any :: .any :: .any :: .any :: .any :: .any :: .any :: .any :: .any :: .any :: .any :: .any :: .any :: .any :: .any :: .any :: .any :: .any :: .any :: .any :: .any :: .any :: .any :: .any :: .any :: .any :: .any :: .any :: .any :: .any :: .any :: .any :: .any :: .any :: .any :: .any :: .any :: .any :: .any :: .any :: .any :: .any :: .any :: .any :: .any :: .any :: .any :: .any :: .any :: .any :: .any :: .any :: .any :: .any :: .any :: .any :: .any :: .any :: .any :: .any :: .any :: .any :: .any :: .any :: .any :: [])) (h' := [.live (txc t), .live [.bool true, .str ByteArray.empty, .slc 3 0 3 (m.length + 1) (m.length + 1)], .live [.bool true, .str ByteArray.empty, .nils], .live (flat itt (s :: m))]) [0, 1, 2, 3] (hh := by dsimp only [renS, renH, renL, renV, renB, hbAt, List.map_cons, List.map_nil, List.getElem?_cons_zero, List.getElem?_cons_succ]; (try simp only [renL_clean _ (cleans_flat _)]); try rfl)) ?_
    refine aw_frzT [3] 2 ⟨(.any :: (.ptr 0 0) :: .any :: (.ptr 1 0) :: (.ptr 2 0) :: .any :: (.int .i64 0) :: .any :: .any :: .any :: .any :: .any :: .any :: .any :: .any :: .any :: .any :: .any :: .any :: .any :: .any :: .any :: .any :: .any :: .any :: .any :: .any :: .any :: .any :: .any :: .any :: .any :: .any :: .any :: .any :: .any :: .any :: .any :: .any :: .any :: .any :: .any :: .any :: .any :: .any :: .any :: .any :: .any :: .any :: .any :: .any :: .any :: .any :: .any :: .any :: .any :: .any :: .any :: .any :: .any :: .any :: .any :: .any :: .any :: .any :: .any :: .any :: .any :: .any :: .any :: .any :: .any :: .any :: .any :: .any :: .any :: .any :: .any :: .any :: .any :: .any :: .any :: []), [.live (txc t), .live [.bool true, .str ByteArray.empty, .vec (flat itt (s :: m)) (m.length + 1) false], .live [.bool true, .str ByteArray.empty, .nils], .dead]⟩ ?_ ?_
    · have q3 : ∀ (h : List HB) (S : List Nat) (d : Nat) (l : List ByteArray), frzL h S d (flat itt l) = flat itt l := fun h S d l => frzL_clean h S d (cleans_flat l)
      have q4 : ∀ (h : List HB) (S : List Nat) (d : Nat), frzL h S d (txc t) = txc t := fun h S d => frzL_clean h S d hct
      have q5 : List.take ((m.length + 1) * 3) (flat itt (s :: m)) = flat itt (s :: m) := List.take_of_length_le (by rw [flat_length]; exact Nat.le_refl _)
      simp only [frzS, frzH, frzB, q4, q3]
      simp [frzL, frzV, frzAt, q5, q3]
    refine aw_loopI (fun (i : Nat) => ⟨(.any :: (.ptr 0 0) :: .any :: (.ptr 1 0) :: (.ptr 2 0) :: .any :: (.int .i64 i) :: .any :: .any :: .any :: .any :: .any :: .any :: .any :: .any :: .any :: .any :: .any :: .any :: .any :: .any :: .any :: .any :: .any :: .any :: .any :: .any :: .any :: .any :: .any :: .any :: .any :: .any :: .any :: .any :: .any :: .any :: .any :: .any :: .any :: .any :: .any :: .any :: .any :: .any :: .any :: .any :: .any :: .any :: .any :: .any :: .any :: .any :: .any :: .any :: .any :: .any :: .any :: .any :: .any :: .any :: .any :: .any :: .any :: .any :: .any :: .any :: .any :: .any :: .any :: .any :: .any :: .any :: .any :: .any :: .any :: .any :: .any :: .any :: .any :: .any :: .any :: []), [.live (txc t), .live [.bool true, .str ByteArray.empty, .vec (flat itt (s :: m)) (m.length + 1) false], .live [.bool true, .str ByteArray.empty, rwV 3 3 (t.bs.take i)]] ++ rwH itt (t.bs.take i)⟩) (fun i => i ≤ t.bs.length) (fun i => t.bs.length - i) 0 (by omega) (by
      rw [List.take_zero]; exact wkt [0, 1, 2] (hh := by dsimp only [renS, renH, renL, renV, renB, hbAt, List.map_cons, List.map_nil, List.getElem?_cons_zero, List.getElem?_cons_succ]; (try simp only [renL_clean _ (cleans_flat _)]); try rfl)) ?_
    intro i hi K hK
    by_cases hil : i < t.bs.length
    · have c2 := rtxt_c t.bs[i]
      have hs : t.bs.take (i + 1) = t.bs.take i ++ [t.bs[i]] := List.take_succ_eq_append_getElem hil
      have hlen : (t.bs.take i).length = i := by rw [List.length_take]; omega
      cases hm : t.bs.take i with
      | nil =>
        rw [hm, List.nil_append] at hs
        dsimp only [rwV, rwH, List.cons_append, List.nil_append]
        refine wks ?_
        simp only [one_eq0, if_false, List.set_cons_zero, List.set_cons_succ, List.cons_append, List.nil_append, List.length_cons, List.length_nil, Nat.reduceAdd]
        refine hK _ (i + 1) (by omega) ?_ (by omega)
        rw [hs]
        dsimp only [rwV, rwH, List.cons_append, List.nil_append]
        rw [flat_single]
        exact wkt [0, 1, 2, 4] (hh := by dsimp only [renS, renH, renL, renV, renB, hbAt, List.map_cons, List.map_nil, List.getElem?_cons_zero, List.getElem?_cons_succ]; (try simp only [renL_clean _ (cleans_flat _)]); try rfl)
      | cons s2 m2 =>
        rw [hm, List.cons_append] at hs
        rw [hm, List.length_cons] at hlen
        have g1 : (flat itt (s2 :: m2)).length = (m2.length + 1) * 3 := by rw [flat_length]; rfl
        have g2 : flat itt (s2 :: (m2 ++ [t.bs[i]])) = flat itt (s2 :: m2) ++ itt t.bs[i] := by rw [← List.cons_append, flat_append, flat_single]
        have g3 : (m2 ++ [t.bs[i]]).length + 1 = m2.length + 1 + 1 := by simp
        dsimp only [rwV, rwH, List.cons_append, List.nil_append]
        refine wks ?_
        refine hK _ (i + 1) (by omega) ?_ (by omega)
        rw [hs]
        dsimp only [rwV, rwH, List.cons_append, List.nil_append]
        rw [g2, g3]
        exact wkt [0, 1, 2, 5] (hh := by dsimp only [renS, renH, renL, renV, renB, hbAt, List.map_cons, List.map_nil, List.getElem?_cons_zero, List.getElem?_cons_succ]; simp only [renL_append, renL_clean _ (cleans_flat _), renL, renV]; try rfl)
    · obtain rfl : i = t.bs.length := by omega
      rw [List.take_length]
      clear hK
      obtain ⟨s2, m2, hsm2⟩ : ∃ s2 m2, t.bs = s2 :: m2 := by
        cases hx : t.bs with
        | nil => rw [hx] at h1; simp at h1
        | cons s m => exact ⟨s, m, rfl⟩
      have hlb : t.bs.length = m2.length + 1 := by rw [hsm2]; rfl
      refine aw_exitJ ⟨(.any :: (.ptr 0 0) :: .any :: (.ptr 1 0) :: (.ptr 2 0) :: .any :: .any :: .any :: .any :: .any :: .any :: .any :: .any :: .any :: .any :: .any :: .any :: .any :: .any :: .any :: .any :: .any :: .any :: .any :: .any :: .any :: .any :: .any :: .any :: .any :: .any :: .any :: .any :: .any :: .any :: .any :: .any :: .any :: .any :: .any :: .any :: .any :: .any :: .any :: .any :: .any :: .any :: .any :: .any :: .any :: .any :: .any :: .any :: .any :: .any :: .any :: .any :: .any :: .any :: .any :: .any :: .any :: .any :: .any :: .any :: .any :: .any :: .any :: .any :: .any :: .any :: .any :: .any :: .any :: .any :: .any :: .any :: .any :: .any :: .any :: .any :: .any :: []), [.live (txc t), .live [.bool true, .str ByteArray.empty, .vec (flat itt (s :: m)) (m.length + 1) false], .live [.bool true, .str ByteArray.empty, .slc 3 0 3 (m2.length + 1) (m2.length + 1)], .live (flat itt (s2 :: m2))]⟩ ?_ ?_
      · rw [hsm2]
        rw [hsm2] at hil
        dsimp only [rwV, rwH, List.cons_append, List.nil_append]
        refine wks ?_
        exact wkt [0, 1, 2, 3] (hh := by dsimp only [renS, renH, renL, renV, renB, hbAt, List.map_cons, List.map_nil, List.getElem?_cons_zero, List.getElem?_cons_succ]; (try simp only [renL_clean _ (cleans_flat _)]); try rfl)
      refine aw_frzT [3] 2 ⟨(.any :: (.ptr 0 0) :: .any :: (.ptr 1 0) :: (.ptr 2 0) :: .any :: .any :: .any :: .any :: .any :: .any :: .any :: .any :: .any :: .any :: .any :: .any :: .any :: .any :: .any :: .any :: .any :: .any :: .any :: .any :: .any :: .any :: .any :: .any :: .any :: .any :: .any :: .any :: .any :: .any :: .any :: .any :: .any :: .any :: .any :: .any :: .any :: .any :: .any :: .any :: .any :: .any :: .any :: .any :: .any :: .any :: .any :: .any :: .any :: .any :: .any :: .any :: .any :: .any :: .any :: .any :: .any :: .any :: .any :: .any :: .any :: .any :: .any :: .any :: .any :: .any :: .any :: .any :: .any :: .any :: .any :: .any :: .any :: .any :: .any :: .any :: .any :: []), [.live (txc t), .live [.bool true, .str ByteArray.empty, .vec (flat itt (s :: m)) (m.length + 1) false], .live [.bool true, .str ByteArray.empty, .vec (flat itt (s2 :: m2)) (m2.length + 1) false], .dead]⟩ ?_ ?_
      · have q3 : ∀ (h : List HB) (S : List Nat) (d : Nat) (l : List ByteArray), frzL h S d (flat itt l) = flat itt l := fun h S d l => frzL_clean h S d (cleans_flat l)
        have q4 : ∀ (h : List HB) (S : List Nat) (d : Nat), frzL h S d (txc t) = txc t := fun h S d => frzL_clean h S d hct
        have q5 : List.take ((m2.length + 1) * 3) (flat itt (s2 :: m2)) = flat itt (s2 :: m2) := List.take_of_length_le (by rw [flat_length]; exact Nat.le_refl _)
        simp only [frzS, frzH, frzB, q4, q3]
        simp [frzL, frzV, frzAt, q5, q3]
      obtain ⟨n1, n2, n3, w1, w2, w3, w4, k1, k2, k3, k4⟩ := late.left
      clear late
      refine aw_seq ?_
      refine aw_draw1 ty_ok (pureL.erase 156) rfl (by kernel_rfl) ?_
      refine wks ?_
      refine st_call rfl rfl (calld_read [4] 2 (args' := [lsV (partsI t)]) (r := .tup [.str (bytesB t), .bool true]) ?_ (.tup _ fun v hv => by
        simp only [List.mem_cons, List.not_mem_nil, or_false] at hv
        rcases hv with rfl | rfl
        · exact .str _
        · exact .bool _) (cleans_cons (clean_lsV _) cleans_nil) citem.left) ?_
      · show frzL _ [4] 2 [V.agg [.bool true, .str ByteArray.empty, .slc 4 0 3 9 9]] = _
        unfold lsV partsI
        rw [hms, hsm2]
        simp [frzL, frzV, frzAt, flat, itc, itb, its, iti]
      refine wks ?_
      refine fin ?_
      rfl
end Go.Abs
