/- Items laid as bytes: texts, lists of items: the walks. -/
import Derived.Test.YtemlnaipcdajeaaGreatM17
set_option linter.unusedVariables false
set_option linter.unusedSimpArgs false
namespace Go.Abs
open Go Go.Proofs

/-- What laying an item says. -/
def LaidP (x : It) : Prop := ∀ (z : Bool) (B : ByteArray), (z = true → B = ByteArray.empty) → B.size < 900000 → AC Tryz.prog 181 [bA z B.size, itV x] (bH z B) (OutB (B ++ itR x))
set_option maxHeartbeats 20000000 in
theorem laid_t (s : ByteArray) (hs : s.size < 65536) : LaidP (.t s) := by
  intro z B hz hB
  show AC Tryz.prog 181 [bA z B.size, .agg [.bool false, .str s, .nils]] (bH z B) (OutB (B ++ rawT s))
  have c1 := alone_c s (by omega)
  have h3 := strCells_size B
  have h4 := strCells_size s
  have h5 := one_strCells s
  unfold rawT
  cases ha : aloneB s with
  | true =>
    rw [ha] at c1
    rw [if_pos rfl]
    have h1 : s.size = 1 := (of_decide_eq_true ha).1
    cases z with
    | true =>
      rw [hz rfl, ByteArray.empty_append]
      (refine enter Tryz.func181 Tryz.results181 Tryz.ntmps181 ty_ok (hw := fun F hF => ?_); simp only [List.length_cons, List.length_nil, Nat.reduceAdd, Nat.reduceSub, List.replicate_succ, List.replicate_zero, List.cons_append, List.nil_append]; apply hF; clear hF F)
      refine wk ?_
      refine fin ?_
      rw [if_neg (by omega), if_neg (by omega)]
      exact outB_at 1 rfl rfl rfl
    | false =>
      (refine enter Tryz.func181 Tryz.results181 Tryz.ntmps181 ty_ok (hw := fun F hF => ?_); simp only [List.length_cons, List.length_nil, Nat.reduceAdd, Nat.reduceSub, List.replicate_succ, List.replicate_zero, List.cons_append, List.nil_append]; apply hF; clear hF F)
      refine wk ?_
      refine fin ?_
      exact outB_at 2 rfl (by rw [strCells_append]; try rfl) (by rw [ByteArray.size_append]; try rfl)
  | false =>
    rw [ha] at c1
    rw [if_neg (by simp)]
    have hh := headB_size 128 s.size
    have hl := aheadN_le hs
    cases z with
    | true =>
      have cf := front_a true ByteArray.empty 128 s.size (fun _ => rfl) (by show 0 < _; omega) (by omega) hs
      rw [hz rfl, ByteArray.empty_append]
      rw [ByteArray.empty_append] at cf
      have hcall : CallD Tryz.prog 200 [.nils, .int .i64 128, .int .i64 s.size] [.live [.bool false, .str s, .nils]] (bV 1 (headB 128 s.size).size) [.live [.bool false, .str s, .nils], .live (strCells (headB 128 s.size))] := calld_nil rfl cf
      have h6 := strCells_size (headB 128 s.size)
      generalize headB 128 s.size = X at *
      (refine enter Tryz.func181 Tryz.results181 Tryz.ntmps181 ty_ok (hw := fun F hF => ?_); simp only [List.length_cons, List.length_nil, Nat.reduceAdd, Nat.reduceSub, List.replicate_succ, List.replicate_zero, List.cons_append, List.nil_append]; apply hF; clear hF F)
      refine wk ?_
      refine st_call rfl rfl hcall ?_
      refine wk ?_
      refine fin ?_
      exact outB_at 2 rfl (by rw [strCells_append]; try rfl) (by rw [ByteArray.size_append]; try rfl)
    | false =>
      have cf := front_a false B 128 s.size (fun h => by cases h) (by omega) (by omega) hs
      have hcall : CallD Tryz.prog 200 [bV 0 B.size, .int .i64 128, .int .i64 s.size] [.live (strCells B), .live [.bool false, .str s, .nils]] (bV 2 (B ++ headB 128 s.size).size) [.dead, .live [.bool false, .str s, .nils], .live (strCells (B ++ headB 128 s.size))] := calld_bytes (b := 0) rfl rfl cf
      have h6 := strCells_size (B ++ headB 128 s.size)
      have h7 := ByteArray.size_append (a := B) (b := headB 128 s.size)
      rw [← ByteArray.append_assoc]
      generalize B ++ headB 128 s.size = X at *
      (refine enter Tryz.func181 Tryz.results181 Tryz.ntmps181 ty_ok (hw := fun F hF => ?_); simp only [List.length_cons, List.length_nil, Nat.reduceAdd, Nat.reduceSub, List.replicate_succ, List.replicate_zero, List.cons_append, List.nil_append]; apply hF; clear hF F)
      refine wk ?_
      refine st_call rfl rfl hcall ?_
      refine wk ?_
      refine fin ?_
      exact outB_at 3 rfl (by rw [strCells_append]; try rfl) (by rw [ByteArray.size_append]; try rfl)
theorem ieach_c (xs : List It) (H : List HB) : CallD Tryz.prog 199 [lsV xs] H (.fn 210 [.ptr H.length 0]) (H ++ [.live [.bool true, .str ByteArray.empty, .vec (flat itc xs) xs.length false]]) := by
  unfold CallD lsV
  (refine enter Tryz.func199 Tryz.results199 Tryz.ntmps199 ty_ok (hw := fun F hF => ?_); simp only [List.length_cons, List.length_nil, Nat.reduceAdd, Nat.reduceSub, List.replicate_succ, List.replicate_zero, List.cons_append, List.nil_append]; apply hF; clear hF F)
  refine wk ?_
  refine fin ?_
  exact ⟨rfl, rfl⟩
theorem catB_take_le : ∀ (l : List ByteArray) (i : Nat), (catB (l.take i)).size ≤ (catB l).size
  | [], i => by simp
  | a :: l, 0 => by show ByteArray.empty.size ≤ _; exact Nat.zero_le _
  | a :: l, i + 1 => by
    have := catB_take_le l i
    rw [List.take_succ_cons, catB, catB, ByteArray.size_append, ByteArray.size_append]; omega
set_option maxHeartbeats 20000000 in
theorem laid_l (xs : List It) (h0 : 0 < xs.length) (hxl : xs.length < 1000) (hx : ∀ x ∈ xs, LaidP x) (hcp : ∀ x ∈ xs, Pure Tryz.prog 211 [itV x] (itV x)) (hsz : (catB (xs.map itR)).size < 65536)
    (z : Bool) (B : ByteArray) (hz : z = true → B = ByteArray.empty) (hB : B.size < 900000) : AC Tryz.prog 181 [bA z B.size, lsV xs] (bH z B) (OutB (B ++ lsR xs)) := by
  have h3 := strCells_size B
  have rS : ∀ (σ : List Nat) (s : ByteArray), renL σ (strCells s) = strCells s := fun σ s => renL_clean σ (clean_strCells s)
  have rF : ∀ σ : List Nat, renL σ (flat itc xs) = flat itc xs := fun σ => renL_clean σ (cleans_flat xs)
  have rI : ∀ (σ : List Nat) (x : It), renV σ (iti x) = iti x := fun σ x => renV_clean σ (clean_iti x)
  cases z with
  | true =>
    have hbe := ieach_c xs [.live [.bool true, .str ByteArray.empty, .vec (flat itc xs) xs.length false], .live [.nils]]
    simp only [List.length_cons, List.length_nil, List.cons_append, List.nil_append, Nat.reduceAdd] at hbe
    unfold lsV at hbe ⊢
    (refine enter Tryz.func181 Tryz.results181 Tryz.ntmps181 ty_ok (hw := fun F hF => ?_); simp only [List.length_cons, List.length_nil, Nat.reduceAdd, Nat.reduceSub, List.replicate_succ, List.replicate_zero, List.cons_append, List.nil_append]; apply hF; clear hF F)
    refine wk ?_
    refine st_call rfl rfl hbe ?_
    refine wk ?_
    refine aw_wk (wkt (t' := (.nils :: .any :: .any :: (.ptr 0 0) :: .nils :: (.ptr 1 0) :: .any :: .any :: .any :: .any :: .any :: (.fn 210 [.ptr 2 0]) :: .any :: .any :: .any :: .any :: .any :: .any :: .any :: .any :: .any :: .any :: .any :: .any :: .any :: .any :: .any :: .any :: .any :: .any :: .any :: .any :: .any :: .any :: .any :: .any :: [])) (h' := [.live [.bool true, .str ByteArray.empty, .vec (flat itc xs) xs.length false], .live [.nils], .live [.bool true, .str ByteArray.empty, .vec (flat itc xs) xs.length false]]) [0, 1, 2] (hh := by dsimp only [renS, renH, renL, renV, renB, hbAt, List.map_cons, List.map_nil, List.getElem?_cons_zero, List.getElem?_cons_succ]; simp only [rS, rF]; try rfl)) ?_
    refine aw_rangeL rfl (enters_of Tryz.func210 (by decide) rfl) fun LB hLB => ?_
    simp only [List.length_cons, List.length_nil, List.cons_append, List.nil_append, Nat.reduceAdd]
    have hLt : renL [0, 1, 2, 3] LB.t = LB.t := by rw [hLB]; rfl
    have hLt0 : renL [0, 1, 2, 3, 5] LB.t = LB.t := by rw [hLB]; rfl
    have hLt1 : renL [0, 1, 2, 3, 6] LB.t = LB.t := by rw [hLB]; rfl
    have hr0 : RoundD Tryz.prog LB [itV xs[0]] [.live [.bool true, .str ByteArray.empty, .vec (flat itc xs) xs.length false], .live [.nils], .live [.bool true, .str ByteArray.empty, .vec (flat itc xs) xs.length false], .dead, .live [.bool (itb xs[0]), .str (its xs[0]), iti xs[0]]] [.live [.bool true, .str ByteArray.empty, .vec (flat itc xs) xs.length false], .live [bV 5 (itR xs[0]).size], .live [.bool true, .str ByteArray.empty, .vec (flat itc xs) xs.length false], .dead, .live [.bool (itb xs[0]), .str (its xs[0]), iti xs[0]], .live (strCells (itR xs[0]))] := by
      have hlay := hx xs[0] (List.getElem_mem h0) true ByteArray.empty (fun _ => rfl) (by show 0 < _; omega)
      rw [ByteArray.empty_append] at hlay
      have hci := clean_iti xs[0]
      have hone : ∀ v ∈ [V.bool (itb xs[0]), V.str (its xs[0]), iti xs[0]], v.one = true := Rows.one (f := itc) xs[0]
      have hcall : CallD Tryz.prog 181 [.nils, itV xs[0]] [.live [.bool true, .str ByteArray.empty, .vec (flat itc xs) xs.length false], .live [.nils], .live [.bool true, .str ByteArray.empty, .vec (flat itc xs) xs.length false], .dead, .live [.bool (itb xs[0]), .str (its xs[0]), iti xs[0]], .live [.bool (itb xs[0]), .str (its xs[0]), iti xs[0]]] (bV 6 (itR xs[0]).size) [.live [.bool true, .str ByteArray.empty, .vec (flat itc xs) xs.length false], .live [.nils], .live [.bool true, .str ByteArray.empty, .vec (flat itc xs) xs.length false], .dead, .live [.bool (itb xs[0]), .str (its xs[0]), iti xs[0]], .live [.bool (itb xs[0]), .str (its xs[0]), iti xs[0]], .live (strCells (itR xs[0]))] := calld_nil (by show [_, renV _ (itV _)] = _; rw [renV_clean _ (clean_itV _)]; rfl) hlay
      rw [hLB]
      refine roundD_of rfl rfl rfl rfl fun K hK => ?_
      dsimp only [roundT, List.zip, List.zipWith, List.foldl, List.set]
      refine wk ?_
      refine st_call rfl rfl hcall ?_
      refine wk ?_
      refine hK _ (wkh [0, 1, 2, 3, 4, 6] rfl (by decide) ?_)
      dsimp only [renS, renH, renL, renV, renB, hbAt, List.map_cons, List.map_nil, List.getElem?_cons_zero, List.getElem?_cons_succ]
      simp only [rS, rF, rI]
      try rfl
    have hr1 : ∀ (i : Nat) (hi : i < xs.length) (C : ByteArray), C.size < 65536 → RoundD Tryz.prog LB [itV xs[i]] [.live [.bool true, .str ByteArray.empty, .vec (flat itc xs) xs.length false], .live [bV 4 C.size], .live [.bool true, .str ByteArray.empty, .vec (flat itc xs) xs.length false], .dead, .live (strCells C), .live [.bool (itb xs[i]), .str (its xs[i]), iti xs[i]]] [.live [.bool true, .str ByteArray.empty, .vec (flat itc xs) xs.length false], .live [bV 6 (C ++ itR xs[i]).size], .live [.bool true, .str ByteArray.empty, .vec (flat itc xs) xs.length false], .dead, .dead, .live [.bool (itb xs[i]), .str (its xs[i]), iti xs[i]], .live (strCells (C ++ itR xs[i]))] := by
      intro i hi C hC
      have hlay := hx xs[i] (List.getElem_mem hi) false C (fun h => by cases h) (by omega)
      have hci := clean_iti xs[i]
      have hone : ∀ v ∈ [V.bool (itb xs[i]), V.str (its xs[i]), iti xs[i]], v.one = true := Rows.one (f := itc) xs[i]
      have hcall : CallD Tryz.prog 181 [bV 4 C.size, itV xs[i]] [.live [.bool true, .str ByteArray.empty, .vec (flat itc xs) xs.length false], .live [bV 4 C.size], .live [.bool true, .str ByteArray.empty, .vec (flat itc xs) xs.length false], .dead, .live (strCells C), .live [.bool (itb xs[i]), .str (its xs[i]), iti xs[i]], .live [.bool (itb xs[i]), .str (its xs[i]), iti xs[i]]] (bV 7 (C ++ itR xs[i]).size) [.live [.bool true, .str ByteArray.empty, .vec (flat itc xs) xs.length false], .live [bV 4 C.size], .live [.bool true, .str ByteArray.empty, .vec (flat itc xs) xs.length false], .dead, .dead, .live [.bool (itb xs[i]), .str (its xs[i]), iti xs[i]], .live [.bool (itb xs[i]), .str (its xs[i]), iti xs[i]], .live (strCells (C ++ itR xs[i]))] := calld_bytes (b := 4) rfl (by show [_, renV _ (itV _)] = _; rw [renV_clean _ (clean_itV _)]; rfl) hlay
      rw [hLB]
      refine roundD_of rfl rfl rfl rfl fun K hK => ?_
      dsimp only [roundT, List.zip, List.zipWith, List.foldl, List.set]
      refine wk ?_
      refine st_call rfl rfl hcall ?_
      refine wk ?_
      refine hK _ (wkh [0, 1, 2, 3, 4, 5, 7] rfl (by decide) ?_)
      dsimp only [renS, renH, renL, renV, renB, hbAt, List.map_cons, List.map_nil, List.getElem?_cons_zero, List.getElem?_cons_succ]
      rw [renL_clean _ (cleans_flat xs), renL_clean _ (clean_strCells (C ++ itR xs[i])), renV_clean _ (clean_iti _)]
      rfl
    clear hLB hx
    have hrl : (xs.map itR).length = xs.length := List.length_map ..
    have hrs := catB_take_le (xs.map itR)
    (refine enter Tryz.func210 Tryz.results210 Tryz.ntmps210 ty_ok (hw := fun F hF => ?_); simp only [List.length_cons, List.length_nil, Nat.reduceAdd, Nat.reduceSub, List.replicate_succ, List.replicate_zero, List.cons_append, List.nil_append]; apply hF; clear hF F)
    refine wk ?_
    refine aw_loopI (fun (i : Nat) => match i with
      | 0 => ⟨((.yld 3) :: (.ptr 2 0) :: .any :: .any :: .any :: .any :: .any :: .any :: .any :: (.vec (flat itc xs) xs.length false) :: (.int .i64 xs.length) :: (.int .i64 0) :: .any :: .any :: .any :: .any :: .any :: .any :: .any :: .any :: .any :: []), [.live [.bool true, .str ByteArray.empty, .vec (flat itc xs) xs.length false], .live [.nils], .live [.bool true, .str ByteArray.empty, .vec (flat itc xs) xs.length false], .loop LB]⟩
      | i + 1 => ⟨((.yld 3) :: (.ptr 2 0) :: .any :: .any :: .any :: .any :: .any :: .any :: .any :: (.vec (flat itc xs) xs.length false) :: (.int .i64 xs.length) :: (.int .i64 ((i : Int) + 1)) :: .any :: .any :: .any :: .any :: .any :: .any :: .any :: .any :: .any :: []), [.live [.bool true, .str ByteArray.empty, .vec (flat itc xs) xs.length false], .live [bV 4 (catB ((xs.map itR).take (i + 1))).size], .live [.bool true, .str ByteArray.empty, .vec (flat itc xs) xs.length false], .loop LB, .live (strCells (catB ((xs.map itR).take (i + 1))))]⟩) (fun i => i ≤ xs.length) (fun i => xs.length - i) 0 (by omega) (wkt [0, 1, 2, 3] (hh := by dsimp only [renS, renH, renL, renV, renB, hbAt, List.map_cons, List.map_nil, List.getElem?_cons_zero, List.getElem?_cons_succ]; simp only [hLt, rS, rF, rI]; try rfl)) ?_
    intro i hi K hK
    cases i with
    | zero =>
      dsimp only
      have hcp0 := hcp xs[0] (List.getElem_mem h0)
      clear hcp
      have hone : ∀ v ∈ [V.bool (itb xs[0]), V.str (its xs[0]), iti xs[0]], v.one = true := Rows.one (f := itc) xs[0]
      have e1 : catB ((xs.map itR).take (0 + 1)) = itR xs[0] := by
        rw [catB_take (by rw [hrl]; exact h0), List.take_zero, List.getElem_map]
        show ByteArray.empty ++ _ = _
        rw [ByteArray.empty_append]
      have ht0 : List.take 3 (flat itc xs) = [.bool (itb xs[0]), .str (its xs[0]), iti xs[0]] := by
        have := flat_take (f := itc) xs 0 h0
        rw [Nat.zero_mul, List.drop_zero] at this
        exact this
      refine wk ?_
      (refine aseq_fx (fun F hF => ?_); simp only [ht0]; apply hF; clear hF F)
      refine wk ?_
      refine st_yield (n := 3) (lb := LB) rfl rfl rfl rfl hr0 ?_
      refine wk ?_
      refine hK _ 1 (by omega) ?_ (by omega)
      show Wk _ _ ⟨_, [.live [.bool true, .str ByteArray.empty, .vec (flat itc xs) xs.length false], .live [bV 4 (catB ((xs.map itR).take (0 + 1))).size], .live [.bool true, .str ByteArray.empty, .vec (flat itc xs) xs.length false], .loop LB, .live (strCells (catB ((xs.map itR).take (0 + 1))))]⟩
      rw [e1]
      exact wkt [0, 1, 2, 3, 5] (hh := by dsimp only [renS, renH, renL, renV, renB, hbAt, List.map_cons, List.map_nil, List.getElem?_cons_zero, List.getElem?_cons_succ]; rw [hLt0, renL_clean _ (cleans_flat xs), renL_clean _ (clean_strCells (itR xs[0]))]; rfl)
    | succ i =>
      dsimp only
      by_cases h1 : i + 1 < xs.length
      · have hcp0 := hcp xs[i + 1] (List.getElem_mem h1)
        clear hcp
        have hone : ∀ v ∈ [V.bool (itb xs[i + 1]), V.str (its xs[i + 1]), iti xs[i + 1]], v.one = true := Rows.one (f := itc) xs[i + 1]
        have e1 : catB ((xs.map itR).take (i + 1 + 1)) = catB ((xs.map itR).take (i + 1)) ++ itR xs[i + 1] := by
          rw [catB_take (by rw [hrl]; exact h1), List.getElem_map]
        have hC := hrs (i + 1)
        have hr := hr1 (i + 1) h1 (catB ((xs.map itR).take (i + 1))) (by omega)
        have ei : ((i : Int) + 1).toNat = i + 1 := by omega
        have ht1 : List.take 3 (List.drop ((i + 1) * 3) (flat itc xs)) = [.bool (itb xs[i + 1]), .str (its xs[i + 1]), iti xs[i + 1]] := flat_take (f := itc) xs (i + 1) h1
        generalize catB ((xs.map itR).take (i + 1)) = C at *
        refine wk ?_
        (refine aseq_fx (fun F hF => ?_); simp only [ei, ht1]; apply hF; clear hF F)
        refine wk ?_
        refine st_yield (n := 3) (lb := LB) rfl rfl rfl rfl hr ?_
        refine wk ?_
        refine hK _ (i + 1 + 1) (by omega) ?_ (by omega)
        show Wk _ _ ⟨_, [.live [.bool true, .str ByteArray.empty, .vec (flat itc xs) xs.length false], .live [bV 4 (catB ((xs.map itR).take (i + 1 + 1))).size], .live [.bool true, .str ByteArray.empty, .vec (flat itc xs) xs.length false], .loop LB, .live (strCells (catB ((xs.map itR).take (i + 1 + 1))))]⟩
        rw [e1]
        exact wkt [0, 1, 2, 3, 6] (hh := by dsimp only [renS, renH, renL, renV, renB, hbAt, List.map_cons, List.map_nil, List.getElem?_cons_zero, List.getElem?_cons_succ]; rw [hLt1, renL_clean _ (cleans_flat xs), renL_clean _ (clean_strCells (C ++ itR xs[i + 1]))]; rfl)
      · have e1 : catB ((xs.map itR).take (i + 1)) = catB (xs.map itR) := by rw [List.take_of_length_le (by rw [hrl]; omega)]
        rw [e1]
        unfold lsR rawL
        generalize catB (xs.map itR) = C at *
        refine wk ?_
        refine fin ?_
        refine ⟨rfl, ?_⟩
        try dsimp only [List.set]
        have hcf : CallD Tryz.prog 200 [.nils, .int .i64 192, .int .i64 C.size] [.live [.bool true, .str ByteArray.empty, .vec (flat itc xs) xs.length false], .live [bV 4 C.size], .live [.bool true, .str ByteArray.empty, .vec (flat itc xs) xs.length false], .dead, .live (strCells C)] (bV 5 (ByteArray.empty ++ headB 192 C.size).size) [.live [.bool true, .str ByteArray.empty, .vec (flat itc xs) xs.length false], .live [bV 4 C.size], .live [.bool true, .str ByteArray.empty, .vec (flat itc xs) xs.length false], .dead, .live (strCells C), .live (strCells (ByteArray.empty ++ headB 192 C.size))] := calld_nil rfl (front_a true ByteArray.empty 192 C.size (fun _ => rfl) (by show 0 < _; omega) (by omega) (by omega))
        have h6 := strCells_size (ByteArray.empty ++ headB 192 C.size)
        have h7 := headB_size 192 C.size
        have h8 := aheadN_le (n := C.size) (by omega)
        have h9 := ByteArray.size_append (a := ByteArray.empty) (b := headB 192 C.size)
        have h10 := strCells_size C
        have h15 : ByteArray.empty.size = 0 := rfl
        have h11 := one_strCells C
        have h12 : List.take (C.size * 1) (strCells C) = strCells C := List.take_of_length_le (by omega)
        have h13 : (List.take (C.size * 1) (strCells C)).length = C.size * 1 := by rw [h12, h10, Nat.mul_one]
        have h14 : ∀ v ∈ List.take (C.size * 1) (strCells C), v.one = true := by rw [h12]; exact h11
        rw [hz rfl]
        rw [← ByteArray.append_assoc]
        generalize (ByteArray.empty ++ headB 192 C.size) = X at *
        refine blockK_n (thenK_n ?_)
        refine aw_seq ?_
        (refine aw_drawS ty_ok pureL [3, 4] [[0, 1, 2, 3, 4, 5, 6], [0, 1, 2, 4, 3, 5, 6]] (by kernel_rfl) (by repeat (first | exact List.forall_mem_nil _ | refine List.forall_mem_cons.2 ⟨rfl, ?_⟩)) ?_; simp only [List.forall_mem_cons, List.forall_mem_nil, and_true, List.not_mem_nil, false_implies, implies_true, pk, List.map_cons, List.map_nil, List.getD_cons_zero, List.getD_cons_succ])
        refine ⟨?_, ?_⟩
        · refine wk ?_
          refine st_call rfl rfl hcf ?_
          refine wk ?_
          refine fin ?_
          exact outB_at 6 rfl (by rw [strCells_append]; exact congrArg (strCells X ++ ·) h12) (by rw [ByteArray.size_append])
        · refine wk ?_
          refine st_call rfl rfl hcf ?_
          refine wk ?_
          refine fin ?_
          exact outB_at 6 rfl (by rw [strCells_append]; exact congrArg (strCells X ++ ·) h12) (by rw [ByteArray.size_append])
  | false =>
    have hbe := ieach_c xs [.live (strCells B), .live [.bool true, .str ByteArray.empty, .vec (flat itc xs) xs.length false], .live [.nils]]
    simp only [List.length_cons, List.length_nil, List.cons_append, List.nil_append, Nat.reduceAdd] at hbe
    unfold lsV at hbe ⊢
    (refine enter Tryz.func181 Tryz.results181 Tryz.ntmps181 ty_ok (hw := fun F hF => ?_); simp only [List.length_cons, List.length_nil, Nat.reduceAdd, Nat.reduceSub, List.replicate_succ, List.replicate_zero, List.cons_append, List.nil_append]; apply hF; clear hF F)
    refine wk ?_
    refine st_call rfl rfl hbe ?_
    refine wk ?_
    refine aw_wk (wkt (t' := ((bV 0 B.size) :: .any :: .any :: (.ptr 1 0) :: .nils :: (.ptr 2 0) :: .any :: .any :: .any :: .any :: .any :: (.fn 210 [.ptr 3 0]) :: .any :: .any :: .any :: .any :: .any :: .any :: .any :: .any :: .any :: .any :: .any :: .any :: .any :: .any :: .any :: .any :: .any :: .any :: .any :: .any :: .any :: .any :: .any :: .any :: [])) (h' := [.live (strCells B), .live [.bool true, .str ByteArray.empty, .vec (flat itc xs) xs.length false], .live [.nils], .live [.bool true, .str ByteArray.empty, .vec (flat itc xs) xs.length false]]) [0, 1, 2, 3] (hh := by dsimp only [renS, renH, renL, renV, renB, hbAt, List.map_cons, List.map_nil, List.getElem?_cons_zero, List.getElem?_cons_succ]; simp only [rS, rF]; try rfl)) ?_
    refine aw_rangeL rfl (enters_of Tryz.func210 (by decide) rfl) fun LB hLB => ?_
    simp only [List.length_cons, List.length_nil, List.cons_append, List.nil_append, Nat.reduceAdd]
    have hLt : renL [0, 1, 2, 3, 4] LB.t = LB.t := by rw [hLB]; rfl
    have hLt0 : renL [0, 1, 2, 3, 4, 6] LB.t = LB.t := by rw [hLB]; rfl
    have hLt1 : renL [0, 1, 2, 3, 4, 7] LB.t = LB.t := by rw [hLB]; rfl
    have hr0 : RoundD Tryz.prog LB [itV xs[0]] [.live (strCells B), .live [.bool true, .str ByteArray.empty, .vec (flat itc xs) xs.length false], .live [.nils], .live [.bool true, .str ByteArray.empty, .vec (flat itc xs) xs.length false], .dead, .live [.bool (itb xs[0]), .str (its xs[0]), iti xs[0]]] [.live (strCells B), .live [.bool true, .str ByteArray.empty, .vec (flat itc xs) xs.length false], .live [bV 6 (itR xs[0]).size], .live [.bool true, .str ByteArray.empty, .vec (flat itc xs) xs.length false], .dead, .live [.bool (itb xs[0]), .str (its xs[0]), iti xs[0]], .live (strCells (itR xs[0]))] := by
      have hlay := hx xs[0] (List.getElem_mem h0) true ByteArray.empty (fun _ => rfl) (by show 0 < _; omega)
      rw [ByteArray.empty_append] at hlay
      have hci := clean_iti xs[0]
      have hone : ∀ v ∈ [V.bool (itb xs[0]), V.str (its xs[0]), iti xs[0]], v.one = true := Rows.one (f := itc) xs[0]
      have hcall : CallD Tryz.prog 181 [.nils, itV xs[0]] [.live (strCells B), .live [.bool true, .str ByteArray.empty, .vec (flat itc xs) xs.length false], .live [.nils], .live [.bool true, .str ByteArray.empty, .vec (flat itc xs) xs.length false], .dead, .live [.bool (itb xs[0]), .str (its xs[0]), iti xs[0]], .live [.bool (itb xs[0]), .str (its xs[0]), iti xs[0]]] (bV 7 (itR xs[0]).size) [.live (strCells B), .live [.bool true, .str ByteArray.empty, .vec (flat itc xs) xs.length false], .live [.nils], .live [.bool true, .str ByteArray.empty, .vec (flat itc xs) xs.length false], .dead, .live [.bool (itb xs[0]), .str (its xs[0]), iti xs[0]], .live [.bool (itb xs[0]), .str (its xs[0]), iti xs[0]], .live (strCells (itR xs[0]))] := calld_nil (by show [_, renV _ (itV _)] = _; rw [renV_clean _ (clean_itV _)]; rfl) hlay
      rw [hLB]
      refine roundD_of rfl rfl rfl rfl fun K hK => ?_
      dsimp only [roundT, List.zip, List.zipWith, List.foldl, List.set]
      refine wk ?_
      refine st_call rfl rfl hcall ?_
      refine wk ?_
      refine hK _ (wkh [0, 1, 2, 3, 4, 5, 7] rfl (by decide) ?_)
      dsimp only [renS, renH, renL, renV, renB, hbAt, List.map_cons, List.map_nil, List.getElem?_cons_zero, List.getElem?_cons_succ]
      simp only [rS, rF, rI]
      try rfl
    have hr1 : ∀ (i : Nat) (hi : i < xs.length) (C : ByteArray), C.size < 65536 → RoundD Tryz.prog LB [itV xs[i]] [.live (strCells B), .live [.bool true, .str ByteArray.empty, .vec (flat itc xs) xs.length false], .live [bV 5 C.size], .live [.bool true, .str ByteArray.empty, .vec (flat itc xs) xs.length false], .dead, .live (strCells C), .live [.bool (itb xs[i]), .str (its xs[i]), iti xs[i]]] [.live (strCells B), .live [.bool true, .str ByteArray.empty, .vec (flat itc xs) xs.length false], .live [bV 7 (C ++ itR xs[i]).size], .live [.bool true, .str ByteArray.empty, .vec (flat itc xs) xs.length false], .dead, .dead, .live [.bool (itb xs[i]), .str (its xs[i]), iti xs[i]], .live (strCells (C ++ itR xs[i]))] := by
      intro i hi C hC
      have hlay := hx xs[i] (List.getElem_mem hi) false C (fun h => by cases h) (by omega)
      have hci := clean_iti xs[i]
      have hone : ∀ v ∈ [V.bool (itb xs[i]), V.str (its xs[i]), iti xs[i]], v.one = true := Rows.one (f := itc) xs[i]
      have hcall : CallD Tryz.prog 181 [bV 5 C.size, itV xs[i]] [.live (strCells B), .live [.bool true, .str ByteArray.empty, .vec (flat itc xs) xs.length false], .live [bV 5 C.size], .live [.bool true, .str ByteArray.empty, .vec (flat itc xs) xs.length false], .dead, .live (strCells C), .live [.bool (itb xs[i]), .str (its xs[i]), iti xs[i]], .live [.bool (itb xs[i]), .str (its xs[i]), iti xs[i]]] (bV 8 (C ++ itR xs[i]).size) [.live (strCells B), .live [.bool true, .str ByteArray.empty, .vec (flat itc xs) xs.length false], .live [bV 5 C.size], .live [.bool true, .str ByteArray.empty, .vec (flat itc xs) xs.length false], .dead, .dead, .live [.bool (itb xs[i]), .str (its xs[i]), iti xs[i]], .live [.bool (itb xs[i]), .str (its xs[i]), iti xs[i]], .live (strCells (C ++ itR xs[i]))] := calld_bytes (b := 5) rfl (by show [_, renV _ (itV _)] = _; rw [renV_clean _ (clean_itV _)]; rfl) hlay
      rw [hLB]
      refine roundD_of rfl rfl rfl rfl fun K hK => ?_
      dsimp only [roundT, List.zip, List.zipWith, List.foldl, List.set]
      refine wk ?_
      refine st_call rfl rfl hcall ?_
      refine wk ?_
      refine hK _ (wkh [0, 1, 2, 3, 4, 5, 6, 8] rfl (by decide) ?_)
      dsimp only [renS, renH, renL, renV, renB, hbAt, List.map_cons, List.map_nil, List.getElem?_cons_zero, List.getElem?_cons_succ]
      rw [renL_clean _ (cleans_flat xs), renL_clean _ (clean_strCells (C ++ itR xs[i])), renV_clean _ (clean_iti _), renL_clean _ (clean_strCells B)]
      rfl
    clear hLB hx
    have hrl : (xs.map itR).length = xs.length := List.length_map ..
    have hrs := catB_take_le (xs.map itR)
    (refine enter Tryz.func210 Tryz.results210 Tryz.ntmps210 ty_ok (hw := fun F hF => ?_); simp only [List.length_cons, List.length_nil, Nat.reduceAdd, Nat.reduceSub, List.replicate_succ, List.replicate_zero, List.cons_append, List.nil_append]; apply hF; clear hF F)
    refine wk ?_
    refine aw_loopI (fun (i : Nat) => match i with
      | 0 => ⟨((.yld 4) :: (.ptr 3 0) :: .any :: .any :: .any :: .any :: .any :: .any :: .any :: (.vec (flat itc xs) xs.length false) :: (.int .i64 xs.length) :: (.int .i64 0) :: .any :: .any :: .any :: .any :: .any :: .any :: .any :: .any :: .any :: []), [.live (strCells B), .live [.bool true, .str ByteArray.empty, .vec (flat itc xs) xs.length false], .live [.nils], .live [.bool true, .str ByteArray.empty, .vec (flat itc xs) xs.length false], .loop LB]⟩
      | i + 1 => ⟨((.yld 4) :: (.ptr 3 0) :: .any :: .any :: .any :: .any :: .any :: .any :: .any :: (.vec (flat itc xs) xs.length false) :: (.int .i64 xs.length) :: (.int .i64 ((i : Int) + 1)) :: .any :: .any :: .any :: .any :: .any :: .any :: .any :: .any :: .any :: []), [.live (strCells B), .live [.bool true, .str ByteArray.empty, .vec (flat itc xs) xs.length false], .live [bV 5 (catB ((xs.map itR).take (i + 1))).size], .live [.bool true, .str ByteArray.empty, .vec (flat itc xs) xs.length false], .loop LB, .live (strCells (catB ((xs.map itR).take (i + 1))))]⟩) (fun i => i ≤ xs.length) (fun i => xs.length - i) 0 (by omega) (wkt [0, 1, 2, 3, 4] (hh := by dsimp only [renS, renH, renL, renV, renB, hbAt, List.map_cons, List.map_nil, List.getElem?_cons_zero, List.getElem?_cons_succ]; simp only [hLt, rS, rF, rI]; try rfl)) ?_
    intro i hi K hK
    cases i with
    | zero =>
      dsimp only
      have hcp0 := hcp xs[0] (List.getElem_mem h0)
      clear hcp
      have hone : ∀ v ∈ [V.bool (itb xs[0]), V.str (its xs[0]), iti xs[0]], v.one = true := Rows.one (f := itc) xs[0]
      have e1 : catB ((xs.map itR).take (0 + 1)) = itR xs[0] := by
        rw [catB_take (by rw [hrl]; exact h0), List.take_zero, List.getElem_map]
        show ByteArray.empty ++ _ = _
        rw [ByteArray.empty_append]
      have ht0 : List.take 3 (flat itc xs) = [.bool (itb xs[0]), .str (its xs[0]), iti xs[0]] := by
        have := flat_take (f := itc) xs 0 h0
        rw [Nat.zero_mul, List.drop_zero] at this
        exact this
      refine wk ?_
      (refine aseq_fx (fun F hF => ?_); simp only [ht0]; apply hF; clear hF F)
      refine wk ?_
      refine st_yield (n := 4) (lb := LB) rfl rfl rfl rfl hr0 ?_
      refine wk ?_
      refine hK _ 1 (by omega) ?_ (by omega)
      show Wk _ _ ⟨_, [.live (strCells B), .live [.bool true, .str ByteArray.empty, .vec (flat itc xs) xs.length false], .live [bV 5 (catB ((xs.map itR).take (0 + 1))).size], .live [.bool true, .str ByteArray.empty, .vec (flat itc xs) xs.length false], .loop LB, .live (strCells (catB ((xs.map itR).take (0 + 1))))]⟩
      rw [e1]
      exact wkt [0, 1, 2, 3, 4, 6] (hh := by dsimp only [renS, renH, renL, renV, renB, hbAt, List.map_cons, List.map_nil, List.getElem?_cons_zero, List.getElem?_cons_succ]; rw [hLt0, renL_clean _ (cleans_flat xs), renL_clean _ (clean_strCells (itR xs[0])), renL_clean _ (clean_strCells B)]; rfl)
    | succ i =>
      dsimp only
      by_cases h1 : i + 1 < xs.length
      · have hcp0 := hcp xs[i + 1] (List.getElem_mem h1)
        clear hcp
        have hone : ∀ v ∈ [V.bool (itb xs[i + 1]), V.str (its xs[i + 1]), iti xs[i + 1]], v.one = true := Rows.one (f := itc) xs[i + 1]
        have e1 : catB ((xs.map itR).take (i + 1 + 1)) = catB ((xs.map itR).take (i + 1)) ++ itR xs[i + 1] := by
          rw [catB_take (by rw [hrl]; exact h1), List.getElem_map]
        have hC := hrs (i + 1)
        have hr := hr1 (i + 1) h1 (catB ((xs.map itR).take (i + 1))) (by omega)
        have ei : ((i : Int) + 1).toNat = i + 1 := by omega
        have ht1 : List.take 3 (List.drop ((i + 1) * 3) (flat itc xs)) = [.bool (itb xs[i + 1]), .str (its xs[i + 1]), iti xs[i + 1]] := flat_take (f := itc) xs (i + 1) h1
        generalize catB ((xs.map itR).take (i + 1)) = C at *
        refine wk ?_
        (refine aseq_fx (fun F hF => ?_); simp only [ei, ht1]; apply hF; clear hF F)
        refine wk ?_
        refine st_yield (n := 4) (lb := LB) rfl rfl rfl rfl hr ?_
        refine wk ?_
        refine hK _ (i + 1 + 1) (by omega) ?_ (by omega)
        show Wk _ _ ⟨_, [.live (strCells B), .live [.bool true, .str ByteArray.empty, .vec (flat itc xs) xs.length false], .live [bV 5 (catB ((xs.map itR).take (i + 1 + 1))).size], .live [.bool true, .str ByteArray.empty, .vec (flat itc xs) xs.length false], .loop LB, .live (strCells (catB ((xs.map itR).take (i + 1 + 1))))]⟩
        rw [e1]
        exact wkt [0, 1, 2, 3, 4, 7] (hh := by dsimp only [renS, renH, renL, renV, renB, hbAt, List.map_cons, List.map_nil, List.getElem?_cons_zero, List.getElem?_cons_succ]; rw [hLt1, renL_clean _ (cleans_flat xs), renL_clean _ (clean_strCells (C ++ itR xs[i + 1])), renL_clean _ (clean_strCells B)]; rfl)
      · have e1 : catB ((xs.map itR).take (i + 1)) = catB (xs.map itR) := by rw [List.take_of_length_le (by rw [hrl]; omega)]
        rw [e1]
        unfold lsR rawL
        generalize catB (xs.map itR) = C at *
        refine wk ?_
        refine fin ?_
        refine ⟨rfl, ?_⟩
        try dsimp only [List.set]
        have hcf : CallD Tryz.prog 200 [bV 0 B.size, .int .i64 192, .int .i64 C.size] [.live (strCells B), .live [.bool true, .str ByteArray.empty, .vec (flat itc xs) xs.length false], .live [bV 5 C.size], .live [.bool true, .str ByteArray.empty, .vec (flat itc xs) xs.length false], .dead, .live (strCells C)] (bV 6 (B ++ headB 192 C.size).size) [.dead, .live [.bool true, .str ByteArray.empty, .vec (flat itc xs) xs.length false], .live [bV 5 C.size], .live [.bool true, .str ByteArray.empty, .vec (flat itc xs) xs.length false], .dead, .live (strCells C), .live (strCells (B ++ headB 192 C.size))] := calld_bytes (b := 0) rfl rfl (front_a false B 192 C.size (fun h => by cases h) (by omega) (by omega) (by omega))
        have h6 := strCells_size (B ++ headB 192 C.size)
        have h7 := headB_size 192 C.size
        have h8 := aheadN_le (n := C.size) (by omega)
        have h9 := ByteArray.size_append (a := B) (b := headB 192 C.size)
        have h10 := strCells_size C
        have h15 : ByteArray.empty.size = 0 := rfl
        have h11 := one_strCells C
        have h12 : List.take (C.size * 1) (strCells C) = strCells C := List.take_of_length_le (by omega)
        have h13 : (List.take (C.size * 1) (strCells C)).length = C.size * 1 := by rw [h12, h10, Nat.mul_one]
        have h14 : ∀ v ∈ List.take (C.size * 1) (strCells C), v.one = true := by rw [h12]; exact h11
        rw [← ByteArray.append_assoc]
        generalize (B ++ headB 192 C.size) = X at *
        refine blockK_n (thenK_n ?_)
        refine aw_seq ?_
        (refine aw_drawS ty_ok pureL [3, 4] [[0, 1, 2, 3, 4, 5, 6], [0, 1, 2, 4, 3, 5, 6]] (by kernel_rfl) (by repeat (first | exact List.forall_mem_nil _ | refine List.forall_mem_cons.2 ⟨rfl, ?_⟩)) ?_; simp only [List.forall_mem_cons, List.forall_mem_nil, and_true, List.not_mem_nil, false_implies, implies_true, pk, List.map_cons, List.map_nil, List.getD_cons_zero, List.getD_cons_succ])
        refine ⟨?_, ?_⟩
        · refine wk ?_
          refine st_call rfl rfl hcf ?_
          refine wk ?_
          refine fin ?_
          exact outB_at 7 rfl (by rw [strCells_append]; exact congrArg (strCells X ++ ·) h12) (by rw [ByteArray.size_append])
        · refine wk ?_
          refine st_call rfl rfl hcf ?_
          refine wk ?_
          refine fin ?_
          exact outB_at 7 rfl (by rw [strCells_append]; exact congrArg (strCells X ++ ·) h12) (by rw [ByteArray.size_append])
end Go.Abs
