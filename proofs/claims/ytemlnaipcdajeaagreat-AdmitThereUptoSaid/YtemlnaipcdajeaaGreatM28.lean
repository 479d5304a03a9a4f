/- What a book may be, but for its room: the walk. -/
import Derived.Test.YtemlnaipcdajeaaGreatM22
import Derived.Test.YtemlnaipcdajeaaGreatM27
set_option linter.unusedVariables false
set_option linter.unusedSimpArgs false
namespace Go.Abs
open Go Go.Proofs

/-- All IDs of a book. -/
def idsN (b : Book) : List Nat := b.tx.map idN ++ b.li.map fun x => idN x.t
def wideOk (b : Book) : Bool := headOk b.n b.e && acctsOk b.ac && limboOk b.li && decide (b.tx.length ≤ 48) && groupsB b.ac b.tx.length (-1) b.tx && decide (idsN b).Nodup
theorem wideOk_eq (b : Book) : wideOk b = (headOk b.n b.e && acctsOk b.ac && limboOk b.li && decide (b.tx.length ≤ 48) && groupsB b.ac b.tx.length (-1) b.tx && decide (idsN b).Nodup) := rfl
/-- A call that takes one block for good, and hands back what is left of it. -/
theorem calld_eat {P : Program} {f : FuncId} {args args0 : List V} {H : List HB} {b : Nat} {c c' : List V} {o z len cap : Nat} (hb : H[b]? = some (.live c)) (hc : Cleans c) (hc' : Cleans c') (ha : renL [b] args = args0)
    (h : AC P f args0 [.live c] fun v h' => v = .slc 0 o z len cap ∧ h'[0]? = some (.live c')) : CallD P f args H (.vec ((c'.drop o).take (len * z)) len false) (H.set b .dead) := by
  have hlt := (List.getElem?_eq_some_iff.1 hb).1
  have hcs : Cleans ((c'.drop o).take (len * z)) := fun v hv => hc' v (List.mem_of_mem_drop (List.mem_of_mem_take hv))
  refine calld_frame [b] (h1 := [.dead]) (by simp) rfl (by intro x hx; rw [List.mem_singleton.1 hx]; exact True.intro) (.vec _ _ _ hcs) ?_ ?_ (by rw [List.length_set]) ?_
  · intro j k hj
    cases j with
    | zero => simp at hj; subst hj; rw [List.getElem?_set_self hlt]; rfl
    | succ j => simp at hj
  · intro i hi
    rw [List.getElem?_set_ne (fun e => hi (by rw [e]; simp))]
  · rw [ha, show renH [b] H [b] = [.live c] from by simp only [renH, hbAt, hb, renB]; rw [renL_clean _ hc]]
    refine ac_wk h ?_
    rintro v h' ⟨rfl, h0⟩
    obtain ⟨h2, rfl⟩ : ∃ h2, h' = .live c' :: h2 := by
      cases h' with
      | nil => simp at h0
      | cons x h2 => simp at h0; subst h0; exact ⟨h2, rfl⟩
    refine ⟨_, [.dead], ⟨rfl, rfl⟩, ?_⟩
    have w1 := wk_frz (N := 1) [0] 2 ⟨[.slc 0 o z len cap], .live c' :: h2⟩
    have e : frzS [0] 2 ⟨[.slc 0 o z len cap], .live c' :: h2⟩ = ⟨[.vec ((c'.drop o).take (len * z)) len false], .dead :: frzH (.live c' :: h2) [0] 2 1 h2⟩ := by
      simp [frzS, frzL, frzV, frzAt, frzH, frzB, frzL_clean _ _ _ hcs]
    rw [e] at w1
    exact w1.trans (wk_take (n := 1) (t := [_]) (h := .dead :: _) (Nat.le_refl 1) (by intro u hu; rw [List.mem_singleton.1 hu]; exact (Clean.vec _ _ _ hcs).bel) (by
      intro x hx
      simp at hx; subst hx; exact True.intro))
theorem ac_to {P : Program} {f : FuncId} {args : List V} {H : List HB} {R R' : V → List HB → Prop} (h : AC P f args H R) (k : ∀ v h', R v h' → R' v h') : AC P f args H R' :=
  fun ρ I w vs h1 h2 h3 => (h ρ I w vs h1 h2 h3).mono fun x w' ⟨v, h', ρ', I', q, q3⟩ => ⟨v, h', ρ', I', k v h' q, q3⟩
theorem ins_nil : Pure Tryz.prog 185 [.nils, .int .i64 0, .int .i64 0] (.tup []) := by
  refine pure_ac ?_ (cleans_cons .nils (cleans_cons (.int _ _) (cleans_cons (.int _ _) cleans_nil))) (clean_tup cleans_nil)
  (refine enter Tryz.func185 Tryz.results185 Tryz.ntmps185 ty_ok (hw := fun F hF => ?_); simp only [List.length_cons, List.length_nil, Nat.reduceAdd, Nat.reduceSub, List.replicate_succ, List.replicate_zero, List.cons_append, List.nil_append]; apply hF; clear hF F)
  refine wk ?_
  refine aw_rounds 1 ?_
  refine wk ?_
  refine fin ?_
  rfl
set_option maxRecDepth 20000 in
theorem pdq_nil : Pure Tryz.prog 175 [.nils, .int .i64 0, .int .i64 0, .int .i64 0] (.tup []) := by
  refine pure_ac ?_ (cleans_cons .nils (cleans_cons (.int _ _) (cleans_cons (.int _ _) (cleans_cons (.int _ _) cleans_nil)))) (clean_tup cleans_nil)
  have c := ins_nil
  (refine enter Tryz.func175 Tryz.results175 Tryz.ntmps175 ty_ok (hw := fun F hF => ?_); simp only [List.length_cons, List.length_nil, Nat.reduceAdd, Nat.reduceSub, List.replicate_succ, List.replicate_zero, List.cons_append, List.nil_append]; apply hF; clear hF F)
  refine wk ?_
  refine aw_rounds 1 ?_
  refine wk ?_
  refine fin ?_
  rfl
theorem sort_nil : Pure Tryz.prog 150 [.nils] (.tup []) := by
  refine pure_ac ?_ (cleans_cons .nils cleans_nil) (clean_tup cleans_nil)
  have c := pdq_nil
  have c1 := blen_c 0 (by omega)
  rw [show blen 0 = 0 from rfl] at c1
  (refine enter Tryz.func150 Tryz.results150 Tryz.ntmps150 ty_ok (hw := fun F hF => ?_); simp only [List.length_cons, List.length_nil, Nat.reduceAdd, Nat.reduceSub, List.replicate_succ, List.replicate_zero, List.cons_append, List.nil_append]; apply hF; clear hF F)
  refine wk ?_
  refine fin ?_
  rfl
theorem compact_nil : Pure Tryz.prog 151 [.nils] .nils := by
  refine pure_ac ?_ (cleans_cons .nils cleans_nil) .nils
  (refine enter Tryz.func151 Tryz.results151 Tryz.ntmps151 ty_ok (hw := fun F hF => ?_); simp only [List.length_cons, List.length_nil, Nat.reduceAdd, Nat.reduceSub, List.replicate_succ, List.replicate_zero, List.cons_append, List.nil_append]; apply hF; clear hF F)
  refine wk ?_
  refine fin ?_
  rfl
end Go.Abs
/- What a book may be, but for its room: the walk. -/
namespace Go.Abs
open Go Go.Proofs

theorem sort_d (l : List Nat) (hd : l.length < 1000000) (H : List HB) (b : Nat) (hb : H[b]? = some (.live (flat hc l))) : ∃ s : List Nat, s.Perm l ∧ s.Pairwise (· ≤ ·) ∧ CallD Tryz.prog 150 [.slc b 0 1 l.length l.length] H (.tup []) (H.set b (.live (flat hc s))) := by
  obtain ⟨s, e, h1, h2⟩ := sort_ok l
  refine ⟨s, h1, h2, calld_inplace hb (cleans_flat _) (cleans_flat _) (clean_tup cleans_nil) (args0 := [slV l.length]) ?_ ?_⟩
  · simp [renL, renV, List.idxOf?_cons]
  · have := sort_a l hd
    rw [e] at this
    exact this
theorem compact_d (l : List Nat) (h0 : 0 < l.length) (hd : l.length < 1000000) (H : List HB) (b : Nat) (hb : H[b]? = some (.live (flat hc l))) : ∃ cs, Cleans cs ∧ CallD Tryz.prog 151 [.slc b 0 1 l.length l.length] H (.vec cs (compactN l).length false) (H.set b .dead) := by
  obtain ⟨cap, c', h1, h2⟩ := compact_a l h0 hd
  exact ⟨_, fun v hv => h1 v (List.mem_of_mem_drop (List.mem_of_mem_take hv)), calld_eat (args0 := [slV l.length]) hb (cleans_flat _) h1 (by simp [renL, renV, List.idxOf?_cons]) h2⟩
/-- A row of marks, empty or in a block. -/
@[reducible] def mkV : List Nat → V
  | [] => .nils
  | a :: l => .slc 2 0 1 (l.length + 1) (l.length + 1)
@[reducible] def mkH : List Nat → List HB
  | [] => []
  | a :: l => [.live (flat hc (a :: l))]
@[reducible] def mkS (b : Book) (T : V → List V) (l : List Nat) : St := ⟨T (mkV l), .live (bookc b) :: .live [.bool false] :: mkH l⟩
def idsTo (b : Book) (i : Nat) : List Nat := b.tx.map idN ++ (b.li.take i).map fun x => idN x.t
theorem idsTo_step {b : Book} {i : Nat} (h : i < b.li.length) : idsTo b (i + 1) = idsTo b i ++ [idN b.li[i].t] := by
  unfold idsTo
  rw [List.take_succ_eq_append_getElem h, List.map_append, List.append_assoc]; rfl
theorem idsTo_len (b : Book) (i : Nat) (h : i ≤ b.li.length) : (idsTo b i).length = b.tx.length + i := by
  unfold idsTo; rw [List.length_append, List.length_map, List.length_map, List.length_take, Nat.min_eq_left h]
theorem idsTo_all (b : Book) : idsTo b b.li.length = idsN b := by unfold idsTo idsN; rw [List.take_length]
theorem limbo_tx {l : List Held} (h : limboOk l = true) {i : Nat} (hi : i < l.length) : txOk l[i].t = true := by
  have := (limboOk_true.1 h).2 i hi
  unfold limStep at this
  rw [Bool.and_eq_true, Bool.and_eq_true, getD_at hi] at this
  exact this.1.1
theorem groups_ok {ac : List Acct} {k : Nat} {last : Int} {l : List Tx} (hk : l.length ≤ k) (h0 : -1 ≤ last) (h : groupsB ac k last l = true) : ∀ t ∈ l, txOk t = true :=
  ((groups_iff ac k last l hk h0).1 ((groupsB_iff ac k last l).1 h)).2.2.1
set_option maxRecDepth 20000 in
set_option maxHeartbeats 20000000 in
theorem wide_c (b : Book) (o : b.ok) (hw : b.tx.length < 1000000 ∧ b.li.length < 1000000) : Pure Tryz.prog 109 [bookV b] (.bool (wideOk b)) := by
  refine pure_ac ?_ (cleans_cons (clean_bookV b) cleans_nil) (.bool _)
  have c1 := phead_c b.n b.b b.e
  have c2 := paccts_c b.ac false o.acl
  have c3 := limbo_c b.li false o.lil o.li
  have hlit : ∀ i (hi : i < b.li.length), b.li[i].ok := fun i hi => o.li _ (List.getElem_mem hi)
  have hone : ∀ v ∈ bookc b, v.one = true := by
    intro v hv
    simp only [List.mem_cons, List.not_mem_nil, or_false] at hv
    rcases hv with h | h | h | h | h | h | h | h | h | h <;> rw [h] <;> rfl
  rw [wideOk_eq]
  cases e1 : headOk b.n b.e with
  | false =>
    rw [e1] at c1
    simp only [Bool.false_and]
    clear c2 c3 o hlit
    (refine enter Tryz.func109 Tryz.results109 Tryz.ntmps109 ty_ok (hw := fun F hF => ?_); simp only [List.length_cons, List.length_nil, Nat.reduceAdd, Nat.reduceSub, List.replicate_succ, List.replicate_zero, List.cons_append, List.nil_append]; apply hF; clear hF F)
    refine wks ?_
    refine fin ?_
    rfl
  | true =>
  cases e2 : acctsOk b.ac with
  | false =>
    rw [e1] at c1; rw [e2] at c2
    simp only [Bool.false_and, Bool.true_and]
    clear c3 o hlit
    (refine enter Tryz.func109 Tryz.results109 Tryz.ntmps109 ty_ok (hw := fun F hF => ?_); simp only [List.length_cons, List.length_nil, Nat.reduceAdd, Nat.reduceSub, List.replicate_succ, List.replicate_zero, List.cons_append, List.nil_append]; apply hF; clear hF F)
    refine wks ?_
    refine fin ?_
    rfl
  | true =>
  cases e3 : limboOk b.li with
  | false =>
    rw [e1] at c1; rw [e2] at c2; rw [e3] at c3
    simp only [Bool.false_and, Bool.true_and]
    clear o hlit
    (refine enter Tryz.func109 Tryz.results109 Tryz.ntmps109 ty_ok (hw := fun F hF => ?_); simp only [List.length_cons, List.length_nil, Nat.reduceAdd, Nat.reduceSub, List.replicate_succ, List.replicate_zero, List.cons_append, List.nil_append]; apply hF; clear hF F)
    refine wks ?_
    refine fin ?_
    rfl
  | true =>
  rw [e1] at c1; rw [e2] at c2; rw [e3] at c3
  by_cases h48 : b.tx.length ≤ 48
  · rw [decide_eq_true h48]
    simp only [Bool.true_and]
    have hbc := chains_c b.tx false [.live (bookc b), .live [.bool false]]
    simp only [List.length_cons, List.length_nil, List.cons_append, List.nil_append, Nat.reduceAdd] at hbc
    have h8 : b.ac.length = 8 := by
      unfold acctsOk at e2
      rw [Bool.and_eq_true] at e2
      exact of_decide_eq_true e2.1
    have oac := Left.mk o.ac
    have otx := Left.mk o.tx
    have oli := Left.mk o.li
    clear o hlit
    (refine enter Tryz.func109 Tryz.results109 Tryz.ntmps109 ty_ok (hw := fun F hF => ?_); simp only [List.length_cons, List.length_nil, Nat.reduceAdd, Nat.reduceSub, List.replicate_succ, List.replicate_zero, List.cons_append, List.nil_append]; apply hF; clear hF F)
    refine wks ?_
    refine st_call rfl rfl hbc ?_
    clear hbc c1 c2 c3
    refine wks ?_
    refine aw_wk (wkt (t' := (.any :: (.ptr 0 0) :: (.ptr 1 0) :: .any :: .any :: .any :: .any :: .any :: .any :: .any :: .any :: .any :: .any :: .any :: .any :: .any :: .any :: .any :: .any :: .any :: .any :: .any :: .any :: .any :: .any :: .any :: .any :: .any :: .any :: .any :: .any :: .any :: .any :: .any :: .any :: .any :: (.fn 174 [.ptr 2 0]) :: .any :: .any :: .any :: .any :: .any :: .any :: .any :: .any :: .any :: .any :: .any :: .any :: .any :: .any :: .any :: .any :: .any :: .any :: .any :: .any :: .any :: .any :: .any :: .any :: .any :: .any :: .any :: .any :: .any :: .any :: .any :: .any :: .any :: .any :: .any :: .any :: .any :: .any :: .any :: .any :: .any :: .any :: .any :: .any :: .any :: .any :: .any :: .any :: .any :: .any :: .any :: .any :: .any :: .any :: .any :: .any :: .any :: .any :: .any :: .any :: .any :: .any :: .any :: .any :: .any :: .any :: .any :: .any :: .any :: [])) (h' := [.live (bookc b), .live [.bool false], .live [tsV b.tx false]]) [0, 1, 2] (hh := by dsimp only [renS, renH, renL, renV, renB, hbAt, List.map_cons, List.map_nil, List.getElem?_cons_zero, List.getElem?_cons_succ]; (try simp only [renL_clean _ (cleans_flat _)]); try rfl)) ?_
    refine aw_rangeXL rfl (enters_of Tryz.func174 (by decide) rfl) fun LB hLB => ?_
    simp only [List.length_cons, List.length_nil, List.cons_append, List.nil_append, Nat.reduceAdd]
    have hit : AC Tryz.prog 174 [.yld 3, .ptr 2 0] [.live (bookc b), .live [.bool false], .live [tsV b.tx false], .loop LB] (fun _ h' => ∃ (pd : Option Code) (r : List Tx), h' = [.live (bookc b), .live [.bool false], .live [tsV r false], .loop { LB with pend := pd }] ∧ pd = if groupsB b.ac b.tx.length (-1) b.tx = true then none else some .ret) := by
      refine iter_a b.ac LB (by rw [hLB]; rfl) .ret (bookc b) [.bool false] (cleans_bookc b) (cleans_cons (.bool _) cleans_nil) b.tx hw.1 otx.left ?_ ?_ ?_
      · intro f g hA h0 h8f hg0 hgl hgo r
        obtain ⟨n, rfl⟩ : ∃ n : Nat, f = n := ⟨f.toNat, by omega⟩
        have hn : n < b.ac.length := by omega
        have hab := oac.left b.ac[n] (List.getElem_mem hn)
        have hbal := hab.bal
        have cs := Spent_c g false (by omega) hgo
        unfold acctB at hA
        rw [Int.toNat_natCast, getD_at hn, getD_at hg0] at hA
        have hfl : (flat txc g).length = g.length * 21 := flat_length g
        rw [Bool.and_eq_true, Bool.and_eq_true] at hA
        obtain ⟨⟨hA1, hA2⟩, hA3⟩ := hA
        have hA2 := of_decide_eq_true hA2
        have hA3 := of_decide_eq_true hA3
        have hsp := ((chainB_iff g).1 hA1).2.2.2
        rw [hA1, if_pos rfl] at cs
        have cc := cmp_c (spentN g) b.ac[n].bal hsp hbal
        obtain ⟨z, hz, hz0⟩ : ∃ z, cmpN (spentN g) b.ac[n].bal = z ∧ ¬ z > 0 := ⟨_, rfl, by rcases cmpN_cases (spentN g) b.ac[n].bal with h | h | h <;> omega⟩
        rw [hz] at cc
        clear hA1 hgo hab hz
        rw [hLB]
        refine roundX_of rfl rfl rfl rfl fun K hK => ?_
        dsimp only [roundT, List.zip, List.zipWith, List.foldl, List.set]
        refine wkn ?_
        exact hK _ _ rfl (wkh [0, 1, 2, 3] rfl (by decide) (by dsimp only [renS, renH, renL, renV, renB, hbAt, List.map_cons, List.map_nil, List.getElem?_cons_zero, List.getElem?_cons_succ]; simp only [renL_clean _ (cleans_flat _)]))
      · intro f g hA h0 h8f hg0 hgl hgo r
        obtain ⟨n, rfl⟩ : ∃ n : Nat, f = n := ⟨f.toNat, by omega⟩
        have hn : n < b.ac.length := by omega
        have hab := oac.left b.ac[n] (List.getElem_mem hn)
        have hbal := hab.bal
        have cs := Spent_c g false (by omega) hgo
        unfold acctB at hA
        rw [Int.toNat_natCast, getD_at hn, getD_at hg0] at hA
        have hfl : (flat txc g).length = g.length * 21 := flat_length g
        cases hA1 : chainB g with
        | false =>
          rw [hA1, if_neg (by simp)] at cs
          clear hA hgo hab
          rw [hLB]
          refine roundX_of rfl rfl rfl rfl fun K hK => ?_
          dsimp only [roundT, List.zip, List.zipWith, List.foldl, List.set]
          refine wkn ?_
          exact hK _ _ rfl (wkh [0, 1, 2, 3] rfl (by decide) (by dsimp only [renS, renH, renL, renV, renB, hbAt, List.map_cons, List.map_nil, List.getElem?_cons_zero, List.getElem?_cons_succ]; simp only [renL_clean _ (cleans_flat _)]))
        | true =>
          have hsp := ((chainB_iff g).1 hA1).2.2.2
          rw [hA1, Bool.true_and] at hA
          rw [hA1, if_pos rfl] at cs
          by_cases hA2 : g[0].no = b.ac[n].no
          · rw [decide_eq_true hA2, Bool.true_and] at hA
            have hA3 := of_decide_eq_false hA
            have cc := cmp_c (spentN g) b.ac[n].bal hsp hbal
            obtain ⟨z, hz, hz0⟩ : ∃ z, cmpN (spentN g) b.ac[n].bal = z ∧ z > 0 := ⟨_, rfl, by rcases cmpN_cases (spentN g) b.ac[n].bal with h | h | h <;> omega⟩
            rw [hz] at cc
            clear hA1 hgo hab hz hA
            rw [hLB]
            refine roundX_of rfl rfl rfl rfl fun K hK => ?_
            dsimp only [roundT, List.zip, List.zipWith, List.foldl, List.set]
            refine wkn ?_
            exact hK _ _ rfl (wkh [0, 1, 2, 3] rfl (by decide) (by dsimp only [renS, renH, renL, renV, renB, hbAt, List.map_cons, List.map_nil, List.getElem?_cons_zero, List.getElem?_cons_succ]; simp only [renL_clean _ (cleans_flat _)]))
          · clear hA1 hgo hab hA
            rw [hLB]
            refine roundX_of rfl rfl rfl rfl fun K hK => ?_
            dsimp only [roundT, List.zip, List.zipWith, List.foldl, List.set]
            refine wkn ?_
            exact hK _ _ rfl (wkh [0, 1, 2, 3] rfl (by decide) (by dsimp only [renS, renH, renL, renV, renB, hbAt, List.map_cons, List.map_nil, List.getElem?_cons_zero, List.getElem?_cons_succ]; simp only [renL_clean _ (cleans_flat _)]))
      · intro r
        rw [hLB]
        refine roundX_of rfl rfl rfl rfl fun K hK => ?_
        dsimp only [roundT, List.zip, List.zipWith, List.foldl, List.set]
        refine wks ?_
        exact hK _ _ rfl (wkh [0, 1, 2, 3] rfl (by decide) (by dsimp only [renS, renH, renL, renV, renB, hbAt, List.map_cons, List.map_nil, List.getElem?_cons_zero, List.getElem?_cons_succ]; simp only [renL_clean _ (cleans_flat _)]))
    refine ac_to hit ?_
    clear hit
    rintro v _ ⟨pd, r, rfl, hpd⟩
    refine ⟨pd, rfl, ?_⟩
    clear hLB
    cases hG : groupsB b.ac b.tx.length (-1) b.tx with
    | false =>
      rw [hG, if_neg (by simp)] at hpd
      subst hpd
      clear oac otx oli
      dsimp only [AfterR, List.set]
      refine wks ?_
      refine fin ?_
      rw [Bool.false_and]
    | true =>
    rw [hG, if_pos rfl] at hpd
    subst hpd
    have htok := groups_ok (Nat.le_refl _) (by omega) hG
    have hli := fun (i : Nat) (hi : i < b.li.length) => limbo_tx e3 hi
    have hl48 : b.li.length ≤ 48 := (limboOk_true.1 e3).1
    rw [Bool.true_and]
    clear hG e1 e2 e3 oac
    dsimp only [AfterR, List.set]
    refine blockK_n ?_
    refine thenK_n ?_
    refine aw_seq ?_
    refine aw_joinR (fun (_ : Unit) => mkS b (fun v => (.any :: (.ptr 0 0) :: (.ptr 1 0) :: .any :: .any :: .any :: .any :: v :: .any :: .any :: .any :: .any :: .any :: .any :: .any :: .any :: .any :: .any :: .any :: .any :: .any :: .any :: .any :: .any :: .any :: .any :: .any :: .any :: .any :: .any :: .any :: .any :: .any :: .any :: .any :: .any :: .any :: .any :: .any :: .any :: .any :: .any :: .any :: .any :: .any :: .any :: .any :: .any :: .any :: .any :: .any :: .any :: .any :: .any :: .any :: .any :: .any :: .any :: .any :: .any :: .any :: .any :: .any :: .any :: .any :: .any :: .any :: .any :: .any :: .any :: .any :: .any :: .any :: .any :: .any :: .any :: .any :: .any :: .any :: .any :: .any :: .any :: .any :: .any :: .any :: .any :: .any :: .any :: .any :: .any :: .any :: .any :: .any :: .any :: .any :: .any :: .any :: .any :: .any :: .any :: .any :: .any :: .any :: .any :: .any :: .any :: [])) (b.tx.map idN)) (fun _ => True) (fun K3 hK3 => ?_) (fun _ _ => ?_)
    · clear hli oli
      have hml : (b.tx.map idN).length = b.tx.length := List.length_map ..
      rcases Nat.eq_zero_or_pos b.tx.length with h0 | h0
      · have ht : b.tx = [] := List.length_eq_zero_iff.1 h0
        have c4 : Pure Tryz.prog 124 [tsV b.tx false] .nils := by rw [ht]; exact ids_nil false
        have hm : b.tx.map idN = [] := by rw [ht]; rfl
        clear htok otx
        refine wks ?_
        refine hK3 _ () trivial ?_
        rw [hm]
        dsimp only [mkS, mkV, mkH]
        exact wkt [0, 1] (hh := by dsimp only [renS, renH, renL, renV, renB, hbAt, List.map_cons, List.map_nil, List.getElem?_cons_zero, List.getElem?_cons_succ]; (try simp only [renL_clean _ (cleans_flat _)]); try rfl)
      · obtain ⟨a, l, hl⟩ : ∃ a l, b.tx.map idN = a :: l := by
          cases hx : b.tx.map idN with
          | nil => rw [hx] at hml; simp at hml; omega
          | cons a l => exact ⟨a, l, rfl⟩
        have hll : b.tx.length = l.length + 1 := by rw [← hml, hl]; rfl
        have c4 := calld_own (H := [.live (bookc b), .live [.bool false], .live [tsV r false], .dead]) (cleans_flat (b.tx.map idN)) (cleans_cons (clean_tsV b.tx false) cleans_nil) (ids_a b.tx false h0 (by omega) otx.left htok)
        rw [hl] at c4
        simp only [List.length_cons, List.length_nil, Nat.reduceAdd, List.cons_append, List.nil_append] at c4
        clear htok otx
        refine wks ?_
        refine st_call rfl rfl c4 ?_
        clear c4
        refine wks ?_
        refine hK3 _ () trivial ?_
        rw [hl, hll]
        dsimp only [mkS, mkV, mkH]
        exact wkt [0, 1, 4] (hh := by dsimp only [renS, renH, renL, renV, renB, hbAt, List.map_cons, List.map_nil, List.getElem?_cons_zero, List.getElem?_cons_succ]; (try simp only [renL_clean _ (cleans_flat _)]); try rfl)
    clear htok otx
    dsimp only [mkS]
    refine wks ?_
    refine aw_loopI (fun (i : Nat) => mkS b (fun v => (.any :: (.ptr 0 0) :: (.ptr 1 0) :: .any :: .any :: .any :: .any :: v :: .any :: .any :: .any :: .any :: .any :: .any :: .any :: .any :: .any :: .any :: .any :: .any :: .any :: .any :: .any :: .any :: .any :: .any :: .any :: .any :: .any :: .any :: .any :: .any :: .any :: .any :: .any :: .any :: .any :: .any :: .any :: .any :: .any :: .any :: .any :: .any :: .any :: .any :: .any :: .any :: .any :: .any :: .any :: .any :: .any :: .any :: .any :: .any :: .any :: .any :: .any :: .any :: .any :: .any :: .any :: .any :: .any :: .any :: .any :: .any :: .any :: .any :: .any :: .any :: .any :: .any :: .any :: .any :: (lisV b.li false) :: (.int .i64 b.li.length) :: (.int .i64 i) :: .any :: .any :: .any :: .any :: .any :: .any :: .any :: .any :: .any :: .any :: .any :: .any :: .any :: .any :: .any :: .any :: .any :: .any :: .any :: .any :: .any :: .any :: .any :: .any :: .any :: .any :: .any :: [])) (idsTo b i)) (fun i => i ≤ b.li.length) (fun i => b.li.length - i) 0 (Nat.zero_le _) ?_ ?_
    · have e0 : idsTo b 0 = b.tx.map idN := by unfold idsTo; simp
      rw [e0]
      dsimp only [mkS]
      refine wk_le ?_
      repeat' (first | exact True.intro | refine ⟨Or.inl rfl, ?_⟩ | refine ⟨Or.inr rfl, ?_⟩)
    intro i hi K hK
    have hlen := idsTo_len b i hi
    by_cases h1 : i < b.li.length
    · have c5 := txid_c b.li[i].t (oli.left _ (List.getElem_mem h1)).t (hli i h1)
      have hone2 : ∀ v ∈ heldc b.li[i], v.one = true := Rows.one (f := heldc) b.li[i]
      have hs := idsTo_step h1
      clear hli oli
      cases hL : idsTo b i with
      | nil =>
        rw [hL, List.nil_append] at hs
        dsimp only [mkS, mkV, mkH]
        refine wks ?_
        simp only [one_eq0, if_false, List.set_cons_zero, List.set_cons_succ, List.cons_append, List.nil_append, List.length_cons, List.length_nil, Nat.reduceAdd]
        refine hK _ (i + 1) (by omega) ?_ (by omega)
        rw [hs]
        dsimp only [mkS, mkV, mkH]
        exact wkt [0, 1, 4] (hh := by dsimp only [renS, renH, renL, renV, renB, hbAt, List.map_cons, List.map_nil, List.getElem?_cons_zero, List.getElem?_cons_succ]; (try simp only [renL_clean _ (cleans_flat _)]); try rfl)
      | cons a l =>
        rw [hL, List.cons_append] at hs
        rw [hL] at hlen
        rw [List.length_cons] at hlen
        have g1 : (flat hc (a :: l)).length = (l.length + 1) * 1 := by rw [flat_length]; rfl
        have g2 : flat hc (a :: (l ++ [idN b.li[i].t])) = flat hc (a :: l) ++ hc (idN b.li[i].t) := by rw [← List.cons_append, flat_append, flat_single]
        have g3 : (l ++ [idN b.li[i].t]).length + 1 = l.length + 1 + 1 := by simp
        dsimp only [mkS, mkV, mkH]
        refine wks ?_
        refine hK _ (i + 1) (by omega) ?_ (by omega)
        rw [hs]
        dsimp only [mkS, mkV, mkH]
        rw [g2, g3]
        exact wkt [0, 1, 5] (hh := by dsimp only [renS, renH, renL, renV, renB, hbAt, List.map_cons, List.map_nil, List.getElem?_cons_zero, List.getElem?_cons_succ]; (try simp only [renL_clean _ (cleans_flat _), renL_append]); try rfl)
    · obtain rfl : i = b.li.length := by omega
      rw [idsTo_all] at hlen
      rw [idsTo_all]
      clear hli oli hK
      cases hL : idsN b with
      | nil =>
        rw [hL] at hlen
        have c6 := compact_nil
        rw [List.length_nil] at hlen
        have e9 : b.tx.length + b.li.length = 0 := by omega
        dsimp only [mkS, mkV, mkH]
        refine wks ?_
        refine st_call rfl rfl (sort_nil _) ?_
        refine st_nil ?_
        refine thenK_n ?_
        refine aw_seq ?_
        (refine aw_drawS ty_ok [] [1, 4, 7] [[0, 1, 2, 3, 4, 5, 6, 7, 8, 9, 10, 11], [0, 1, 2, 3, 6, 7, 4, 5, 8, 9, 10, 11], [0, 3, 4, 1, 2, 5, 6, 7, 8, 9, 10, 11], [0, 3, 4, 6, 7, 1, 2, 5, 8, 9, 10, 11], [0, 6, 7, 1, 2, 3, 4, 5, 8, 9, 10, 11], [0, 6, 7, 3, 4, 1, 2, 5, 8, 9, 10, 11]] (by kernel_rfl) (by repeat (first | exact List.forall_mem_nil _ | refine List.forall_mem_cons.2 ⟨rfl, ?_⟩)) ?_; simp only [List.forall_mem_cons, List.forall_mem_nil, and_true, List.not_mem_nil, false_implies, implies_true, pk, List.map_cons, List.map_nil, List.getD_cons_zero, List.getD_cons_succ])
        refine ⟨?_, ?_, ?_, ?_, ?_, ?_⟩
        all_goals
          refine wks ?_
          refine fin ?_
          rw [e9]
          rfl
      | cons a l =>
        rw [hL] at hlen
        obtain ⟨s, q1, q2, c5⟩ := sort_d (a :: l) (by omega) [.live (bookc b), .live [.bool false], .live (flat hc (a :: l))] 2 rfl
        have q3 := q1.length_eq
        obtain ⟨cs, q4, c6⟩ := compact_d s (by rw [q3]; simp) (by omega) [.live (bookc b), .live [.bool false], .live (flat hc s)] 2 rfl
        rw [q3] at c6
        have q5 := compact_sorted q1 q2
        dsimp only [List.set, List.length_cons] at c5 c6
        dsimp only [mkS, mkV, mkH]
        refine wks ?_
        refine st_call rfl rfl c5 ?_
        clear c5
        refine st_nil ?_
        refine thenK_n ?_
        refine aw_seq ?_
        (refine aw_drawS ty_ok [] [1, 4, 7] [[0, 1, 2, 3, 4, 5, 6, 7, 8, 9, 10, 11], [0, 1, 2, 3, 6, 7, 4, 5, 8, 9, 10, 11], [0, 3, 4, 1, 2, 5, 6, 7, 8, 9, 10, 11], [0, 3, 4, 6, 7, 1, 2, 5, 8, 9, 10, 11], [0, 6, 7, 1, 2, 3, 4, 5, 8, 9, 10, 11], [0, 6, 7, 3, 4, 1, 2, 5, 8, 9, 10, 11]] (by kernel_rfl) (by repeat (first | exact List.forall_mem_nil _ | refine List.forall_mem_cons.2 ⟨rfl, ?_⟩)) ?_; simp only [List.forall_mem_cons, List.forall_mem_nil, and_true, List.not_mem_nil, false_implies, implies_true, pk, List.map_cons, List.map_nil, List.getD_cons_zero, List.getD_cons_succ])
        have hfin : (((compactN s).length : Int) == ((b.tx.length + b.li.length : Nat) : Int)) = decide (a :: l).Nodup := by
          rw [Bool.eq_iff_iff, beq_iff_eq, decide_eq_true_iff, ← q5]
          constructor <;> intro h <;> omega
        rw [← hfin]
        clear hfin q1 q2 q3 q5 hL
        refine ⟨?_, ?_, ?_, ?_, ?_, ?_⟩
        all_goals
          refine wks ?_
          refine st_call rfl rfl c6 ?_
          refine wks ?_
          refine fin ?_
          rfl
  · rw [decide_eq_false h48]
    simp only [Bool.false_and, Bool.true_and]
    clear o hlit
    (refine enter Tryz.func109 Tryz.results109 Tryz.ntmps109 ty_ok (hw := fun F hF => ?_); simp only [List.length_cons, List.length_nil, Nat.reduceAdd, Nat.reduceSub, List.replicate_succ, List.replicate_zero, List.cons_append, List.nil_append]; apply hF; clear hF F)
    refine wks ?_
    refine fin ?_
    rfl
end Go.Abs
