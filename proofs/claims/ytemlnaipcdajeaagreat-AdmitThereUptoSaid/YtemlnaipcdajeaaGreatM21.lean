/- Accounts, limbo, books in cells; heads, accounts, limbo, IDs: the walks. -/
import Derived.Test.YtemlnaipcdajeaaGreatM20
set_option linter.unusedVariables false
set_option linter.unusedSimpArgs false
namespace Go.Abs
open Go Go.Proofs

@[reducible] def acc (a : Acct) : List V := [.int .i64 a.no, .int .u64 (lb a.bal 0), .int .u64 (lb a.bal 1), .int .u64 (lb a.bal 2), .int .u64 (lb a.bal 3)]
structure Acct.ok (a : Acct) : Prop where
  no : -9223372036854775808 ≤ a.no ∧ a.no < 9223372036854775808
  bal : a.bal < 115792089237316195423570985008687907853269984665640564039457584007913129639936
theorem cleans_acc (a : Acct) : Cleans (acc a) := cleans_cons (.int _ _) (cleans_cons (.int _ _) (cleans_cons (.int _ _) (cleans_cons (.int _ _) (cleans_cons (.int _ _) cleans_nil))))
instance rows_acc : Rows acc 5 where
  len := fun _ => rfl
  clean := cleans_acc
  one := fun a v hv => by
    simp only [acc, List.mem_cons, List.not_mem_nil, or_false] at hv
    rcases hv with h | h | h | h | h <;> rw [h] <;> rfl
instance rowsL_acc : RowsL acc (fun a => [.int .i64 a.no, .int .u64 (lb a.bal 0), .int .u64 (lb a.bal 1), .int .u64 (lb a.bal 2), .int .u64 (lb a.bal 3)]) := ⟨fun _ => rfl⟩
@[reducible] def heldc (x : Held) : List V := [.int .i64 x.t.fr, .int .i64 x.t.no, .int .u64 (lb x.t.tip 0), .int .u64 (lb x.t.tip 1), .int .u64 (lb x.t.tip 2), .int .u64 (lb x.t.tip 3),
  .int .u64 (lb x.t.cap 0), .int .u64 (lb x.t.cap 1), .int .u64 (lb x.t.cap 2), .int .u64 (lb x.t.cap 3), .int .u64 (lb x.t.bc 0), .int .u64 (lb x.t.bc 1), .int .u64 (lb x.t.bc 2), .int .u64 (lb x.t.bc 3),
  .int .u64 (lb x.t.val 0), .int .u64 (lb x.t.val 1), .int .u64 (lb x.t.val 2), .int .u64 (lb x.t.val 3), .int .i64 x.t.gas, .vec (flat hc x.t.hs) x.t.hs.length false, .vec (flat sc x.t.bs) x.t.bs.length false, .int .i64 x.blk]
structure Held.ok (x : Held) : Prop where
  t : x.t.ok
  blk : -9223372036854775808 ≤ x.blk ∧ x.blk < 9223372036854775808
theorem heldc_eq (x : Held) : heldc x = txc x.t ++ [.int .i64 x.blk] := rfl
theorem cleans_heldc (x : Held) : Cleans (heldc x) := by
  rw [heldc_eq]
  intro v hv
  rcases List.mem_append.1 hv with h | h
  · exact cleans_txc x.t v h
  · rw [List.mem_singleton.1 h]; exact .int _ _
instance rows_heldc : Rows heldc 22 where
  len := fun _ => rfl
  clean := cleans_heldc
  one := fun x v hv => by
    rw [heldc_eq] at hv
    rcases List.mem_append.1 hv with h | h
    · exact Rows.one (f := txc) x.t v h
    · rw [List.mem_singleton.1 h]; rfl
instance rowsL_heldc : RowsL heldc (fun x => [.int .i64 x.t.fr, .int .i64 x.t.no, .int .u64 (lb x.t.tip 0), .int .u64 (lb x.t.tip 1), .int .u64 (lb x.t.tip 2), .int .u64 (lb x.t.tip 3),
  .int .u64 (lb x.t.cap 0), .int .u64 (lb x.t.cap 1), .int .u64 (lb x.t.cap 2), .int .u64 (lb x.t.cap 3), .int .u64 (lb x.t.bc 0), .int .u64 (lb x.t.bc 1), .int .u64 (lb x.t.bc 2), .int .u64 (lb x.t.bc 3),
  .int .u64 (lb x.t.val 0), .int .u64 (lb x.t.val 1), .int .u64 (lb x.t.val 2), .int .u64 (lb x.t.val 3), .int .i64 x.t.gas, .vec (flat hc x.t.hs) x.t.hs.length false, .vec (flat sc x.t.bs) x.t.bs.length false, .int .i64 x.blk]) := ⟨fun _ => rfl⟩
abbrev acsV (l : List Acct) (x : Bool) : V := .vec (flat acc l) l.length x
abbrev lisV (l : List Held) (x : Bool) : V := .vec (flat heldc l) l.length x
theorem clean_acsV (l : List Acct) (x : Bool) : Clean (acsV l x) := .vec _ _ _ (cleans_flat l)
theorem clean_lisV (l : List Held) (x : Bool) : Clean (lisV l x) := .vec _ _ _ (cleans_flat l)
@[reducible] def bookc (b : Book) : List V := [.int .i64 b.room, .int .i64 b.n, .int .u64 (lb b.b 0), .int .u64 (lb b.b 1), .int .u64 (lb b.b 2), .int .u64 (lb b.b 3), .int .i64 b.e,
  .vec (flat acc b.ac) b.ac.length false, .vec (flat txc b.tx) b.tx.length false, .vec (flat heldc b.li) b.li.length false]
@[reducible] def bookV (b : Book) : V := .agg (bookc b)
structure Book.ok (q : Book) : Prop where
  room : -9223372036854775808 ≤ q.room ∧ q.room < 9223372036854775808
  n : -9223372036854775808 ≤ q.n ∧ q.n < 9223372036854775808
  b : q.b < 115792089237316195423570985008687907853269984665640564039457584007913129639936
  e : -9223372036854775808 ≤ q.e ∧ q.e < 9223372036854775808
  ac : ∀ a ∈ q.ac, a.ok
  acl : q.ac.length < 9223372036854775808
  tx : ∀ t ∈ q.tx, t.ok
  txl : q.tx.length < 9223372036854775808
  li : ∀ x ∈ q.li, x.ok
  lil : q.li.length < 9223372036854775808
theorem cleans_bookc (b : Book) : Cleans (bookc b) := by
  have h1 : Clean (.vec (flat acc b.ac) b.ac.length false) := .vec _ _ _ (cleans_flat b.ac)
  have h2 : Clean (.vec (flat txc b.tx) b.tx.length false) := .vec _ _ _ (cleans_flat b.tx)
  have h3 : Clean (.vec (flat heldc b.li) b.li.length false) := .vec _ _ _ (cleans_flat b.li)
  unfold bookc
  repeat (first | exact cleans_nil | refine cleans_cons (.int _ _) ?_ | refine cleans_cons h1 ?_ | refine cleans_cons h2 ?_ | refine cleans_cons h3 ?_)
theorem clean_bookV (b : Book) : Clean (bookV b) := clean_agg (cleans_bookc b)

/-! ### What may be -/
def headOk (n e : Int) : Bool := decide (0 ≤ n ∧ n ≤ 1099511627776 ∧ 0 ≤ e ∧ e ≤ 1099511627776)
def acctsOk (l : List Acct) : Bool := decide (l.length = 8) && l.all fun a => decide (0 ≤ a.no ∧ a.no ≤ 1099511627776)
def limStep (l : List Held) (j : Nat) : Bool := txOk (l.getD j default).t && (decide (j = 0) || decide (idN (l.getD (j - 1) default).t < idN (l.getD j default).t)) && decide (0 ≤ (l.getD j default).blk ∧ (l.getD j default).blk ≤ 1099511627776)
def limboOk (l : List Held) : Bool := decide (l.length ≤ 48) && (List.range l.length).all (limStep l)
theorem limboOk_true {l : List Held} : limboOk l = true ↔ l.length ≤ 48 ∧ ∀ j, j < l.length → limStep l j = true := by
  unfold limboOk
  rw [Bool.and_eq_true, decide_eq_true_iff, List.all_eq_true]
  simp only [List.mem_range]
theorem limboOk_no {l : List Held} {j : Nat} (h : j < l.length) (h2 : limStep l j = false) : limboOk l = false := by
  cases e : limboOk l with
  | false => rfl
  | true => have := (limboOk_true.1 e).2 j h; rw [h2] at this; cases this
theorem limStep_0 {l : List Held} (h : 0 < l.length) : limStep l 0 = (txOk l[0].t && decide (0 ≤ l[0].blk ∧ l[0].blk ≤ 1099511627776)) := by
  unfold limStep; rw [getD_at h]; simp
theorem limStep_s {l : List Held} {k : Nat} (h : k + 1 < l.length) : limStep l (k + 1) = (txOk l[k + 1].t && decide (idN l[k].t < idN l[k + 1].t) && decide (0 ≤ l[k + 1].blk ∧ l[k + 1].blk ≤ 1099511627776)) := by
  unfold limStep
  rw [getD_at h, Nat.add_sub_cancel, getD_at (show k < l.length by omega)]
  simp
set_option maxHeartbeats 20000000 in
theorem phead_c (n : Int) (b : Nat) (e : Int) : Pure Tryz.prog 145 [hdV n b e] (.bool (headOk n e)) := by
  refine pure_ac ?_ (cleans_cons (clean_hdV n b e) cleans_nil) (.bool _)
  unfold headOk
  by_cases h1 : 0 ≤ n
  · by_cases h2 : n ≤ 1099511627776
    · by_cases h3 : 0 ≤ e
      · rw [show decide (0 ≤ n ∧ n ≤ 1099511627776 ∧ 0 ≤ e ∧ e ≤ 1099511627776) = decide (e ≤ 1099511627776) from decide_eq_decide.2 ⟨fun h => h.2.2.2, fun h => ⟨h1, h2, h3, h⟩⟩]
        (refine enter Tryz.func145 Tryz.results145 Tryz.ntmps145 ty_ok (hw := fun F hF => ?_); simp only [List.length_cons, List.length_nil, Nat.reduceAdd, Nat.reduceSub, List.replicate_succ, List.replicate_zero, List.cons_append, List.nil_append]; apply hF; clear hF F)
        refine wk ?_
        refine fin ?_
        rfl
      · rw [decide_eq_false (fun h => h3 h.2.2.1)]
        (refine enter Tryz.func145 Tryz.results145 Tryz.ntmps145 ty_ok (hw := fun F hF => ?_); simp only [List.length_cons, List.length_nil, Nat.reduceAdd, Nat.reduceSub, List.replicate_succ, List.replicate_zero, List.cons_append, List.nil_append]; apply hF; clear hF F)
        refine wk ?_
        refine fin ?_
        rfl
    · rw [decide_eq_false (fun h => h2 h.2.1)]
      (refine enter Tryz.func145 Tryz.results145 Tryz.ntmps145 ty_ok (hw := fun F hF => ?_); simp only [List.length_cons, List.length_nil, Nat.reduceAdd, Nat.reduceSub, List.replicate_succ, List.replicate_zero, List.cons_append, List.nil_append]; apply hF; clear hF F)
      refine wk ?_
      refine fin ?_
      rfl
  · rw [decide_eq_false (fun h => h1 h.1)]
    (refine enter Tryz.func145 Tryz.results145 Tryz.ntmps145 ty_ok (hw := fun F hF => ?_); simp only [List.length_cons, List.length_nil, Nat.reduceAdd, Nat.reduceSub, List.replicate_succ, List.replicate_zero, List.cons_append, List.nil_append]; apply hF; clear hF F)
    refine wk ?_
    refine fin ?_
    rfl
theorem accts1_c (a : Acct) : Pure Tryz.prog 173 [.agg (acc a)] (.bool (!decide (0 ≤ a.no ∧ a.no ≤ 1099511627776))) := by
  refine pure_ac ?_ (cleans_cons (clean_agg (cleans_acc a)) cleans_nil) (.bool _)
  by_cases h1 : a.no < 0
  · rw [decide_eq_false (fun h => by omega)]
    (refine enter Tryz.func173 Tryz.results173 Tryz.ntmps173 ty_ok (hw := fun F hF => ?_); simp only [List.length_cons, List.length_nil, Nat.reduceAdd, Nat.reduceSub, List.replicate_succ, List.replicate_zero, List.cons_append, List.nil_append]; apply hF; clear hF F)
    refine wk ?_
    refine fin ?_
    rfl
  · rw [show (!decide (0 ≤ a.no ∧ a.no ≤ 1099511627776)) = decide (1099511627776 < a.no) from by
      by_cases h : 1099511627776 < a.no
      · rw [decide_eq_true h, decide_eq_false (fun h => by omega)]; rfl
      · rw [decide_eq_false h, decide_eq_true (by omega)]; rfl]
    (refine enter Tryz.func173 Tryz.results173 Tryz.ntmps173 ty_ok (hw := fun F hF => ?_); simp only [List.length_cons, List.length_nil, Nat.reduceAdd, Nat.reduceSub, List.replicate_succ, List.replicate_zero, List.cons_append, List.nil_append]; apply hF; clear hF F)
    refine wk ?_
    refine fin ?_
    rfl
theorem accts_take {l : List Acct} {p : Acct → Bool} {i : Nat} (h : i < l.length) (h1 : (l.take i).all p = true) (h2 : p l[i] = true) : (l.take (i + 1)).all p = true := by
  rw [List.take_succ_eq_append_getElem h, List.all_append, h1, Bool.true_and]; simpa using h2
set_option maxHeartbeats 20000000 in
theorem acctsIdx_c (l : List Acct) (x : Bool) (hl : l.length < 9223372036854775808) : ∃ r : Int, (0 ≤ r ↔ l.all (fun a => decide (0 ≤ a.no ∧ a.no ≤ 1099511627776)) = false) ∧ Pure Tryz.prog 184 [acsV l x, .fn 173 []] (.int .i64 r) := by
  obtain ⟨p, hp⟩ : ∃ p : Acct → Bool, p = fun a => decide (0 ≤ a.no ∧ a.no ≤ 1099511627776) := ⟨_, rfl⟩
  rw [← hp]
  have hc : ∀ a, Pure Tryz.prog 173 [.agg (acc a)] (.bool (!p a)) := fun a => by rw [hp]; exact accts1_c a
  clear hp
  have hcl : Cleans [acsV l x, .fn 173 []] := cleans_cons (clean_acsV l x) (cleans_cons (.fn _ _ cleans_nil) cleans_nil)
  cases ha : l.all p with
  | true =>
    refine ⟨-1, by simp, ?_⟩
    refine pure_ac ?_ hcl (.int _ _)
    (refine enter Tryz.func184 Tryz.results184 Tryz.ntmps184 ty_ok (hw := fun F hF => ?_); simp only [List.length_cons, List.length_nil, Nat.reduceAdd, Nat.reduceSub, List.replicate_succ, List.replicate_zero, List.cons_append, List.nil_append]; apply hF; clear hF F)
    refine wk ?_
    refine aw_loopI (fun (i : Nat) => ⟨((acsV l x) :: (.fn 173 []) :: .any :: .any :: .any :: .any :: .any :: (.int .i64 l.length) :: (.int .i64 i) :: .any :: .any :: .any :: .any :: .any :: .any :: .any :: .any :: .any :: .any :: []), []⟩) (fun i => i ≤ l.length) (fun i => l.length - i) 0 (by omega) (wkt []) ?_
    intro i hi K hK
    by_cases h1 : i < l.length
    · have c1 := hc l[i]
      rw [List.all_eq_true.1 ha _ (List.getElem_mem h1)] at c1
      clear hc
      refine wk ?_
      exact hK _ (i + 1) (by omega) (wkt []) (by omega)
    · obtain rfl : i = l.length := by omega
      clear hc
      refine wk ?_
      refine fin ?_
      rfl
  | false =>
    have hex : ∃ j, ∃ h : j < l.length, p l[j] = false ∧ ∀ k (hk : k < j), p (l[k]'(by omega)) = true := by
      clear hc hcl
      induction l with
      | nil => simp at ha
      | cons a l ih =>
        cases hpa : p a with
        | false => exact ⟨0, by simp, by simpa using hpa, fun k hk => absurd hk (Nat.not_lt_zero k)⟩
        | true =>
          rw [List.all_cons, hpa, Bool.true_and] at ha
          obtain ⟨j, h1, h2, h3⟩ := ih (by simp at hl; omega) ha
          refine ⟨j + 1, by simp; omega, by simpa using h2, fun k hk => ?_⟩
          cases k with
          | zero => simpa using hpa
          | succ k => simpa using h3 k (by omega)
    obtain ⟨j, h1, h2, h3⟩ := hex
    refine ⟨j, by simp, ?_⟩
    refine pure_ac ?_ hcl (.int _ _)
    (refine enter Tryz.func184 Tryz.results184 Tryz.ntmps184 ty_ok (hw := fun F hF => ?_); simp only [List.length_cons, List.length_nil, Nat.reduceAdd, Nat.reduceSub, List.replicate_succ, List.replicate_zero, List.cons_append, List.nil_append]; apply hF; clear hF F)
    refine wk ?_
    refine aw_loopI (fun (i : Nat) => ⟨((acsV l x) :: (.fn 173 []) :: .any :: .any :: .any :: .any :: .any :: (.int .i64 l.length) :: (.int .i64 i) :: .any :: .any :: .any :: .any :: .any :: .any :: .any :: .any :: .any :: .any :: []), []⟩) (fun i => i ≤ j) (fun i => j - i) 0 (by omega) (wkt []) ?_
    intro i hi K hK
    by_cases he : i < j
    · have hil : i < l.length := by omega
      have c1 := hc l[i]
      rw [h3 i he] at c1
      clear hc h3
      refine wk ?_
      exact hK _ (i + 1) (by omega) (wkt []) (by omega)
    · obtain rfl : i = j := by omega
      have c1 := hc l[i]
      rw [h2] at c1
      clear hc h3
      refine wk ?_
      refine fin ?_
      rfl
set_option maxHeartbeats 20000000 in
theorem paccts_c (l : List Acct) (x : Bool) (hl : l.length < 9223372036854775808) : Pure Tryz.prog 146 [acsV l x] (.bool (acctsOk l)) := by
  refine pure_ac ?_ (cleans_cons (clean_acsV l x) cleans_nil) (.bool _)
  obtain ⟨r, h1, c1⟩ := acctsIdx_c l x hl
  have c2 : Pure Tryz.prog 172 [acsV l x, .fn 173 []] (.bool (decide (r ≥ 0))) := by
    refine pure_ac ?_ (cleans_cons (clean_acsV l x) (cleans_cons (.fn _ _ cleans_nil) cleans_nil)) (.bool _)
    (refine enter Tryz.func172 Tryz.results172 Tryz.ntmps172 ty_ok (hw := fun F hF => ?_); simp only [List.length_cons, List.length_nil, Nat.reduceAdd, Nat.reduceSub, List.replicate_succ, List.replicate_zero, List.cons_append, List.nil_append]; apply hF; clear hF F)
    refine wk ?_
    refine fin ?_
    rfl
  clear c1
  unfold acctsOk
  by_cases h8 : l.length = 8
  · rw [decide_eq_true h8, Bool.true_and]
    cases ha : l.all (fun a => decide (0 ≤ a.no ∧ a.no ≤ 1099511627776)) with
    | true =>
      have hr : ¬ 0 ≤ r := fun h => by rw [h1.1 h] at ha; cases ha
      clear h1 ha
      rw [decide_eq_false hr] at c2
      (refine enter Tryz.func146 Tryz.results146 Tryz.ntmps146 ty_ok (hw := fun F hF => ?_); simp only [List.length_cons, List.length_nil, Nat.reduceAdd, Nat.reduceSub, List.replicate_succ, List.replicate_zero, List.cons_append, List.nil_append]; apply hF; clear hF F)
      refine wk ?_
      refine fin ?_
      rfl
    | false =>
      have hr : 0 ≤ r := h1.2 ha
      clear h1 ha
      rw [decide_eq_true hr] at c2
      (refine enter Tryz.func146 Tryz.results146 Tryz.ntmps146 ty_ok (hw := fun F hF => ?_); simp only [List.length_cons, List.length_nil, Nat.reduceAdd, Nat.reduceSub, List.replicate_succ, List.replicate_zero, List.cons_append, List.nil_append]; apply hF; clear hF F)
      refine wk ?_
      refine fin ?_
      rfl
  · rw [decide_eq_false h8, Bool.false_and]
    clear h1
    (refine enter Tryz.func146 Tryz.results146 Tryz.ntmps146 ty_ok (hw := fun F hF => ?_); simp only [List.length_cons, List.length_nil, Nat.reduceAdd, Nat.reduceSub, List.replicate_succ, List.replicate_zero, List.cons_append, List.nil_append]; apply hF; clear hF F)
    refine wk ?_
    refine fin ?_
    rfl
end Go.Abs
/- Limbo, IDs: the walks. -/
namespace Go.Abs
open Go Go.Proofs

/-- A slice of the call's own comes out. -/
theorem calld_own {P : Program} {f : FuncId} {args : List V} {H : List HB} {z n : Nat} {cells : List V} (hc : Cleans cells) (ha : Cleans args)
    (h : AC P f args [] (fun v h' => ∃ k, v = .slc k 0 z n n ∧ h'[k]? = some (.live cells))) : CallD P f args H (.slc H.length 0 z n n) (H ++ [.live cells]) := by
  have := calld_fresh (P := P) (f := f) (args := args) (H := H) (H1 := H) (hx := [.live cells]) [] (r0 := .slc 0 0 z n n) (by simp) rfl (by simp) (by simp) (by
    intro x hx; rw [List.mem_singleton.1 hx]; exact True.intro) (by
    rw [renL_clean _ ha]
    refine fun ρ I w vs h1 h2 h3 => (h ρ I w vs h1 h2 h3).mono fun x w' ⟨v, h', ρ', I', q, q3⟩ => ⟨v, h', ρ', I', ?_, q3⟩
    obtain ⟨k, rfl, hk⟩ := q
    refine ⟨[k], by simp, ?_, ?_⟩
    · simp [renV, List.idxOf?_cons]
    · simp only [renH, hbAt, hk, renB]
      rw [renL_clean _ hc])
  simpa [shV, shB, shL_clean _ hc] using this
def lastN (l : List Held) : Nat → Nat
  | 0 => 0
  | k + 1 => idN (l.getD k default).t
set_option maxHeartbeats 20000000 in
theorem limbo_c (l : List Held) (x : Bool) (hl : l.length < 9223372036854775808) (o : ∀ t ∈ l, t.ok) : Pure Tryz.prog 147 [lisV l x] (.bool (limboOk l)) := by
  refine pure_ac ?_ (cleans_cons (clean_lisV l x) cleans_nil) (.bool _)
  by_cases h48 : l.length ≤ 48
  · (refine enter Tryz.func147 Tryz.results147 Tryz.ntmps147 ty_ok (hw := fun F hF => ?_); simp only [List.length_cons, List.length_nil, Nat.reduceAdd, Nat.reduceSub, List.replicate_succ, List.replicate_zero, List.cons_append, List.nil_append]; apply hF; clear hF F)
    refine wkn ?_
    refine aw_loopI (fun (i : Nat) => ⟨((lisV l x) :: .any :: .any :: (.int .u64 (lastN l i : Nat)) :: .any :: .any :: .any :: .any :: .any :: .any :: .any :: (lisV l x) :: (.int .i64 l.length) :: (.int .i64 i) :: .any :: .any :: .any :: .any :: .any :: .any :: .any :: .any :: .any :: .any :: .any :: .any :: .any :: .any :: .any :: .any :: .any :: .any :: .any :: .any :: .any :: .any :: .any :: .any :: .any :: .any :: .any :: .any :: .any :: .any :: .any :: .any :: .any :: []), []⟩) (fun i => i ≤ l.length ∧ ∀ j, j < i → limStep l j = true) (fun i => l.length - i) 0 ⟨by omega, fun j hj => absurd hj (Nat.not_lt_zero j)⟩ (wkt []) ?_
    rintro i ⟨hi, hst⟩ K hK
    by_cases h1 : i < l.length
    · have hone : ∀ v ∈ heldc l[i], v.one = true := Rows.one (f := heldc) l[i]
      have hnext : limStep l i = true → ∀ j, j < i + 1 → limStep l j = true := fun h j hj => by
        rcases Nat.lt_succ_iff_lt_or_eq.1 hj with h2 | rfl
        · exact hst j h2
        · exact h
      have hoi := (o l[i] (List.getElem_mem h1)).t
      have hla : lastN l (i + 1) = idN l[i].t := by show idN (l.getD i default).t = _; rw [getD_at h1]
      cases ht : txOk l[i].t with
      | false =>
        have c1 := txid_bad l[i].t hoi ht
        have hn : limStep l i = false := by
          cases i with
          | zero => rw [limStep_0 h1, ht]; rfl
          | succ k => rw [limStep_s h1, ht]; rfl
        rw [limboOk_no h1 hn]
        clear hst hnext o hla hn
        refine wkn ?_
        refine fin ?_
        rfl
      | true =>
        have c1 := txid_c l[i].t hoi ht
        cases i with
        | zero =>
          by_cases hb : 0 ≤ l[0].blk ∧ l[0].blk ≤ 1099511627776
          · have hq := hnext (by rw [limStep_0 h1, ht, decide_eq_true hb]; rfl)
            rw [← hla] at c1
            clear hst hnext o
            refine wkn ?_
            exact hK _ (0 + 1) ⟨by omega, hq⟩ (wkt []) (by omega)
          · have hn : limStep l 0 = false := by rw [limStep_0 h1, ht, decide_eq_false hb]; rfl
            rw [limboOk_no h1 hn]
            clear hst hnext o hla hn
            have hb2 : l[0].blk < 0 ∨ 1099511627776 < l[0].blk := by omega
            clear hb
            rcases hb2 with hb | hb
            · refine wkn ?_
              refine fin ?_
              rfl
            · by_cases hb0 : l[0].blk < 0
              · refine wkn ?_
                refine fin ?_
                rfl
              · refine wkn ?_
                refine fin ?_
                rfl
        | succ k =>
          have hlk : lastN l (k + 1) = idN l[k].t := by show idN (l.getD k default).t = _; rw [getD_at (show k < l.length by omega)]
          rw [hlk]
          by_cases hi2 : idN l[k].t < idN l[k + 1].t
          · by_cases hb : 0 ≤ l[k + 1].blk ∧ l[k + 1].blk ≤ 1099511627776
            · have hq := hnext (by rw [limStep_s h1, ht, decide_eq_true hb, decide_eq_true hi2]; rfl)
              clear hst hnext o
              refine wkn ?_
              refine hK _ (k + 1 + 1) ⟨by omega, hq⟩ ?_ (by omega)
              rw [hla]
              exact wkt []
            · have hn : limStep l (k + 1) = false := by rw [limStep_s h1, ht, decide_eq_false hb, Bool.and_false]
              rw [limboOk_no h1 hn]
              clear hst hnext o hla hn
              have hb2 : l[k + 1].blk < 0 ∨ (¬ l[k + 1].blk < 0 ∧ 1099511627776 < l[k + 1].blk) := by omega
              clear hb
              rcases hb2 with hb | hb
              · refine wkn ?_
                refine fin ?_
                rfl
              · refine wkn ?_
                refine fin ?_
                rfl
          · have hn : limStep l (k + 1) = false := by rw [limStep_s h1, ht, decide_eq_false hi2]; rfl
            rw [limboOk_no h1 hn]
            clear hst hnext o hla hn
            refine wkn ?_
            refine fin ?_
            rfl
    · obtain rfl : i = l.length := by omega
      rw [limboOk_true.2 ⟨h48, hst⟩]
      clear hst o
      refine wkn ?_
      refine fin ?_
      rfl
  · rw [show limboOk l = false from by
      cases e : limboOk l with
      | false => rfl
      | true => exact absurd (limboOk_true.1 e).1 h48]
    (refine enter Tryz.func147 Tryz.results147 Tryz.ntmps147 ty_ok (hw := fun F hF => ?_); simp only [List.length_cons, List.length_nil, Nat.reduceAdd, Nat.reduceSub, List.replicate_succ, List.replicate_zero, List.cons_append, List.nil_append]; apply hF; clear hF F)
    refine wkn ?_
    refine fin ?_
    rfl
set_option maxHeartbeats 20000000 in
theorem ids_nil (x : Bool) : Pure Tryz.prog 124 [tsV [] x] .nils := by
  refine pure_ac ?_ (cleans_cons (clean_tsV [] x) cleans_nil) .nils
  (refine enter Tryz.func124 Tryz.results124 Tryz.ntmps124 ty_ok (hw := fun F hF => ?_); simp only [List.length_cons, List.length_nil, Nat.reduceAdd, Nat.reduceSub, List.replicate_succ, List.replicate_zero, List.cons_append, List.nil_append]; apply hF; clear hF F)
  refine wk ?_
  refine aw_rounds 1 ?_
  refine wk ?_
  refine fin ?_
  rfl
set_option maxHeartbeats 20000000 in
theorem ids_a (l : List Tx) (x : Bool) (h0 : 0 < l.length) (hl : l.length < 1000000) (o : ∀ t ∈ l, t.ok) (h : ∀ t ∈ l, txOk t = true) : AC Tryz.prog 124 [tsV l x] [] (fun v h' => ∃ k, v = .slc k 0 1 l.length l.length ∧ h'[k]? = some (.live (flat hc (l.map idN)))) := by
  have hml : (l.map idN).length = l.length := List.length_map ..
  (refine enter Tryz.func124 Tryz.results124 Tryz.ntmps124 ty_ok (hw := fun F hF => ?_); simp only [List.length_cons, List.length_nil, Nat.reduceAdd, Nat.reduceSub, List.replicate_succ, List.replicate_zero, List.cons_append, List.nil_append]; apply hF; clear hF F)
  refine wk ?_
  refine aw_loopI (fun (i : Nat) => match i with
    | 0 => ⟨((tsV l x) :: .any :: .any :: .nils :: .any :: .any :: .any :: .any :: (tsV l x) :: (.int .i64 l.length) :: (.int .i64 0) :: .any :: .any :: .any :: .any :: .any :: .any :: .any :: .any :: .any :: .any :: .any :: .any :: .any :: .any :: []), []⟩
    | i + 1 => ⟨((tsV l x) :: .any :: .any :: (.slc 0 0 1 (i + 1) (i + 1)) :: .any :: .any :: .any :: .any :: (tsV l x) :: (.int .i64 l.length) :: (.int .i64 ((i : Int) + 1)) :: .any :: .any :: .any :: .any :: .any :: .any :: .any :: .any :: .any :: .any :: .any :: .any :: .any :: .any :: []), [.live (flat hc ((l.map idN).take (i + 1)))]⟩) (fun i => i ≤ l.length) (fun i => l.length - i) 0 (by omega) (wkt []) ?_
  intro i hi K hK
  cases i with
  | zero =>
    dsimp only
    have c1 := txid_c l[0] (o _ (List.getElem_mem h0)) (h _ (List.getElem_mem h0))
    have hone : ∀ v ∈ txc l[0], v.one = true := Rows.one (f := txc) l[0]
    have ht0 : List.take 21 (flat txc l) = txc l[0] := by
      have := flat_take (f := txc) l 0 h0
      rw [Nat.zero_mul, List.drop_zero] at this
      exact this
    have e1 : flat hc ((l.map idN).take (0 + 1)) = hc (idN l[0]) := by
      rw [List.take_succ_eq_append_getElem (by rw [hml]; exact h0), List.take_zero, List.nil_append, flat_single, List.getElem_map]
    clear h o
    refine wk ?_
    (refine aseq_fx (fun F hF => ?_); simp only [ht0]; apply hF; clear hF F)
    refine wk ?_
    simp only [one_eq0, if_false, List.set_cons_zero, List.set_cons_succ, List.cons_append, List.nil_append, List.length_cons, List.length_nil, Nat.reduceAdd]
    refine hK _ 1 (by omega) ?_ (by omega)
    show Wk _ _ ⟨_, [.live (flat hc ((l.map idN).take (0 + 1)))]⟩
    rw [e1]
    exact wkt [2]
  | succ i =>
    dsimp only
    by_cases h1 : i + 1 < l.length
    · have c1 := txid_c l[i + 1] (o _ (List.getElem_mem h1)) (h _ (List.getElem_mem h1))
      have hone : ∀ v ∈ txc l[i + 1], v.one = true := Rows.one (f := txc) l[i + 1]
      have e1 : flat hc ((l.map idN).take (i + 1 + 1)) = flat hc ((l.map idN).take (i + 1)) ++ hc (idN l[i + 1]) := by
        rw [List.take_succ_eq_append_getElem (by rw [hml]; exact h1), flat_append, flat_single, List.getElem_map]
      have g1 : (flat hc ((l.map idN).take (i + 1))).length = (i + 1) * 1 := by rw [flat_length, List.length_take]; omega
      clear h o
      refine wk ?_
      refine hK _ (i + 1 + 1) (by omega) ?_ (by omega)
      show Wk _ _ ⟨_, [.live (flat hc ((l.map idN).take (i + 1 + 1)))]⟩
      rw [e1]
      exact wkt [3]
    · have e1 : (l.map idN).take (i + 1) = l.map idN := List.take_of_length_le (by rw [hml]; omega)
      have e3 : i + 1 = l.length := by omega
      rw [e1, e3]
      clear h o
      refine wk ?_
      refine fin ?_
      exact ⟨0, rfl, rfl⟩
end Go.Abs
