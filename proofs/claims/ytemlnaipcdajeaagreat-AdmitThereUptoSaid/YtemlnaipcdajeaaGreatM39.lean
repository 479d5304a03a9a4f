/- One transaction laid into an empty book; the pool wakes. -/
import Derived.Test.YtemlnaipcdajeaaGreatM38
import Derived.Test.YtemlnaipcdajeaaGreatM37
import Derived.Test.YtemlnaipcdajeaaGreatM35
set_option linter.unusedVariables false
set_option linter.unusedSimpArgs false
namespace Go.Abs
open Go Go.Proofs

theorem pcopy0_c (b : Book) (o : b.whole) (h : wideOk b = true) (ht : b.tx = []) : Pure Tryz.prog 97 [bookV b] (.agg [.int .i64 b.room, .int .i64 b.n, .int .u64 (lb b.b 0), .int .u64 (lb b.b 1), .int .u64 (lb b.b 2), .int .u64 (lb b.b 3), .int .i64 b.e, acsV b.ac false, .nils, lisV b.li false]) := by
  refine pure_ac ?_ (cleans_cons (clean_bookV b) cleans_nil) (clean_agg (cleans_cons (.int _ _) (cleans_cons (.int _ _) (cleans_cons (.int _ _) (cleans_cons (.int _ _) (cleans_cons (.int _ _) (cleans_cons (.int _ _) (cleans_cons (.int _ _) (cleans_cons (clean_acsV _ _) (cleans_cons .nils (cleans_cons (clean_lisV _ _) cleans_nil)))))))))))
  have hone := one_bookc b
  obtain ⟨h1, h2, h3, _⟩ := wide_parts h
  have c1 := clA_c b.ac false (by omega) o.acm
  have c2 : Pure Tryz.prog 105 [tsV b.tx false] .nils := by rw [ht]; exact copies_nil false
  have c3 := helds_c b.li false o.took.lim o.lif h3
  clear o h h1 h2 h3
  (refine enter Tryz.func97 Tryz.results97 Tryz.ntmps97 ty_ok (hw := fun F hF => ?_); simp only [List.length_cons, List.length_nil, Nat.reduceAdd, Nat.reduceSub, List.replicate_succ, List.replicate_zero, List.cons_append, List.nil_append]; apply hF; clear hF F)
  refine wks ?_
  refine fin ?_
  rfl
theorem bs0_c (t : Tx) : Pure Tryz.prog 98 [.nils, txV t, .fn 99 []] (.tup [.int .i64 0, .bool false]) := by
  refine pure_ac ?_ (cleans_cons .nils (cleans_cons (clean_txV t) (cleans_cons (.fn _ _ cleans_nil) cleans_nil))) (clean_tup (cleans_cons (.int _ _) (cleans_cons (.bool _) cleans_nil)))
  have hone : ∀ v ∈ txc t, v.one = true := Rows.one (f := txc) t
  (refine enter Tryz.func98 Tryz.results98 Tryz.ntmps98 ty_ok (hw := fun F hF => ?_); simp only [List.length_cons, List.length_nil, Nat.reduceAdd, Nat.reduceSub, List.replicate_succ, List.replicate_zero, List.cons_append, List.nil_append]; apply hF; clear hF F)
  refine wk ?_
  refine aw_rounds 1 ?_
  refine wk ?_
  refine fin ?_
  rfl
theorem ins0_d (t : Tx) (H : List HB) (b : Nat) (hb : H[b]? = some (.live (txc t))) : CallD Tryz.prog 103 [.nils, .int .i64 0, .slc b 0 21 1 1] H (.slc H.length 0 21 1 1) (H.set b .dead ++ [.live (txc t)]) := by
  have hlt := (List.getElem?_eq_some_iff.1 hb).1
  have := calld_fresh (P := Tryz.prog) (f := 103) (args := [.nils, .int .i64 0, .slc b 0 21 1 1]) (H := H) (H1 := H.set b .dead) (hx := [.live (txc t)]) [b] (r0 := .slc 0 0 21 1 1) (by simp) (by rw [List.length_set]) (by
    intro i hi x hx
    rw [List.mem_singleton.1 hi, List.getElem?_set_self hlt] at hx
    cases hx; rfl) (by
    intro i hi
    rw [List.getElem?_set_ne (fun e => hi (by rw [e]; simp))]) (by
    intro x hx; rw [List.mem_singleton.1 hx]; exact True.intro) (by
    rw [show renL [b] [V.nils, .int .i64 0, .slc b 0 21 1 1] = [.nils, .int .i64 0, .slc 0 0 21 1 1] from by simp [renL, renV, List.idxOf?_cons], show renH [b] H [b] = [.live (txc t)] from by simp only [renH, hbAt, hb, renB]; rw [renL_clean _ (cleans_txc t)]]
    have hone : ∀ v ∈ txc t, v.one = true := Rows.one (f := txc) t
    (refine enter Tryz.func103 Tryz.results103 Tryz.ntmps103 ty_ok (hw := fun F hF => ?_); simp only [List.length_cons, List.length_nil, Nat.reduceAdd, Nat.reduceSub, List.replicate_succ, List.replicate_zero, List.cons_append, List.nil_append]; apply hF; clear hF F)
    refine wk ?_
    refine fin ?_
    simp only [one_eq0, if_false]
    refine ⟨[1], by simp, ?_, ?_⟩
    · simp [renV, List.idxOf?_cons]
    · show [HB.live (renL [1] (txc t))] = _
      rw [renL_clean _ (cleans_txc t)])
  simpa [shV, shB, shL_clean _ (cleans_txc t)] using this
/-- A book with its transactions in a block of its own: that block as a value. -/
theorem ac_fbook {P : Program} {f : FuncId} {args : List V} (b : Book) (e : Nat) (h : AC P f args [] fun v h' => ∃ k, v = .tup [.agg [.int .i64 b.room, .int .i64 b.n, .int .u64 (lb b.b 0), .int .u64 (lb b.b 1), .int .u64 (lb b.b 2), .int .u64 (lb b.b 3), .int .i64 b.e, acsV b.ac false, .slc k 0 21 b.tx.length b.tx.length, lisV b.li false], errV e] ∧ h'[k]? = some (.live (flat txc b.tx))) : AC P f args [] fun v _ => v = .tup [bookV b, errV e] := by
  refine ac_wk h ?_
  rintro v h' ⟨k, rfl, hk⟩
  refine ⟨_, frzH h' [k] 3 0 h', rfl, ?_⟩
  have w := wk_frz (N := 0) [k] 3 ⟨[V.tup [.agg [.int .i64 b.room, .int .i64 b.n, .int .u64 (lb b.b 0), .int .u64 (lb b.b 1), .int .u64 (lb b.b 2), .int .u64 (lb b.b 3), .int .i64 b.e, acsV b.ac false, .slc k 0 21 b.tx.length b.tx.length, lisV b.li false], errV e]], h'⟩
  have e0 : frzAt h' [k] k = some (flat txc b.tx) := by unfold frzAt; rw [if_pos (by simp), hk]
  have e1 : ∀ l : List V, frzL h' [k] 0 l = l := fun l => by
    induction l with
    | nil => simp [frzL]
    | cons a l ih => simp [frzL, frzV, ih]
  have e2 : List.take (b.tx.length * 21) (flat txc b.tx) = flat txc b.tx := List.take_of_length_le (by rw [flat_length]; exact Nat.le_refl _)
  unfold frzS at w
  simp only [frzL, frzV, errV, e0, e1, List.drop_zero, e2, frzL_clean _ _ _ (cleans_flat _)] at w
  exact w
set_option maxRecDepth 20000 in
set_option maxHeartbeats 20000000 in
theorem put0_c (b : Book) (o : b.whole) (h : bookOk b = true) (ht : b.tx = []) (t : Tx) (ot : t.fine) (hk : txOk t = true) : Pure Tryz.prog 51 [bookV b, txV t] (.tup [bookV { b with tx := [t] }, errV 0]) := by
  refine pure_ac (ac_fbook { b with tx := [t] } 0 ?_) (cleans_cons (clean_bookV b) (cleans_cons (clean_txV t) cleans_nil)) (clean_tup (cleans_cons (clean_bookV _) (cleans_cons (.int _ _) cleans_nil)))
  have hone := one_bookc b
  have hone2 : ∀ v ∈ txc t, v.one = true := Rows.one (f := txc) t
  have c1 := pcheck_c b o.took
  rw [if_pos h] at c1
  have c2 := check_c t ot.took
  rw [if_pos hk] at c2
  have c3 := pcopy0_c b o (book_wide h) ht
  have c4 := bs0_c t
  have c5 := txcopy_c t ot hk
  clear o h ot hk
  (refine enter Tryz.func51 Tryz.results51 Tryz.ntmps51 ty_ok (hw := fun F hF => ?_); simp only [List.length_cons, List.length_nil, Nat.reduceAdd, Nat.reduceSub, List.replicate_succ, List.replicate_zero, List.cons_append, List.nil_append]; apply hF; clear hF F)
  refine wks ?_
  refine st_call rfl rfl (ins0_d t _ 4 rfl) ?_
  simp only [List.length_cons, List.length_nil, Nat.reduceAdd, List.set_cons_succ, List.set_cons_zero, List.cons_append, List.nil_append]
  refine wks ?_
  refine fin ?_
  exact ⟨5, rfl, by rw [flat_single]; rfl⟩
end Go.Abs
/- The pool wakes. -/
namespace Go.Abs
open Go Go.Proofs

theorem mkT_fits : fitsN [hashN ⟨#[98]⟩] [⟨#[98]⟩] = 0 := by decide +kernel
theorem mkT_ok {fr no : Int} {pay : Nat} (h1 : 0 ≤ fr ∧ fr ≤ 7) (h2 : 0 ≤ no ∧ no ≤ 1099511627776) (h3 : pay < 4611686018427387904) : txOk (mkT fr no pay) = true := by
  have e : 2 * pay % 18446744073709551616 = 2 * pay := Nat.mod_eq_of_lt (by omega)
  refine decide_eq_true ⟨h1.1, h1.2, h2.1, h2.2, by show (0 : Int) ≤ 1; omega, by show (1 : Int) ≤ _; omega, ?_, mkT_fits, ?_⟩
  · show pay ≤ 2 * pay % 18446744073709551616; omega
  · show 2 * pay % 18446744073709551616 * 1 + pay * (1 * 131072) + 0 < _
    omega
theorem mkT_fine {fr no : Int} {pay : Nat} (h1 : 0 ≤ fr ∧ fr ≤ 7) (h2 : 0 ≤ no ∧ no ≤ 1099511627776) (h3 : pay < 4611686018427387904) : (mkT fr no pay).fine := by
  have e : 2 * pay % 18446744073709551616 = 2 * pay := Nat.mod_eq_of_lt (by omega)
  refine ⟨⟨by show _ ∧ _; exact ⟨by show _ ≤ fr; omega, by show fr < _; omega⟩, ⟨by show _ ≤ no; omega, by show no < _; omega⟩, by show pay < _; omega, by show 2 * pay % 18446744073709551616 < _; omega, by show pay < _; omega, by show 0 < _; omega, ⟨by show _ ≤ (1 : Int); omega, by show (1 : Int) < _; omega⟩, ?_, by show 1 < _; omega, ?_, by show 1 < _; omega⟩, by show 1 < _; omega, by show 1 < _; omega⟩
  · intro h hh
    rw [List.mem_singleton.1 hh]
    exact markP_lt _ _
  · intro s hs
    rw [List.mem_singleton.1 hs]
    show 1 < _; omega
theorem b16_whole (room : Int) (h : 0 ≤ room ∧ room < 9223372036854775808) (l : List Tx) (hl : l.length < 1000000) (ho : ∀ t ∈ l, t.fine) : Book.whole { b16 room with tx := l } := by
  refine ⟨⟨⟨⟨by show _ ≤ room; omega, h.2⟩, ⟨by show _ ≤ (0 : Int); omega, by show (0 : Int) < _; omega⟩, by show 0 < _; omega, ⟨by show _ ≤ (0 : Int); omega, by show (0 : Int) < _; omega⟩, ?_, by show 8 < _; omega, fun t ht => (ho t ht).took, by show l.length < _; omega, fun x hx => (List.not_mem_nil hx).elim, by show 0 < _; omega⟩, hl, by show 0 < _; omega⟩, by show 8 < _; omega, ho, fun x hx => (List.not_mem_nil hx).elim⟩
  intro a ha
  have := List.eq_of_mem_replicate ha
  subst this
  exact ⟨⟨by show _ ≤ (0 : Int); omega, by show (0 : Int) < _; omega⟩, by show 18446744073709551616 < _; omega⟩
def t102 : Tx := mkT 1 0 2
theorem b1024_ok : bookOk (b16 1024) = true := by decide +kernel
theorem b1024t_ok : bookOk { b16 1024 with tx := [t102] } = true := by decide +kernel
theorem s1024_slots : slotsN [t102] = 128 := by decide +kernel
end Go.Abs
/- The pool wakes; what is beyond what is played. -/
namespace Go.Abs
open Go Go.Proofs

set_option maxRecDepth 20000 in
set_option maxHeartbeats 20000000 in
theorem wakes16_c : Pure Tryz.prog 48 [] (.bool true) := by
  refine pure_ac ?_ cleans_nil (.bool _)
  have c1 := b16_c 1024
  have c2 := t7m_c 1 0 2 (by omega)
  have c3 : Pure Tryz.prog 51 [bookV (b16 1024), txV (mkT 1 0 2)] (.tup [bookV { b16 1024 with tx := [t102] }, errV 0]) := put0_c (b16 1024) (b16_whole 1024 (by omega) [] (by simp) (fun t h => (List.not_mem_nil h).elim)) b1024_ok rfl t102 (mkT_fine (by omega) (by omega) (by omega)) (mkT_ok (by omega) (by omega) (by omega))
  have c4 := pbytes_c { b16 1024 with tx := [t102] } (b16_whole 1024 (by omega) [t102] (by simp) (fun t h => by rw [List.mem_singleton.1 h]; exact mkT_fine (by omega) (by omega) (by omega))).took
  unfold pbytesV at c4
  rw [if_pos b1024t_ok, s1024_slots] at c4
  have c5 := num16_c 0
  have h1 := one_bookc (b16 1024)
  have h2 := one_bookc { b16 1024 with tx := [t102] }
  have h3 : ∀ v ∈ txc (mkT 1 0 2), v.one = true := Rows.one (f := txc) (mkT 1 0 2)
  (refine enter Tryz.func48 Tryz.results48 Tryz.ntmps48 ty_ok (hw := fun F hF => ?_); simp only [List.length_cons, List.length_nil, Nat.reduceAdd, Nat.reduceSub, List.replicate_succ, List.replicate_zero, List.cons_append, List.nil_append]; apply hF; clear hF F)
  refine wks ?_
  refine fin ?_
  rfl
def heavy16 (p : PAsk) : Bool := heavyB p.b || decide (txsW p.l > 3000) || decide (p.n.length > 500)
theorem heavy16_c (p : PAsk) (o : p.ok) : Pure Tryz.prog 45 [paskV p] (.bool (heavy16 p)) := by
  refine pure_ac ?_ (cleans_cons (clean_paskV p) cleans_nil) (.bool _)
  have hone := one_paskc p
  have c1 := heavy_c p.b o.b
  have c2 := txsWeight_c p.l false o.ll o.l
  clear o
  unfold heavy16
  cases h1 : heavyB p.b with
  | true =>
    rw [h1] at c1
    rw [Bool.true_or, Bool.true_or]
    (refine enter Tryz.func45 Tryz.results45 Tryz.ntmps45 ty_ok (hw := fun F hF => ?_); simp only [List.length_cons, List.length_nil, Nat.reduceAdd, Nat.reduceSub, List.replicate_succ, List.replicate_zero, List.cons_append, List.nil_append]; apply hF; clear hF F)
    refine wk ?_
    refine fin ?_
    rfl
  | false =>
    rw [h1] at c1
    rw [Bool.false_or]
    by_cases h2 : txsW p.l > 3000
    · rw [decide_eq_true h2, Bool.true_or]
      (refine enter Tryz.func45 Tryz.results45 Tryz.ntmps45 ty_ok (hw := fun F hF => ?_); simp only [List.length_cons, List.length_nil, Nat.reduceAdd, Nat.reduceSub, List.replicate_succ, List.replicate_zero, List.cons_append, List.nil_append]; apply hF; clear hF F)
      refine wk ?_
      refine fin ?_
      rfl
    · rw [decide_eq_false h2, Bool.false_or]
      by_cases h3 : p.n.length > 500
      · (refine enter Tryz.func45 Tryz.results45 Tryz.ntmps45 ty_ok (hw := fun F hF => ?_); simp only [List.length_cons, List.length_nil, Nat.reduceAdd, Nat.reduceSub, List.replicate_succ, List.replicate_zero, List.cons_append, List.nil_append]; apply hF; clear hF F)
        refine wk ?_
        refine fin ?_
        exact congrArg V.bool (decide_eq_decide.2 (by omega))
      · (refine enter Tryz.func45 Tryz.results45 Tryz.ntmps45 ty_ok (hw := fun F hF => ?_); simp only [List.length_cons, List.length_nil, Nat.reduceAdd, Nat.reduceSub, List.replicate_succ, List.replicate_zero, List.cons_append, List.nil_append]; apply hF; clear hF F)
        refine wk ?_
        refine fin ?_
        exact congrArg V.bool (decide_eq_decide.2 (by omega))
/-- Each account's chain: they are as many as the transactions. -/
def poP (k : Nat) (t : Tx) : Bool := decide (0 ≤ t.fr) && decide (t.fr < (k : Int))
def poN (k : Nat) (l : List Tx) : Nat := l.countP (poP k)
theorem poN_zero (l : List Tx) : poN 0 l = 0 := by
  refine List.countP_eq_zero.2 fun t _ => ?_
  simp [poP]
theorem poN_succ (k : Nat) (l : List Tx) : poN (k + 1) l = poN k l + (ofA k l).length := by
  unfold ofA poN
  rw [← List.countP_eq_length_filter]
  induction l with
  | nil => rfl
  | cons t l ih =>
    rw [List.countP_cons, List.countP_cons, List.countP_cons, ih]
    have e : (if poP (k + 1) t = true then 1 else 0) = (if poP k t = true then 1 else 0) + (if (t.fr == (k : Int)) = true then 1 else 0) := by
      by_cases h0 : 0 ≤ t.fr
      · by_cases h1 : t.fr < (k : Int)
        · simp [poP, h0, h1, show ¬ t.fr = (k : Int) by omega, show t.fr < (k : Int) + 1 by omega]
        · by_cases h2 : t.fr = (k : Int)
          · simp [poP, h2]; omega
          · simp [poP, h0, h1, h2, show ¬ t.fr < (k : Int) + 1 by omega]
      · simp [poP, h0, show ¬ t.fr = (k : Int) by omega]
    omega
theorem poN_le (k : Nat) (l : List Tx) : poN k l ≤ l.length := List.countP_le_length
theorem poN_all {k : Nat} {l : List Tx} (h : ∀ t ∈ l, 0 ≤ t.fr ∧ t.fr < (k : Int)) : poN k l = l.length := by
  unfold poN
  rw [List.countP_eq_length]
  intro t ht
  have := h t ht
  simp [poP, this.1, this.2]
end Go.Abs
