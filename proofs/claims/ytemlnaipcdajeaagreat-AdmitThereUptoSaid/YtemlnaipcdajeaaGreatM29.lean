/- What a book may be; weaker words for values. -/
import Derived.Test.YtemlnaipcdajeaaGreatM28
set_option linter.unusedVariables false
set_option linter.unusedSimpArgs false
namespace Go.Abs
open Go Go.Proofs

/-- What may be said of a value, where more may be said. -/
def Says (v' v : V) : Prop := ∀ (ρ : Rho) (I : Nat → Prop) (w : World) (x : Value), RV ρ I w v x → RV ρ I w v' x
theorem Says.refl (v : V) : Says v v := fun _ _ _ _ h => h
theorem says_nil (x : Bool) : Says (.vec [] 0 x) .nils := fun ρ I w y h => by cases h; exact .vecn none x
theorem says_x (cs : List V) (n : Nat) (x : Bool) : Says (.vec cs n false) (.vec cs n x) := fun ρ I w y h => by
  cases h with
  | vec f hI hc hv h1 hx => exact .vec f hI hc hv h1 (by simp)
  | vecn oa x => exact .vecn oa false
def SaysL : List V → List V → Prop
  | [], [] => True
  | a :: l, b :: m => Says a b ∧ SaysL l m
  | _, _ => False
theorem SaysL.refl : ∀ l, SaysL l l
  | [] => True.intro
  | a :: l => ⟨Says.refl a, SaysL.refl l⟩
theorem SaysL.append : ∀ {a b c d : List V}, SaysL a b → SaysL c d → SaysL (a ++ c) (b ++ d)
  | [], [], _, _, _, k => k
  | _ :: _, _ :: _, _, _, h, k => ⟨h.1, SaysL.append h.2 k⟩
  | [], _ :: _, _, _, h, _ => h.elim
  | _ :: _, [], _, _, h, _ => h.elim
theorem SaysL.get : ∀ {l m : List V}, SaysL l m → l.length = m.length ∧ ∀ (i : Nat) (u : V), l[i]? = some u → ∃ v, m[i]? = some v ∧ Says u v
  | [], [], _ => ⟨rfl, by simp⟩
  | a :: l, b :: m, h => by
    obtain ⟨e, k⟩ := h.2.get
    refine ⟨by simp [e], fun i u hu => ?_⟩
    cases i with
    | zero => simp at hu; subst hu; exact ⟨b, rfl, h.1⟩
    | succ i => exact k i u (by simpa using hu)
  | [], _ :: _, h => h.elim
  | _ :: _, [], h => h.elim
theorem says_agg {l m : List V} (h : SaysL l m) : Says (.agg l) (.agg m) := fun ρ I w x hx => by
  obtain ⟨e, k⟩ := h.get
  cases hx with
  | agg hl hv =>
    exact .agg (e.trans hl) fun i u y hu hy => by
      obtain ⟨v, hv1, hv2⟩ := k i u hu
      exact hv2 _ _ _ _ (hv i v y hv1 hy)
theorem says_tup {l m : List V} (h : SaysL l m) : Says (.tup l) (.tup m) := fun ρ I w x hx => by
  obtain ⟨e, k⟩ := h.get
  cases hx with
  | tup hl hv =>
    exact .tup (e.trans hl) fun i u y hu hy => by
      obtain ⟨v, hv1, hv2⟩ := k i u hu
      exact hv2 _ _ _ _ (hv i v y hv1 hy)
theorem says_vec {l m : List V} (n : Nat) (x : Bool) (h : SaysL l m) : Says (.vec l n x) (.vec m n x) := fun ρ I w y hx => by
  obtain ⟨e, k⟩ := h.get
  cases hx with
  | vec f hI hc hv h1 hx =>
    exact .vec f hI (fun i hi => hc i (by omega)) (fun i u hu => by
      obtain ⟨v, hv1, hv2⟩ := k i u hu
      exact hv2 _ _ _ _ (hv i v hv1)) h1 hx
  | vecn oa x =>
    cases l with
    | nil => exact .vecn oa x
    | cons a l => simp at e
theorem ac_says {P : Program} {f : FuncId} {args : List V} {H : List HB} {R R' : V → List HB → Prop} (h : AC P f args H R) (k : ∀ v h', R v h' → ∃ v2, R' v2 h' ∧ Says v2 v) : AC P f args H R' :=
  fun ρ I w vs h1 h2 h3 => (h ρ I w vs h1 h2 h3).mono fun x w' ⟨v, h', ρ', I', q, q2, q3⟩ => by
    obtain ⟨v2, r, s⟩ := k v h' q
    exact ⟨v2, h', ρ', I', r, s _ _ _ _ q2, q3⟩
theorem pure_says {P : Program} {f : FuncId} {args : List V} {r r' : V} (h : Pure P f args r) (s : Says r' r) : Pure P f args r' := fun H =>
  ac_says (h H) fun v h' ⟨e1, e2⟩ => ⟨r', ⟨rfl, e2⟩, by rw [e1]; exact s⟩

/-- What a whole book may be. -/
def bookOk (b : Book) : Bool := decide (1024 ≤ b.room ∧ b.room ≤ 1048576) && wideOk b && decide ((slotsN b.tx : Int) ≤ b.room)
theorem wide_tx {b : Book} (h : wideOk b = true) : ∀ t ∈ b.tx, txOk t = true := by
  unfold wideOk at h
  simp only [Bool.and_eq_true] at h
  exact groups_ok (Nat.le_refl _) (by omega) h.1.2
theorem book_wide {b : Book} (h : bookOk b = true) : wideOk b = true := by
  unfold bookOk at h
  simp only [Bool.and_eq_true] at h
  exact h.1.2
/-- A book that is not beyond what is played. -/
structure Book.fine (q : Book) : Prop where
  took : q.ok
  txm : q.tx.length < 1000000
  lim : q.li.length < 1000000
set_option maxHeartbeats 20000000 in
theorem pcheck_c (b : Book) (o : b.fine) : Pure Tryz.prog 56 [bookV b] (errV (if bookOk b = true then 0 else 1)) := by
  refine pure_ac ?_ (cleans_cons (clean_bookV b) cleans_nil) (.int _ _)
  have hone : ∀ v ∈ bookc b, v.one = true := by
    intro v hv
    simp only [List.mem_cons, List.not_mem_nil, or_false] at hv
    rcases hv with h | h | h | h | h | h | h | h | h | h <;> rw [h] <;> rfl
  have c1 := roomy_c b.room
  have c2 := wide_c b o.took ⟨o.txm, o.lim⟩
  unfold bookOk
  by_cases h1 : 1024 ≤ b.room ∧ b.room ≤ 1048576
  · rw [decide_eq_true h1, Bool.true_and]
    rw [decide_eq_true h1] at c1
    cases e : wideOk b with
    | false =>
      rw [e] at c2
      rw [Bool.false_and, if_neg (by simp)]
      clear o
      (refine enter Tryz.func56 Tryz.results56 Tryz.ntmps56 ty_ok (hw := fun F hF => ?_); simp only [List.length_cons, List.length_nil, Nat.reduceAdd, Nat.reduceSub, List.replicate_succ, List.replicate_zero, List.cons_append, List.nil_append]; apply hF; clear hF F)
      refine wk ?_
      refine fin ?_
      rfl
    | true =>
      have c3 := slots_c b.tx false o.txm o.took.tx (wide_tx e)
      rw [e] at c2
      rw [Bool.true_and]
      clear o
      by_cases h2 : (slotsN b.tx : Int) ≤ b.room
      · rw [decide_eq_true h2, if_pos rfl]
        (refine enter Tryz.func56 Tryz.results56 Tryz.ntmps56 ty_ok (hw := fun F hF => ?_); simp only [List.length_cons, List.length_nil, Nat.reduceAdd, Nat.reduceSub, List.replicate_succ, List.replicate_zero, List.cons_append, List.nil_append]; apply hF; clear hF F)
        refine wk ?_
        refine fin ?_
        rfl
      · rw [decide_eq_false h2, if_neg (by simp)]
        (refine enter Tryz.func56 Tryz.results56 Tryz.ntmps56 ty_ok (hw := fun F hF => ?_); simp only [List.length_cons, List.length_nil, Nat.reduceAdd, Nat.reduceSub, List.replicate_succ, List.replicate_zero, List.cons_append, List.nil_append]; apply hF; clear hF F)
        refine wk ?_
        refine fin ?_
        rfl
  · rw [decide_eq_false h1, Bool.false_and, Bool.false_and, if_neg (by simp)]
    rw [decide_eq_false h1] at c1
    clear o
    (refine enter Tryz.func56 Tryz.results56 Tryz.ntmps56 ty_ok (hw := fun F hF => ?_); simp only [List.length_cons, List.length_nil, Nat.reduceAdd, Nat.reduceSub, List.replicate_succ, List.replicate_zero, List.cons_append, List.nil_append]; apply hF; clear hF F)
    refine wk ?_
    refine fin ?_
    rfl
def pbytesV (b : Book) : V := if bookOk b = true then .tup [.int .i64 (slotsN b.tx : Nat), errV 0] else .tup [.int .i64 0, errV 1]
theorem pbytes_c (b : Book) (o : b.fine) : Pure Tryz.prog 46 [bookV b] (pbytesV b) := by
  refine pure_ac ?_ (cleans_cons (clean_bookV b) cleans_nil) (by unfold pbytesV; split <;> exact clean_tup (cleans_cons (.int _ _) (cleans_cons (.int _ _) cleans_nil)))
  have hone : ∀ v ∈ bookc b, v.one = true := by
    intro v hv
    simp only [List.mem_cons, List.not_mem_nil, or_false] at hv
    rcases hv with h | h | h | h | h | h | h | h | h | h <;> rw [h] <;> rfl
  have c1 := pcheck_c b o
  unfold pbytesV
  cases e : bookOk b with
  | false =>
    rw [e, if_neg (by simp)] at c1
    rw [if_neg (by simp)]
    clear o
    (refine enter Tryz.func46 Tryz.results46 Tryz.ntmps46 ty_ok (hw := fun F hF => ?_); simp only [List.length_cons, List.length_nil, Nat.reduceAdd, Nat.reduceSub, List.replicate_succ, List.replicate_zero, List.cons_append, List.nil_append]; apply hF; clear hF F)
    refine wk ?_
    refine fin ?_
    rfl
  | true =>
    have c3 := slots_c b.tx false o.txm o.took.tx (wide_tx (book_wide e))
    rw [e, if_pos rfl] at c1
    rw [if_pos rfl]
    clear o
    (refine enter Tryz.func46 Tryz.results46 Tryz.ntmps46 ty_ok (hw := fun F hF => ?_); simp only [List.length_cons, List.length_nil, Nat.reduceAdd, Nat.reduceSub, List.replicate_succ, List.replicate_zero, List.cons_append, List.nil_append]; apply hF; clear hF F)
    refine wk ?_
    refine fin ?_
    rfl
theorem num16_c (n : Int) : Pure Tryz.prog 47 [.int .i64 n] (.int .i64 n) := by
  refine pure_ac ?_ (cleans_cons (.int _ _) cleans_nil) (.int _ _)
  (refine enter Tryz.func47 Tryz.results47 Tryz.ntmps47 ty_ok (hw := fun F hF => ?_); simp only [List.length_cons, List.length_nil, Nat.reduceAdd, Nat.reduceSub, List.replicate_succ, List.replicate_zero, List.cons_append, List.nil_append]; apply hF; clear hF F)
  refine wk ?_
  refine fin ?_
  rfl
theorem num17_c (n : Int) : Pure Tryz.prog 33 [.int .i64 n] (.int .i64 n) := by
  refine pure_ac ?_ (cleans_cons (.int _ _) cleans_nil) (.int _ _)
  (refine enter Tryz.func33 Tryz.results33 Tryz.ntmps33 ty_ok (hw := fun F hF => ?_); simp only [List.length_cons, List.length_nil, Nat.reduceAdd, Nat.reduceSub, List.replicate_succ, List.replicate_zero, List.cons_append, List.nil_append]; apply hF; clear hF F)
  refine wk ?_
  refine fin ?_
  rfl
theorem num23_c (n : Int) : Pure Tryz.prog 19 [.int .i64 n] (.int .i64 n) := by
  refine pure_ac ?_ (cleans_cons (.int _ _) cleans_nil) (.int _ _)
  (refine enter Tryz.func19 Tryz.results19 Tryz.ntmps19 ty_ok (hw := fun F hF => ?_); simp only [List.length_cons, List.length_nil, Nat.reduceAdd, Nat.reduceSub, List.replicate_succ, List.replicate_zero, List.cons_append, List.nil_append]; apply hF; clear hF F)
  refine wk ?_
  refine fin ?_
  rfl
theorem num24_c (n : Int) : Pure Tryz.prog 42 [.int .i64 n] (.int .i64 n) := by
  refine pure_ac ?_ (cleans_cons (.int _ _) cleans_nil) (.int _ _)
  (refine enter Tryz.func42 Tryz.results42 Tryz.ntmps42 ty_ok (hw := fun F hF => ?_); simp only [List.length_cons, List.length_nil, Nat.reduceAdd, Nat.reduceSub, List.replicate_succ, List.replicate_zero, List.cons_append, List.nil_append]; apply hF; clear hF F)
  refine wk ?_
  refine fin ?_
  rfl
/-! ### A plain transaction, a plain book -/
def mkT (fr no : Int) (pay : Nat) : Tx := ⟨fr, no, pay, (2 * pay) % 18446744073709551616, pay, 0, 1, [hashN ⟨#[98]⟩], [⟨#[98]⟩]⟩
theorem t7m_c (fr no : Int) (pay : Nat) (hp : pay < 18446744073709551616) : Pure Tryz.prog 39 [.int .i64 fr, .int .i64 no, .int .u64 pay] (txV (mkT fr no pay)) := by
  have q : ∀ n, n < 18446744073709551616 → lb n 0 = n ∧ lb n 1 = 0 ∧ lb n 2 = 0 ∧ lb n 3 = 0 := by
    intro n hn; unfold lb
    refine ⟨by rw [Nat.pow_zero, Nat.div_one, Nat.mod_eq_of_lt hn], ?_, ?_, ?_⟩ <;> rw [Nat.div_eq_of_lt (by omega)]
  refine pure_seal 2 (R := fun v h' => ∃ a b, v = .agg [.int .i64 fr, .int .i64 no, .int .u64 pay, .int .u64 0, .int .u64 0, .int .u64 0, .int .u64 ((2 * pay % 18446744073709551616 : Nat)), .int .u64 0, .int .u64 0, .int .u64 0, .int .u64 pay, .int .u64 0, .int .u64 0, .int .u64 0, .int .u64 0, .int .u64 0, .int .u64 0, .int .u64 0, .int .i64 1, .slc a 0 1 1 1, .slc b 0 1 1 1] ∧ h'[a]? = some (.live [.int .u64 (hashN ⟨#[98]⟩ : Nat)]) ∧ h'[b]? = some (.live [.str ⟨#[98]⟩])) ?_ (cleans_cons (.int _ _) (cleans_cons (.int _ _) (cleans_cons (.int _ _) cleans_nil))) ?_ (clean_txV _)
  · have c1 := rhash_c ⟨#[98]⟩ (by decide)
    have e1 : (2 * (pay : Int)) % 18446744073709551616 = ((2 * pay % 18446744073709551616 : Nat) : Int) := by omega
    (refine enter Tryz.func39 Tryz.results39 Tryz.ntmps39 ty_ok (hw := fun F hF => ?_); simp only [List.length_cons, List.length_nil, Nat.reduceAdd, Nat.reduceSub, List.replicate_succ, List.replicate_zero, List.cons_append, List.nil_append]; apply hF; clear hF F)
    refine wk ?_
    refine fin ?_
    refine ⟨1, 2, ?_, rfl, rfl⟩
    first | rw [e1] | skip
  · rintro v h' ⟨a, b, rfl, h1, h2⟩
    simp only [sealV, sealL, h1, h2, List.drop_zero, List.take_succ_cons, List.take_zero]
    obtain ⟨a0, a1, a2, a3⟩ := q pay hp
    obtain ⟨b0, b1, b2, b3⟩ := q (2 * pay % 18446744073709551616) (Nat.mod_lt _ (by omega))
    obtain ⟨c0, c1, c2, c3⟩ := q 0 (by omega)
    simp only [txV, txc, mkT, a0, a1, a2, a3, b0, b1, b2, b3, c0, c1, c2, c3]
    rfl
end Go.Abs
