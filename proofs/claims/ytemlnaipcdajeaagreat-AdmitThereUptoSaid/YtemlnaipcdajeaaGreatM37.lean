/- What the laws of pools ask, opened. -/
import Derived.Test.YtemlnaipcdajeaaGreatM36
import Derived.Test.YtemlnaipcdajeaaGreatM15
import Derived.Test.YtemlnaipcdajeaaGreatM11
import Derived.Test.YtemlnaipcdajeaaGreatRows
set_option linter.unusedVariables false
set_option linter.unusedSimpArgs false
namespace Go.Abs
open Go Go.Proofs Go.Proofs.YtemlnaipcdajeaaGreat Go.ChangeShapes Go.WideShapes Go.ChangeAt Go.RowKit Go.Deep

@[reducible] def ic (z : Int) : List V := [.int .i64 z]
instance rows_ic : Rows ic 1 where
  len := fun _ => rfl
  clean := fun z => cleans_cons (.int _ _) cleans_nil
  one := fun z v hv => by rw [List.mem_singleton.1 hv]; rfl
instance rowsL_ic : RowsL ic (fun z => [.int .i64 z]) := ⟨fun _ => rfl⟩
/-- A book, transactions, numbers. -/
structure PAsk where
  b : Book
  l : List Tx
  n : List Int
@[reducible] def paskc (p : PAsk) : List V := [.int .i64 p.b.room, .int .i64 p.b.n, .int .u64 (lb p.b.b 0), .int .u64 (lb p.b.b 1), .int .u64 (lb p.b.b 2), .int .u64 (lb p.b.b 3), .int .i64 p.b.e,
  .vec (flat acc p.b.ac) p.b.ac.length false, .vec (flat txc p.b.tx) p.b.tx.length false, .vec (flat heldc p.b.li) p.b.li.length false, .vec (flat txc p.l) p.l.length false, .vec (flat ic p.n) p.n.length false]
@[reducible] def paskV (p : PAsk) : V := .agg (paskc p)
structure PAsk.ok (p : PAsk) : Prop where
  b : p.b.ok
  l : ∀ t ∈ p.l, t.ok
  ll : p.l.length < 9223372036854775808
  n : ∀ z ∈ p.n, -9223372036854775808 ≤ z ∧ z < 9223372036854775808
  nl : p.n.length < 9223372036854775808
theorem cleans_paskc (p : PAsk) : Cleans (paskc p) := by
  have h1 : Clean (.vec (flat acc p.b.ac) p.b.ac.length false) := .vec _ _ _ (cleans_flat p.b.ac)
  have h2 : Clean (.vec (flat txc p.b.tx) p.b.tx.length false) := .vec _ _ _ (cleans_flat p.b.tx)
  have h3 : Clean (.vec (flat heldc p.b.li) p.b.li.length false) := .vec _ _ _ (cleans_flat p.b.li)
  have h4 : Clean (.vec (flat txc p.l) p.l.length false) := .vec _ _ _ (cleans_flat p.l)
  have h5 : Clean (.vec (flat ic p.n) p.n.length false) := .vec _ _ _ (cleans_flat p.n)
  unfold paskc
  repeat (first | exact cleans_nil | refine cleans_cons (.int _ _) ?_ | refine cleans_cons h1 ?_ | refine cleans_cons h2 ?_ | refine cleans_cons h3 ?_ | refine cleans_cons h4 ?_ | refine cleans_cons h5 ?_)
theorem clean_paskV (p : PAsk) : Clean (paskV p) := clean_agg (cleans_paskc p)
theorem one_paskc (p : PAsk) : ∀ v ∈ paskc p, v.one = true := by
  intro v hv
  simp only [List.mem_cons, List.not_mem_nil, or_false] at hv
  rcases hv with h | h | h | h | h | h | h | h | h | h | h | h <;> rw [h] <;> rfl
/-! ### How much it is -/
theorem vb_mem {α : Type} {f : α → List V} : ∀ {l : List α} {a : α}, a ∈ l → vbL (f a) ≤ vbL (flat f l)
  | b :: l, a, h => by
    rw [flat, vbL_append]
    rcases List.mem_cons.1 h with rfl | h
    · omega
    · have := vb_mem (f := f) h; omega
theorem vb_vec (cs : List V) (n : Nat) (x : Bool) : vbV (.vec cs n x) = n + vbL cs := by unfold vbV; rfl
theorem vb_int (k : IntKind) (n : Int) : vbV (.int k n) = 0 := by unfold vbV; rfl
theorem vb_nil : vbL [] = 0 := by unfold vbL; rfl
theorem vb_cons (v : V) (l : List V) : vbL (v :: l) = vbV v + vbL l := by rw [vbL]
theorem vb_tx (t : Tx) : vbL (txc t) = t.hs.length + vbL (flat hc t.hs) + (t.bs.length + vbL (flat sc t.bs)) := by
  unfold txc
  simp only [vb_cons, vb_int, vb_vec, vb_nil, Nat.zero_add, Nat.add_zero]
theorem vb_str (s : ByteArray) : vbL (sc s) = s.size := by
  unfold sc
  rw [vb_cons, vb_nil]
  unfold vbV; rfl
theorem tx_sm {t : Tx} (h : vbL (txc t) < 10000000) : t.sm := by
  rw [vb_tx] at h
  have h1 : t.hs.length < 10000000 := Nat.lt_of_le_of_lt (by omega) h
  have h2 : t.bs.length < 10000000 := Nat.lt_of_le_of_lt (by omega) h
  have h3 : vbL (flat sc t.bs) < 10000000 := Nat.lt_of_le_of_lt (by omega) h
  refine ⟨h1, h2, fun s hs => ?_⟩
  have := vb_mem (f := sc) hs
  rw [vb_str] at this
  exact Nat.lt_of_le_of_lt this h3
theorem txs_sm {l : List Tx} (h : vbL (flat txc l) < 10000000) : ∀ t ∈ l, t.sm := fun t ht => tx_sm (Nat.lt_of_le_of_lt (vb_mem (f := txc) ht) h)
theorem held_sm {x : Held} (h : vbL (heldc x) < 10000000) : x.t.sm := by
  refine tx_sm (Nat.lt_of_le_of_lt ?_ h)
  have : vbL (heldc x) = vbL (txc x.t) + vbL [V.int .i64 x.blk] := by rw [heldc_eq]; exact vbL_append _ _
  omega
theorem vb_book (b : Book) : vbL (bookc b) = b.ac.length + vbL (flat acc b.ac) + (b.tx.length + vbL (flat txc b.tx) + (b.li.length + vbL (flat heldc b.li))) := by
  unfold bookc
  simp only [vb_cons, vb_int, vb_vec, vb_nil, Nat.zero_add, Nat.add_zero]
theorem book_sm {b : Book} (h : vbL (bookc b) < 10000000) : b.sm := by
  rw [vb_book] at h
  refine ⟨Nat.lt_of_le_of_lt (by omega) h, Nat.lt_of_le_of_lt (by omega) h, txs_sm (Nat.lt_of_le_of_lt (by omega) h), Nat.lt_of_le_of_lt (by omega) h, fun x hx => held_sm ?_⟩
  have := vb_mem (f := heldc) hx
  exact Nat.lt_of_le_of_lt (by omega) h
structure PAsk.sm (p : PAsk) : Prop where
  b : p.b.sm
  l : p.l.length < 10000000
  ls : ∀ t ∈ p.l, t.sm
  n : p.n.length < 10000000
theorem vb_pask (p : PAsk) : vbL (paskc p) = vbL (bookc p.b) + (p.l.length + vbL (flat txc p.l) + (p.n.length + vbL (flat ic p.n))) := by
  rw [vb_book]
  unfold paskc
  simp only [vb_cons, vb_int, vb_vec, vb_nil, Nat.zero_add, Nat.add_zero]
  omega
theorem pask_sm {p : PAsk} (h : vbL (paskc p) < 10000000) : p.sm := by
  rw [vb_pask] at h
  exact ⟨book_sm (Nat.lt_of_le_of_lt (by omega) h), Nat.lt_of_le_of_lt (by omega) h, txs_sm (Nat.lt_of_le_of_lt (by omega) h), Nat.lt_of_le_of_lt (by omega) h⟩
/-! ### What comes in -/
theorem okT_acct {n : Nat} {r : List V} (h : OkT ty n 107 r) : ∃ a : Acct, a.ok ∧ r = acc a := by
  obtain ⟨m, rows, h1, rfl, h3⟩ := okT_struct rfl h
  match rows, h1 with
  | [r0, r1], _ =>
    obtain ⟨no, x0, rfl⟩ := okT_i64 (t := 3) rfl (h3 0 _ r0 rfl rfl)
    obtain ⟨bal, x1, rfl⟩ := okT_u256 (h3 1 _ r1 rfl rfl)
    exact ⟨⟨no, bal⟩, ⟨x0, x1⟩, rfl⟩
theorem okT_held {n : Nat} {r : List V} (h : OkT ty n 64 r) : ∃ a : Held, a.ok ∧ r = heldc a := by
  obtain ⟨m, rows, h1, rfl, h3⟩ := okT_struct rfl h
  match rows, h1 with
  | [r0, r1], _ =>
    obtain ⟨t, x0, rfl⟩ := okT_tx (h3 0 _ r0 rfl rfl)
    obtain ⟨blk, x1, rfl⟩ := okT_i64 (t := 3) rfl (h3 1 _ r1 rfl rfl)
    exact ⟨⟨t, blk⟩, ⟨x0, x1⟩, rfl⟩
theorem okT_book {n : Nat} {r : List V} (h : OkT ty n 31 r) : ∃ b : Book, b.ok ∧ r = bookc b := by
  obtain ⟨m, rows, h1, rfl, h3⟩ := okT_struct rfl h
  match rows, h1 with
  | [r0, r1, r2, r3, r4], _ =>
    have hm : maxLen ≤ 9223372036854775807 := by decide
    obtain ⟨room, x0, rfl⟩ := okT_i64 (t := 3) rfl (h3 0 _ r0 rfl rfl)
    obtain ⟨m1, q1, g1, rfl, k1⟩ := okT_struct (t := 26) rfl (h3 1 _ r1 rfl rfl)
    obtain ⟨ac, y2, x2, rfl⟩ := okT_slice (f := acc) (ok := Acct.ok) (t := 27) (e := 107) rfl (fun n r h => okT_acct h) (h3 2 _ r2 rfl rfl)
    obtain ⟨tx, y3, x3, rfl⟩ := okT_slice (f := txc) (ok := Tx.ok) (t := 28) (e := 56) rfl (fun n r h => okT_tx h) (h3 3 _ r3 rfl rfl)
    obtain ⟨li, y4, x4, rfl⟩ := okT_slice (f := heldc) (ok := Held.ok) (t := 29) (e := 64) rfl (fun n r h => okT_held h) (h3 4 _ r4 rfl rfl)
    match q1, g1, k1 with
    | [a0, a1, a2], _, k1 =>
      obtain ⟨n, z1, rfl⟩ := okT_i64 (t := 3) rfl (k1 0 _ a0 rfl rfl)
      obtain ⟨b, z2, rfl⟩ := okT_u256 (k1 1 _ a1 rfl rfl)
      obtain ⟨e, z3, rfl⟩ := okT_i64 (t := 3) rfl (k1 2 _ a2 rfl rfl)
      exact ⟨⟨room, n, b, e, ac, tx, li⟩, ⟨x0, z1, z2, z3, x2, by show ac.length < _; omega, x3, by show tx.length < _; omega, x4, by show li.length < _; omega⟩, rfl⟩
theorem okT_pask {n : Nat} {r : List V} (h : OkT ty n 59 r) : ∃ p : PAsk, p.ok ∧ r = paskc p := by
  obtain ⟨m, rows, h1, rfl, h3⟩ := okT_struct rfl h
  match rows, h1 with
  | [r0, r1, r2], _ =>
    have hm : maxLen ≤ 9223372036854775807 := by decide
    obtain ⟨b, x0, rfl⟩ := okT_book (h3 0 _ r0 rfl rfl)
    obtain ⟨l, y1, x1, rfl⟩ := okT_slice (f := txc) (ok := Tx.ok) (t := 28) (e := 56) rfl (fun n r h => okT_tx h) (h3 1 _ r1 rfl rfl)
    obtain ⟨n, y2, x2, rfl⟩ := okT_slice (f := ic) (ok := fun z => -9223372036854775808 ≤ z ∧ z < 9223372036854775808) (t := 57) (e := 3) rfl (fun n r h => by
      obtain ⟨z, hz, rfl⟩ := okT_i64 (t := 3) rfl h
      exact ⟨z, hz, rfl⟩) (h3 2 _ r2 rfl rfl)
    exact ⟨⟨b, l, n⟩, ⟨x0, x1, by show l.length < _; omega, x2, by show n.length < _; omega⟩, rfl⟩
/-- **What is asked, that came in**, and how much it is. -/
theorem open_pask {H : Type} {enc : TypeId × Value → H} {W : World} {v : Value} {d : DataW H} {ps : List MemPlace} (hs : ∃ vs, v = .agg vs) (h : DataW.Trod enc Tryz.prog W 0 (fun _ => true) true 59 v d ps) :
    ∃ p : PAsk, p.ok ∧ vbL (paskc p) + 1 ≤ bulkN d ∧ RV [] (Old W) W (paskV p) v := by
  obtain ⟨fuel, hf⟩ := h
  obtain ⟨vs, rfl⟩ := hs
  obtain ⟨ds, h1, h2, h3⟩ := open_bulk ty_ok 10 59 (by decide) fuel _ _ hf
  obtain ⟨p, hp, rfl⟩ := okT_pask h2
  exact ⟨p, hp, h3, .agg (by have := h1.1; simpa [Value.cells] using this) fun i v x q1 q2 => h1.2 i v x q1 (by simpa [Value.cells] using q2)⟩
mutual
theorem bulk_le {H : Type} : ∀ d : DataW H, bulkN d ≤ Rows.uptoBulk d
  | .lit l => by cases l <;> simp [bulkN, Rows.uptoBulk]
  | .nil => by simp [bulkN, Rows.uptoBulk]
  | .ptr d => by have := bulk_le d; simp only [bulkN, Rows.uptoBulk]; omega
  | .slice elems spare => by
    have := bulkAll_le elems
    have := bulkAll_le spare
    simp only [bulkN, Rows.uptoBulk]; omega
  | .agg parts => by have := bulkAll_le parts; simp only [bulkN, Rows.uptoBulk]; omega
  | .iface _ d => by have := bulk_le d; simp only [bulkN, Rows.uptoBulk]; omega
  | .map e => by simp only [bulkN, Rows.uptoBulk]; omega
  | .held _ => by simp [bulkN, Rows.uptoBulk]
theorem bulkAll_le {H : Type} : ∀ ds : List (DataW H), bulkAllN ds ≤ Rows.uptoBulkAll ds
  | [] => by simp [bulkAllN, Rows.uptoBulkAll]
  | d :: ds => by
    have := bulk_le d
    have := bulkAll_le ds
    simp only [bulkAllN, Rows.uptoBulkAll]; omega
end
end Go.Abs
