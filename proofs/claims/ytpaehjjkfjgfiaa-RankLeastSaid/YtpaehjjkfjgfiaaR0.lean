/- Transactions, heads, ranks: how they lie in cells; how they come in. -/
import Derived.Test.YtpaehjjkfjgfiaaN5
import Derived.Test.YtpaehjjkfjgfiaaA20
set_option linter.unusedVariables false
set_option linter.unusedSimpArgs false
namespace Go.Abs
open Go Go.Proofs

@[reducible] def hc (n : Nat) : List V := [.int .u64 (n : Nat)]
@[reducible] def sc (s : ByteArray) : List V := [.str s]
instance rows_hc : Rows hc 1 where
  len := fun _ => rfl
  clean := fun _ => cleans_cons (.int _ _) cleans_nil
  one := fun a v hv => by
    simp only [hc, List.mem_cons, List.not_mem_nil, or_false] at hv
    rw [hv]; rfl
instance rows_sc : Rows sc 1 where
  len := fun _ => rfl
  clean := fun _ => cleans_cons (.str _) cleans_nil
  one := fun a v hv => by
    simp only [sc, List.mem_cons, List.not_mem_nil, or_false] at hv
    rw [hv]; rfl

/-- A transaction. -/
structure Tx where
  fr : Int
  no : Int
  tip : Nat
  cap : Nat
  bc : Nat
  val : Nat
  gas : Int
  hs : List Nat
  bs : List ByteArray
  deriving Inhabited
@[reducible] def txc (t : Tx) : List V := [.int .i64 t.fr, .int .i64 t.no, .int .u64 (lb t.tip 0), .int .u64 (lb t.tip 1), .int .u64 (lb t.tip 2), .int .u64 (lb t.tip 3),
  .int .u64 (lb t.cap 0), .int .u64 (lb t.cap 1), .int .u64 (lb t.cap 2), .int .u64 (lb t.cap 3), .int .u64 (lb t.bc 0), .int .u64 (lb t.bc 1), .int .u64 (lb t.bc 2), .int .u64 (lb t.bc 3),
  .int .u64 (lb t.val 0), .int .u64 (lb t.val 1), .int .u64 (lb t.val 2), .int .u64 (lb t.val 3), .int .i64 t.gas, .vec (flat hc t.hs) t.hs.length false, .vec (flat sc t.bs) t.bs.length false]
@[reducible] def txV (t : Tx) : V := .agg (txc t)
def I64 (z : Int) : Prop := -9223372036854775808 ≤ z ∧ z < 9223372036854775808
/-- What comes in. -/
structure Tx.ok (t : Tx) : Prop where
  fr : -9223372036854775808 ≤ t.fr ∧ t.fr < 9223372036854775808
  no : -9223372036854775808 ≤ t.no ∧ t.no < 9223372036854775808
  tip : t.tip < 115792089237316195423570985008687907853269984665640564039457584007913129639936
  cap : t.cap < 115792089237316195423570985008687907853269984665640564039457584007913129639936
  bc : t.bc < 115792089237316195423570985008687907853269984665640564039457584007913129639936
  val : t.val < 115792089237316195423570985008687907853269984665640564039457584007913129639936
  gas : -9223372036854775808 ≤ t.gas ∧ t.gas < 9223372036854775808
  hs : ∀ h ∈ t.hs, h < 18446744073709551616
  hl : t.hs.length < 9223372036854775808
  bs : ∀ s ∈ t.bs, s.size < 9223372036854775808
  bl : t.bs.length < 9223372036854775808
theorem cleans_txc (t : Tx) : Cleans (txc t) := by
  have h1 : Clean (.vec (flat hc t.hs) t.hs.length false) := .vec _ _ _ (cleans_flat t.hs)
  have h2 : Clean (.vec (flat sc t.bs) t.bs.length false) := .vec _ _ _ (cleans_flat t.bs)
  unfold txc
  repeat (first | exact cleans_nil | refine cleans_cons (.int _ _) ?_ | refine cleans_cons h1 ?_ | refine cleans_cons h2 ?_)
theorem clean_txV (t : Tx) : Clean (txV t) := clean_agg (cleans_txc t)
instance rows_txc : Rows txc 21 where
  len := fun _ => rfl
  clean := cleans_txc
  one := fun a v hv => by
    simp only [txc, List.mem_cons, List.not_mem_nil, or_false] at hv
    rcases hv with h | h | h | h | h | h | h | h | h | h | h | h | h | h | h | h | h | h | h | h | h <;> rw [h] <;> rfl
instance rowsL_txc : RowsL txc (fun t => [.int .i64 t.fr, .int .i64 t.no, .int .u64 (lb t.tip 0), .int .u64 (lb t.tip 1), .int .u64 (lb t.tip 2), .int .u64 (lb t.tip 3),
  .int .u64 (lb t.cap 0), .int .u64 (lb t.cap 1), .int .u64 (lb t.cap 2), .int .u64 (lb t.cap 3), .int .u64 (lb t.bc 0), .int .u64 (lb t.bc 1), .int .u64 (lb t.bc 2), .int .u64 (lb t.bc 3),
  .int .u64 (lb t.val 0), .int .u64 (lb t.val 1), .int .u64 (lb t.val 2), .int .u64 (lb t.val 3), .int .i64 t.gas, .vec (flat hc t.hs) t.hs.length false, .vec (flat sc t.bs) t.bs.length false]) := ⟨fun _ => rfl⟩
instance rowsL_hc : RowsL hc (fun n => [.int .u64 (n : Nat)]) := ⟨fun _ => rfl⟩
instance rowsL_sc : RowsL sc (fun s => [.str s]) := ⟨fun _ => rfl⟩

/-- A rank: how far, the tip. -/
@[reducible] def rkc (d : Int) (t : Nat) : List V := [.int .i64 d, .int .u64 (lb t 0), .int .u64 (lb t 1), .int .u64 (lb t 2), .int .u64 (lb t 3)]
@[reducible] def rkV (d : Int) (t : Nat) : V := .agg (rkc d t)
theorem clean_rkV (d : Int) (t : Nat) : Clean (rkV d t) := clean_agg (cleans_cons (.int _ _) (cleans_cons (.int _ _) (cleans_cons (.int _ _) (cleans_cons (.int _ _) (cleans_cons (.int _ _) cleans_nil)))))
/-- A head: number, base fee, excess. -/
@[reducible] def hdV (n : Int) (b : Nat) (e : Int) : V := .agg [.int .i64 n, .int .u64 (lb b 0), .int .u64 (lb b 1), .int .u64 (lb b 2), .int .u64 (lb b 3), .int .i64 e]
theorem clean_hdV (n : Int) (b : Nat) (e : Int) : Clean (hdV n b e) := clean_agg (cleans_cons (.int _ _) (cleans_cons (.int _ _) (cleans_cons (.int _ _) (cleans_cons (.int _ _) (cleans_cons (.int _ _) (cleans_cons (.int _ _) cleans_nil))))))

/-! ### What comes in -/
theorem okT_nat {n : Nat} {r : List V} (h : OkT ty n 24 r) : ∃ a : Nat, a < 18446744073709551616 ∧ r = hc a := okT_u64 rfl h
theorem okT_u256 {n : Nat} {r : List V} (h : OkT ty n 26 r) : ∃ a : Nat, a < 115792089237316195423570985008687907853269984665640564039457584007913129639936 ∧ r = uvc a := by
  obtain ⟨l, h1, h2, rfl⟩ := okT_array (f := hc) (ok := fun a => a < 18446744073709551616) (m := 4) (e := 24) rfl (fun n r h => okT_nat h) h
  match l, h1 with
  | [a, b, c, d], _ =>
    have ha := h2 a (by simp)
    have hb := h2 b (by simp)
    have hc' := h2 c (by simp)
    have hd := h2 d (by simp)
    have e := uv_num4 ha hb hc' hd
    simp only [uv, uvl, V.agg.injEq] at e
    exact ⟨num4 a b c d, num4_lt ha hb hc' hd, by rw [← e]; rfl⟩
theorem okT_tx {n : Nat} {r : List V} (h : OkT ty n 38 r) : ∃ t : Tx, t.ok ∧ r = txc t := by
  obtain ⟨m, rows, h1, rfl, h3⟩ := okT_struct rfl h
  match rows, h1 with
  | [r0, r1, r2, r3, r4, r5, r6, r7, r8], _ =>
    have hm : maxLen ≤ 9223372036854775807 := by decide
    obtain ⟨fr, x0, rfl⟩ := okT_i64 (t := 3) rfl (h3 0 _ r0 rfl rfl)
    obtain ⟨no, x1, rfl⟩ := okT_i64 (t := 3) rfl (h3 1 _ r1 rfl rfl)
    obtain ⟨tip, x2, rfl⟩ := okT_u256 (h3 2 _ r2 rfl rfl)
    obtain ⟨cap, x3, rfl⟩ := okT_u256 (h3 3 _ r3 rfl rfl)
    obtain ⟨bc, x4, rfl⟩ := okT_u256 (h3 4 _ r4 rfl rfl)
    obtain ⟨val, x5, rfl⟩ := okT_u256 (h3 5 _ r5 rfl rfl)
    obtain ⟨gas, x6, rfl⟩ := okT_i64 (t := 3) rfl (h3 6 _ r6 rfl rfl)
    obtain ⟨hs, y7, x7, rfl⟩ := okT_slice (f := hc) (ok := fun a => a < 18446744073709551616) (t := 35) (e := 24) rfl (fun n r h => okT_nat h) (h3 7 _ r7 rfl rfl)
    obtain ⟨bs, y8, x8, rfl⟩ := okT_slice (f := sc) (ok := fun s => s.size < 9223372036854775808) (t := 36) (e := 9) rfl (fun n r h => by
      obtain ⟨s, hs, rfl⟩ := okT_str (t := 9) rfl h
      exact ⟨s, by omega, rfl⟩) (h3 8 _ r8 rfl rfl)
    exact ⟨⟨fr, no, tip, cap, bc, val, gas, hs, bs⟩, ⟨x0, x1, x2, x3, x4, x5, x6, x7, by show hs.length < _; omega, x8, by show bs.length < _; omega⟩, rfl⟩
end Go.Abs
