/- Transactions, heads, ranks: how they lie in cells; how they come in. -/
import Derived.Test.YtemlnaipcdajeaaGreatM13
import Derived.Test.YtemlnaipcdajeaaGreatM9
import Derived.ProofKit
import Derived.Deep.Slices
import Derived.Laws.IdiomArrays
import Derived.Carry
set_option linter.unusedVariables false
set_option linter.unusedSimpArgs false
namespace Go.Abs
open Go Go.Proofs

@[reducible] def hc (n : Nat) : List V := [.int .u64 (n : Nat)]
@[reducible] def sc (s : ByteArray) : List V := [.str s]
instance rows_hc : Rows hc 1 where
  len := fun _ => rfl
  clean := fun _ => cleans_cons (.int _ _) cleans_nil
  one := fun a v hv => by
    simp only [hc, List.mem_cons, List.not_mem_nil, or_false] at hv
    rw [hv]; rfl
instance rows_sc : Rows sc 1 where
  len := fun _ => rfl
  clean := fun _ => cleans_cons (.str _) cleans_nil
  one := fun a v hv => by
    simp only [sc, List.mem_cons, List.not_mem_nil, or_false] at hv
    rw [hv]; rfl

/-- A transaction. -/
structure Tx where
  fr : Int
  no : Int
  tip : Nat
  cap : Nat
  bc : Nat
  val : Nat
  gas : Int
  hs : List Nat
  bs : List ByteArray
  deriving Inhabited
@[reducible] def txc (t : Tx) : List V := [.int .i64 t.fr, .int .i64 t.no, .int .u64 (lb t.tip 0), .int .u64 (lb t.tip 1), .int .u64 (lb t.tip 2), .int .u64 (lb t.tip 3),
  .int .u64 (lb t.cap 0), .int .u64 (lb t.cap 1), .int .u64 (lb t.cap 2), .int .u64 (lb t.cap 3), .int .u64 (lb t.bc 0), .int .u64 (lb t.bc 1), .int .u64 (lb t.bc 2), .int .u64 (lb t.bc 3),
  .int .u64 (lb t.val 0), .int .u64 (lb t.val 1), .int .u64 (lb t.val 2), .int .u64 (lb t.val 3), .int .i64 t.gas, .vec (flat hc t.hs) t.hs.length false, .vec (flat sc t.bs) t.bs.length false]
@[reducible] def txV (t : Tx) : V := .agg (txc t)
def I64 (z : Int) : Prop := -9223372036854775808 ≤ z ∧ z < 9223372036854775808
/-- What comes in. -/
structure Tx.ok (t : Tx) : Prop where
  fr : -9223372036854775808 ≤ t.fr ∧ t.fr < 9223372036854775808
  no : -9223372036854775808 ≤ t.no ∧ t.no < 9223372036854775808
  tip : t.tip < 115792089237316195423570985008687907853269984665640564039457584007913129639936
  cap : t.cap < 115792089237316195423570985008687907853269984665640564039457584007913129639936
  bc : t.bc < 115792089237316195423570985008687907853269984665640564039457584007913129639936
  val : t.val < 115792089237316195423570985008687907853269984665640564039457584007913129639936
  gas : -9223372036854775808 ≤ t.gas ∧ t.gas < 9223372036854775808
  hs : ∀ h ∈ t.hs, h < 18446744073709551616
  hl : t.hs.length < 9223372036854775808
  bs : ∀ s ∈ t.bs, s.size < 9223372036854775808
  bl : t.bs.length < 9223372036854775808
theorem cleans_txc (t : Tx) : Cleans (txc t) := by
  have h1 : Clean (.vec (flat hc t.hs) t.hs.length false) := .vec _ _ _ (cleans_flat t.hs)
  have h2 : Clean (.vec (flat sc t.bs) t.bs.length false) := .vec _ _ _ (cleans_flat t.bs)
  unfold txc
  repeat (first | exact cleans_nil | refine cleans_cons (.int _ _) ?_ | refine cleans_cons h1 ?_ | refine cleans_cons h2 ?_)
theorem clean_txV (t : Tx) : Clean (txV t) := clean_agg (cleans_txc t)
instance rows_txc : Rows txc 21 where
  len := fun _ => rfl
  clean := cleans_txc
  one := fun a v hv => by
    simp only [txc, List.mem_cons, List.not_mem_nil, or_false] at hv
    rcases hv with h | h | h | h | h | h | h | h | h | h | h | h | h | h | h | h | h | h | h | h | h <;> rw [h] <;> rfl
instance rowsL_txc : RowsL txc (fun t => [.int .i64 t.fr, .int .i64 t.no, .int .u64 (lb t.tip 0), .int .u64 (lb t.tip 1), .int .u64 (lb t.tip 2), .int .u64 (lb t.tip 3),
  .int .u64 (lb t.cap 0), .int .u64 (lb t.cap 1), .int .u64 (lb t.cap 2), .int .u64 (lb t.cap 3), .int .u64 (lb t.bc 0), .int .u64 (lb t.bc 1), .int .u64 (lb t.bc 2), .int .u64 (lb t.bc 3),
  .int .u64 (lb t.val 0), .int .u64 (lb t.val 1), .int .u64 (lb t.val 2), .int .u64 (lb t.val 3), .int .i64 t.gas, .vec (flat hc t.hs) t.hs.length false, .vec (flat sc t.bs) t.bs.length false]) := ⟨fun _ => rfl⟩
instance rowsL_hc : RowsL hc (fun n => [.int .u64 (n : Nat)]) := ⟨fun _ => rfl⟩
instance rowsL_sc : RowsL sc (fun s => [.str s]) := ⟨fun _ => rfl⟩

/-- A rank: how far, the tip. -/
@[reducible] def rkc (d : Int) (t : Nat) : List V := [.int .i64 d, .int .u64 (lb t 0), .int .u64 (lb t 1), .int .u64 (lb t 2), .int .u64 (lb t 3)]
@[reducible] def rkV (d : Int) (t : Nat) : V := .agg (rkc d t)
theorem clean_rkV (d : Int) (t : Nat) : Clean (rkV d t) := clean_agg (cleans_cons (.int _ _) (cleans_cons (.int _ _) (cleans_cons (.int _ _) (cleans_cons (.int _ _) (cleans_cons (.int _ _) cleans_nil)))))
/-- A head: number, base fee, excess. -/
@[reducible] def hdV (n : Int) (b : Nat) (e : Int) : V := .agg [.int .i64 n, .int .u64 (lb b 0), .int .u64 (lb b 1), .int .u64 (lb b 2), .int .u64 (lb b 3), .int .i64 e]
theorem clean_hdV (n : Int) (b : Nat) (e : Int) : Clean (hdV n b e) := clean_agg (cleans_cons (.int _ _) (cleans_cons (.int _ _) (cleans_cons (.int _ _) (cleans_cons (.int _ _) (cleans_cons (.int _ _) (cleans_cons (.int _ _) cleans_nil))))))

/-! ### What comes in -/
theorem okT_nat {n : Nat} {r : List V} (h : OkT ty n 22 r) : ∃ a : Nat, a < 18446744073709551616 ∧ r = hc a := okT_u64 rfl h
theorem okT_u256 {n : Nat} {r : List V} (h : OkT ty n 24 r) : ∃ a : Nat, a < 115792089237316195423570985008687907853269984665640564039457584007913129639936 ∧ r = uvc a := by
  obtain ⟨l, h1, h2, rfl⟩ := okT_array (f := hc) (ok := fun a => a < 18446744073709551616) (m := 4) (e := 22) rfl (fun n r h => okT_nat h) h
  match l, h1 with
  | [a, b, c, d], _ =>
    have ha := h2 a (by simp)
    have hb := h2 b (by simp)
    have hc' := h2 c (by simp)
    have hd := h2 d (by simp)
    have e := uv_num4 ha hb hc' hd
    simp only [uv, uvl, V.agg.injEq] at e
    exact ⟨num4 a b c d, num4_lt ha hb hc' hd, by rw [← e]; rfl⟩
theorem okT_tx {n : Nat} {r : List V} (h : OkT ty n 56 r) : ∃ t : Tx, t.ok ∧ r = txc t := by
  obtain ⟨m, rows, h1, rfl, h3⟩ := okT_struct rfl h
  match rows, h1 with
  | [r0, r1, r2, r3, r4, r5, r6, r7, r8], _ =>
    have hm : maxLen ≤ 9223372036854775807 := by decide
    obtain ⟨fr, x0, rfl⟩ := okT_i64 (t := 3) rfl (h3 0 _ r0 rfl rfl)
    obtain ⟨no, x1, rfl⟩ := okT_i64 (t := 3) rfl (h3 1 _ r1 rfl rfl)
    obtain ⟨tip, x2, rfl⟩ := okT_u256 (h3 2 _ r2 rfl rfl)
    obtain ⟨cap, x3, rfl⟩ := okT_u256 (h3 3 _ r3 rfl rfl)
    obtain ⟨bc, x4, rfl⟩ := okT_u256 (h3 4 _ r4 rfl rfl)
    obtain ⟨val, x5, rfl⟩ := okT_u256 (h3 5 _ r5 rfl rfl)
    obtain ⟨gas, x6, rfl⟩ := okT_i64 (t := 3) rfl (h3 6 _ r6 rfl rfl)
    obtain ⟨hs, y7, x7, rfl⟩ := okT_slice (f := hc) (ok := fun a => a < 18446744073709551616) (t := 53) (e := 22) rfl (fun n r h => okT_nat h) (h3 7 _ r7 rfl rfl)
    obtain ⟨bs, y8, x8, rfl⟩ := okT_slice (f := sc) (ok := fun s => s.size < 9223372036854775808) (t := 54) (e := 9) rfl (fun n r h => by
      obtain ⟨s, hs, rfl⟩ := okT_str (t := 9) rfl h
      exact ⟨s, by omega, rfl⟩) (h3 8 _ r8 rfl rfl)
    exact ⟨⟨fr, no, tip, cap, bc, val, gas, hs, bs⟩, ⟨x0, x1, x2, x3, x4, x5, x6, x7, by show hs.length < _; omega, x8, by show bs.length < _; omega⟩, rfl⟩
end Go.Abs
/- Marks, hashes of blobs, sidecars: the walks. -/
namespace Go.Abs
open Go Go.Proofs

theorem xor_nat {x y : Nat} (hx : x < 18446744073709551616) (hy : y < 18446744073709551616) : bitsOp .xor .u64 (x : Int) (y : Int) = ((x ^^^ y : Nat) : Int) := by
  have l : x ^^^ y < 2 ^ 64 := Nat.xor_lt_two_pow (by simpa using hx) (by simpa using hy)
  show IntKind.wrap .u64 (((BitVec.ofInt 64 (x : Int) ^^^ BitVec.ofInt 64 (y : Int)).toNat : Nat) : Int) = _
  rw [BitVec.toNat_xor, BitVec.toNat_ofInt, BitVec.toNat_ofInt]
  have e1 : (((x : Nat) : Int) % ((2 ^ 64 : Nat) : Int)).toNat = x := by omega
  have e2 : (((y : Nat) : Int) % ((2 ^ 64 : Nat) : Int)).toNat = y := by omega
  rw [e1, e2, wu64 (by simp only [Nat.reducePow] at l; omega)]
/-- The mark of the first bytes. -/
def markP (s : ByteArray) : Nat → Nat
  | 0 => 14695981039346656037
  | i + 1 => (markP s i ^^^ bt s i) * 1099511628211 % 18446744073709551616
def markN (s : ByteArray) : Nat := markP s s.size
theorem markP_lt (s : ByteArray) : ∀ i, markP s i < 18446744073709551616
  | 0 => by simp [markP]
  | i + 1 => by rw [markP]; exact Nat.mod_lt _ (by omega)
theorem mark_step (s : ByteArray) (i : Nat) : bitsOp .xor .u64 (markP s i : Int) (bt s i : Int) * 1099511628211 % 18446744073709551616 = (markP s (i + 1) : Nat) := by
  rw [xor_nat (markP_lt s i) (Nat.lt_of_lt_of_le (bt_lt s i) (by omega)), markP]
  omega
/-- A blob's hash. -/
def hashN (s : ByteArray) : Nat := markN ((⟨#[98, 108, 111, 98]⟩ : ByteArray) ++ s)
/-- Are the first hashes those of the blobs? -/
def unl (hs : List Nat) (bs : List ByteArray) (i : Nat) : Bool := !((bs.take i).map hashN == hs.take i)
theorem unl_zero (hs : List Nat) (bs : List ByteArray) : unl hs bs 0 = false := by simp [unl]
theorem unl_step {hs : List Nat} {bs : List ByteArray} {i : Nat} (h1 : i < hs.length) (h2 : i < bs.length) : unl hs bs (i + 1) = (unl hs bs i || (hashN bs[i] != hs[i])) := by
  unfold unl
  rw [List.take_succ_eq_append_getElem h1, List.take_succ_eq_append_getElem h2, List.map_append]
  have e : (List.map hashN (bs.take i) ++ List.map hashN [bs[i]] == hs.take i ++ [hs[i]]) = ((List.map hashN (bs.take i) == hs.take i) && (hashN bs[i] == hs[i])) := by
    rw [Bool.eq_iff_iff]
    simp only [beq_iff_eq, Bool.and_eq_true, List.map_cons, List.map_nil]
    constructor
    · intro h
      have := List.append_inj h (by simp; omega)
      exact ⟨this.1, by simpa using this.2⟩
    · rintro ⟨h3, h4⟩; rw [h3, h4]
  rw [e, Bool.not_and]; rfl
theorem bne_cast (a b : Nat) : (a != b) = ((a : Int) != (b : Int)) := by
  by_cases h : a = b
  · subst h; simp
  · rw [bne_iff_ne.2 h, bne_iff_ne.2 (by omega)]
/-- Do the blobs have these hashes? -/
def fitsN (hs : List Nat) (bs : List ByteArray) : Nat :=
  if bs.length < 1 ∨ 4 < bs.length ∨ hs.length ≠ bs.length then 1 else if ∃ b ∈ bs, 64 < b.size then 2 else if unl hs bs bs.length then 1 else 0

theorem blob_len (s : ByteArray) : ((⟨#[98, 108, 111, 98]⟩ : ByteArray) ++ s).size = 4 + s.size := by rw [ByteArray.size_append]; rfl

set_option maxHeartbeats 20000000 in
theorem mark_c (s : ByteArray) (hs : s.size < 9223372036854775808) : Pure Tryz.prog 121 [.str s] (.int .u64 (markN s : Nat)) := by
  refine pure_ac ?_ (cleans_cons (.str _) cleans_nil) (.int _ _)
  (refine enter Tryz.func121 Tryz.results121 Tryz.ntmps121 ty_ok (hw := fun F hF => ?_); simp only [List.length_cons, List.length_nil, Nat.reduceAdd, Nat.reduceSub, List.replicate_succ, List.replicate_zero, List.cons_append, List.nil_append]; apply hF; clear hF F)
  refine wk ?_
  refine aw_loopI (fun (i : Nat) => ⟨((.str s) :: .any :: .any :: (.int .u64 (markP s i : Nat)) :: .any :: .any :: (.int .i64 s.size) :: (.int .i64 i) :: .any :: .any :: .any :: .any :: .any :: .any :: .any :: .any :: .any :: .any :: .any :: []), []⟩) (fun i => i ≤ s.size) (fun i => s.size - i) 0 (by omega) (wkt []) ?_
  intro i hi K hK
  have hb := bt_lt s i
  have hm := markP_lt s i
  by_cases h1 : i < s.size
  · have he := mark_step s i
    refine wk ?_
    rw [he]
    exact hK _ (i + 1) (by omega) (wkt []) (by omega)
  · refine wk ?_
    refine fin ?_
    rw [show i = s.size from by omega]; rfl
set_option maxHeartbeats 20000000 in
theorem rmark_c (s : ByteArray) (hs : s.size < 9223372036854775808) : Pure Tryz.prog 117 [.str s] (.int .u64 (markN s : Nat)) := by
  refine pure_ac ?_ (cleans_cons (.str _) cleans_nil) (.int _ _)
  (refine enter Tryz.func117 Tryz.results117 Tryz.ntmps117 ty_ok (hw := fun F hF => ?_); simp only [List.length_cons, List.length_nil, Nat.reduceAdd, Nat.reduceSub, List.replicate_succ, List.replicate_zero, List.cons_append, List.nil_append]; apply hF; clear hF F)
  refine wk ?_
  refine aw_loopI (fun (i : Nat) => ⟨((.str s) :: .any :: .any :: (.int .u64 (markP s i : Nat)) :: (.int .i64 i) :: .any :: .any :: .any :: .any :: .any :: .any :: .any :: .any :: .any :: .any :: .any :: .any :: .any :: .any :: []), []⟩) (fun i => i ≤ s.size) (fun i => s.size - i) 0 (by omega) (wkt []) ?_
  intro i hi K hK
  have hb := bt_lt s i
  have hm := markP_lt s i
  by_cases h1 : i < s.size
  · have he := mark_step s i
    refine wk ?_
    rw [he]
    exact hK _ (i + 1) (by omega) (wkt []) (by omega)
  · refine wk ?_
    refine fin ?_
    rw [show i = s.size from by omega]; rfl
theorem rhash_c (s : ByteArray) (hs : s.size < 1000) : Pure Tryz.prog 88 [.str s] (.int .u64 (hashN s : Nat)) := by
  refine pure_ac ?_ (cleans_cons (.str _) cleans_nil) (.int _ _)
  have hl := blob_len s
  have hz : (⟨#[98, 108, 111, 98]⟩ : ByteArray).size = 4 := rfl
  have c1 := rmark_c ((⟨#[98, 108, 111, 98]⟩ : ByteArray) ++ s) (by omega)
  (refine enter Tryz.func88 Tryz.results88 Tryz.ntmps88 ty_ok (hw := fun F hF => ?_); simp only [List.length_cons, List.length_nil, Nat.reduceAdd, Nat.reduceSub, List.replicate_succ, List.replicate_zero, List.cons_append, List.nil_append]; apply hF; clear hF F)
  refine wk ?_
  refine fin ?_
  rfl
theorem hash_c (s : ByteArray) (hs : s.size < 9223372036854775808) : Pure Tryz.prog 169 [.str s] (if 64 < s.size then .tup [.int .u64 0, .int .i64 2] else .tup [.int .u64 (hashN s : Nat), .int .i64 0]) := by
  refine pure_ac ?_ (cleans_cons (.str _) cleans_nil) (by split <;> exact clean_tup (cleans_cons (.int _ _) (cleans_cons (.int _ _) cleans_nil)))
  by_cases h : 64 < s.size
  · rw [if_pos h]
    (refine enter Tryz.func169 Tryz.results169 Tryz.ntmps169 ty_ok (hw := fun F hF => ?_); simp only [List.length_cons, List.length_nil, Nat.reduceAdd, Nat.reduceSub, List.replicate_succ, List.replicate_zero, List.cons_append, List.nil_append]; apply hF; clear hF F)
    refine wk ?_
    refine fin ?_
    rfl
  · rw [if_neg h]
    have hl := blob_len s
    have hz : (⟨#[98, 108, 111, 98]⟩ : ByteArray).size = 4 := rfl
    have c1 := mark_c ((⟨#[98, 108, 111, 98]⟩ : ByteArray) ++ s) (by omega)
    (refine enter Tryz.func169 Tryz.results169 Tryz.ntmps169 ty_ok (hw := fun F hF => ?_); simp only [List.length_cons, List.length_nil, Nat.reduceAdd, Nat.reduceSub, List.replicate_succ, List.replicate_zero, List.cons_append, List.nil_append]; apply hF; clear hF F)
    refine wk ?_
    refine fin ?_
    rfl
theorem gas_c (n : Int) (hn : 1 ≤ n ∧ n ≤ 4) : Pure Tryz.prog 91 [.int .i64 n] (.tup [.int .i64 (n * 131072), .int .i64 0]) := by
  refine pure_ac ?_ (cleans_cons (.int _ _) cleans_nil) (clean_tup (cleans_cons (.int _ _) (cleans_cons (.int _ _) cleans_nil)))
  (refine enter Tryz.func91 Tryz.results91 Tryz.ntmps91 ty_ok (hw := fun F hF => ?_); simp only [List.length_cons, List.length_nil, Nat.reduceAdd, Nat.reduceSub, List.replicate_succ, List.replicate_zero, List.cons_append, List.nil_append]; apply hF; clear hF F)
  refine wk ?_
  refine fin ?_
  rfl
abbrev hsV (hs : List Nat) : V := .vec (flat hc hs) hs.length false
abbrev bsV (bs : List ByteArray) : V := .vec (flat sc bs) bs.length false
theorem clean_hsV (hs : List Nat) : Clean (hsV hs) := .vec _ _ _ (cleans_flat hs)
theorem clean_bsV (bs : List ByteArray) : Clean (bsV bs) := .vec _ _ _ (cleans_flat bs)
set_option maxHeartbeats 20000000 in
theorem fits_c (hs : List Nat) (bs : List ByteArray) (hl : hs.length < 9223372036854775808) (bl : bs.length < 9223372036854775808) (hb : ∀ s ∈ bs, s.size < 9223372036854775808) : Pure Tryz.prog 135 [hsV hs, bsV bs] (.int .i64 (fitsN hs bs)) := by
  refine pure_ac ?_ (cleans_cons (clean_hsV hs) (cleans_cons (clean_bsV bs) cleans_nil)) (.int _ _)
  unfold fitsN
  by_cases h1 : bs.length < 1 ∨ 4 < bs.length ∨ hs.length ≠ bs.length
  · rw [if_pos h1]
    (refine enter Tryz.func135 Tryz.results135 Tryz.ntmps135 ty_ok (hw := fun F hF => ?_); simp only [List.length_cons, List.length_nil, Nat.reduceAdd, Nat.reduceSub, List.replicate_succ, List.replicate_zero, List.cons_append, List.nil_append]; apply hF; clear hF F)
    refine wk ?_
    repeat' (first | refine st_ifd ?_ ?_ | refine st_ifdF ?_ ?_ | refine st_ife ?_ ?_ | refine st_ifeF ?_ ?_ | refine st_ifne ?_ ?_ | refine st_ifneF ?_ ?_ | refine st_ifnT ?_ ?_ | refine st_ifnF ?_ ?_ | refine st_ifT ?_ ?_ | refine st_ifF ?_ ?_ | refine aw_ifd ?_ ?_ | refine aw_ife ?_ ?_ | refine aw_ifne ?_ ?_ | refine aw_ifn ?_ ?_ | refine aw_ifnb ?_ ?_ | refine aw_ifb ?_ ?_) <;> intro hb <;> refine wk ?_
    all_goals first | (exfalso; omega) | (refine fin ?_; rfl) | skip
  · rw [if_neg h1]
    (refine enter Tryz.func135 Tryz.results135 Tryz.ntmps135 ty_ok (hw := fun F hF => ?_); simp only [List.length_cons, List.length_nil, Nat.reduceAdd, Nat.reduceSub, List.replicate_succ, List.replicate_zero, List.cons_append, List.nil_append]; apply hF; clear hF F)
    refine wk ?_
    refine aw_loopI (fun (i : Nat) => ⟨((hsV hs) :: (bsV bs) :: .any :: .any :: .any :: (.bool (unl hs bs i)) :: .any :: .any :: .any :: .any :: .any :: .any :: .any :: .any :: .any :: .any :: .any :: .any :: .any :: .any :: .any :: .any :: .any :: .any :: .any :: (bsV bs) :: (.int .i64 bs.length) :: (.int .i64 i) :: .any :: .any :: .any :: .any :: .any :: .any :: .any :: .any :: .any :: .any :: .any :: .any :: .any :: .any :: .any :: .any :: .any :: .any :: .any :: .any :: .any :: .any :: .any :: []), []⟩) (fun i => i ≤ bs.length ∧ ∀ b ∈ bs.take i, b.size ≤ 64) (fun i => bs.length - i) 0 ⟨by omega, by simp⟩ (wkt []) ?_
    rintro i ⟨hi, hs64⟩ K hK
    by_cases h2 : i < bs.length
    · have h3 : i < hs.length := by omega
      have c1 := hash_c bs[i] (hb _ (List.getElem_mem h2))
      by_cases h4 : 64 < bs[i].size
      · rw [if_pos h4] at c1
        rw [if_pos ⟨bs[i], List.getElem_mem h2, h4⟩]
        refine wk ?_
        refine fin ?_
        rfl
      · rw [if_neg h4] at c1
        have hu := unl_step h3 h2
        rw [bne_cast] at hu
        have hinv : ∀ b ∈ bs.take (i + 1), b.size ≤ 64 := by
          rw [List.take_succ_eq_append_getElem h2]
          intro b hb
          rcases List.mem_append.1 hb with hb | hb
          · exact hs64 b hb
          · simp at hb; subst hb; omega
        cases hue : unl hs bs i with
        | true =>
          rw [hue] at hu
          refine wk ?_
          exact hK _ (i + 1) ⟨by omega, hinv⟩ (by rw [hu]; exact wkt []) (by omega)
        | false =>
          rw [hue, Bool.false_or] at hu
          refine wk ?_
          exact hK _ (i + 1) ⟨by omega, hinv⟩ (by rw [hu]; exact wkt []) (by omega)
    · obtain rfl : i = bs.length := by omega
      rw [List.take_length] at hs64
      rw [if_neg (by rintro ⟨b, hb, hlt⟩; have := hs64 b hb; omega)]
      cases hue : unl hs bs bs.length with
      | true =>
        refine wk ?_
        refine fin ?_
        rfl
      | false =>
        refine wk ?_
        refine fin ?_
        rfl
theorem unl_false_of {hs : List Nat} {bs : List ByteArray} {j k : Nat} (h : j ≤ k) (hk : unl hs bs k = false) : unl hs bs j = false := by
  simp only [unl, Bool.not_eq_false', beq_iff_eq] at *
  have := congrArg (List.take j) hk
  rw [← List.map_take, List.take_take, List.take_take, Nat.min_eq_left h] at this
  exact this
set_option maxHeartbeats 20000000 in
theorem rfits_c (hs : List Nat) (bs : List ByteArray) (hl : hs.length < 9223372036854775808) (bl : bs.length < 9223372036854775808) (hb : ∀ s ∈ bs, s.size < 9223372036854775808) : Pure Tryz.prog 67 [hsV hs, bsV bs] (.int .i64 (fitsN hs bs)) := by
  refine pure_ac ?_ (cleans_cons (clean_hsV hs) (cleans_cons (clean_bsV bs) cleans_nil)) (.int _ _)
  unfold fitsN
  by_cases h1 : bs.length < 1 ∨ 4 < bs.length ∨ hs.length ≠ bs.length
  · rw [if_pos h1]
    (refine enter Tryz.func67 Tryz.results67 Tryz.ntmps67 ty_ok (hw := fun F hF => ?_); simp only [List.length_cons, List.length_nil, Nat.reduceAdd, Nat.reduceSub, List.replicate_succ, List.replicate_zero, List.cons_append, List.nil_append]; apply hF; clear hF F)
    refine wk ?_
    repeat' (first | refine st_ifd ?_ ?_ | refine st_ifdF ?_ ?_ | refine st_ife ?_ ?_ | refine st_ifeF ?_ ?_ | refine st_ifne ?_ ?_ | refine st_ifneF ?_ ?_ | refine st_ifnT ?_ ?_ | refine st_ifnF ?_ ?_ | refine st_ifT ?_ ?_ | refine st_ifF ?_ ?_ | refine aw_ifd ?_ ?_ | refine aw_ife ?_ ?_ | refine aw_ifne ?_ ?_ | refine aw_ifn ?_ ?_ | refine aw_ifnb ?_ ?_ | refine aw_ifb ?_ ?_) <;> intro hb <;> refine wk ?_
    all_goals first | (exfalso; omega) | (refine fin ?_; rfl) | skip
  · rw [if_neg h1]
    (refine enter Tryz.func67 Tryz.results67 Tryz.ntmps67 ty_ok (hw := fun F hF => ?_); simp only [List.length_cons, List.length_nil, Nat.reduceAdd, Nat.reduceSub, List.replicate_succ, List.replicate_zero, List.cons_append, List.nil_append]; apply hF; clear hF F)
    refine wk ?_
    refine aw_loopI (fun (i : Nat) => ⟨((hsV hs) :: (bsV bs) :: .any :: .any :: .any :: (.int .i64 i) :: .any :: .any :: .any :: .any :: .any :: .any :: .any :: .any :: .any :: .any :: .any :: .any :: .any :: .any :: .any :: .any :: .any :: .any :: .any :: .any :: .any :: .any :: .any :: .any :: .any :: .any :: .any :: .any :: .any :: .any :: .any :: .any :: .any :: .any :: .any :: .any :: .any :: .any :: .any :: .any :: .any :: .any :: .any :: .any :: []), []⟩) (fun i => i ≤ bs.length ∧ ∀ b ∈ bs.take i, b.size ≤ 64) (fun i => bs.length - i) 0 ⟨by omega, by simp⟩ (wkt []) ?_
    rintro i ⟨hi, hs64⟩ K hK
    by_cases h2 : i < bs.length
    · have hbi := hb _ (List.getElem_mem h2)
      by_cases h4 : 64 < bs[i].size
      · rw [if_pos ⟨bs[i], List.getElem_mem h2, h4⟩]
        refine wk ?_
        refine fin ?_
        rfl
      · have hinv : ∀ b ∈ bs.take (i + 1), b.size ≤ 64 := by
          rw [List.take_succ_eq_append_getElem h2]
          intro b hb
          rcases List.mem_append.1 hb with hb | hb
          · exact hs64 b hb
          · simp at hb; subst hb; omega
        refine wk ?_
        exact hK _ (i + 1) ⟨by omega, hinv⟩ (wkt []) (by omega)
    · obtain rfl : i = bs.length := by omega
      rw [List.take_length] at hs64
      rw [if_neg (by rintro ⟨b, hb, hlt⟩; have := hs64 b hb; omega)]
      refine wk ?_
      refine aw_loopI (fun (j : Nat) => ⟨((hsV hs) :: (bsV bs) :: .any :: .any :: .any :: .any :: (.int .i64 j) :: .any :: .any :: .any :: .any :: .any :: .any :: .any :: .any :: .any :: .any :: .any :: .any :: .any :: .any :: .any :: .any :: .any :: .any :: .any :: .any :: .any :: .any :: .any :: .any :: .any :: .any :: .any :: .any :: .any :: .any :: .any :: .any :: .any :: .any :: .any :: .any :: .any :: .any :: .any :: .any :: .any :: .any :: .any :: []), []⟩) (fun j => j ≤ bs.length ∧ unl hs bs j = false) (fun j => bs.length - j) 0 ⟨by omega, unl_zero _ _⟩ (wkt []) ?_
      rintro j ⟨hj, hu⟩ K2 hK2
      by_cases h2 : j < bs.length
      · have h3 : j < hs.length := by omega
        have c1 := rhash_c bs[j] (by have := hs64 _ (List.getElem_mem h2); omega)
        have hu2 := unl_step h3 h2
        rw [hu, Bool.false_or] at hu2
        by_cases he : hs[j] = hashN bs[j]
        · rw [he, bne_self_eq_false] at hu2
          refine wk ?_
          exact hK2 _ (j + 1) ⟨by omega, hu2⟩ (wkt []) (by omega)
        · have hT : unl hs bs bs.length = true := by
            cases h : unl hs bs bs.length with
            | true => rfl
            | false =>
              rw [unl_false_of (show j + 1 ≤ bs.length by omega) h] at hu2
              have : hashN bs[j] = hs[j] := by simpa using hu2
              exact absurd this.symm he
          rw [hT]
          refine wk ?_
          refine fin ?_
          rfl
      · obtain rfl : j = bs.length := by omega
        rw [hu]
        refine wk ?_
        refine fin ?_
        rfl
end Go.Abs
/- From an abstract contract to the model's. -/
namespace Go.Abs
open Go Go.Proofs Go.ChangeShapes Go.WideShapes Go.ChangeAt Go.RowKit Go.Deep

theorem own : ownKnob Tryz.prog.godebug = none := by kernel_rfl
theorem laidOut : laidOutB Tryz.prog = true := by kernel_rfl
/-- What has been all along is nobody's. -/
def Old (w : World) : Nat → Prop := fun b => b < w.heap.size

/-- From a contract to the model's. -/
theorem calls_of {P : Program} {f : FuncId} {args : List V} {r : V} (h : Pure P f args r) (he : Enters P f) {w : World} {vs : Array Value} (hl : args.length = vs.size) (hv : ∀ (i : Nat) (v : V) (x : Value), args[i]? = some v → vs[i]? = some x → RV [] (Old w) w v x) :
    Calls P f vs w fun e w' => ∃ x ρ' I', e = .returned x ∧ RV ρ' I' w' r x ∧ Below w.heap.size w w' := by
  have H : RH [] (Old w) w [] := ⟨rfl, by intro i cs h; simp at h, by intro i j cs ds rb b1 b2 h; simp at h, fun b hb => hb, LoopsOK.nil _ _ _⟩
  rcases h [] [] (Old w) w vs hl hv H with ⟨_, hc⟩ | ⟨x, w', hr, _⟩
  · refine callsIn_wide.1 (CallsIn.mono (F := Fw none) hc ?_)
    rintro e w' ⟨x, rfl, v, h'', ρ', I', ⟨rfl, rfl⟩, hrv, H', K⟩
    exact ⟨x, ρ', I', rfl, hrv, ⟨K.os, K.tape, K.output, K.size, fun k hk => K.same k hk (by rintro ⟨i, cs, base, h, _⟩; simp at h)⟩⟩
  · rw [he vs w] at hr; cases hr


/-- **A slice of records, that came in.** -/
theorem open_rows {H : Type} {enc : TypeId × Value → H} {W : World} {v : Value} {d : DataW H} {ps : List MemPlace} {α : Type} {f : α → List V} {ok : α → Prop} {t e : TypeId} (n : Nat) (hc : covT ty n t = true) (hd : ((ty t).map fun i => i.desc) = some (.slice e)) (he : ∀ n r, OkT ty n e r → ∃ a, ok a ∧ r = f a)
    (hs : ∃ a len cap, v = .slice a len cap) (h : DataW.Trod enc Tryz.prog W 0 (fun _ => true) true t v d ps) :
    ∃ ns : List α, (∀ n ∈ ns, ok n) ∧ ns.length < 9223372036854775808 ∧ RV [] (Old W) W (.vec (flat f ns) ns.length false) v := by
  obtain ⟨fuel, hf⟩ := h
  obtain ⟨a, len, cap, rfl⟩ := hs
  obtain ⟨ds, h1, h2⟩ := open_any ty_ok n t hc fuel _ _ hf
  obtain ⟨l, hl, hok, rfl⟩ := okT_slice hd he h2
  have hm : maxLen ≤ 9223372036854775807 := by decide
  exact ⟨l, hok, by omega, h1.2 0 _ _ rfl (by simp [Value.cells])⟩
end Go.Abs
