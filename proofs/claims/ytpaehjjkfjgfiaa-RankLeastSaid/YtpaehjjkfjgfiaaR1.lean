/- Marks, hashes of blobs, sidecars: the walks. -/
import Derived.Test.YtpaehjjkfjgfiaaR0
set_option linter.unusedVariables false
set_option linter.unusedSimpArgs false
namespace Go.Abs
open Go Go.Proofs

theorem xor_nat {x y : Nat} (hx : x < 18446744073709551616) (hy : y < 18446744073709551616) : bitsOp .xor .u64 (x : Int) (y : Int) = ((x ^^^ y : Nat) : Int) := by
  have l : x ^^^ y < 2 ^ 64 := Nat.xor_lt_two_pow (by simpa using hx) (by simpa using hy)
  show IntKind.wrap .u64 (((BitVec.ofInt 64 (x : Int) ^^^ BitVec.ofInt 64 (y : Int)).toNat : Nat) : Int) = _
  rw [BitVec.toNat_xor, BitVec.toNat_ofInt, BitVec.toNat_ofInt]
  have e1 : (((x : Nat) : Int) % ((2 ^ 64 : Nat) : Int)).toNat = x := by omega
  have e2 : (((y : Nat) : Int) % ((2 ^ 64 : Nat) : Int)).toNat = y := by omega
  rw [e1, e2, wu64 (by simp only [Nat.reducePow] at l; omega)]
/-- The mark of the first bytes. -/
def markP (s : ByteArray) : Nat → Nat
  | 0 => 14695981039346656037
  | i + 1 => (markP s i ^^^ bt s i) * 1099511628211 % 18446744073709551616
def markN (s : ByteArray) : Nat := markP s s.size
theorem markP_lt (s : ByteArray) : ∀ i, markP s i < 18446744073709551616
  | 0 => by simp [markP]
  | i + 1 => by rw [markP]; exact Nat.mod_lt _ (by omega)
theorem mark_step (s : ByteArray) (i : Nat) : bitsOp .xor .u64 (markP s i : Int) (bt s i : Int) * 1099511628211 % 18446744073709551616 = (markP s (i + 1) : Nat) := by
  rw [xor_nat (markP_lt s i) (Nat.lt_of_lt_of_le (bt_lt s i) (by omega)), markP]
  omega
/-- A blob's hash. -/
def hashN (s : ByteArray) : Nat := markN ((⟨#[98, 108, 111, 98]⟩ : ByteArray) ++ s)
/-- Are the first hashes those of the blobs? -/
def unl (hs : List Nat) (bs : List ByteArray) (i : Nat) : Bool := !((bs.take i).map hashN == hs.take i)
theorem unl_zero (hs : List Nat) (bs : List ByteArray) : unl hs bs 0 = false := by simp [unl]
theorem unl_step {hs : List Nat} {bs : List ByteArray} {i : Nat} (h1 : i < hs.length) (h2 : i < bs.length) : unl hs bs (i + 1) = (unl hs bs i || (hashN bs[i] != hs[i])) := by
  unfold unl
  rw [List.take_succ_eq_append_getElem h1, List.take_succ_eq_append_getElem h2, List.map_append]
  have e : (List.map hashN (bs.take i) ++ List.map hashN [bs[i]] == hs.take i ++ [hs[i]]) = ((List.map hashN (bs.take i) == hs.take i) && (hashN bs[i] == hs[i])) := by
    rw [Bool.eq_iff_iff]
    simp only [beq_iff_eq, Bool.and_eq_true, List.map_cons, List.map_nil]
    constructor
    · intro h
      have := List.append_inj h (by simp; omega)
      exact ⟨this.1, by simpa using this.2⟩
    · rintro ⟨h3, h4⟩; rw [h3, h4]
  rw [e, Bool.not_and]; rfl
theorem bne_cast (a b : Nat) : (a != b) = ((a : Int) != (b : Int)) := by
  by_cases h : a = b
  · subst h; simp
  · rw [bne_iff_ne.2 h, bne_iff_ne.2 (by omega)]
/-- Do the blobs have these hashes? -/
def fitsN (hs : List Nat) (bs : List ByteArray) : Nat :=
  if bs.length < 1 ∨ 4 < bs.length ∨ hs.length ≠ bs.length then 1 else if ∃ b ∈ bs, 64 < b.size then 2 else if unl hs bs bs.length then 1 else 0

theorem blob_len (s : ByteArray) : ((⟨#[98, 108, 111, 98]⟩ : ByteArray) ++ s).size = 4 + s.size := by rw [ByteArray.size_append]; rfl

set_option maxHeartbeats 20000000 in
theorem mark_c (s : ByteArray) (hs : s.size < 9223372036854775808) : Pure Try.prog 68 [.str s] (.int .u64 (markN s : Nat)) := by
  refine pure_ac ?_ (cleans_cons (.str _) cleans_nil) (.int _ _)
  (refine enter Try.func68 Try.results68 Try.ntmps68 ty_ok (hw := fun F hF => ?_); simp only [List.length_cons, List.length_nil, Nat.reduceAdd, Nat.reduceSub, List.replicate_succ, List.replicate_zero, List.cons_append, List.nil_append]; apply hF; clear hF F)
  refine wk ?_
  refine aw_loopI (fun (i : Nat) => ⟨((.str s) :: .any :: .any :: (.int .u64 (markP s i : Nat)) :: .any :: .any :: (.int .i64 s.size) :: (.int .i64 i) :: .any :: .any :: .any :: .any :: .any :: .any :: .any :: .any :: .any :: .any :: .any :: []), []⟩) (fun i => i ≤ s.size) (fun i => s.size - i) 0 (by omega) (wkt []) ?_
  intro i hi K hK
  have hb := bt_lt s i
  have hm := markP_lt s i
  by_cases h1 : i < s.size
  · have he := mark_step s i
    refine wk ?_
    rw [he]
    exact hK _ (i + 1) (by omega) (wkt []) (by omega)
  · refine wk ?_
    refine fin ?_
    rw [show i = s.size from by omega]; rfl
set_option maxHeartbeats 20000000 in
theorem rmark_c (s : ByteArray) (hs : s.size < 9223372036854775808) : Pure Try.prog 46 [.str s] (.int .u64 (markN s : Nat)) := by
  refine pure_ac ?_ (cleans_cons (.str _) cleans_nil) (.int _ _)
  (refine enter Try.func46 Try.results46 Try.ntmps46 ty_ok (hw := fun F hF => ?_); simp only [List.length_cons, List.length_nil, Nat.reduceAdd, Nat.reduceSub, List.replicate_succ, List.replicate_zero, List.cons_append, List.nil_append]; apply hF; clear hF F)
  refine wk ?_
  refine aw_loopI (fun (i : Nat) => ⟨((.str s) :: .any :: .any :: (.int .u64 (markP s i : Nat)) :: (.int .i64 i) :: .any :: .any :: .any :: .any :: .any :: .any :: .any :: .any :: .any :: .any :: .any :: .any :: .any :: .any :: []), []⟩) (fun i => i ≤ s.size) (fun i => s.size - i) 0 (by omega) (wkt []) ?_
  intro i hi K hK
  have hb := bt_lt s i
  have hm := markP_lt s i
  by_cases h1 : i < s.size
  · have he := mark_step s i
    refine wk ?_
    rw [he]
    exact hK _ (i + 1) (by omega) (wkt []) (by omega)
  · refine wk ?_
    refine fin ?_
    rw [show i = s.size from by omega]; rfl
theorem rhash_c (s : ByteArray) (hs : s.size < 1000) : Pure Try.prog 37 [.str s] (.int .u64 (hashN s : Nat)) := by
  refine pure_ac ?_ (cleans_cons (.str _) cleans_nil) (.int _ _)
  have hl := blob_len s
  have hz : (⟨#[98, 108, 111, 98]⟩ : ByteArray).size = 4 := rfl
  have c1 := rmark_c ((⟨#[98, 108, 111, 98]⟩ : ByteArray) ++ s) (by omega)
  (refine enter Try.func37 Try.results37 Try.ntmps37 ty_ok (hw := fun F hF => ?_); simp only [List.length_cons, List.length_nil, Nat.reduceAdd, Nat.reduceSub, List.replicate_succ, List.replicate_zero, List.cons_append, List.nil_append]; apply hF; clear hF F)
  refine wk ?_
  refine fin ?_
  rfl
theorem hash_c (s : ByteArray) (hs : s.size < 9223372036854775808) : Pure Try.prog 51 [.str s] (if 64 < s.size then .tup [.int .u64 0, .int .i64 2] else .tup [.int .u64 (hashN s : Nat), .int .i64 0]) := by
  refine pure_ac ?_ (cleans_cons (.str _) cleans_nil) (by split <;> exact clean_tup (cleans_cons (.int _ _) (cleans_cons (.int _ _) cleans_nil)))
  by_cases h : 64 < s.size
  · rw [if_pos h]
    (refine enter Try.func51 Try.results51 Try.ntmps51 ty_ok (hw := fun F hF => ?_); simp only [List.length_cons, List.length_nil, Nat.reduceAdd, Nat.reduceSub, List.replicate_succ, List.replicate_zero, List.cons_append, List.nil_append]; apply hF; clear hF F)
    refine wk ?_
    refine fin ?_
    rfl
  · rw [if_neg h]
    have hl := blob_len s
    have hz : (⟨#[98, 108, 111, 98]⟩ : ByteArray).size = 4 := rfl
    have c1 := mark_c ((⟨#[98, 108, 111, 98]⟩ : ByteArray) ++ s) (by omega)
    (refine enter Try.func51 Try.results51 Try.ntmps51 ty_ok (hw := fun F hF => ?_); simp only [List.length_cons, List.length_nil, Nat.reduceAdd, Nat.reduceSub, List.replicate_succ, List.replicate_zero, List.cons_append, List.nil_append]; apply hF; clear hF F)
    refine wk ?_
    refine fin ?_
    rfl
theorem gas_c (n : Int) (hn : 1 ≤ n ∧ n ≤ 4) : Pure Try.prog 52 [.int .i64 n] (.tup [.int .i64 (n * 131072), .int .i64 0]) := by
  refine pure_ac ?_ (cleans_cons (.int _ _) cleans_nil) (clean_tup (cleans_cons (.int _ _) (cleans_cons (.int _ _) cleans_nil)))
  (refine enter Try.func52 Try.results52 Try.ntmps52 ty_ok (hw := fun F hF => ?_); simp only [List.length_cons, List.length_nil, Nat.reduceAdd, Nat.reduceSub, List.replicate_succ, List.replicate_zero, List.cons_append, List.nil_append]; apply hF; clear hF F)
  refine wk ?_
  refine fin ?_
  rfl
abbrev hsV (hs : List Nat) : V := .vec (flat hc hs) hs.length false
abbrev bsV (bs : List ByteArray) : V := .vec (flat sc bs) bs.length false
theorem clean_hsV (hs : List Nat) : Clean (hsV hs) := .vec _ _ _ (cleans_flat hs)
theorem clean_bsV (bs : List ByteArray) : Clean (bsV bs) := .vec _ _ _ (cleans_flat bs)
set_option maxHeartbeats 20000000 in
theorem fits_c (hs : List Nat) (bs : List ByteArray) (hl : hs.length < 9223372036854775808) (bl : bs.length < 9223372036854775808) (hb : ∀ s ∈ bs, s.size < 9223372036854775808) : Pure Try.prog 41 [hsV hs, bsV bs] (.int .i64 (fitsN hs bs)) := by
  refine pure_ac ?_ (cleans_cons (clean_hsV hs) (cleans_cons (clean_bsV bs) cleans_nil)) (.int _ _)
  unfold fitsN
  by_cases h1 : bs.length < 1 ∨ 4 < bs.length ∨ hs.length ≠ bs.length
  · rw [if_pos h1]
    (refine enter Try.func41 Try.results41 Try.ntmps41 ty_ok (hw := fun F hF => ?_); simp only [List.length_cons, List.length_nil, Nat.reduceAdd, Nat.reduceSub, List.replicate_succ, List.replicate_zero, List.cons_append, List.nil_append]; apply hF; clear hF F)
    refine wk ?_
    repeat' (first | refine st_ifd ?_ ?_ | refine st_ifdF ?_ ?_ | refine st_ife ?_ ?_ | refine st_ifeF ?_ ?_ | refine st_ifne ?_ ?_ | refine st_ifneF ?_ ?_ | refine st_ifnT ?_ ?_ | refine st_ifnF ?_ ?_ | refine st_ifT ?_ ?_ | refine st_ifF ?_ ?_ | refine aw_ifd ?_ ?_ | refine aw_ife ?_ ?_ | refine aw_ifne ?_ ?_ | refine aw_ifn ?_ ?_ | refine aw_ifnb ?_ ?_ | refine aw_ifb ?_ ?_) <;> intro hb <;> refine wk ?_
    all_goals first | (exfalso; omega) | (refine fin ?_; rfl) | skip
  · rw [if_neg h1]
    (refine enter Try.func41 Try.results41 Try.ntmps41 ty_ok (hw := fun F hF => ?_); simp only [List.length_cons, List.length_nil, Nat.reduceAdd, Nat.reduceSub, List.replicate_succ, List.replicate_zero, List.cons_append, List.nil_append]; apply hF; clear hF F)
    refine wk ?_
    refine aw_loopI (fun (i : Nat) => ⟨((hsV hs) :: (bsV bs) :: .any :: .any :: .any :: (.bool (unl hs bs i)) :: .any :: .any :: .any :: .any :: .any :: .any :: .any :: .any :: .any :: .any :: .any :: .any :: .any :: .any :: .any :: .any :: .any :: .any :: .any :: (bsV bs) :: (.int .i64 bs.length) :: (.int .i64 i) :: .any :: .any :: .any :: .any :: .any :: .any :: .any :: .any :: .any :: .any :: .any :: .any :: .any :: .any :: .any :: .any :: .any :: .any :: .any :: .any :: .any :: .any :: .any :: []), []⟩) (fun i => i ≤ bs.length ∧ ∀ b ∈ bs.take i, b.size ≤ 64) (fun i => bs.length - i) 0 ⟨by omega, by simp⟩ (wkt []) ?_
    rintro i ⟨hi, hs64⟩ K hK
    by_cases h2 : i < bs.length
    · have h3 : i < hs.length := by omega
      have c1 := hash_c bs[i] (hb _ (List.getElem_mem h2))
      by_cases h4 : 64 < bs[i].size
      · rw [if_pos h4] at c1
        rw [if_pos ⟨bs[i], List.getElem_mem h2, h4⟩]
        refine wk ?_
        refine fin ?_
        rfl
      · rw [if_neg h4] at c1
        have hu := unl_step h3 h2
        rw [bne_cast] at hu
        have hinv : ∀ b ∈ bs.take (i + 1), b.size ≤ 64 := by
          rw [List.take_succ_eq_append_getElem h2]
          intro b hb
          rcases List.mem_append.1 hb with hb | hb
          · exact hs64 b hb
          · simp at hb; subst hb; omega
        cases hue : unl hs bs i with
        | true =>
          rw [hue] at hu
          refine wk ?_
          exact hK _ (i + 1) ⟨by omega, hinv⟩ (by rw [hu]; exact wkt []) (by omega)
        | false =>
          rw [hue, Bool.false_or] at hu
          refine wk ?_
          exact hK _ (i + 1) ⟨by omega, hinv⟩ (by rw [hu]; exact wkt []) (by omega)
    · obtain rfl : i = bs.length := by omega
      rw [List.take_length] at hs64
      rw [if_neg (by rintro ⟨b, hb, hlt⟩; have := hs64 b hb; omega)]
      cases hue : unl hs bs bs.length with
      | true =>
        refine wk ?_
        refine fin ?_
        rfl
      | false =>
        refine wk ?_
        refine fin ?_
        rfl
theorem unl_false_of {hs : List Nat} {bs : List ByteArray} {j k : Nat} (h : j ≤ k) (hk : unl hs bs k = false) : unl hs bs j = false := by
  simp only [unl, Bool.not_eq_false', beq_iff_eq] at *
  have := congrArg (List.take j) hk
  rw [← List.map_take, List.take_take, List.take_take, Nat.min_eq_left h] at this
  exact this
set_option maxHeartbeats 20000000 in
theorem rfits_c (hs : List Nat) (bs : List ByteArray) (hl : hs.length < 9223372036854775808) (bl : bs.length < 9223372036854775808) (hb : ∀ s ∈ bs, s.size < 9223372036854775808) : Pure Try.prog 25 [hsV hs, bsV bs] (.int .i64 (fitsN hs bs)) := by
  refine pure_ac ?_ (cleans_cons (clean_hsV hs) (cleans_cons (clean_bsV bs) cleans_nil)) (.int _ _)
  unfold fitsN
  by_cases h1 : bs.length < 1 ∨ 4 < bs.length ∨ hs.length ≠ bs.length
  · rw [if_pos h1]
    (refine enter Try.func25 Try.results25 Try.ntmps25 ty_ok (hw := fun F hF => ?_); simp only [List.length_cons, List.length_nil, Nat.reduceAdd, Nat.reduceSub, List.replicate_succ, List.replicate_zero, List.cons_append, List.nil_append]; apply hF; clear hF F)
    refine wk ?_
    repeat' (first | refine st_ifd ?_ ?_ | refine st_ifdF ?_ ?_ | refine st_ife ?_ ?_ | refine st_ifeF ?_ ?_ | refine st_ifne ?_ ?_ | refine st_ifneF ?_ ?_ | refine st_ifnT ?_ ?_ | refine st_ifnF ?_ ?_ | refine st_ifT ?_ ?_ | refine st_ifF ?_ ?_ | refine aw_ifd ?_ ?_ | refine aw_ife ?_ ?_ | refine aw_ifne ?_ ?_ | refine aw_ifn ?_ ?_ | refine aw_ifnb ?_ ?_ | refine aw_ifb ?_ ?_) <;> intro hb <;> refine wk ?_
    all_goals first | (exfalso; omega) | (refine fin ?_; rfl) | skip
  · rw [if_neg h1]
    (refine enter Try.func25 Try.results25 Try.ntmps25 ty_ok (hw := fun F hF => ?_); simp only [List.length_cons, List.length_nil, Nat.reduceAdd, Nat.reduceSub, List.replicate_succ, List.replicate_zero, List.cons_append, List.nil_append]; apply hF; clear hF F)
    refine wk ?_
    refine aw_loopI (fun (i : Nat) => ⟨((hsV hs) :: (bsV bs) :: .any :: .any :: .any :: (.int .i64 i) :: .any :: .any :: .any :: .any :: .any :: .any :: .any :: .any :: .any :: .any :: .any :: .any :: .any :: .any :: .any :: .any :: .any :: .any :: .any :: .any :: .any :: .any :: .any :: .any :: .any :: .any :: .any :: .any :: .any :: .any :: .any :: .any :: .any :: .any :: .any :: .any :: .any :: .any :: .any :: .any :: .any :: .any :: .any :: .any :: []), []⟩) (fun i => i ≤ bs.length ∧ ∀ b ∈ bs.take i, b.size ≤ 64) (fun i => bs.length - i) 0 ⟨by omega, by simp⟩ (wkt []) ?_
    rintro i ⟨hi, hs64⟩ K hK
    by_cases h2 : i < bs.length
    · have hbi := hb _ (List.getElem_mem h2)
      by_cases h4 : 64 < bs[i].size
      · rw [if_pos ⟨bs[i], List.getElem_mem h2, h4⟩]
        refine wk ?_
        refine fin ?_
        rfl
      · have hinv : ∀ b ∈ bs.take (i + 1), b.size ≤ 64 := by
          rw [List.take_succ_eq_append_getElem h2]
          intro b hb
          rcases List.mem_append.1 hb with hb | hb
          · exact hs64 b hb
          · simp at hb; subst hb; omega
        refine wk ?_
        exact hK _ (i + 1) ⟨by omega, hinv⟩ (wkt []) (by omega)
    · obtain rfl : i = bs.length := by omega
      rw [List.take_length] at hs64
      rw [if_neg (by rintro ⟨b, hb, hlt⟩; have := hs64 b hb; omega)]
      refine wk ?_
      refine aw_loopI (fun (j : Nat) => ⟨((hsV hs) :: (bsV bs) :: .any :: .any :: .any :: .any :: (.int .i64 j) :: .any :: .any :: .any :: .any :: .any :: .any :: .any :: .any :: .any :: .any :: .any :: .any :: .any :: .any :: .any :: .any :: .any :: .any :: .any :: .any :: .any :: .any :: .any :: .any :: .any :: .any :: .any :: .any :: .any :: .any :: .any :: .any :: .any :: .any :: .any :: .any :: .any :: .any :: .any :: .any :: .any :: .any :: .any :: []), []⟩) (fun j => j ≤ bs.length ∧ unl hs bs j = false) (fun j => bs.length - j) 0 ⟨by omega, unl_zero _ _⟩ (wkt []) ?_
      rintro j ⟨hj, hu⟩ K2 hK2
      by_cases h2 : j < bs.length
      · have h3 : j < hs.length := by omega
        have c1 := rhash_c bs[j] (by have := hs64 _ (List.getElem_mem h2); omega)
        have hu2 := unl_step h3 h2
        rw [hu, Bool.false_or] at hu2
        by_cases he : hs[j] = hashN bs[j]
        · rw [he, bne_self_eq_false] at hu2
          refine wk ?_
          exact hK2 _ (j + 1) ⟨by omega, hu2⟩ (wkt []) (by omega)
        · have hT : unl hs bs bs.length = true := by
            cases h : unl hs bs bs.length with
            | true => rfl
            | false =>
              rw [unl_false_of (show j + 1 ≤ bs.length by omega) h] at hu2
              have : hashN bs[j] = hs[j] := by simpa using hu2
              exact absurd this.symm he
          rw [hT]
          refine wk ?_
          refine fin ?_
          rfl
      · obtain rfl : j = bs.length := by omega
        rw [hu]
        refine wk ?_
        refine fin ?_
        rfl
end Go.Abs
