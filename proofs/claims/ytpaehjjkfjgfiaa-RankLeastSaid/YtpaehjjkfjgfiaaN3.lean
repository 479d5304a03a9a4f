/- Len64, Bits, Of: walks. -/
import Derived.Test.YtpaehjjkfjgfiaaN2
set_option linter.unusedVariables false
set_option linter.unusedSimpArgs false
namespace Go.Abs
open Go Go.Proofs

/-- How many bits a number has. -/
def blen (n : Nat) : Nat := if n = 0 then 0 else Nat.log2 n + 1
theorem blen_lt (n : Nat) : n < 2 ^ blen n := by
  unfold blen; split
  · omega
  · rename_i h; exact Nat.lt_log2_self
theorem blen_le {n : Nat} (h : n ≠ 0) : 2 ^ (blen n - 1) ≤ n := by
  unfold blen; rw [if_neg h]; exact Nat.log2_self_le h
theorem blen_unique {n k : Nat} (h1 : n < 2 ^ k) (h2 : k = 0 ∨ 2 ^ (k - 1) ≤ n) : blen n = k := by
  by_cases h0 : n = 0
  · subst h0
    rcases h2 with rfl | h2
    · rfl
    · have := Nat.two_pow_pos (k - 1); omega
  · have a := blen_lt n
    have b := blen_le h0
    have p : 0 < blen n := by unfold blen; rw [if_neg h0]; omega
    have c : k ≠ 0 := by rintro rfl; simp at h1; exact h0 h1
    have d : 2 ^ (k - 1) ≤ n := h2.resolve_left c
    have e : k - 1 < blen n := (Nat.pow_lt_pow_iff_right (by omega : 1 < 2)).1 (Nat.lt_of_le_of_lt d a)
    have f : blen n - 1 < k := (Nat.pow_lt_pow_iff_right (by omega : 1 < 2)).1 (Nat.lt_of_le_of_lt b h1)
    omega
theorem blen_zero : blen 0 = 0 := rfl
theorem blen_pos {n : Nat} (h : n ≠ 0) : 0 < blen n := by unfold blen; rw [if_neg h]; omega
/-- Bits of a number that is shifted. -/
theorem blen_div {n k : Nat} (h : n / 2 ^ k ≠ 0) : blen n = blen (n / 2 ^ k) + k := by
  have a := blen_lt (n / 2 ^ k)
  have b := blen_le h
  have p := blen_pos h
  refine blen_unique ?_ (.inr ?_)
  · rw [Nat.pow_add]
    exact (Nat.div_lt_iff_lt_mul (Nat.two_pow_pos k)).1 a
  · rw [show blen (n / 2 ^ k) + k - 1 = (blen (n / 2 ^ k) - 1) + k from by omega, Nat.pow_add]
    exact (Nat.le_div_iff_mul_le (Nat.two_pow_pos k)).1 b
theorem blen_le_of_lt {n k : Nat} (h : n < 2 ^ k) : blen n ≤ k := by
  by_cases h0 : n = 0
  · subst h0; simp [blen]
  · have b := blen_le h0
    have p := blen_pos h0
    have f : blen n - 1 < k := (Nat.pow_lt_pow_iff_right (by omega : 1 < 2)).1 (Nat.lt_of_le_of_lt b h)
    omega

theorem len8_fin {s : ByteArray} {y : Nat} (hs : (List.range 256).all (fun y => bt s y == blen y) = true) (hy : y < 256) : bt s y = blen y := by
  have := List.all_eq_true.1 hs y (List.mem_range.2 hy)
  simpa using this
theorem len_leaf {x k m : Nat} {e n : Int} (hm : blen (Int.toNat e) = m) (he : e = (x / 2 ^ k : Nat)) (hn : n = k) (hk : k = 0 ∨ x / 2 ^ k ≠ 0) : n + (m : Nat) = blen x := by
  subst hm; subst he; subst hn
  simp only [Int.toNat_natCast]
  rcases hk with rfl | hk
  · simp
  · rw [blen_div hk]; omega
theorem blen_high {n k m : Nat} (h : n / 2 ^ k = m) (hm : m ≠ 0) : blen n = blen m + k := by subst h; exact blen_div hm

/-- A look into the table of lengths. -/
theorem st_len8 {L : List FuncId} {ops : Array Oper} {os : List Oper} {t : List V} {h : List HB} {K : St → Prop} {xt : TypeId} {o : Operand} {d : Option Tmp} {a : TypeId} {b : String} {c : Array Edge} {s : ByteArray} {k : IntKind} {e : Int} {i : Ty}
    (hs : (List.range 256).all (fun y => bt s y == blen y) = true) (hz : (256 : Int) = s.size) (hx : ty xt = some i) (hi : i.desc = .string) (ho : ev t o = .int k e) (h0 : 0 ≤ e ∧ e < 256)
    (kk : ∀ m : Nat, m ≤ 8 → blen e.toNat = m → ∀ F : St → Prop, (∀ s, ASeq Try.prog ty L ops os s K → F s) → F ⟨put t d (.int .u8 m), h⟩) : ASeq Try.prog ty L ops (⟨d, .index xt (.const (.string s)) o, a, b, c, none⟩ :: os) ⟨t, h⟩ K := by
  have e1 : bt s e.toNat = blen e.toNat := len8_fin hs (by omega)
  refine st_op (p := 0 ≤ e ∧ e < s.size) (v := .int .u8 (bt s e.toNat)) (h' := h) ?_ ⟨h0.1, by omega⟩ ?_
  · simp only [aop, hx, Option.bind_some, aIndex, ho, hi]; rfl
  · rw [e1]; exact kk _ (blen_le_of_lt (k := 8) (by simp only [Nat.reducePow]; omega)) rfl _ fun _ h => h

set_option maxHeartbeats 20000000 in
theorem len64_c (x : Nat) (hx : x < 18446744073709551616) : Pure Try.prog 69 [.int .u64 x] (.int .i64 (blen x)) := by
  refine pure_ac ?_ (cleans_cons (.int _ _) cleans_nil) (.int _ _)
  (refine enter Try.func69 Try.results69 Try.ntmps69 ty_ok (hw := fun F hF => ?_); simp only [List.length_cons, List.length_nil, Nat.reduceAdd, Nat.reduceSub, List.replicate_succ, List.replicate_zero, List.cons_append, List.nil_append]; apply hF; clear hF F)
  refine wk ?_
  repeat' (first | refine aw_ifd ?_ ?_ | refine aw_ife ?_ ?_ | refine aw_ifne ?_ ?_ | refine aw_ifn ?_ ?_ | refine aw_ifnb ?_ ?_ | refine aw_ifb ?_ ?_) <;> intro hb <;> refine wk ?_
  all_goals (refine st_len8 (by kernel_rfl) (by kernel_rfl) rfl rfl rfl ⟨by omega, by omega⟩ (fun m hm8 hm F hF => ?_); dsimp only [put, ev, ofC, ofS, one, List.set_cons_zero, List.set_cons_succ, nth, List.getElem?_cons_zero, List.getElem?_cons_succ, List.length_cons, List.length_nil, List.length_set, List.nil_append, List.cons_append, binInt, shiftOp, aUn, Option.map_some, Option.bind_some, Nat.reduceAdd, Nat.reduceSub, Nat.reduceMul, Int.reduceAdd, Int.reduceSub, Int.reduceMul, Int.reduceNeg, Int.reduceToNat, List.drop_zero, List.drop_succ_cons, List.take_succ_cons, List.take_zero, List.map_cons, List.map_nil, List.replicate_succ, List.replicate_zero, List.flatten_cons, List.flatten_nil, splice, partOf, aggD, Option.getD_some, reduceIte, Bool.not_true, Bool.not_false, V.cells?, Nat.zero_add, Nat.add_zero, Int.toNat_natCast, Nat.reducePow, Int.reducePow, IntKind.bits]; apply hF; clear hF F)
  all_goals (refine wk ?_; refine fin ?_; refine congrArg (V.int _) ?_)
  all_goals (first | exact len_leaf (k := 56) hm (by simp only [Nat.reducePow]; omega) (by omega) (by simp only [Nat.reducePow]; omega) | exact len_leaf (k := 48) hm (by simp only [Nat.reducePow]; omega) (by omega) (by simp only [Nat.reducePow]; omega) | exact len_leaf (k := 40) hm (by simp only [Nat.reducePow]; omega) (by omega) (by simp only [Nat.reducePow]; omega) | exact len_leaf (k := 32) hm (by simp only [Nat.reducePow]; omega) (by omega) (by simp only [Nat.reducePow]; omega) | exact len_leaf (k := 24) hm (by simp only [Nat.reducePow]; omega) (by omega) (by simp only [Nat.reducePow]; omega) | exact len_leaf (k := 16) hm (by simp only [Nat.reducePow]; omega) (by omega) (by simp only [Nat.reducePow]; omega) | exact len_leaf (k := 8) hm (by simp only [Nat.reducePow]; omega) (by omega) (by simp only [Nat.reducePow]; omega) | (exact len_leaf (k := 0) hm (by simp only [Nat.pow_zero, Nat.div_one]) (by omega) (.inl rfl)))
set_option maxHeartbeats 20000000 in
theorem bits_c (x : Nat) (hx : x < 115792089237316195423570985008687907853269984665640564039457584007913129639936) : Pure Try.prog 54 [uv x] (.int .i64 (blen x)) := by
  refine pure_ac ?_ (cleans_cons (clean_uv _) cleans_nil) (.int _ _)
  obtain ⟨a, b, c, d, p0, p1, p2, p3, ex, rx⟩ := uv_elim hx
  have hl := limbs_c a b c d
  have c0 := len64_c
  rw [rx]; clear rx
  unfold num4 at ex
  by_cases hd : d = 0
  · by_cases hc : c = 0
    · by_cases hb : b = 0
      · by_cases ha : a = 0
        · rw [show lims a b c d = 0 from by simp [lims, hd, hc, hb, ha]] at hl
          (refine enter Try.func54 Try.results54 Try.ntmps54 ty_ok (hw := fun F hF => ?_); simp only [List.length_cons, List.length_nil, Nat.reduceAdd, Nat.reduceSub, List.replicate_succ, List.replicate_zero, List.cons_append, List.nil_append]; apply hF; clear hF F)
          refine wk ?_
          refine fin ?_
          rw [show x = 0 from by omega]; rfl
        · rw [show lims a b c d = 1 from by simp [lims, hd, hc, hb, ha]] at hl
          have hb := blen_high (n := x) (k := 0) (m := a) (by simp only [Nat.reducePow]; omega) ha
          have hb8 := blen_le_of_lt (n := a) (k := 64) (by simp only [Nat.reducePow]; omega)
          (refine enter Try.func54 Try.results54 Try.ntmps54 ty_ok (hw := fun F hF => ?_); simp only [List.length_cons, List.length_nil, Nat.reduceAdd, Nat.reduceSub, List.replicate_succ, List.replicate_zero, List.cons_append, List.nil_append]; apply hF; clear hF F)
          refine wk ?_
          refine fin ?_
          exact congrArg (V.int _) (by omega)
      · rw [show lims a b c d = 2 from by simp [lims, hd, hc, hb]] at hl
        have hb := blen_high (n := x) (k := 64) (m := b) (by simp only [Nat.reducePow]; omega) hb
        have hb8 := blen_le_of_lt (n := b) (k := 64) (by simp only [Nat.reducePow]; omega)
        (refine enter Try.func54 Try.results54 Try.ntmps54 ty_ok (hw := fun F hF => ?_); simp only [List.length_cons, List.length_nil, Nat.reduceAdd, Nat.reduceSub, List.replicate_succ, List.replicate_zero, List.cons_append, List.nil_append]; apply hF; clear hF F)
        refine wk ?_
        refine fin ?_
        exact congrArg (V.int _) (by omega)
    · rw [show lims a b c d = 3 from by simp [lims, hd, hc]] at hl
      have hb := blen_high (n := x) (k := 128) (m := c) (by simp only [Nat.reducePow]; omega) hc
      have hb8 := blen_le_of_lt (n := c) (k := 64) (by simp only [Nat.reducePow]; omega)
      (refine enter Try.func54 Try.results54 Try.ntmps54 ty_ok (hw := fun F hF => ?_); simp only [List.length_cons, List.length_nil, Nat.reduceAdd, Nat.reduceSub, List.replicate_succ, List.replicate_zero, List.cons_append, List.nil_append]; apply hF; clear hF F)
      refine wk ?_
      refine fin ?_
      exact congrArg (V.int _) (by omega)
  · rw [show lims a b c d = 4 from by simp [lims, hd]] at hl
    have hb := blen_high (n := x) (k := 192) (m := d) (by simp only [Nat.reducePow]; omega) hd
    have hb8 := blen_le_of_lt (n := d) (k := 64) (by simp only [Nat.reducePow]; omega)
    (refine enter Try.func54 Try.results54 Try.ntmps54 ty_ok (hw := fun F hF => ?_); simp only [List.length_cons, List.length_nil, Nat.reduceAdd, Nat.reduceSub, List.replicate_succ, List.replicate_zero, List.cons_append, List.nil_append]; apply hF; clear hF F)
    refine wk ?_
    refine fin ?_
    exact congrArg (V.int _) (by omega)
theorem of_c (n : Int) (h0 : 0 ≤ n) (hn : n < 9223372036854775808) : Pure Try.prog 61 [.int .i64 n] (ue n.toNat 0) := by
  refine pure_ac ?_ (cleans_cons (.int _ _) cleans_nil) (clean_ue _ _)
  (refine enter Try.func61 Try.results61 Try.ntmps61 ty_ok (hw := fun F hF => ?_); simp only [List.length_cons, List.length_nil, Nat.reduceAdd, Nat.reduceSub, List.replicate_succ, List.replicate_zero, List.cons_append, List.nil_append]; apply hF; clear hF F)
  refine wk ?_
  refine fin ?_
  rw [show n = ((n.toNat : Nat) : Int) from by omega]
  exact ue_of (b := 0) (c := 0) (d := 0) (k := 0) (by omega) (by omega) (by omega) (by omega) (by unfold num4; omega)
theorem of_neg (n : Int) (h0 : n < 0) : Pure Try.prog 61 [.int .i64 n] (ue 0 1) := by
  refine pure_ac ?_ (cleans_cons (.int _ _) cleans_nil) (clean_ue _ _)
  (refine enter Try.func61 Try.results61 Try.ntmps61 ty_ok (hw := fun F hF => ?_); simp only [List.length_cons, List.length_nil, Nat.reduceAdd, Nat.reduceSub, List.replicate_succ, List.replicate_zero, List.cons_append, List.nil_append]; apply hF; clear hF F)
  refine wk ?_
  refine fin ?_
  rfl
/-- One limb of four. -/
theorem nth_limbs (x : Nat) {j : Nat} (h : j < 4) : nth [.int .u64 (lb x 0), .int .u64 (lb x 1), .int .u64 (lb x 2), .int .u64 (lb x 3)] j = .int .u64 (lb x j) := by
  have : j = 0 ∨ j = 1 ∨ j = 2 ∨ j = 3 := by omega
  rcases this with rfl | rfl | rfl | rfl <;> rfl
theorem lb_shift (x i : Nat) (m : Nat) (hm : m ≤ 64 - i % 64) : lb x (i / 64) / 2 ^ (i % 64) % 2 ^ m = x / 2 ^ i % 2 ^ m := by
  unfold lb
  have e : x / 2 ^ i = x / 18446744073709551616 ^ (i / 64) / 2 ^ (i % 64) := by
    rw [Nat.div_div_eq_div_mul, show (18446744073709551616 : Nat) = 2 ^ 64 from by decide, ← Nat.pow_mul, ← Nat.pow_add]
    congr 2; omega
  rw [e]
  generalize x / 18446744073709551616 ^ (i / 64) = y
  rw [show (18446744073709551616 : Nat) = 2 ^ (i % 64) * 2 ^ (64 - i % 64) from by rw [← Nat.pow_add]; rw [show i % 64 + (64 - i % 64) = 64 from by omega], Nat.mod_mul_right_div_self]
  exact Nat.mod_mod_of_dvd _ (Nat.pow_dvd_pow 2 hm)
/-- The lowest bit. -/
theorem and_one {x : Int} (h0 : 0 ≤ x) (h : x < 18446744073709551616) : bitsOp .and .u64 x 1 = x % 2 := by
  obtain ⟨n, rfl⟩ := Int.eq_ofNat_of_zero_le h0
  have hn : n < 2 ^ 64 := by simp only [Nat.reducePow]; omega
  show IntKind.wrap .u64 (((BitVec.ofInt 64 (n : Int) &&& BitVec.ofInt 64 1).toNat : Nat) : Int) = _
  rw [BitVec.toNat_and, BitVec.toNat_ofInt, BitVec.toNat_ofInt]
  have e1 : (((n : Nat) : Int) % ((2 ^ 64 : Nat) : Int)).toNat = n := by omega
  have e2 : ((1 : Int) % ((2 ^ 64 : Nat) : Int)).toNat = 1 := by decide
  rw [e1, e2, Nat.and_one_is_mod, wu64 (by omega)]
  omega

theorem bit_of (x n : Nat) : bitsOp .and .u64 ((lb x (n / 64) : Int) / 2 ^ (n % 64)) 1 = ((x / 2 ^ n % 2 : Nat) : Int) := by
  have hl := lb_lt x (n / 64)
  have hs := lb_shift x n 1 (by omega)
  have e : (lb x (n / 64) : Int) / 2 ^ (n % 64) = ((lb x (n / 64) / 2 ^ (n % 64) : Nat) : Int) := by simp
  have hlt : lb x (n / 64) / 2 ^ (n % 64) < 18446744073709551616 := Nat.lt_of_le_of_lt (Nat.div_le_self _ _) hl
  rw [e]
  generalize lb x (n / 64) / 2 ^ (n % 64) = q at hs hlt
  generalize x / 2 ^ n = y at hs ⊢
  rw [and_one (by omega) (by omega)]
  rw [Nat.pow_one] at hs
  omega

theorem rbit_c (x : Nat) (i : Int) (h0 : 0 ≤ i) (h1 : i < 256) : Pure Try.prog 57 [uv x, .int .i64 i] (.bool (x.testBit i.toNat)) := by
  refine pure_ac ?_ (cleans_cons (clean_uv _) (cleans_cons (.int _ _) cleans_nil)) (.bool _)
  obtain ⟨n, rfl⟩ := Int.eq_ofNat_of_zero_le h0
  have hj := nth_limbs x (j := n / 64) (by omega)
  have hl := lb_lt x (n / 64)
  have ha := bit_of x n
  have ej : ((n : Int) / 64).toNat * 1 = n / 64 := by omega
  have er : ((n : Int) % 64).toNat = n % 64 := by omega
  (refine enter Try.func57 Try.results57 Try.ntmps57 ty_ok (hw := fun F hF => ?_); simp only [List.length_cons, List.length_nil, Nat.reduceAdd, Nat.reduceSub, List.replicate_succ, List.replicate_zero, List.cons_append, List.nil_append]; apply hF; clear hF F)
  refine wk ?_
  (refine aseq_fx (fun F hF => ?_); simp only [ej, Nat.zero_add, hj]; apply hF; clear hF F)
  refine wk ?_
  refine fin ?_
  refine congrArg V.bool ?_
  rw [er, ha, Nat.testBit_eq_decide_div_mod_eq]
  by_cases h : x / 2 ^ n % 2 = 1
  · simp [h]
  · rw [decide_eq_false h]; exact beq_eq_false_iff_ne.2 (by omega)
set_option maxHeartbeats 20000000 in
theorem rbits_c (x : Nat) (hx : x < 115792089237316195423570985008687907853269984665640564039457584007913129639936) : Pure Try.prog 56 [uv x] (.int .i64 (blen x)) := by
  refine pure_ac ?_ (cleans_cons (clean_uv _) cleans_nil) (.int _ _)
  have c0 := rbit_c
  (refine enter Try.func56 Try.results56 Try.ntmps56 ty_ok (hw := fun F hF => ?_); simp only [List.length_cons, List.length_nil, Nat.reduceAdd, Nat.reduceSub, List.replicate_succ, List.replicate_zero, List.cons_append, List.nil_append]; apply hF; clear hF F)
  refine wk ?_
  refine aw_loopI (fun (n : Nat) => ⟨(.any :: (.ptr 0 0) :: (.int .i64 0) :: (.int .i64 ((n : Int) - 1)) :: .any :: .any :: .any :: .any :: .any :: .any :: .any :: .any :: .any :: []), [.live [.int .u64 (lb x 0), .int .u64 (lb x 1), .int .u64 (lb x 2), .int .u64 (lb x 3)]]⟩) (fun n => n ≤ 256 ∧ x < 2 ^ n) (fun n => n) 256 ⟨by omega, by simpa using hx⟩ (wkt [0]) ?_
  rintro n ⟨h1, h2⟩ K hK
  by_cases h0 : n = 0
  · subst h0
    refine wk ?_
    refine fin ?_
    rw [show x = 0 from by simpa using h2]; rfl
  · refine wk ?_
    repeat' (first | refine aw_ifd ?_ ?_ | refine aw_ife ?_ ?_ | refine aw_ifne ?_ ?_ | refine aw_ifn ?_ ?_ | refine aw_ifnb ?_ ?_ | refine aw_ifb ?_ ?_) <;> intro hb <;> refine wk ?_
    · refine fin ?_
      have e : ((n : Int) - 1).toNat = n - 1 := by omega
      rw [e] at hb
      have := Nat.ge_two_pow_of_testBit hb
      rw [blen_unique h2 (.inr this)]
      exact congrArg (V.int _) (by omega)
    · have e : ((n : Int) - 1).toNat = n - 1 := by omega
      rw [e] at hb
      refine hK _ (n - 1) ⟨by omega, ?_⟩ (wkt [0]) (by omega)
      refine Nat.lt_pow_two_of_testBit _ fun i hi => ?_
      rcases Nat.eq_or_lt_of_le hi with rfl | hi
      · exact hb
      · exact Nat.testBit_lt_two_pow (Nat.lt_of_lt_of_le h2 (Nat.pow_le_pow_right (by omega) (by omega)))
end Go.Abs
