/- The laws of layer 1 on bytes and bits: the walks. -/
import Derived.Test.YthnckfnpbdlokaaN6
set_option linter.unusedVariables false
set_option linter.unusedSimpArgs false
namespace Go.Abs
open Go Go.Proofs

theorem bes_length (n : Nat) : ∀ k, (bes n k).length = k
  | 0 => rfl
  | k + 1 => by simp [bes, bes_length n k]
theorem textS_size (n : Nat) : (textS n).size = nb n := by show (bes n (nb n)).toArray.size = _; simp [bes_length]
theorem bes_get (n : Nat) : ∀ (k j : Nat), j < k → (bes n k)[j]? = some (UInt8.ofNat (byt n (k - 1 - j)))
  | 0, j, h => by omega
  | k + 1, 0, h => by simp [bes]
  | k + 1, j + 1, h => by
    rw [bes, List.getElem?_cons_succ, bes_get n k j (by omega)]
    congr 3; omega
theorem bt_textS (n j : Nat) (h : j < nb n) : bt (textS n) j = byt n (nb n - 1 - j) := by
  have : (textS n).data[j]? = some (UInt8.ofNat (byt n (nb n - 1 - j))) := by
    show (bes n (nb n)).toArray[j]? = _
    rw [List.getElem?_toArray, bes_get n _ j h]
  unfold bt; rw [this]
  show (UInt8.ofNat (byt n (nb n - 1 - j))).toNat = _
  rw [UInt8.toNat_ofNat']
  exact Nat.mod_eq_of_lt (Nat.mod_lt _ (by omega))
/-- The number of the bytes of a number. -/
theorem hi_textS (n : Nat) : ∀ i, i ≤ nb n → hiS (textS n) i = n / 256 ^ (nb n - i)
  | 0, _ => by rw [hiS, Nat.sub_zero, Nat.div_eq_of_lt (lt_nb n)]
  | i + 1, h => by
    rw [hiS, hi_textS n i (by omega), bt_textS n i (by omega)]
    unfold byt
    rw [show nb n - 1 - i = nb n - (i + 1) from by omega, show nb n - i = (nb n - (i + 1)) + 1 from by omega, Nat.pow_succ, ← Nat.div_div_eq_div_mul]
    omega
theorem val_textS (n : Nat) : valS (textS n) = n := by
  unfold valS; rw [textS_size, hi_textS n _ (Nat.le_refl _), Nat.sub_self, Nat.pow_zero, Nat.div_one]
theorem ok_textS {n : Nat} (h : n < 115792089237316195423570985008687907853269984665640564039457584007913129639936) : okText (textS n) = true := by
  rw [okText_iff, textS_size]
  refine ⟨nb_le h, ?_⟩
  by_cases h0 : n = 0
  · subst h0; exact .inl rfl
  · obtain ⟨p, q⟩ := nb_low h0
    refine .inr ?_
    rw [bt_textS n 0 p]
    unfold byt
    have h1 := lt_nb n
    rw [show nb n = (nb n - 1) + 1 from by omega, Nat.pow_succ] at h1
    rw [show nb n - 1 - 0 = nb n - 1 from rfl]
    have h2 : 0 < n / 256 ^ (nb n - 1) := Nat.div_pos q (Nat.pow_pos (by omega))
    have h3 : n / 256 ^ (nb n - 1) < 256 := by rw [Nat.div_lt_iff_lt_mul (Nat.pow_pos (by omega))]; omega
    omega
theorem take_textS {n : Nat} (h : n < 115792089237316195423570985008687907853269984665640564039457584007913129639936) : takeV (textS n) = ue n 0 := by
  unfold takeV; rw [if_pos (ok_textS h), val_textS]
theorem take_zero (s : ByteArray) : takeV (⟨#[0]⟩ ++ s) = ue 0 1 := by
  unfold takeV
  have : okText (⟨#[0]⟩ ++ s) = false := by
    rw [Bool.eq_false_iff]
    intro h
    obtain ⟨_, h | h⟩ := (okText_iff _).1 h
    · rw [ByteArray.size_append] at h
      have : (ByteArray.mk #[0]).size = 1 := rfl
      omega
    · apply h
      unfold bt
      rw [ByteArray.data_append, Array.getElem?_append_left (by decide)]
      rfl
  rw [if_neg (by rw [this]; simp)]

set_option maxHeartbeats 20000000 in
theorem numTexts_c (ns : List Nat) (x : Bool) (hns : ns.length < 9223372036854775808) (hlt : ∀ n ∈ ns, n < 115792089237316195423570985008687907853269984665640564039457584007913129639936) : Pure Try.prog 3 [vecU ns x] (.bool true) := by
  refine pure_ac ?_ (cleans_cons (clean_vecU _ _) cleans_nil) (.bool _)
  have hall := all_c ns x hns
  have hm := alls_lt hlt
  have hml := alls_len ns
  generalize alls ns = m at hall hm hml
  unfold vecU at hall ⊢
  have hw := wakes1_c
  have hn := num1_c
  have hz1 : (ByteArray.mk #[0]).size = 1 := rfl
  (refine enter Try.func3 Try.results3 Try.ntmps3 ty_ok (hw := fun F hF => ?_); simp only [List.length_cons, List.length_nil, Nat.reduceAdd, Nat.reduceSub, List.replicate_succ, List.replicate_zero, List.cons_append, List.nil_append]; apply hF; clear hF F)
  refine wk ?_
  refine aw_loopI (fun (i : Nat) => ⟨(.any :: .any :: (.bool false) :: (.vec (fl m) m.length false) :: (.int .i64 i) :: .any :: .any :: .any :: .any :: .any :: .any :: .any :: .any :: .any :: .any :: .any :: .any :: .any :: .any :: .any :: .any :: .any :: .any :: .any :: .any :: .any :: .any :: .any :: .any :: .any :: .any :: .any :: .any :: .any :: .any :: .any :: .any :: .any :: .any :: .any :: .any :: .any :: .any :: .any :: .any :: .any :: .any :: .any :: .any :: .any :: .any :: .any :: .any :: .any :: .any :: .any :: .any :: .any :: .any :: .any :: .any :: .any :: .any :: .any :: .any :: .any :: .any :: .any :: .any :: .any :: .any :: .any :: .any :: []), []⟩) (fun i => i ≤ m.length) (fun i => m.length - i) 0 (by omega) (wkt []) ?_
  intro i hi K hK
  by_cases h1 : i < m.length
  · have hmi := hm m[i] (List.getElem_mem h1)
    have hsz := textS_size m[i]
    have hnb := nb_le hmi
    have c1 := text_c m[i] hmi
    have c2 := rtext_c m[i] hmi
    have c3 := take_c (textS m[i]) (by omega)
    rw [take_textS hmi] at c3
    have c4 := take_c (⟨#[0]⟩ ++ textS m[i]) (by rw [ByteArray.size_append, show (ByteArray.mk #[0]).size = 1 from rfl]; omega)
    rw [take_zero] at c4
    have c5 := bits_c m[i] hmi
    have c6 := rbits_c m[i] hmi
    generalize textS m[i] = s at c1 c2 c3 c4 hsz
    refine wk ?_

    exact hK _ (i + 1) (by omega) (wkt []) (by omega)
  · refine wk ?_
    refine fin ?_
    rfl
/-- A string's cell. -/
@[reducible] def strc (s : ByteArray) : List V := [.str s]
instance rows_strc : Rows strc 1 where
  len := fun _ => rfl
  clean := fun _ => cleans_cons (.str _) cleans_nil
  one := fun n v h => by simp [strc] at h; subst h; rfl
/-- A slice of strings that nobody writes. -/
def vecS (ss : List ByteArray) (x : Bool) : V := .vec (flat strc ss) ss.length x
theorem clean_vecS (ss : List ByteArray) (x : Bool) : Clean (vecS ss x) := .vec _ _ _ (cleans_flat ss)
theorem take_cases (s : ByteArray) : ∃ a e b, takeV s = ue a e ∧ rtakeV s = ub a b ∧ (b = true ∧ e = 0 ∨ b = false ∧ e = 1) := by
  unfold takeV rtakeV
  by_cases h : okText s = true
  · rw [if_pos h, if_pos h]; exact ⟨_, _, _, rfl, rfl, .inl ⟨rfl, rfl⟩⟩
  · rw [if_neg h, if_neg h]; exact ⟨_, _, _, rfl, rfl, .inr ⟨rfl, rfl⟩⟩
theorem rof_c (n : Int) (h0 : 0 ≤ n) (hn : n < 9223372036854775808) : Pure Try.prog 27 [.int .i64 n] (uv n.toNat) := by
  refine pure_ac ?_ (cleans_cons (.int _ _) cleans_nil) (clean_uv _)
  (refine enter Try.func27 Try.results27 Try.ntmps27 ty_ok (hw := fun F hF => ?_); simp only [List.length_cons, List.length_nil, Nat.reduceAdd, Nat.reduceSub, List.replicate_succ, List.replicate_zero, List.cons_append, List.nil_append]; apply hF; clear hF F)
  refine wk ?_
  refine fin ?_
  rw [show n = ((n.toNat : Nat) : Int) from by omega]
  exact uv_congr (b := 0) (c := 0) (d := 0) (by omega) (by omega) (by omega) (by omega) (by unfold num4; omega)
set_option maxHeartbeats 20000000 in
theorem numTakes_c (ss : List ByteArray) (x : Bool) (hss : ss.length < 9223372036854775808) (hlt : ∀ s ∈ ss, s.size < 9223372036854775808) : Pure Try.prog 4 [vecS ss x] (.bool true) := by
  refine pure_ac ?_ (cleans_cons (clean_vecS _ _) cleans_nil) (.bool _)
  have hw := wakes1_c
  have hn := num1_c
  unfold vecS
  (refine enter Try.func4 Try.results4 Try.ntmps4 ty_ok (hw := fun F hF => ?_); simp only [List.length_cons, List.length_nil, Nat.reduceAdd, Nat.reduceSub, List.replicate_succ, List.replicate_zero, List.cons_append, List.nil_append]; apply hF; clear hF F)
  refine wk ?_
  refine aw_loopI (fun (i : Nat) => ⟨((.vec (flat strc ss) ss.length x) :: .any :: (.bool false) :: (.int .i64 i) :: .any :: .any :: .any :: .any :: .any :: .any :: .any :: .any :: .any :: .any :: .any :: .any :: .any :: .any :: .any :: .any :: .any :: .any :: .any :: .any :: .any :: .any :: .any :: .any :: .any :: .any :: .any :: .any :: .any :: .any :: .any :: .any :: .any :: .any :: .any :: .any :: .any :: .any :: .any :: .any :: .any :: .any :: .any :: .any :: .any :: .any :: .any :: .any :: .any :: .any :: .any :: .any :: .any :: .any :: .any :: .any :: .any :: .any :: .any :: .any :: .any :: .any :: .any :: .any :: .any :: .any :: .any :: .any :: .any :: .any :: .any :: .any :: .any :: .any :: .any :: .any :: .any :: .any :: .any :: .any :: .any :: .any :: .any :: .any :: .any :: .any :: []), []⟩) (fun i => i ≤ ss.length ∧ i ≤ 20) (fun i => 20 - i) 0 (by omega) (wkt []) ?_
  rintro i ⟨hi, hi2⟩ K hK
  by_cases h1 : i < ss.length
  · by_cases h2 : i < 20
    · have hmi := hlt ss[i] (List.getElem_mem h1)
      have c1 := take_c ss[i] hmi
      have c2 := rtake_c ss[i] hmi
      obtain ⟨a, e, b, e1, e2, he⟩ := take_cases ss[i]
      rw [e1] at c1; rw [e2] at c2
      have d3 := rof_c
      by_cases h3 : (ss[i].size : Int) - 2 < 0
      · have d1 := of_neg
        rcases he with ⟨rfl, rfl⟩ | ⟨rfl, rfl⟩
        all_goals (refine wk ?_)
        all_goals (exact hK _ (i + 1) (by omega) (wkt []) (by omega))
      · have d1 := of_c
        rcases he with ⟨rfl, rfl⟩ | ⟨rfl, rfl⟩
        all_goals (refine wk ?_)
        all_goals (exact hK _ (i + 1) (by omega) (wkt []) (by omega))
    · refine wk ?_
      refine fin ?_
      rfl
  · refine wk ?_
    refine fin ?_
    rfl
/-- A number equals nothing just where it is 0. -/
theorem lb_all {x y : Nat} (hx : x < 115792089237316195423570985008687907853269984665640564039457584007913129639936) (hy : y < 115792089237316195423570985008687907853269984665640564039457584007913129639936) : (lb x 0 = lb y 0 ∧ lb x 1 = lb y 1 ∧ lb x 2 = lb y 2 ∧ lb x 3 = lb y 3) ↔ x = y := by
  constructor
  · rintro ⟨h0, h1, h2, h3⟩; rw [← num4_lb hx, ← num4_lb hy, h0, h1, h2, h3]
  · rintro rfl; exact ⟨rfl, rfl, rfl, rfl⟩
theorem eq_zero_uv {x : Nat} (hx : x < 115792089237316195423570985008687907853269984665640564039457584007913129639936) : (((lb x 0 : Int) == 0) && (((lb x 1 : Int) == 0) && (((lb x 2 : Int) == 0) && ((lb x 3 : Int) == 0)))) = decide (x = 0) := by
  have h := lb_all hx (y := 0) (by omega)
  rw [show lb 0 0 = 0 from rfl, show lb 0 1 = 0 from rfl, show lb 0 2 = 0 from rfl, show lb 0 3 = 0 from rfl] at h
  by_cases h0 : x = 0
  · subst h0; rfl
  · rw [decide_eq_false h0]
    have h' := mt h.1 h0
    by_cases a : lb x 0 = 0 <;> by_cases b : lb x 1 = 0 <;> by_cases c : lb x 2 = 0 <;> by_cases d : lb x 3 = 0 <;> simp [a, b, c, d] at h' ⊢
theorem lb_pow (q r : Nat) (hr : r < 64) (hq : q < 4) : V.agg ([V.int .u64 0, V.int .u64 0, V.int .u64 0, V.int .u64 0].set q (V.int .u64 (((2 ^ r : Nat)) : Int))) = uv (2 ^ (64 * q + r)) := by
  have h1 : 2 ^ r < 18446744073709551616 := by rw [show (18446744073709551616 : Nat) = 2 ^ 64 from by decide]; exact Nat.pow_lt_pow_right (by omega) hr
  have h2 := lb_add 0 q (2 ^ r) (by rw [show lb 0 q = 0 from by unfold lb; simp]; omega)
  have h3 : (0 : Nat) + 2 ^ r * 18446744073709551616 ^ q = 2 ^ (64 * q + r) := by rw [Nat.zero_add, show (18446744073709551616 : Nat) = 2 ^ 64 from by decide, ← Nat.pow_mul, ← Nat.pow_add, Nat.add_comm]
  rw [h3] at h2
  have h4 : ∀ j, lb 0 j = 0 := fun j => by unfold lb; simp
  have := limbs_set (m := 0) (m' := 2 ^ (64 * q + r)) (q := q) (v := 2 ^ r) hq (fun j _ => by rw [h2 j]; split <;> simp [h4])
  rw [h4, h4, h4, h4] at this
  exact congrArg V.agg this
theorem set_pow (n : Nat) {e : Int} (he : e = n) (h : n < 256) : [V.int .u64 0, V.int .u64 0, V.int .u64 0, V.int .u64 0].set (0 + (e / 64).toNat * 1) (.int .u64 (1 * 2 ^ (e % 64).toNat % 18446744073709551616)) = uvc (2 ^ n) := by
  subst he
  have h1 := lb_pow (n / 64) (n % 64) (by omega) (by omega)
  rw [show 64 * (n / 64) + n % 64 = n from by omega] at h1
  have h2 : (0 + ((n : Int) / 64).toNat * 1) = n / 64 := by omega
  have h3 : ((n : Int) % 64).toNat = n % 64 := by omega
  have h4 : (2 : Nat) ^ (n % 64) < 18446744073709551616 := by rw [show (18446744073709551616 : Nat) = 2 ^ 64 from by decide]; exact Nat.pow_lt_pow_right (by omega) (by omega)
  have h5 : (1 : Int) * 2 ^ (n % 64) % 18446744073709551616 = ((2 ^ (n % 64) : Nat) : Int) := by
    have e : ((2 ^ (n % 64) : Nat) : Int) = 2 ^ (n % 64) := by rw [Int.natCast_pow]; rfl
    rw [Int.one_mul, ← e]
    clear e h1
    generalize 2 ^ (n % 64) = q at h4 ⊢
    omega
  rw [h2, h3, h5]
  exact V.agg.inj h1
theorem blen_pow (n : Nat) : blen (2 ^ n) = n + 1 := blen_unique (Nat.pow_lt_pow_right (by omega) (by omega)) (.inr (by rw [Nat.add_sub_cancel]; exact Nat.le_refl _))
theorem pow_lt256 {n : Nat} (h : n < 256) : 2 ^ n < 115792089237316195423570985008687907853269984665640564039457584007913129639936 := by rw [show (115792089237316195423570985008687907853269984665640564039457584007913129639936 : Nat) = 2 ^ 256 from by decide]; exact Nat.pow_lt_pow_right (by omega) h
set_option maxHeartbeats 20000000 in
theorem numBits_c (ns : List Nat) (x : Bool) (hns : ns.length < 9223372036854775808) (hlt : ∀ n ∈ ns, n < 115792089237316195423570985008687907853269984665640564039457584007913129639936) : Pure Try.prog 5 [vecU ns x] (.bool true) := by
  refine pure_ac ?_ (cleans_cons (clean_vecU _ _) cleans_nil) (.bool _)
  have hall := all_c ns x hns
  have hm := alls_lt hlt
  have hml := alls_len ns
  generalize alls ns = m at hall hm hml
  unfold vecU at hall ⊢
  have hw := wakes1_c
  have hn := num1_c
  (refine enter Try.func5 Try.results5 Try.ntmps5 ty_ok (hw := fun F hF => ?_); simp only [List.length_cons, List.length_nil, Nat.reduceAdd, Nat.reduceSub, List.replicate_succ, List.replicate_zero, List.cons_append, List.nil_append]; apply hF; clear hF F)
  refine wk ?_
  refine aw_loopI (fun (i : Nat) => ⟨(.any :: .any :: (.bool false) :: (.vec (fl m) m.length false) :: (.int .i64 i) :: .any :: .any :: .any :: .any :: .any :: .any :: .any :: .any :: .any :: .any :: .any :: .any :: .any :: .any :: .any :: .any :: .any :: .any :: .any :: .any :: .any :: .any :: .any :: .any :: .any :: .any :: .any :: .any :: .any :: .any :: .any :: .any :: .any :: .any :: .any :: .any :: .any :: .any :: .any :: .any :: .any :: .any :: .any :: .any :: .any :: .any :: .any :: .any :: .any :: .any :: .any :: .any :: .any :: .any :: .any :: .any :: .any :: .any :: .any :: .any :: .any :: .any :: .any :: .any :: .any :: .any :: .any :: .any :: .any :: .any :: .any :: .any :: .any :: .any :: .any :: .any :: .any :: .any :: .any :: .any :: .any :: .any :: .any :: .any :: .any :: .any :: .any :: []), []⟩) (fun i => i ≤ m.length) (fun i => m.length - i) 0 (by omega) (wkt []) ?_
  intro i hi K hK
  by_cases h1 : i < m.length
  · have hmi := hm m[i] (List.getElem_mem h1)
    have c1 := bits_c m[i] hmi
    have c2 := text_c m[i] hmi
    have hz := eq_zero_uv hmi
    have hb8 := blen_le_of_lt (n := m[i]) (k := 256) hmi
    have hsz := textS_size m[i]
    have hnb : (nb m[i] : Int) = (blen m[i] + 7) / 8 := by unfold nb; omega
    have hbz : (((blen m[i] : Int) == 0) == decide (m[i] = 0)) = true := by
      by_cases h0 : m[i] = 0
      · rw [h0]; rfl
      · have := blen_pos h0
        rw [decide_eq_false h0, beq_eq_false_iff_ne.2 (by omega : (blen m[i] : Int) ≠ 0)]; rfl
    refine wk ?_
    (refine aw_fx (fun F hF => ?_); simp only [hz, hbz]; apply hF; clear hF F)
    refine wk ?_
    have hlow : 0 < blen m[i] → ¬ cmpN m[i] (2 ^ (blen m[i] - 1)) < 0 := fun h0 => by
      have : m[i] ≠ 0 := fun e => by rw [e] at h0; simp [blen] at h0
      have := blen_le this
      rcases cmpN_cases m[i] (2 ^ (blen m[i] - 1)) with h | h | h <;> omega
    have htop : ¬ 0 ≤ cmpN m[i] (2 ^ blen m[i]) := by rw [cmpN_lt (blen_lt _)]; omega
    by_cases h2 : blen m[i] < 256
    · have c3 := cmp_c m[i] _ hmi (pow_lt256 h2)
      have c4 := bits_c _ (pow_lt256 h2)
      rw [blen_pow] at c4
      refine wk ?_
      (refine aseq_fx (fun F hF => ?_); simp only [set_pow (blen m[i]) rfl h2, List.take_succ_cons, List.take_zero]; apply hF; clear hF F)
      refine wk ?_
      clear c4 htop
      by_cases h3 : 0 < blen m[i]
      · have c3 := cmp_c m[i] _ hmi (pow_lt256 (n := blen m[i] - 1) (by omega))
        have hl := hlow h3
        refine wk ?_
        (refine aseq_fx (fun F hF => ?_); simp only [set_pow (blen m[i] - 1) (by omega : (blen m[i] : Int) - 1 = _) (by omega), List.take_succ_cons, List.take_zero]; apply hF; clear hF F)
        refine wk ?_
        exact hK _ (i + 1) (by omega) (wkt []) (by omega)
      · refine wk ?_
        exact hK _ (i + 1) (by omega) (wkt []) (by omega)
    · have h3 : 0 < blen m[i] := by omega
      have c3 := cmp_c m[i] _ hmi (pow_lt256 (n := blen m[i] - 1) (by omega))
      have hl := hlow h3
      refine wk ?_
      (refine aseq_fx (fun F hF => ?_); simp only [set_pow (blen m[i] - 1) (by omega : (blen m[i] : Int) - 1 = _) (by omega), List.take_succ_cons, List.take_zero]; apply hF; clear hF F)
      refine wk ?_
      exact hK _ (i + 1) (by omega) (wkt []) (by omega)
  · refine wk ?_
    refine fin ?_
    rfl
end Go.Abs
