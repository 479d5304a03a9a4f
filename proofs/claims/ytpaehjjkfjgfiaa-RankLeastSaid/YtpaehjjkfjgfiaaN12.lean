/- Quotients: left, right: walks. -/
import Derived.Test.YtpaehjjkfjgfiaaN11
import Derived.Test.YtpaehjjkfjgfiaaA16
set_option linter.unusedVariables false
set_option linter.unusedSimpArgs false
namespace Go.Abs
open Go Go.Proofs

theorem dg_lb (n i : Nat) : dg 18446744073709551616 n i = lb n i := rfl
theorem setD_add {B M j t : Nat} : setD B M j (dg B M j + t) = M + t * B ^ j := by
  have := setD_eq B M j (dg B M j + t)
  rw [Nat.add_mul] at this
  omega
theorem or_up {x y s : Nat} (h : x < 2 ^ s) : x ||| (y * 2 ^ s % 18446744073709551616) = x + y * 2 ^ s % 18446744073709551616 ∨ 64 < s := by
  by_cases hs : s ≤ 64
  · refine .inl ?_
    have e : (18446744073709551616 : Nat) = 2 ^ s * 2 ^ (64 - s) := by rw [← Nat.pow_add, show s + (64 - s) = 64 from by omega]
    rw [Nat.mul_comm y, e, Nat.mul_mod_mul_left, Nat.or_comm, ← Nat.two_pow_add_eq_or_of_lt h, Nat.add_comm]
  · exact .inr (by omega)
theorem up_split (a s : Nat) (hs : s ≤ 64) : a * 2 ^ s = a / 2 ^ (64 - s) * 18446744073709551616 + a * 2 ^ s % 18446744073709551616 := by
  have e : (18446744073709551616 : Nat) = 2 ^ (64 - s) * 2 ^ s := by rw [← Nat.pow_add, show 64 - s + s = 64 from by omega]
  have h2 : a * 2 ^ s / 18446744073709551616 = a / 2 ^ (64 - s) := by
    conv => lhs; rw [e]
    exact Nat.mul_div_mul_right _ _ (Nat.two_pow_pos s)
  rw [← h2]; exact (Nat.div_add_mod' _ _).symm
/-- One limb more of a number that is moved up. -/
theorem left_step {x i s : Nat} (hs : s < 64) : lb (x % 18446744073709551616 ^ i * 2 ^ s) i < 2 ^ s ∧
    setD 18446744073709551616 (setD 18446744073709551616 (x % 18446744073709551616 ^ i * 2 ^ s) i (lb (x % 18446744073709551616 ^ i * 2 ^ s) i ||| lb x i * 2 ^ s % 18446744073709551616)) (i + 1) (lb x i / 2 ^ (64 - s)) = x % 18446744073709551616 ^ (i + 1) * 2 ^ s ∧
    (lb (x % 18446744073709551616 ^ i * 2 ^ s) i ||| lb x i * 2 ^ s % 18446744073709551616) < 18446744073709551616 := by
  have hB : 0 < 18446744073709551616 := by omega
  have hm : x % 18446744073709551616 ^ i * 2 ^ s < 2 ^ s * 18446744073709551616 ^ i := by
    rw [Nat.mul_comm]; exact Nat.mul_lt_mul_of_pos_left (Nat.mod_lt _ (Nat.pow_pos hB)) (Nat.two_pow_pos s)
  have hl : lb (x % 18446744073709551616 ^ i * 2 ^ s) i < 2 ^ s := by
    refine Nat.lt_of_le_of_lt (Nat.mod_le _ _) ?_
    rw [Nat.div_lt_iff_lt_mul (Nat.pow_pos hB)]; exact hm
  have ho := (or_up (y := lb x i) hl).resolve_right (by omega)
  have hx := up_split (lb x i) s (by omega)
  have hlt : (lb (x % 18446744073709551616 ^ i * 2 ^ s) i ||| lb x i * 2 ^ s % 18446744073709551616) < 18446744073709551616 := by
    have h2 : lb (x % 18446744073709551616 ^ i * 2 ^ s) i < 2 ^ 64 := Nat.lt_trans hl (Nat.pow_lt_pow_right (by omega) hs)
    have := Nat.or_lt_two_pow (n := 64) h2 (y := lb x i * 2 ^ s % 18446744073709551616) (by have := Nat.mod_lt (lb x i * 2 ^ s) hB; simpa using this)
    simpa using this
  refine ⟨hl, ?_, hlt⟩
  rw [ho] at hlt ⊢
  rw [← dg_lb (x % 18446744073709551616 ^ i * 2 ^ s), setD_add]
  have h0 : x % 18446744073709551616 ^ i * 2 ^ s + lb x i * 2 ^ s % 18446744073709551616 * 18446744073709551616 ^ i < 18446744073709551616 ^ (i + 1) := by
    have e := lb_parts (x % 18446744073709551616 ^ i * 2 ^ s) i
    have e2 : x % 18446744073709551616 ^ i * 2 ^ s / 18446744073709551616 ^ (i + 1) = 0 := Nat.div_eq_of_lt (by
      rw [Nat.pow_succ, Nat.mul_comm (18446744073709551616 ^ i)]
      refine Nat.lt_of_lt_of_le hm (Nat.mul_le_mul_right _ ?_)
      rw [show (18446744073709551616 : Nat) = 2 ^ 64 from by decide]; exact Nat.pow_le_pow_right (by omega) (by omega))
    rw [e2, Nat.mul_zero, Nat.add_zero] at e
    have h1 : x % 18446744073709551616 ^ i * 2 ^ s % 18446744073709551616 ^ i < 18446744073709551616 ^ i := Nat.mod_lt _ (Nat.pow_pos hB)
    generalize x % 18446744073709551616 ^ i * 2 ^ s = m at *
    generalize lb x i * 2 ^ s % 18446744073709551616 = t at *
    have h2 : 18446744073709551616 ^ i * (lb m i + t + 1) ≤ 18446744073709551616 ^ i * 18446744073709551616 := Nat.mul_le_mul_left _ (by omega)
    rw [Nat.pow_succ]
    rw [Nat.mul_add, Nat.mul_add, Nat.mul_one, Nat.mul_comm _ t] at h2
    omega
  have h3 := setD_eq 18446744073709551616 (x % 18446744073709551616 ^ i * 2 ^ s + lb x i * 2 ^ s % 18446744073709551616 * 18446744073709551616 ^ i) (i + 1) (lb x i / 2 ^ (64 - s))
  rw [dg_big hB h0 (Nat.le_refl _), Nat.zero_mul, Nat.add_zero] at h3
  rw [h3]
  have h4 : x % 18446744073709551616 ^ (i + 1) = x % 18446744073709551616 ^ i + 18446744073709551616 ^ i * lb x i := Nat.mod_pow_succ
  rw [h4, Nat.add_mul, Nat.mul_right_comm, Nat.mul_assoc, Nat.mul_comm (18446744073709551616 ^ i)]
  rw [Nat.pow_succ, show lb x i / 2 ^ (64 - s) * (18446744073709551616 ^ i * 18446744073709551616) = lb x i / 2 ^ (64 - s) * 18446744073709551616 * 18446744073709551616 ^ i from by ac_rfl, Nat.add_assoc, ← Nat.add_mul, Nat.add_comm (_ % _), ← hx]
  congr 1
  ac_rfl
theorem one_dl (B n M : Nat) : ∀ v ∈ dl B n M, v.one = true := by
  intro v hv; obtain ⟨j, _, rfl⟩ := List.mem_map.1 hv; rfl
/-- Five limbs. -/
def uv5 (M : Nat) : V := .agg (dl 18446744073709551616 5 M)
theorem clean_uv5 (M : Nat) : Clean (uv5 M) := clean_agg (clean_dl _ _ _)
set_option maxHeartbeats 20000000 in
theorem left_c (x : Nat) (n : Int) (hx : x < 115792089237316195423570985008687907853269984665640564039457584007913129639936) (h0 : 0 ≤ n) (hn : n < 64) : Pure Try.prog 65 [uv x, .int .i64 n] (uv5 (x * 2 ^ n.toNat)) := by
  refine pure_ac ?_ (cleans_cons (clean_uv _) (cleans_cons (.int _ _) cleans_nil)) (clean_uv5 _)
  obtain ⟨s, rfl⟩ := Int.eq_ofNat_of_zero_le h0
  rw [Int.toNat_natCast]
  have hcd := clean_dl
  (refine enter Try.func65 Try.results65 Try.ntmps65 ty_ok (hw := fun F hF => ?_); simp only [List.length_cons, List.length_nil, Nat.reduceAdd, Nat.reduceSub, List.replicate_succ, List.replicate_zero, List.cons_append, List.nil_append]; apply hF; clear hF F)
  refine wk ?_
  refine aw_loopI (fun (i : Nat) => ⟨(.any :: (.int .i64 s) :: .any :: .any :: (.ptr 1 0) :: (.ptr 2 0) :: .any :: .any :: (.agg (uvc x)) :: (.int .i64 i) :: .any :: .any :: .any :: .any :: .any :: .any :: .any :: .any :: .any :: .any :: .any :: .any :: .any :: .any :: .any :: .any :: .any :: .any :: .any :: .any :: .any :: []), [.live (uvc x), .live [.int .u64 0, .int .u64 0, .int .u64 0, .int .u64 0, .int .u64 0], .live (dl 18446744073709551616 5 (x % 18446744073709551616 ^ i * 2 ^ s))]⟩) (fun i => i ≤ 4) (fun i => 4 - i) 0 (by omega) (wkt [0, 1, 2] (hh := by dsimp only [renS, renH, renL, renV, renB, hbAt, List.map_cons, List.map_nil, List.getElem?_cons_zero, List.getElem?_cons_succ]; rw [Nat.pow_zero, Nat.mod_one, Nat.zero_mul, dl_zero]; rfl)) ?_
  intro i hi K hK
  by_cases h1 : i < 4
  · have hj := nth_limbs x (j := i) h1
    have hd := nth_dl (B := 18446744073709551616) (n := 5) (M := x % 18446744073709551616 ^ i * 2 ^ s) (j := i) (by omega)
    rw [dg_lb] at hd
    have hdl := dl_length 18446744073709551616 5 (x % 18446744073709551616 ^ i * 2 ^ s)
    obtain ⟨f1, f2, f3⟩ := left_step (x := x) (i := i) (s := s) (by omega)
    refine wk ?_
    (refine aseq_fx (fun F hF => ?_); simp only [Nat.mul_one, hj]; apply hF; clear hF F)
    refine wk ?_
    (refine aseq_fx (fun F hF => ?_); simp only [Nat.mul_one, Nat.zero_add, hd]; apply hF; clear hF F)
    refine wk ?_
    refine hK _ (i + 1) (by omega) ?_ (by omega)
    rw [← f2]
    refine wkt [0, 1, 2] (hh := ?_)
    have e1 : (0 + ((i : Int) + 1).toNat * 1) = i + 1 := by omega
    have e2 : (lb x i : Int) * 2 ^ s % 18446744073709551616 = ((lb x i * 2 ^ s % 18446744073709551616 : Nat) : Int) := by rw [Int.natCast_emod, Int.natCast_mul, Int.natCast_pow]; rfl
    have e3 : (lb x i : Int) / 2 / 2 ^ (63 - (s : Int)).toNat = ((lb x i / 2 ^ (64 - s) : Nat) : Int) := by
      rw [show (63 - (s : Int)).toNat = 63 - s from by omega, show 64 - s = 1 + (63 - s) from by omega, Nat.pow_add, ← Nat.div_div_eq_div_mul]; simp
    have e4 : lb x i / 2 ^ (64 - s) < 18446744073709551616 := Nat.lt_of_le_of_lt (Nat.div_le_self _ _) (lb_lt x i)
    have e5 := or_nat (x := lb (x % 18446744073709551616 ^ i * 2 ^ s) i) (y := lb x i * 2 ^ s % 18446744073709551616) (lb_lt _ _) (Nat.mod_lt _ (by omega))
    dsimp only [renS, renH, renB, hbAt, List.getElem?_cons_zero, List.getElem?_cons_succ]
    rw [e1, e2, e3, e5, Nat.mul_one, Nat.zero_add, set_dl (by omega) (by omega) f3, set_dl (by omega) (by omega) e4, renL_clean _ (clean_dl _ _ _)]
    rfl
  · obtain rfl : i = 4 := by omega
    rw [Nat.mod_eq_of_lt (show x < 18446744073709551616 ^ 4 by simpa using hx)]
    have hdl := dl_length 18446744073709551616 5 (x * 2 ^ s)
    have ht : List.take 5 (dl 18446744073709551616 5 (x * 2 ^ s)) = dl 18446744073709551616 5 (x * 2 ^ s) := List.take_of_length_le (by omega)
    have h1 := one_dl 18446744073709551616 5 (x * 2 ^ s)
    refine wk ?_
    (refine aseq_fx (fun F hF => ?_); simp only [List.drop_zero, ht]; apply hF; clear hF F)
    refine wk ?_
    rw [splice_zero _ _ (by rw [hdl]; rfl)]
    refine fin ?_
    show V.agg (List.take 5 (dl 18446744073709551616 5 (x * 2 ^ s))) = _
    rw [ht]; rfl
/-- A limb of a number that is moved down. -/
theorem down_limb (M i s : Nat) (hs : s < 64) : lb (M / 2 ^ s) i = (lb M i / 2 ^ s ||| lb M (i + 1) * 2 ^ (64 - s) % 18446744073709551616) ∧ lb M i / 2 ^ s < 18446744073709551616 := by
  have hB : 0 < 18446744073709551616 := by omega
  have e : (18446744073709551616 : Nat) = 2 ^ (64 - s) * 2 ^ s := by rw [← Nat.pow_add, show 64 - s + s = 64 from by omega]
  have hl : lb M i / 2 ^ s < 2 ^ (64 - s) := by rw [Nat.div_lt_iff_lt_mul (Nat.two_pow_pos s), ← e]; exact lb_lt M i
  refine ⟨?_, Nat.lt_of_le_of_lt (Nat.div_le_self _ _) (lb_lt M i)⟩
  have h1 : M / 2 ^ s / 18446744073709551616 ^ i = lb M i / 2 ^ s + 2 ^ (64 - s) * (M / 18446744073709551616 ^ (i + 1)) := by
    rw [Nat.div_div_eq_div_mul, Nat.mul_comm, ← Nat.div_div_eq_div_mul]
    have h2 : M / 18446744073709551616 ^ i = lb M i + 18446744073709551616 * (M / 18446744073709551616 ^ (i + 1)) := by
      unfold lb; rw [Nat.pow_succ, ← Nat.div_div_eq_div_mul]; exact (Nat.mod_add_div _ _).symm
    rw [h2]
    conv => lhs; rw [show 18446744073709551616 * (M / 18446744073709551616 ^ (i + 1)) = 2 ^ s * (2 ^ (64 - s) * (M / 18446744073709551616 ^ (i + 1))) from by rw [← Nat.mul_assoc, Nat.mul_comm (2 ^ s), ← e]]
    exact Nat.add_mul_div_left _ _ (Nat.two_pow_pos s)
  have h3 : 2 ^ (64 - s) * (M / 18446744073709551616 ^ (i + 1)) % 18446744073709551616 = lb M (i + 1) * 2 ^ (64 - s) % 18446744073709551616 := by
    unfold lb
    conv => lhs; rw [Nat.mul_mod]
    conv => rhs; rw [Nat.mul_comm, Nat.mul_mod]
    rw [Nat.mod_mod]
  have ho := (or_up (y := lb M (i + 1)) hl).resolve_right (by omega)
  rw [ho]
  show M / 2 ^ s / 18446744073709551616 ^ i % 18446744073709551616 = _
  rw [h1, Nat.add_mod, h3, Nat.mod_eq_of_lt (a := lb M i / 2 ^ s) (Nat.lt_of_le_of_lt (Nat.div_le_self _ _) (lb_lt M i))]
  refine Nat.mod_eq_of_lt ?_
  rw [← ho]
  have h4 : lb M i / 2 ^ s < 2 ^ 64 := Nat.lt_of_le_of_lt (Nat.div_le_self _ _) (by simpa using lb_lt M i)
  have := Nat.or_lt_two_pow (n := 64) h4 (y := lb M (i + 1) * 2 ^ (64 - s) % 18446744073709551616) (by have := Nat.mod_lt (lb M (i + 1) * 2 ^ (64 - s)) hB; simpa using this)
  simpa using this
theorem set_mod (z i : Nat) : setD 18446744073709551616 (z % 18446744073709551616 ^ i) i (lb z i) = z % 18446744073709551616 ^ (i + 1) := by
  have h := setD_eq 18446744073709551616 (z % 18446744073709551616 ^ i) i (lb z i)
  rw [dg_big (by omega) (Nat.mod_lt _ (Nat.pow_pos (by omega))) (Nat.le_refl _), Nat.zero_mul, Nat.add_zero] at h
  rw [h, Nat.mod_pow_succ, Nat.mul_comm]; rfl
set_option maxHeartbeats 20000000 in
theorem right_c (M : Nat) (n : Int) (h0 : 0 ≤ n) (hn : n < 64) (hM : M < 115792089237316195423570985008687907853269984665640564039457584007913129639936 * 2 ^ n.toNat) : Pure Try.prog 67 [uv5 M, .int .i64 n] (uv (M / 2 ^ n.toNat)) := by
  refine pure_ac ?_ (cleans_cons (clean_uv5 _) (cleans_cons (.int _ _) cleans_nil)) (clean_uv _)
  obtain ⟨s, rfl⟩ := Int.eq_ofNat_of_zero_le h0
  rw [Int.toNat_natCast] at hM ⊢
  have hz : M / 2 ^ s < 18446744073709551616 ^ 4 := by rw [Nat.div_lt_iff_lt_mul (Nat.two_pow_pos s)]; simpa using hM
  have hcd := clean_dl
  have hdl5 := dl_length 18446744073709551616 5 M
  unfold uv5
  (refine enter Try.func67 Try.results67 Try.ntmps67 ty_ok (hw := fun F hF => ?_); simp only [List.length_cons, List.length_nil, Nat.reduceAdd, Nat.reduceSub, List.replicate_succ, List.replicate_zero, List.cons_append, List.nil_append]; apply hF; clear hF F)
  refine wk ?_
  refine aw_loopI (fun (i : Nat) => ⟨(.any :: (.int .i64 s) :: (.ptr 0 0) :: .any :: (.ptr 1 0) :: (.ptr 2 0) :: .any :: (.int .i64 i) :: .any :: .any :: .any :: .any :: .any :: .any :: .any :: .any :: .any :: .any :: .any :: .any :: .any :: .any :: .any :: .any :: .any :: .any :: .any :: .any :: []), [.live (dl 18446744073709551616 5 M), .live [.int .u64 0, .int .u64 0, .int .u64 0, .int .u64 0], .live (dl 18446744073709551616 4 (M / 2 ^ s % 18446744073709551616 ^ i))]⟩) (fun i => i ≤ 4) (fun i => 4 - i) 0 (by omega) (wkt [0, 1, 2] (hh := by dsimp only [renS, renH, renL, renV, renB, hbAt, List.map_cons, List.map_nil, List.getElem?_cons_zero, List.getElem?_cons_succ]; rw [Nat.pow_zero, Nat.mod_one, dl_zero, renL_clean _ (clean_dl _ _ _)]; rfl)) ?_
  intro i hi K hK
  by_cases h1 : i < 4
  · have hd1 := nth_dl (B := 18446744073709551616) (n := 5) (M := M) (j := i) (by omega)
    have hd2 := nth_dl (B := 18446744073709551616) (n := 5) (M := M) (j := i + 1) (by omega)
    rw [dg_lb] at hd1 hd2
    have e1 : ((i : Int) + 1).toNat * 1 = i + 1 := by omega
    have hdl := dl_length 18446744073709551616 4 (M / 2 ^ s % 18446744073709551616 ^ i)
    obtain ⟨f1, f2⟩ := down_limb M i s (by omega)
    refine wk ?_
    (refine aseq_fx (fun F hF => ?_); simp only [Nat.mul_one, Nat.zero_add, hd1]; apply hF; clear hF F)
    refine wk ?_
    (refine aseq_fx (fun F hF => ?_); simp only [e1, Nat.zero_add, hd2]; apply hF; clear hF F)
    refine wk ?_
    refine hK _ (i + 1) (by omega) ?_ (by omega)
    rw [← set_mod]
    refine wkt [0, 1, 2] (hh := ?_)
    have e2 : (lb M i : Int) / 2 ^ s = ((lb M i / 2 ^ s : Nat) : Int) := by simp
    have e3 : (lb M (i + 1) : Int) * 2 % 18446744073709551616 * 2 ^ (63 - (s : Int)).toNat % 18446744073709551616 = ((lb M (i + 1) * 2 ^ (64 - s) % 18446744073709551616 : Nat) : Int) := by
      have h2 : lb M (i + 1) * 2 % 18446744073709551616 * 2 ^ (63 - s) % 18446744073709551616 = lb M (i + 1) * 2 ^ (64 - s) % 18446744073709551616 := by
        rw [Nat.mul_mod, Nat.mod_mod, ← Nat.mul_mod, Nat.mul_assoc, ← Nat.pow_succ', show (63 - s).succ = 64 - s from by omega]
      rw [show (63 - (s : Int)).toNat = 63 - s from by omega, ← h2, Int.natCast_emod, Int.natCast_mul, Int.natCast_pow, Int.natCast_emod, Int.natCast_mul]; rfl
    have e5 := or_nat (x := lb M i / 2 ^ s) (y := lb M (i + 1) * 2 ^ (64 - s) % 18446744073709551616) f2 (Nat.mod_lt _ (by omega))
    rw [← f1] at e5
    dsimp only [renS, renH, renB, hbAt, List.getElem?_cons_zero, List.getElem?_cons_succ]
    rw [e2, e3, e5, Nat.mul_one, Nat.zero_add, set_dl (by omega) (by omega) (lb_lt _ _), renL_clean _ (clean_dl _ _ _), renL_clean _ (clean_dl _ _ _)]
    rfl
  · obtain rfl : i = 4 := by omega
    rw [Nat.mod_eq_of_lt hz]
    have hdl := dl_length 18446744073709551616 4 (M / 2 ^ s)
    have he : dl 18446744073709551616 4 (M / 2 ^ s) = uvc (M / 2 ^ s) := rfl
    rw [he]
    refine wk ?_
    refine fin ?_
    rfl
end Go.Abs
