/- Quotients: the page's Div, bit by bit: the walk. -/
import Derived.Test.YtpaehjjkfjgfiaaN14
set_option linter.unusedVariables false
set_option linter.unusedSimpArgs false
namespace Go.Abs
open Go Go.Proofs

theorem or_low {a b : Nat} (ha : a < 18446744073709551616) (hb : b < 18446744073709551616) : bitsOp .or .u64 ((a : Int) * 2 % 18446744073709551616) ((b : Int) / 9223372036854775808) = ((a * 2 % 18446744073709551616 + b / 9223372036854775808 : Nat) : Int) := by
  have h1 : ((a : Int) * 2 % 18446744073709551616) = ((a * 2 % 18446744073709551616 : Nat) : Int) := by omega
  have h2 : ((b : Int) / 9223372036854775808) = ((b / 9223372036854775808 : Nat) : Int) := by omega
  have h3 : b / 9223372036854775808 < 2 ^ 1 := by omega
  have h4 : a * 2 % 18446744073709551616 = 2 ^ 1 * (a % 9223372036854775808) := by omega
  rw [h1, h2, or_nat (by omega) (by omega), h4, ← Nat.two_pow_add_eq_or_of_lt h3]
theorem or_one {a : Nat} (ha : a < 18446744073709551616) (h : a % 2 = 0) : bitsOp .or .u64 (a : Int) 1 = ((a + 1 : Nat) : Int) := by
  have h4 : a = 2 ^ 1 * (a / 2) := by omega
  rw [show (1 : Int) = ((1 : Nat) : Int) from rfl, or_nat ha (by omega)]
  conv => lhs; rw [h4]
  rw [← Nat.two_pow_add_eq_or_of_lt (by omega), ← h4]
/-- One bit of a quotient. -/
theorem bit_step {x y i : Nat} (hy : 0 < y) : x / 2 ^ i / y = x / 2 ^ (i + 1) / y * 2 + (x / 2 ^ (i + 1) % y * 2 + x / 2 ^ i % 2) / y ∧ x / 2 ^ i % y = (x / 2 ^ (i + 1) % y * 2 + x / 2 ^ i % 2) % y := by
  have e : x / 2 ^ i = x / 2 ^ (i + 1) * 2 + x / 2 ^ i % 2 := by
    rw [Nat.pow_succ, ← Nat.div_div_eq_div_mul]; omega
  generalize x / 2 ^ i % 2 = f at e ⊢
  rw [e]
  generalize x / 2 ^ (i + 1) = A
  have h := Nat.div_add_mod A y
  have e2 : A * 2 + f = (A % y * 2 + f) + y * (A / y * 2) := by
    conv => lhs; rw [← h]
    rw [Nat.add_mul, Nat.mul_assoc, Nat.add_comm (y * _), Nat.add_right_comm]
  rw [e2]
  constructor
  · rw [Nat.add_mul_div_left _ _ hy, Nat.add_comm]
  · rw [Nat.add_mul_mod_self_left]
theorem bit_lt {r y f : Nat} (h : r < y) (hf : f < 2) : (r * 2 + f) / y = (if y ≤ r * 2 + f then 1 else 0) ∧ (r * 2 + f) % y = (if y ≤ r * 2 + f then r * 2 + f - y else r * 2 + f) := by
  split
  · rename_i hc
    constructor
    · rw [Nat.div_eq_of_lt_le] <;> omega
    · rw [Nat.mod_eq_sub_mod hc, Nat.mod_eq_of_lt (by omega)]
  · exact ⟨Nat.div_eq_of_lt (by omega), Nat.mod_eq_of_lt (by omega)⟩
/-- A bit that is set in a multiple of a greater power. -/
theorem set_bit {q i : Nat} (hi : i < 256) : bitsOp .or .u64 (lb (q * 2 ^ (i + 1)) (i / 64) : Int) ((2 ^ (i % 64) : Nat) : Int) = ((lb (q * 2 ^ (i + 1)) (i / 64) + 2 ^ (i % 64) : Nat) : Int) ∧
    lb (q * 2 ^ (i + 1)) (i / 64) + 2 ^ (i % 64) < 18446744073709551616 ∧ setD 18446744073709551616 (q * 2 ^ (i + 1)) (i / 64) (lb (q * 2 ^ (i + 1)) (i / 64) + 2 ^ (i % 64)) = (q * 2 + 1) * 2 ^ i := by
  have hm : i % 64 < 64 := Nat.mod_lt _ (by omega)
  have hi2 : i = 64 * (i / 64) + i % 64 := by omega
  obtain ⟨m, hme⟩ : ∃ m, i % 64 = m := ⟨_, rfl⟩
  obtain ⟨k, hke⟩ : ∃ k, i / 64 = k := ⟨_, rfl⟩
  rw [hme, hke] at hi2 ⊢
  rw [hme] at hm
  -- the limb
  have e1 : lb (q * 2 ^ (i + 1)) k = 2 ^ (m + 1) * (q % 2 ^ (63 - m)) := by
    unfold lb
    have h64 : (18446744073709551616 : Nat) ^ k = 2 ^ (64 * k) := by rw [Nat.pow_mul]
    have h1 : q * 2 ^ (i + 1) = q * 2 ^ (m + 1) * 2 ^ (64 * k) := by rw [Nat.mul_assoc, ← Nat.pow_add, hi2]; congr 2; omega
    rw [h64, h1, Nat.mul_div_cancel _ (Nat.two_pow_pos _)]
    have h2 : (18446744073709551616 : Nat) = 2 ^ (m + 1) * 2 ^ (63 - m) := by rw [← Nat.pow_add, show m + 1 + (63 - m) = 64 from by omega]
    conv => lhs; rw [h2]
    rw [Nat.mul_comm q, Nat.mul_mod_mul_left]
  have hlt : lb (q * 2 ^ (i + 1)) k < 18446744073709551616 := lb_lt _ _
  have hp : 2 ^ m < 18446744073709551616 := by have := Nat.pow_lt_pow_right (a := 2) (by omega) hm; simpa using this
  have hor : lb (q * 2 ^ (i + 1)) k ||| 2 ^ m = lb (q * 2 ^ (i + 1)) k + 2 ^ m := by
    rw [e1, ← Nat.two_pow_add_eq_or_of_lt (Nat.pow_lt_pow_right (by omega) (by omega))]
  have hol : lb (q * 2 ^ (i + 1)) k ||| 2 ^ m < 18446744073709551616 := by
    have := Nat.or_lt_two_pow (n := 64) (x := lb (q * 2 ^ (i + 1)) k) (y := 2 ^ m) (by simpa using hlt) (by simpa using hp)
    simpa using this
  refine ⟨?_, by rw [← hor]; exact hol, ?_⟩
  · rw [or_nat hlt hp, hor]
  · have hz := setD_add (B := 18446744073709551616) (M := q * 2 ^ (i + 1)) (j := k) (t := 2 ^ m)
    rw [dg_lb] at hz
    rw [hz]
    have h64 : (18446744073709551616 : Nat) ^ k = 2 ^ (64 * k) := by rw [Nat.pow_mul]
    rw [h64, ← Nat.pow_add, Nat.add_mul, Nat.one_mul, Nat.mul_assoc q 2, ← Nat.pow_succ', show m + 64 * k = i from by omega]

def lowV (x : Nat) : V := .tup [uv (x * 2 % 115792089237316195423570985008687907853269984665640564039457584007913129639936), .bool (x.testBit 255)]
theorem clean_lowV (x : Nat) : Clean (lowV x) := clean_tup (cleans_cons (clean_uv _) (cleans_cons (.bool _) cleans_nil))
set_option maxHeartbeats 20000000 in
theorem rlow_c (x : Nat) (hx : x < 115792089237316195423570985008687907853269984665640564039457584007913129639936) : Pure Try.prog 73 [uv x] (lowV x) := by
  refine pure_ac ?_ (cleans_cons (clean_uv _) cleans_nil) (clean_lowV _)
  have cb := rbit_c x 255 (by omega) (by omega)
  obtain ⟨x0, x1, x2, x3, p0, p1, p2, p3, ex, rx⟩ := uv_elim hx
  rw [rx] at cb ⊢
  have o1 := or_low p1 p0
  have o2 := or_low p2 p1
  have o3 := or_low p3 p2
  (refine enter Try.func73 Try.results73 Try.ntmps73 ty_ok (hw := fun F hF => ?_); simp only [List.length_cons, List.length_nil, Nat.reduceAdd, Nat.reduceSub, List.replicate_succ, List.replicate_zero, List.cons_append, List.nil_append]; apply hF; clear hF F)
  refine wk ?_
  refine aw_rounds 5 ?_
  refine wk ?_
  refine fin ?_
  have z1 : ((x0 : Int) * 2 % 18446744073709551616) = ((x0 * 2 % 18446744073709551616 : Nat) : Int) := by omega
  have l0 : x0 * 2 % 18446744073709551616 < 18446744073709551616 := by omega
  have l1 : x1 * 2 % 18446744073709551616 + x0 / 9223372036854775808 < 18446744073709551616 := by omega
  have l2 : x2 * 2 % 18446744073709551616 + x1 / 9223372036854775808 < 18446744073709551616 := by omega
  have l3 : x3 * 2 % 18446744073709551616 + x2 / 9223372036854775808 < 18446744073709551616 := by omega
  have hn : num4 (x0 * 2 % 18446744073709551616) (x1 * 2 % 18446744073709551616 + x0 / 9223372036854775808) (x2 * 2 % 18446744073709551616 + x1 / 9223372036854775808) (x3 * 2 % 18446744073709551616 + x2 / 9223372036854775808) = x * 2 % 115792089237316195423570985008687907853269984665640564039457584007913129639936 := by
    rw [ex]; unfold num4; omega
  unfold lowV
  rw [← uv_congr l0 l1 l2 l3 hn, ← o1, ← o2, ← o3, ← z1]
  rfl
theorem muxL_self (b : Bool) : ∀ l : List V, muxL b l l = l
  | [] => by simp [muxL]
  | x :: l => by simp [muxL, muxV_self, muxL_self b l]
theorem uvc_succ {r : Nat} (h : r % 2 = 0) : uvc (r + 1) = [.int .u64 (lb r 0 + 1 : Nat), .int .u64 (lb r 1), .int .u64 (lb r 2), .int .u64 (lb r 3)] := by
  have e0 : lb (r + 1) 0 = lb r 0 + 1 := by unfold lb; simp only [Nat.pow_zero, Nat.div_one]; omega
  have e1 : lb (r + 1) 1 = lb r 1 := by unfold lb; simp only [Nat.pow_one]; omega
  have e2 : lb (r + 1) 2 = lb r 2 := by unfold lb; simp only [Nat.reducePow]; omega
  have e3 : lb (r + 1) 3 = lb r 3 := by unfold lb; simp only [Nat.reducePow]; omega
  unfold uvc; rw [e0, e1, e2, e3]
theorem quot_rec {x y i : Nat} (hy : 0 < y) : x / 2 ^ i / y * 2 ^ i = if y ≤ x / 2 ^ (i + 1) % y * 2 + x / 2 ^ i % 2 then (x / 2 ^ (i + 1) / y * 2 + 1) * 2 ^ i else x / 2 ^ (i + 1) / y * 2 ^ (i + 1) := by
  have hr : x / 2 ^ (i + 1) % y < y := Nat.mod_lt _ hy
  have hb : x / 2 ^ i % 2 < 2 := Nat.mod_lt _ (by omega)
  rw [(bit_step (x := x) (i := i) hy).1, (bit_lt hr hb).1]
  split
  · rfl
  · rw [Nat.add_zero, Nat.mul_assoc, ← Nat.pow_succ']
theorem rem_rec {x y i : Nat} (hy : 0 < y) : x / 2 ^ i % y = if y ≤ x / 2 ^ (i + 1) % y * 2 + x / 2 ^ i % 2 then x / 2 ^ (i + 1) % y * 2 + x / 2 ^ i % 2 - y else x / 2 ^ (i + 1) % y * 2 + x / 2 ^ i % 2 := by
  have hr : x / 2 ^ (i + 1) % y < y := Nat.mod_lt _ hy
  have hb : x / 2 ^ i % 2 < 2 := Nat.mod_lt _ (by omega)
  rw [(bit_step (x := x) (i := i) hy).2, (bit_lt hr hb).2]
def rdivV (x y : Nat) : V := .tup [uv (x / y), uv (x % y)]
theorem clean_rdivV (x y : Nat) : Clean (rdivV x y) := clean_tup (cleans_cons (clean_uv _) (cleans_cons (clean_uv _) cleans_nil))
set_option maxHeartbeats 20000000 in
theorem rdiv_c (x y : Nat) (hx : x < 115792089237316195423570985008687907853269984665640564039457584007913129639936) (hy : y < 115792089237316195423570985008687907853269984665640564039457584007913129639936) (hy0 : 0 < y) : Pure Try.prog 71 [uv x, uv y] (rdivV x y) := by
  refine pure_ac ?_ (cleans_cons (clean_uv _) (cleans_cons (clean_uv _) cleans_nil)) (clean_rdivV _ _)
  have cn := rbits_c x hx
  have hbl := blen_lt x
  have hb256 : blen x ≤ 256 := blen_le_of_lt (by simpa using hx)
  obtain ⟨n, hn⟩ : ∃ n, blen x = n := ⟨_, rfl⟩
  rw [hn] at cn hbl hb256
  (refine enter Try.func71 Try.results71 Try.ntmps71 ty_ok (hw := fun F hF => ?_); simp only [List.length_cons, List.length_nil, Nat.reduceAdd, Nat.reduceSub, List.replicate_succ, List.replicate_zero, List.cons_append, List.nil_append]; apply hF; clear hF F)
  refine wk ?_
  refine aw_loopI (fun (Z : Nat × Int) => ⟨(.any :: .any :: (.ptr 0 0) :: (.ptr 1 0) :: (.ptr 2 0) :: (.ptr 3 0) :: (.ptr 4 0) :: (.ptr 5 0) :: (.int .i64 Z.2) :: .any :: .any :: .any :: .any :: .any :: .any :: .any :: .any :: .any :: .any :: .any :: .any :: .any :: .any :: .any :: .any :: .any :: .any :: .any :: .any :: .any :: .any :: .any :: .any :: .any :: .any :: .any :: .any :: .any :: .any :: .any :: .any :: .any :: .any :: .any :: .any :: .any :: .any :: .any :: .any :: .any :: .any :: .any :: .any :: .any :: .any :: .any :: .any :: .any :: .any :: .any :: .any :: .any :: .any :: .any :: .any :: .any :: .any :: .any :: .any :: .any :: .any :: .any :: .any :: .any :: .any :: .any :: .any :: .any :: .any :: .any :: .any :: .any :: .any :: .any :: .any :: .any :: []), [.live (uvc x), .live (uvc y), .live [.int .u64 0, .int .u64 0, .int .u64 0, .int .u64 0], .live [.int .u64 0, .int .u64 0, .int .u64 0, .int .u64 0], .live (dl 18446744073709551616 4 (x / 2 ^ Z.1 / y * 2 ^ Z.1)), .live (uvc (x / 2 ^ Z.1 % y))]⟩) (fun Z => Z.1 ≤ n ∧ Z.2 = (Z.1 : Int) - 1) (fun Z => Z.1) (n, (n : Int) - 1) ⟨Nat.le_refl _, rfl⟩ (wkt [0, 1, 2, 3, 4, 5] (hh := by dsimp only [renS, renH, renL, renV, renB, hbAt, List.map_cons, List.map_nil, List.getElem?_cons_zero, List.getElem?_cons_succ]; rw [Nat.div_eq_of_lt hbl, Nat.zero_div, Nat.zero_mod, Nat.zero_mul]; rfl)) ?_
  rintro ⟨j, t⟩ ⟨hj, ht1⟩ K hK
  dsimp only at hj ht1
  subst ht1
  by_cases h1 : 0 < j
  · obtain ⟨i, rfl⟩ : ∃ i, j = i + 1 := ⟨j - 1, by omega⟩
    have e0 : (((i + 1 : Nat) : Int) - 1) = (i : Int) := by omega
    rw [e0]
    have hq := quot_rec (x := x) (i := i) hy0
    have hr := rem_rec (x := x) (i := i) hy0
    have hry : x / 2 ^ (i + 1) % y < y := Nat.mod_lt _ hy0
    have sb := set_bit (q := x / 2 ^ (i + 1) / y) (i := i) (by omega)
    have hK2 := fun s' h => hK s' (i, (i : Int) - 1) ⟨by show i ≤ n; omega, rfl⟩ h (Nat.lt_succ_self i)
    dsimp only at hK2
    rw [hq, hr] at hK2
    clear hK hq hr
    obtain ⟨r, hre⟩ : ∃ r, x / 2 ^ (i + 1) % y = r := ⟨_, rfl⟩
    obtain ⟨q, hqe⟩ : ∃ q, x / 2 ^ (i + 1) / y = q := ⟨_, rfl⟩
    rw [hre] at hK2 hry ⊢
    rw [hqe] at hK2 sb ⊢
    clear hre hqe
    obtain ⟨f, hfe⟩ : ∃ f, x / 2 ^ i % 2 = f := ⟨_, rfl⟩
    rw [hfe] at hK2
    have hf2 : f < 2 := by rw [← hfe]; exact Nat.mod_lt _ (by omega)
    have cbx := rbit_c x i (by omega) (by omega)
    rw [Int.toNat_natCast, Nat.testBit_eq_decide_div_mod_eq, hfe] at cbx
    clear hfe
    obtain ⟨Q, hQe⟩ : ∃ Q, q * 2 ^ (i + 1) = Q := ⟨_, rfl⟩
    rw [hQe] at hK2 sb ⊢
    obtain ⟨Q2, hQ2⟩ : ∃ Q2, (q * 2 + 1) * 2 ^ i = Q2 := ⟨_, rfl⟩
    rw [hQ2] at hK2 sb
    clear hQe hQ2
    have hQl := dl_length 18446744073709551616 4 Q
    obtain ⟨p2, hp2⟩ : ∃ p2, 2 ^ (i % 64) = p2 := ⟨_, rfl⟩
    rw [hp2] at sb
    obtain ⟨sb1, sb2, sb3⟩ := sb
    have cb := rbit_c r 255 (by omega) (by omega)
    have cl := rlow_c r (by omega)
    unfold lowV at cl
    -- the doubled rest, with the bit
    obtain ⟨tp, htp⟩ : ∃ tp : Bool, r.testBit 255 = tp := ⟨_, rfl⟩
    have htd : (tp = true ∧ 115792089237316195423570985008687907853269984665640564039457584007913129639936 ≤ r * 2) ∨ (tp = false ∧ r * 2 < 115792089237316195423570985008687907853269984665640564039457584007913129639936) := by
      rw [Nat.testBit_eq_decide_div_mod_eq] at htp
      by_cases h : 115792089237316195423570985008687907853269984665640564039457584007913129639936 ≤ r * 2
      · exact .inl ⟨by rw [← htp]; apply decide_eq_true; omega, h⟩
      · exact .inr ⟨by rw [← htp]; apply decide_eq_false; omega, by omega⟩
    rw [show (255 : Int).toNat = 255 from rfl, htp] at cb
    rw [htp] at cl
    clear htp
    have hev : r * 2 % 115792089237316195423570985008687907853269984665640564039457584007913129639936 % 2 = 0 := by omega
    obtain ⟨r1, hr1⟩ : ∃ r1, r * 2 % 115792089237316195423570985008687907853269984665640564039457584007913129639936 = r1 := ⟨_, rfl⟩
    rw [hr1] at cl hev
    have hl0 : lb r1 0 % 2 = 0 := by unfold lb; rw [Nat.pow_zero, Nat.div_one]; omega
    have o1 := or_one (lb_lt r1 0) hl0
    refine wk ?_
    refine aw_join2 (fun (_ : Unit) => ⟨(.any :: .any :: (.ptr 0 0) :: (.ptr 1 0) :: (.ptr 2 0) :: (.ptr 3 0) :: (.ptr 4 0) :: (.ptr 5 0) :: (.int .i64 i) :: (.bool tp) :: .any :: .any :: .any :: .any :: .any :: .any :: .any :: .any :: .any :: .any :: .any :: .any :: .any :: .any :: .any :: .any :: .any :: .any :: .any :: .any :: .any :: .any :: .any :: .any :: .any :: .any :: .any :: .any :: .any :: .any :: .any :: .any :: .any :: .any :: .any :: .any :: .any :: .any :: .any :: .any :: .any :: .any :: .any :: .any :: .any :: .any :: .any :: .any :: .any :: .any :: .any :: .any :: .any :: .any :: .any :: .any :: .any :: .any :: .any :: .any :: .any :: .any :: .any :: .any :: .any :: .any :: .any :: .any :: .any :: .any :: .any :: .any :: .any :: .any :: .any :: .any :: []), [.live (uvc x), .live (uvc y), .live [.int .u64 0, .int .u64 0, .int .u64 0, .int .u64 0], .live [.int .u64 0, .int .u64 0, .int .u64 0, .int .u64 0], .live (dl 18446744073709551616 4 Q), .live (uvc (r1 + f))]⟩) (fun _ => True) (fun K3 hK3 => ?_) (fun _ _ => ?_)
    · by_cases hf1 : f = 1
      · subst hf1
        have hcd := clean_dl
        rw [uvc_succ hev] at hK3
        refine wk ?_
        rw [o1]
        exact hK3 _ () trivial (wkt [0, 1, 2, 3, 4, 5])
      · obtain rfl : f = 0 := by omega
        have hcd := clean_dl
        refine wk ?_
        exact hK3 _ () trivial (wkt [0, 1, 2, 3, 4, 5])
    · have hR : r1 + f < 115792089237316195423570985008687907853269984665640564039457584007913129639936 := by omega
      have hge : r * 2 + f < y + 115792089237316195423570985008687907853269984665640564039457584007913129639936 := by omega
      obtain ⟨tb, htb⟩ : ∃ tb : Nat, r * 2 + f = r1 + f + 115792089237316195423570985008687907853269984665640564039457584007913129639936 * tb ∧ tb ≤ 1 ∧ (tp = true ↔ tb = 1) := by
        rcases htd with ⟨h, h'⟩ | ⟨h, h'⟩
        · exact ⟨1, by omega, by omega, by simp [h]⟩
        · exact ⟨0, by omega, by omega, by simp [h]⟩
      obtain ⟨R, hRe⟩ : ∃ R, r1 + f = R := ⟨_, rfl⟩
      rw [hRe] at hR htb ⊢
      have hRf : r * 2 + f = R + 115792089237316195423570985008687907853269984665640564039457584007913129639936 * tb := htb.1
      rw [hRf] at hK2
      have cc := rcmp_c R y hR hy
      have hg : (R < y ∧ cmpN R y < 0) ∨ (¬ R < y ∧ ¬ cmpN R y < 0) := by rcases cmpN_cases R y with h | h | h <;> omega
      obtain ⟨g, hge'⟩ : ∃ g, cmpN R y = g := ⟨_, rfl⟩
      rw [hge'] at cc hg
      have hcd := clean_dl
      clear cb cl cbx o1 hev hl0 hr1 hge'
      refine aw_seq ?_
      refine aw_join2 (fun (b : Bool) => ⟨(.any :: .any :: (.ptr 0 0) :: (.ptr 1 0) :: (.ptr 2 0) :: (.ptr 3 0) :: (.ptr 4 0) :: (.ptr 5 0) :: (.int .i64 i) :: .any :: .any :: .any :: .any :: .any :: .any :: .any :: .any :: .any :: .any :: .any :: .any :: .any :: .any :: .any :: .any :: .any :: .any :: .any :: .any :: .any :: .any :: .any :: .any :: .any :: .any :: .any :: .any :: .any :: .any :: .any :: .any :: .any :: .any :: (.bool b) :: .any :: .any :: .any :: .any :: .any :: .any :: .any :: .any :: .any :: .any :: .any :: .any :: .any :: .any :: .any :: .any :: .any :: .any :: .any :: .any :: .any :: .any :: .any :: .any :: .any :: .any :: .any :: .any :: .any :: .any :: .any :: .any :: .any :: .any :: .any :: .any :: .any :: .any :: .any :: .any :: .any :: .any :: []), [.live (uvc x), .live (uvc y), .live [.int .u64 0, .int .u64 0, .int .u64 0, .int .u64 0], .live [.int .u64 0, .int .u64 0, .int .u64 0, .int .u64 0], .live (dl 18446744073709551616 4 Q), .live (uvc R)]⟩) (fun b => b = decide (y ≤ R + 115792089237316195423570985008687907853269984665640564039457584007913129639936 * tb)) (fun K3 hK3 => ?_) (fun b hb => ?_)
      · rcases htd with ⟨h, h'⟩ | ⟨h, h'⟩
        · subst h
          have : tb = 1 := htb.2.2.1 rfl
          refine wk ?_
          exact hK3 _ true (by symm; apply decide_eq_true; omega) (wkt [0, 1, 2, 3, 4, 5])
        · subst h
          have : tb = 0 := by have := htb.2.2; simp at this; omega
          refine wk ?_
          exact hK3 _ (decide (g ≥ 0)) (by apply decide_eq_decide.2; omega) (wkt [0, 1, 2, 3, 4, 5])
      · by_cases hc : y ≤ R + 115792089237316195423570985008687907853269984665640564039457584007913129639936 * tb
        · obtain rfl : b = true := by rw [hb]; exact decide_eq_true hc
          rw [if_pos hc, if_pos hc] at hK2
          obtain ⟨x0, x1, x2, x3, p0, p1, p2', p3, ex, rx⟩ := uv_elim hR
          obtain ⟨y0, y1, y2, y3, q0, q1, q2, q3, ey, ry⟩ := uv_elim hy
          have rx : uvc R = [.int .u64 x0, .int .u64 x1, .int .u64 x2, .int .u64 x3] := V.agg.inj rx
          have ry : uvc y = [.int .u64 y0, .int .u64 y1, .int .u64 y2, .int .u64 y3] := V.agg.inj ry
          rw [rx, ry]
          have k0 := subHi_le x0 y0 0
          have k1 := subHi_le x1 y1 (subHi x0 y0 0)
          have k2 := subHi_le x2 y2 (subHi x1 y1 (subHi x0 y0 0))
          have k3 := subHi_le x3 y3 (subHi x2 y2 (subHi x1 y1 (subHi x0 y0 0)))
          have a0 : ((x0 : Int) - y0) % 18446744073709551616 - 0 = (subLo x0 y0 0 : Nat) := by unfold subLo; omega
          have c0 : (if (x0 : Int) < y0 then (1 : Int) else 0) = (subHi x0 y0 0 : Nat) := by unfold subHi; split <;> split <;> omega
          have a1 := rsub_lo p1 q1 k0
          have a2 := rsub_lo p2' q2 k1
          have a3 := rsub_lo p3 q3 k2
          have c1 := rsub_hi p1 q1 k0
          have c2 := rsub_hi p2' q2 k1
          have c3 := rsub_hi p3 q3 k2
          refine wk ?_
          refine aw_rounds 5 ?_
          refine wk ?_
          (apply aw_mux rfl; (focus (intro hb; refine wk ?_; exact here_n)); (focus (intro hb; refine wk ?_; exact here_n)); (focus rfl); (focus rfl); intro F hF; dsimp only [muxS, muxL, muxH, muxB]; simp only [muxV_self, muxV_int, muxV_bool, decide_eq_true_eq, beq_iff_eq]; apply hF; clear hF F)
          (refine aw_fx (fun F hF => ?_); simp only [muxL_self]; apply hF; clear hF F)
          refine wk ?_
          (refine aw_fx (fun F hF => ?_); simp only [c0]; apply hF; clear hF F)
          refine wk ?_
          (apply aw_mux rfl; (focus (intro hb; refine wk ?_; exact here_n)); (focus (intro hb; refine wk ?_; exact here_n)); (focus rfl); (focus rfl); intro F hF; dsimp only [muxS, muxL, muxH, muxB]; simp only [muxV_self, muxV_int, muxV_bool, decide_eq_true_eq, beq_iff_eq]; apply hF; clear hF F)
          (refine aw_fx (fun F hF => ?_); simp only [muxL_self]; apply hF; clear hF F)
          refine wk ?_
          (apply aw_mux rfl; (focus (intro hb; refine wk ?_; exact here_n)); (focus (intro hb; refine wk ?_; exact here_n)); (focus rfl); (focus rfl); intro F hF; dsimp only [muxS, muxL, muxH, muxB]; simp only [muxV_self, muxV_int, muxV_bool, decide_eq_true_eq, beq_iff_eq]; apply hF; clear hF F)
          (refine aw_fx (fun F hF => ?_); simp only [muxL_self]; apply hF; clear hF F)
          (refine aw_fx (fun F hF => ?_); simp only [c1]; apply hF; clear hF F)
          (refine aw_fx (fun F hF => ?_); simp only [a0, a1]; apply hF; clear hF F)
          refine wk ?_
          (apply aw_mux rfl; (focus (intro hb; refine wk ?_; exact here_n)); (focus (intro hb; refine wk ?_; exact here_n)); (focus rfl); (focus rfl); intro F hF; dsimp only [muxS, muxL, muxH, muxB]; simp only [muxV_self, muxV_int, muxV_bool, decide_eq_true_eq, beq_iff_eq]; apply hF; clear hF F)
          (refine aw_fx (fun F hF => ?_); simp only [muxL_self]; apply hF; clear hF F)
          refine wk ?_
          (apply aw_mux rfl; (focus (intro hb; refine wk ?_; exact here_n)); (focus (intro hb; refine wk ?_; exact here_n)); (focus rfl); (focus rfl); intro F hF; dsimp only [muxS, muxL, muxH, muxB]; simp only [muxV_self, muxV_int, muxV_bool, decide_eq_true_eq, beq_iff_eq]; apply hF; clear hF F)
          (refine aw_fx (fun F hF => ?_); simp only [muxL_self]; apply hF; clear hF F)
          (refine aw_fx (fun F hF => ?_); simp only [c2]; apply hF; clear hF F)
          (refine aw_fx (fun F hF => ?_); simp only [a2]; apply hF; clear hF F)
          refine wk ?_
          (apply aw_mux rfl; (focus (intro hb; refine wk ?_; exact here_n)); (focus (intro hb; refine wk ?_; exact here_n)); (focus rfl); (focus rfl); intro F hF; dsimp only [muxS, muxL, muxH, muxB]; simp only [muxV_self, muxV_int, muxV_bool, decide_eq_true_eq, beq_iff_eq]; apply hF; clear hF F)
          (refine aw_fx (fun F hF => ?_); simp only [muxL_self]; apply hF; clear hF F)
          refine wk ?_
          (apply aw_mux rfl; (focus (intro hb; refine wk ?_; exact here_n)); (focus (intro hb; refine wk ?_; exact here_n)); (focus rfl); (focus rfl); intro F hF; dsimp only [muxS, muxL, muxH, muxB]; simp only [muxV_self, muxV_int, muxV_bool, decide_eq_true_eq, beq_iff_eq]; apply hF; clear hF F)
          (refine aw_fx (fun F hF => ?_); simp only [muxL_self]; apply hF; clear hF F)
          (refine aw_fx (fun F hF => ?_); simp only [c3]; apply hF; clear hF F)
          (refine aw_fx (fun F hF => ?_); simp only [a3]; apply hF; clear hF F)
          clear a0 a1 a2 a3 c0 c1 c2 c3
          have hit : ((i : Int) / 64).toNat = i / 64 := by omega
          have hit2 : ((i : Int) % 64).toNat = i % 64 := by omega
          refine wk ?_
          ((first | refine aseq_fx (fun F hF => ?_) | refine aw_fx (fun F hF => ?_)); simp (disch := omega) only [hit, Nat.zero_add, Nat.mul_one, nth_dl, dg_lb]; apply hF; clear hF F)
          refine wk ?_
          have ep : (1 : Int) * 2 ^ ((i : Int) % 64).toNat % 18446744073709551616 = ((p2 : Nat) : Int) := by
            have h3 : ((2 : Int) ^ (i % 64)) = ((2 ^ (i % 64) : Nat) : Int) := by norm_cast
            rw [hit2, Int.one_mul, h3, hp2]; omega
          have l0 := subLo_lt x0 y0 0
          have l1 := subLo_lt x1 y1 (subHi x0 y0 0)
          have l2 := subLo_lt x2 y2 (subHi x1 y1 (subHi x0 y0 0))
          have l3 := subLo_lt x3 y3 (subHi x2 y2 (subHi x1 y1 (subHi x0 y0 0)))
          have e0 := sub_eq p0 q0 (Nat.zero_le 1)
          have e1 := sub_eq p1 q1 k0
          have e2 := sub_eq p2' q2 k1
          have e3 := sub_eq p3 q3 k2
          have key : R + 115792089237316195423570985008687907853269984665640564039457584007913129639936 * subHi x3 y3 (subHi x2 y2 (subHi x1 y1 (subHi x0 y0 0))) = num4 (subLo x0 y0 0) (subLo x1 y1 (subHi x0 y0 0)) (subLo x2 y2 (subHi x1 y1 (subHi x0 y0 0))) (subLo x3 y3 (subHi x2 y2 (subHi x1 y1 (subHi x0 y0 0)))) + y := by
            rw [ex, ey]; unfold num4; omega
          have lt := num4_lt l0 l1 l2 l3
          have hnum : num4 (subLo x0 y0 0) (subLo x1 y1 (subHi x0 y0 0)) (subLo x2 y2 (subHi x1 y1 (subHi x0 y0 0))) (subLo x3 y3 (subHi x2 y2 (subHi x1 y1 (subHi x0 y0 0)))) = R + 115792089237316195423570985008687907853269984665640564039457584007913129639936 * tb - y := by
            clear sb1 sb2 sb3 ep; omega
          have hq5 : uvc (R + 115792089237316195423570985008687907853269984665640564039457584007913129639936 * tb - y) = [.int .u64 (subLo x0 y0 0), .int .u64 (subLo x1 y1 (subHi x0 y0 0)), .int .u64 (subLo x2 y2 (subHi x1 y1 (subHi x0 y0 0))), .int .u64 (subLo x3 y3 (subHi x2 y2 (subHi x1 y1 (subHi x0 y0 0))))] := (V.agg.inj (uv_congr l0 l1 l2 l3 hnum)).symm
          rw [hq5, ry] at hK2
          have hi4 : i / 64 < 4 := by omega
          refine hK2 _ (wkt [0, 1, 2, 3, 4, 5] (hh := ?_))
          dsimp only [renS, renH, renB, hbAt, List.getElem?_cons_zero, List.getElem?_cons_succ]
          rw [hit, Nat.zero_add, Nat.mul_one, ep, sb1, set_dl (Nat.le_of_ble_eq_true rfl) hi4 sb2, sb3, renL_clean _ (clean_dl _ _ _)]
          rfl
        · obtain rfl : b = false := by rw [hb]; exact decide_eq_false hc
          rw [if_neg hc, if_neg hc] at hK2
          have : tb = 0 := by omega
          subst this
          rw [Nat.mul_zero, Nat.add_zero] at hK2
          refine wk ?_
          exact hK2 _ (wkt [0, 1, 2, 3, 4, 5])
  · obtain rfl : j = 0 := by omega
    rw [Nat.pow_zero, Nat.div_one, Nat.mul_one]
    have he : dl 18446744073709551616 4 (x / y) = uvc (x / y) := rfl
    rw [he]
    refine wk ?_
    refine fin ?_
    rfl
end Go.Abs
