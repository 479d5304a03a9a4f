/- Quotients: LeadingZeros64, Div64: walks. -/
import Derived.Test.YtpaehjjkfjgfiaaN9
set_option linter.unusedVariables false
set_option linter.unusedSimpArgs false
namespace Go.Abs
open Go Go.Proofs

theorem lz_c (x : Nat) (hx : x < 18446744073709551616) : Pure Try.prog 64 [.int .u64 x] (.int .i64 ((64 - blen x : Nat))) := by
  refine pure_ac ?_ (cleans_cons (.int _ _) cleans_nil) (.int _ _)
  have c0 := len64_c x hx
  have hb := blen_le_of_lt (n := x) (k := 64) (by simpa using hx)
  (refine enter Try.func64 Try.results64 Try.ntmps64 ty_ok (hw := fun F hF => ?_); simp only [List.length_cons, List.length_nil, Nat.reduceAdd, Nat.reduceSub, List.replicate_succ, List.replicate_zero, List.cons_append, List.nil_append]; apply hF; clear hF F)
  refine wk ?_
  refine fin ?_
  exact congrArg (V.int _) (by omega)
/-- A guess that goes down to the quotient. -/
structure Guess (Y U e q r : Nat) : Prop where
  sum : q * (Y / 4294967296) + r = U
  ge : (U * 4294967296 + e) / Y ≤ q
  le : q ≤ 4294967297
/-- The test says whether the guess is too great. -/
theorem guess_val {Y U e q r : Nat} (g : Guess Y U e q r) : U * 4294967296 + e + q * (Y % 4294967296) = q * Y + (r * 4294967296 + e) := by
  have h1 := g.sum
  have h2 : q * Y = q * (Y / 4294967296) * 4294967296 + q * (Y % 4294967296) := by
    conv => lhs; rw [← Nat.div_add_mod Y 4294967296]
    rw [Nat.mul_add]; congr 1; ac_rfl
  rw [h2, ← h1]
  generalize q * (Y / 4294967296) = a
  generalize q * (Y % 4294967296) = b
  omega
theorem guess_lt {Y U e : Nat} (hU : U < Y) (he : e < 4294967296) : (U * 4294967296 + e) / Y < 4294967296 := by
  rw [Nat.div_lt_iff_lt_mul (by omega)]
  have : (U + 1) * 4294967296 ≤ Y * 4294967296 := Nat.mul_le_mul_right _ hU
  rw [Nat.mul_comm 4294967296]; omega
theorem guess_first {Y U e : Nat} (hY : 9223372036854775808 ≤ Y) (hY2 : Y < 18446744073709551616) (hU : U < Y) (he : e < 4294967296) : Guess Y U e (U / (Y / 4294967296)) (U - U / (Y / 4294967296) * (Y / 4294967296)) := by
  have hy1 : 0 < Y / 4294967296 := by omega
  refine ⟨?_, ?_, ?_⟩
  · have := Nat.div_mul_le_self U (Y / 4294967296); omega
  · rw [Nat.le_div_iff_mul_le hy1]
    have h1 := Nat.div_mul_le_self (U * 4294967296 + e) Y
    generalize (U * 4294967296 + e) / Y = q at h1 ⊢
    have h2 : q * Y = q * (Y / 4294967296) * 4294967296 + q * (Y % 4294967296) := by
      conv => lhs; rw [← Nat.div_add_mod Y 4294967296]
      rw [Nat.mul_add]; congr 1; ac_rfl
    rw [h2] at h1
    generalize q * (Y / 4294967296) = a at h1 ⊢
    omega
  · have h3 : U < 4294967298 * (Y / 4294967296) := by omega
    have h4 := (Nat.div_lt_iff_lt_mul hy1).2 h3
    generalize U / (Y / 4294967296) = z at h4 ⊢
    omega
theorem lt_aux {u e a b r : Nat} (hv : u + e + a = b + (r + e)) (h : r + e < a) : u + e < b := by omega
theorem guess_down {Y U e q r : Nat} (hU : U < Y) (he : e < 4294967296) (g : Guess Y U e q r) (h : 4294967296 ≤ q ∨ r * 4294967296 + e < q * (Y % 4294967296)) : 0 < q ∧ Guess Y U e (q - 1) (r + Y / 4294967296) := by
  have hlt := guess_lt hU he
  have hv := guess_val g
  have hq : (U * 4294967296 + e) / Y < q := by
    rcases h with h | h
    · exact Nat.lt_of_lt_of_le hlt h
    · have h3 : U * 4294967296 + e < q * Y := lt_aux hv h
      rw [Nat.div_lt_iff_lt_mul (Nat.lt_of_le_of_lt (Nat.zero_le _) hU)]; exact h3
  have hg := g.le
  have hs := g.sum
  obtain ⟨Q, hQ⟩ : ∃ Q, (U * 4294967296 + e) / Y = Q := ⟨_, rfl⟩
  rw [hQ] at hq hlt
  have hq0 : 0 < q := Nat.lt_of_le_of_lt (Nat.zero_le _) hq
  obtain ⟨p, rfl⟩ := Nat.exists_eq_succ_of_ne_zero (Nat.ne_of_gt hq0)
  refine ⟨hq0, ?_, ?_, by omega⟩
  · rw [Nat.succ_mul] at hs
    rw [Nat.succ_sub_one]
    generalize p * (Y / 4294967296) = a at hs ⊢
    omega
  · rw [hQ]; omega
theorem guess_end {Y U e q r : Nat} (hY : 0 < Y) (g : Guess Y U e q r) (h : q * (Y % 4294967296) ≤ r * 4294967296 + e) : q = (U * 4294967296 + e) / Y := by
  have hv := guess_val g
  have : q * Y ≤ U * 4294967296 + e := by omega
  exact Nat.le_antisymm ((Nat.le_div_iff_mul_le hY).2 this) g.ge
theorem guess_over {Y U e q r : Nat} (hY : 0 < Y) (g : Guess Y U e q r) (hq : q ≤ 4294967296) (hr : 4294967296 ≤ r) : q = (U * 4294967296 + e) / Y := by
  refine guess_end hY g ?_
  have : q * (Y % 4294967296) ≤ 4294967296 * 4294967295 := Nat.mul_le_mul hq (by omega)
  omega
theorem guess_r0 {Y U : Nat} (hY : 9223372036854775808 ≤ Y) (hY2 : Y < 18446744073709551616) : U - U / (Y / 4294967296) * (Y / 4294967296) < 4294967296 := by
  have h1 := Nat.mod_lt U (show 0 < Y / 4294967296 by omega)
  have h2 := Nat.div_add_mod' U (Y / 4294967296)
  generalize U / (Y / 4294967296) * (Y / 4294967296) = a at h2 ⊢
  omega
/-- A number and its divisor moved up. -/
theorem up_parts {hi lo s : Nat} (hs : s ≤ 64) (hlo : lo < 18446744073709551616) : (hi * 18446744073709551616 + lo) * 2 ^ s = (hi * 2 ^ s + lo / 2 ^ (64 - s)) * 18446744073709551616 + lo * 2 ^ s % 18446744073709551616 := by
  have e : (18446744073709551616 : Nat) = 2 ^ (64 - s) * 2 ^ s := by rw [← Nat.pow_add, show 64 - s + s = 64 from by omega]
  have h1 : lo * 2 ^ s = lo / 2 ^ (64 - s) * 18446744073709551616 + lo * 2 ^ s % 18446744073709551616 := by
    have h2 : lo * 2 ^ s / 18446744073709551616 = lo / 2 ^ (64 - s) := by
      conv => lhs; rw [e]
      exact Nat.mul_div_mul_right _ _ (Nat.two_pow_pos s)
    rw [← h2]; exact (Nat.div_add_mod' _ _).symm
  rw [Nat.add_mul, Nat.add_mul, Nat.mul_right_comm hi]
  generalize lo / 2 ^ (64 - s) = a at h1
  omega
theorem up_lt {hi lo y s : Nat} (hs : s ≤ 64) (hlo : lo < 18446744073709551616) (h : hi < y) : hi * 2 ^ s + lo / 2 ^ (64 - s) < y * 2 ^ s := by
  have e : (18446744073709551616 : Nat) = 2 ^ s * 2 ^ (64 - s) := by rw [← Nat.pow_add, show s + (64 - s) = 64 from by omega]
  have h1 : lo / 2 ^ (64 - s) < 2 ^ s := by rw [Nat.div_lt_iff_lt_mul (Nat.two_pow_pos _), ← e]; exact hlo
  have h2 : (hi + 1) * 2 ^ s ≤ y * 2 ^ s := Nat.mul_le_mul_right _ h
  rw [Nat.succ_mul] at h2
  omega
theorem norm {y : Nat} (h0 : y ≠ 0) (hy : y < 18446744073709551616) : 9223372036854775808 ≤ y * 2 ^ (64 - blen y) ∧ y * 2 ^ (64 - blen y) < 18446744073709551616 := by
  have h1 := blen_lt y
  have h2 := blen_le h0
  have h3 := blen_pos h0
  have h4 := blen_le_of_lt (n := y) (k := 64) (by simpa using hy)
  constructor
  · have := Nat.mul_le_mul_right (2 ^ (64 - blen y)) h2
    rw [← Nat.pow_add, show blen y - 1 + (64 - blen y) = 63 from by omega] at this
    simpa using this
  · have := (Nat.mul_lt_mul_right (Nat.two_pow_pos (64 - blen y))).2 h1
    rw [← Nat.pow_add, show blen y + (64 - blen y) = 64 from by omega] at this
    simpa using this
theorem halves_aux {Y A f : Nat} (hY : 0 < Y) : (A * 4294967296 + f) / Y = A / Y * 4294967296 + (A % Y * 4294967296 + f) / Y ∧ (A * 4294967296 + f) % Y = (A % Y * 4294967296 + f) % Y := by
  have h := Nat.div_add_mod A Y
  have e2 : A * 4294967296 + f = (A % Y * 4294967296 + f) + Y * (A / Y * 4294967296) := by
    conv => lhs; rw [← h]
    rw [Nat.add_mul, Nat.mul_assoc, Nat.add_comm (Y * _), Nat.add_right_comm]
  rw [e2]
  constructor
  · rw [Nat.add_mul_div_left _ _ hY, Nat.add_comm]
  · rw [Nat.add_mul_mod_self_left]
/-- Two halves of a quotient. -/
theorem two_halves {U Y L : Nat} (hY : 0 < Y) : (U * 18446744073709551616 + L) / Y = (U * 4294967296 + L / 4294967296) / Y * 4294967296 + ((U * 4294967296 + L / 4294967296) % Y * 4294967296 + L % 4294967296) / Y ∧
    (U * 18446744073709551616 + L) % Y = ((U * 4294967296 + L / 4294967296) % Y * 4294967296 + L % 4294967296) % Y := by
  have e : U * 18446744073709551616 + L = (U * 4294967296 + L / 4294967296) * 4294967296 + L % 4294967296 := by omega
  rw [e]
  exact halves_aux hY
section
variable {P : Program} {N : Nat} {s : St}
/-- Several ways out of a block lead to one state. -/
theorem aw_join {X : Type} (J : X → St) (Inv : X → Prop) {id : Nat} {c rest : Code} {Q Q2 : Exit → St → Prop} (h : ∀ K : Exit → St → Prop, (∀ s x, Inv x → Wk N s (J x) → K (.exit id) s ∧ K .normal s) → AW P N c K s)
    (k : ∀ x, Inv x → AW P N rest Q (J x)) : AW P N c (blockK id (thenK (AW P N rest Q) Q2)) s := by
  refine AW.mono (h (fun e s => (e = .exit id ∨ e = .normal) ∧ ∃ x, Inv x ∧ Wk N s (J x)) fun s x hx hw => ⟨⟨.inl rfl, x, hx, hw⟩, ⟨.inr rfl, x, hx, hw⟩⟩) ?_
  rintro e s ⟨rfl | rfl, x, hx, hw⟩
  · exact blockK_h rfl (aw_wk hw (k x hx))
  · exact aw_wk hw (k x hx)
end

set_option maxHeartbeats 20000000 in
theorem div64_c (hi lo y : Nat) (h1 : hi < y) (hlo : lo < 18446744073709551616) (hy : y < 18446744073709551616) : Pure Try.prog 63 [.int .u64 hi, .int .u64 lo, .int .u64 y] (.tup [.int .u64 ((hi * 18446744073709551616 + lo) / y : Nat), .int .u64 ((hi * 18446744073709551616 + lo) % y : Nat)]) := by
  refine pure_ac ?_ (cleans_cons (.int _ _) (cleans_cons (.int _ _) (cleans_cons (.int _ _) cleans_nil))) (clean_tup (cleans_cons (.int _ _) (cleans_cons (.int _ _) cleans_nil)))
  by_cases hz : hi = 0
  · subst hz
    (refine enter Try.func63 Try.results63 Try.ntmps63 ty_ok (hw := fun F hF => ?_); simp only [List.length_cons, List.length_nil, Nat.reduceAdd, Nat.reduceSub, List.replicate_succ, List.replicate_zero, List.cons_append, List.nil_append]; apply hF; clear hF F)
    refine wk ?_
    refine fin ?_
    have e1 : (lo : Int) / y % 18446744073709551616 = ((lo / y : Nat) : Int) := by
      have h2 := Nat.div_le_self lo y
      rw [show (lo : Int) / y = ((lo / y : Nat) : Int) from rfl]
      generalize lo / y = z at h2 ⊢
      omega
    rw [Nat.zero_add, e1]; rfl
  · have c0 := lz_c y hy
    have hs : 64 - blen y ≤ 64 := by omega
    obtain ⟨n1, n2⟩ := norm (y := y) (by omega) hy
    have u1 := up_lt hs hlo h1
    have u2 := up_parts (hi := hi) hs hlo
    have hb := blen_pos (n := y) (by omega)
    generalize hsd : 64 - blen y = s at *
    have hl2 : lo / 2 ^ (64 - s) < 2 ^ s := by
      rw [Nat.div_lt_iff_lt_mul (Nat.two_pow_pos _), ← Nat.pow_add, show s + (64 - s) = 64 from by omega]; simpa using hlo
    have ey := shl_mod' (b := y) (k := s) n2
    have ehi := shl_mod' (b := hi) (k := s) (Nat.lt_of_le_of_lt (Nat.le_add_right _ _) (Nat.lt_trans u1 n2))
    have elo : (lo : Int) / 2 ^ (64 - (s : Int)).toNat = ((lo / 2 ^ (64 - s) : Nat) : Int) := by
      rw [show (64 - (s : Int)).toNat = 64 - s from by omega]; simp
    have eor := or_nat (x := hi * 2 ^ s) (y := lo / 2 ^ (64 - s)) (Nat.lt_of_le_of_lt (Nat.le_add_right _ _) (Nat.lt_trans u1 n2)) (Nat.lt_of_le_of_lt (Nat.div_le_self _ _) hlo)
    rw [Nat.mul_comm hi, ← Nat.two_pow_add_eq_or_of_lt hl2, Nat.mul_comm _ hi] at eor
    have eL : (lo : Int) * 2 ^ s % 18446744073709551616 = ((lo * 2 ^ s % 18446744073709551616 : Nat) : Int) := by
      rw [Int.natCast_emod, Int.natCast_mul, Int.natCast_pow]; rfl
    have ec : ∀ b : Nat, (b : Int) * 2 ^ s = ((b * 2 ^ s : Nat) : Int) := fun b => by rw [Int.natCast_mul, Int.natCast_pow]; rfl
    have hLlt : lo * 2 ^ s % 18446744073709551616 < 18446744073709551616 := Nat.mod_lt _ (by omega)
    have hfin : (hi * 18446744073709551616 + lo) / y = (hi * 18446744073709551616 + lo) * 2 ^ s / (y * 2 ^ s) ∧ (hi * 18446744073709551616 + lo) % y = (hi * 18446744073709551616 + lo) * 2 ^ s % (y * 2 ^ s) / 2 ^ s := by
      refine ⟨(Nat.mul_div_mul_right _ _ (Nat.two_pow_pos s)).symm, ?_⟩
      rw [Nat.mul_mod_mul_right, Nat.mul_div_cancel _ (Nat.two_pow_pos s)]
    rw [u2] at hfin
    (refine enter Try.func63 Try.results63 Try.ntmps63 ty_ok (hw := fun F hF => ?_); simp only [List.length_cons, List.length_nil, Nat.reduceAdd, Nat.reduceSub, List.replicate_succ, List.replicate_zero, List.cons_append, List.nil_append]; apply hF; clear hF F)
    refine wk ?_
    (refine aseq_fx (fun F hF => ?_); simp only [ey, ehi, eL, elo]; apply hF; clear hF F)
    (refine aseq_fx (fun F hF => ?_); simp only [ec, eor]; apply hF; clear hF F)
    rw [hfin.1, hfin.2]
    obtain ⟨Y, hY⟩ : ∃ Y, y * 2 ^ s = Y := ⟨_, rfl⟩
    obtain ⟨U, hU⟩ : ∃ U, hi * 2 ^ s + lo / 2 ^ (64 - s) = U := ⟨_, rfl⟩
    obtain ⟨L, hL⟩ : ∃ L, lo * 2 ^ s % 18446744073709551616 = L := ⟨_, rfl⟩
    rw [hY] at n1 n2 u1
    rw [hU] at u1
    rw [hL] at hLlt
    have ea1 : bitsOp .and .u64 (Y : Int) 4294967295 = ((Y % 4294967296 : Nat) : Int) := by rw [and32 (by omega) (by omega)]; rfl
    have ea2 : bitsOp .and .u64 (L : Int) 4294967295 = ((L % 4294967296 : Nat) : Int) := by rw [and32 (by omega) (by omega)]; rfl
    rw [hY, hU, hL]
    (refine aseq_fx (fun F hF => ?_); simp only [ea1, ea2]; apply hF; clear hF F)
    clear hfin ey ehi elo eor eL ec hl2 c0 u2
    have g0 := guess_first n1 n2 u1 (e := L / 4294967296) (by omega)
    have hq0 : U / (Y / 4294967296) ≤ U := Nat.div_le_self _ _
    have hr0 : U / (Y / 4294967296) * (Y / 4294967296) ≤ U := Nat.div_mul_le_self _ _
    have e1 : (U : Int) / ((Y : Int) / 4294967296) % 18446744073709551616 = ((U / (Y / 4294967296) : Nat) : Int) := by
      rw [show (U : Int) / ((Y : Int) / 4294967296) = ((U / (Y / 4294967296) : Nat) : Int) from rfl]
      generalize U / (Y / 4294967296) = z at hq0 ⊢
      omega
    have e2 : ((U / (Y / 4294967296) : Nat) : Int) * ((Y : Int) / 4294967296) % 18446744073709551616 = ((U / (Y / 4294967296) * (Y / 4294967296) : Nat) : Int) := by
      rw [show ((U / (Y / 4294967296) : Nat) : Int) * ((Y : Int) / 4294967296) = ((U / (Y / 4294967296) * (Y / 4294967296) : Nat) : Int) from (Int.natCast_mul _ _).symm]
      generalize U / (Y / 4294967296) * (Y / 4294967296) = z at hr0 ⊢
      omega
    have e3 : ((U : Int) - ((U / (Y / 4294967296) * (Y / 4294967296) : Nat) : Int)) % 18446744073709551616 = ((U - U / (Y / 4294967296) * (Y / 4294967296) : Nat) : Int) := by
      generalize U / (Y / 4294967296) * (Y / 4294967296) = z at hr0 ⊢
      omega
    refine wk ?_
    (refine aw_fx (fun F hF => ?_); simp only [e1, e2, e3]; apply hF; clear hF F)
    clear e1 e2 e3
    have hr1 := guess_r0 (Y := Y) (U := U) n1 n2
    generalize U - U / (Y / 4294967296) * (Y / 4294967296) = r0 at g0 hr1
    generalize U / (Y / 4294967296) = q0 at g0 hq0 hr0
    clear hq0 hr0
    have hY0 : 0 < Y := by omega
    refine aw_join (fun (_ : Unit) => ⟨(.any :: .any :: (.int .u64 Y) :: .any :: .any :: .any :: .any :: .any :: (.int .u64 s) :: (.int .u64 (Y / 4294967296 : Nat)) :: (.int .u64 (Y % 4294967296 : Nat)) :: (.int .u64 U) :: .any :: (.int .u64 (L / 4294967296 : Nat)) :: (.int .u64 (L % 4294967296 : Nat)) :: (.int .u64 ((U * 4294967296 + L / 4294967296) / Y : Nat)) :: .any :: .any :: .any :: .any :: .any :: .any :: .any :: .any :: .any :: .any :: .any :: .any :: .any :: .any :: .any :: .any :: .any :: .any :: .any :: .any :: .any :: .any :: .any :: .any :: .any :: .any :: .any :: .any :: .any :: .any :: .any :: .any :: .any :: .any :: .any :: .any :: .any :: .any :: .any :: .any :: .any :: .any :: .any :: .any :: .any :: .any :: .any :: .any :: .any :: .any :: .any :: .any :: .any :: .any :: .any :: .any :: .any :: .any :: .any :: .any :: .any :: .any :: .any :: .any :: .any :: .any :: .any :: .any :: .any :: .any :: .any :: .any :: .any :: .any :: .any :: .any :: .any :: .any :: .any :: .any :: .any :: .any :: .any :: .any :: .any :: .any :: .any :: .any :: .any :: .any :: .any :: .any :: .any :: .any :: .any :: .any :: .any :: .any :: .any :: .any :: .any :: .any :: .any :: .any :: .any :: .any :: .any :: .any :: .any :: .any :: .any :: .any :: .any :: .any :: .any :: .any :: .any :: .any :: .any :: []), []⟩) (fun _ => True) (fun K hK => ?_) (fun _ _ => ?_)
    · refine aw_loopI (fun (X : Nat × Nat) => ⟨(.any :: .any :: (.int .u64 Y) :: .any :: .any :: .any :: .any :: .any :: (.int .u64 s) :: (.int .u64 (Y / 4294967296 : Nat)) :: (.int .u64 (Y % 4294967296 : Nat)) :: (.int .u64 U) :: .any :: (.int .u64 (L / 4294967296 : Nat)) :: (.int .u64 (L % 4294967296 : Nat)) :: (.int .u64 X.1) :: (.int .u64 X.2) :: .any :: .any :: .any :: .any :: .any :: .any :: .any :: .any :: .any :: .any :: .any :: .any :: .any :: .any :: .any :: .any :: .any :: .any :: .any :: .any :: .any :: .any :: .any :: .any :: .any :: .any :: .any :: .any :: .any :: .any :: .any :: .any :: .any :: .any :: .any :: .any :: .any :: .any :: .any :: .any :: .any :: .any :: .any :: .any :: .any :: .any :: .any :: .any :: .any :: .any :: .any :: .any :: .any :: .any :: .any :: .any :: .any :: .any :: .any :: .any :: .any :: .any :: .any :: .any :: .any :: .any :: .any :: .any :: .any :: .any :: .any :: .any :: .any :: .any :: .any :: .any :: .any :: .any :: .any :: .any :: .any :: .any :: .any :: .any :: .any :: .any :: .any :: .any :: .any :: .any :: .any :: .any :: .any :: .any :: .any :: .any :: .any :: .any :: .any :: .any :: .any :: .any :: .any :: .any :: .any :: .any :: .any :: .any :: .any :: .any :: .any :: .any :: .any :: .any :: .any :: .any :: .any :: .any :: []), []⟩) (fun X => Guess Y U (L / 4294967296) X.1 X.2 ∧ X.2 < 4294967296) (fun X => X.1) (q0, r0) ⟨g0, hr1⟩ (wkt []) ?_
      rintro ⟨q, r⟩ ⟨g, hr⟩ K2 hK2
      dsimp only at g hr
      have hle := g.le
      by_cases hc : 4294967296 ≤ q ∨ r * 4294967296 + L / 4294967296 < q * (Y % 4294967296)
      · obtain ⟨hq, g'⟩ := guess_down u1 (by omega) g hc
        have hov := guess_over hY0 g' (by omega)
        by_cases ha : 4294967296 ≤ q
        · by_cases hd : 4294967296 ≤ r + Y / 4294967296
          · refine wk ?_
            refine (hK _ () trivial ?_).1
            rw [← hov hd]
            exact wkt []
          · refine wk ?_
            exact hK2 _ (q - 1, r + Y / 4294967296) ⟨g', by show r + Y / 4294967296 < 4294967296; omega⟩ (wkt []) (by show q - 1 < q; omega)
        · have hP : q * (Y % 4294967296) ≤ 4294967295 * 4294967295 := Nat.mul_le_mul (by omega) (by omega)
          have hc2 := hc.resolve_left ha
          clear hc
          by_cases hd : 4294967296 ≤ r + Y / 4294967296
          · refine wk ?_
            refine (hK _ () trivial ?_).1
            rw [← hov hd]
            exact wkt []
          · refine wk ?_
            exact hK2 _ (q - 1, r + Y / 4294967296) ⟨g', by show r + Y / 4294967296 < 4294967296; omega⟩ (wkt []) (by show q - 1 < q; omega)
      · have ha : ¬ 4294967296 ≤ q := fun h => hc (.inl h)
        have hb : q * (Y % 4294967296) ≤ r * 4294967296 + L / 4294967296 := Nat.le_of_not_lt fun h => hc (.inr h)
        clear hc
        have hP : q * (Y % 4294967296) ≤ 4294967295 * 4294967295 := Nat.mul_le_mul (by omega) (by omega)
        have he := guess_end hY0 g hb
        refine wk ?_
        refine (hK _ () trivial ?_).1
        rw [← he]
        exact wkt []
    · clear g0 hr1 ea1 ea2
      have h2h := two_halves (U := U) (L := L) hY0
      rw [h2h.1, h2h.2]
      clear h2h
      have hdm := Nat.div_add_mod' (U * 4294967296 + L / 4294967296) Y
      have hR1 := Nat.mod_lt (U * 4294967296 + L / 4294967296) hY0
      have hQ1 := guess_lt u1 (show L / 4294967296 < 4294967296 by omega)
      obtain ⟨Q, hQ⟩ : ∃ z, (U * 4294967296 + L / 4294967296) / Y = z := ⟨_, rfl⟩
      obtain ⟨R, hR⟩ : ∃ z, (U * 4294967296 + L / 4294967296) % Y = z := ⟨_, rfl⟩
      rw [hQ] at hdm hQ1
      rw [hR] at hdm hR1
      rw [hQ, hR]
      have e21 : ((U : Int) * 4294967296 % 18446744073709551616 + (L / 4294967296 : Nat) - (Q : Int) * Y % 18446744073709551616) % 18446744073709551616 = (R : Nat) := by
        rw [show (Q : Int) * Y = ((Q * Y : Nat) : Int) from (Int.natCast_mul _ _).symm]
        generalize Q * Y = z at hdm ⊢
        omega
      refine wk ?_
      (refine aw_fx (fun F hF => ?_); simp only [e21]; apply hF; clear hF F)
      clear e21
      have g0 := guess_first n1 n2 hR1 (e := L % 4294967296) (by omega)
      have hq0 : R / (Y / 4294967296) ≤ R := Nat.div_le_self _ _
      have hr0 : R / (Y / 4294967296) * (Y / 4294967296) ≤ R := Nat.div_mul_le_self _ _
      have e1 : (R : Int) / ((Y / 4294967296 : Nat) : Int) % 18446744073709551616 = ((R / (Y / 4294967296) : Nat) : Int) := by
        rw [show (R : Int) / ((Y / 4294967296 : Nat) : Int) = ((R / (Y / 4294967296) : Nat) : Int) from rfl]
        generalize R / (Y / 4294967296) = z at hq0 ⊢
        omega
      have e2 : ((R / (Y / 4294967296) : Nat) : Int) * ((Y / 4294967296 : Nat) : Int) % 18446744073709551616 = ((R / (Y / 4294967296) * (Y / 4294967296) : Nat) : Int) := by
        rw [show ((R / (Y / 4294967296) : Nat) : Int) * ((Y / 4294967296 : Nat) : Int) = ((R / (Y / 4294967296) * (Y / 4294967296) : Nat) : Int) from (Int.natCast_mul _ _).symm]
        generalize R / (Y / 4294967296) * (Y / 4294967296) = z at hr0 ⊢
        omega
      have e3 : ((R : Int) - ((R / (Y / 4294967296) * (Y / 4294967296) : Nat) : Int)) % 18446744073709551616 = ((R - R / (Y / 4294967296) * (Y / 4294967296) : Nat) : Int) := by
        generalize R / (Y / 4294967296) * (Y / 4294967296) = z at hr0 ⊢
        omega
      (refine aw_fx (fun F hF => ?_); simp only [e1, e2, e3]; apply hF; clear hF F)
      clear e1 e2 e3
      have hr1 := guess_r0 (Y := Y) (U := R) n1 n2
      generalize R - R / (Y / 4294967296) * (Y / 4294967296) = r0 at g0 hr1
      generalize R / (Y / 4294967296) = q0 at g0 hq0 hr0
      clear hq0 hr0
      refine aw_join (fun (_ : Unit) => ⟨(.any :: .any :: (.int .u64 Y) :: .any :: .any :: .any :: .any :: .any :: (.int .u64 s) :: .any :: .any :: .any :: .any :: .any :: (.int .u64 (L % 4294967296 : Nat)) :: (.int .u64 Q) :: .any :: (.int .u64 R) :: (.int .u64 ((R * 4294967296 + L % 4294967296) / Y : Nat)) :: .any :: .any :: .any :: .any :: .any :: .any :: .any :: .any :: .any :: .any :: .any :: .any :: .any :: .any :: .any :: .any :: .any :: .any :: .any :: .any :: .any :: .any :: .any :: .any :: .any :: .any :: .any :: .any :: .any :: .any :: .any :: .any :: .any :: .any :: .any :: .any :: .any :: .any :: .any :: .any :: .any :: .any :: .any :: .any :: .any :: .any :: .any :: .any :: .any :: .any :: .any :: .any :: .any :: .any :: .any :: .any :: .any :: .any :: .any :: .any :: .any :: .any :: .any :: .any :: .any :: .any :: .any :: .any :: .any :: .any :: .any :: .any :: .any :: .any :: .any :: .any :: .any :: .any :: .any :: .any :: .any :: .any :: .any :: .any :: .any :: .any :: .any :: .any :: .any :: .any :: .any :: .any :: .any :: .any :: .any :: .any :: .any :: .any :: .any :: .any :: .any :: .any :: .any :: .any :: .any :: .any :: .any :: .any :: .any :: .any :: .any :: .any :: .any :: .any :: .any :: .any :: []), []⟩) (fun _ => True) (fun K hK => ?_) (fun _ _ => ?_)
      · refine aw_loopI (fun (X : Nat × Nat) => ⟨(.any :: .any :: (.int .u64 Y) :: .any :: .any :: .any :: .any :: .any :: (.int .u64 s) :: (.int .u64 (Y / 4294967296 : Nat)) :: (.int .u64 (Y % 4294967296 : Nat)) :: .any :: .any :: .any :: (.int .u64 (L % 4294967296 : Nat)) :: (.int .u64 Q) :: (.int .u64 X.2) :: (.int .u64 R) :: (.int .u64 X.1) :: .any :: .any :: .any :: .any :: .any :: .any :: .any :: .any :: .any :: .any :: .any :: .any :: .any :: .any :: .any :: .any :: .any :: .any :: .any :: .any :: .any :: .any :: .any :: .any :: .any :: .any :: .any :: .any :: .any :: .any :: .any :: .any :: .any :: .any :: .any :: .any :: .any :: .any :: .any :: .any :: .any :: .any :: .any :: .any :: .any :: .any :: .any :: .any :: .any :: .any :: .any :: .any :: .any :: .any :: .any :: .any :: .any :: .any :: .any :: .any :: .any :: .any :: .any :: .any :: .any :: .any :: .any :: .any :: .any :: .any :: .any :: .any :: .any :: .any :: .any :: .any :: .any :: .any :: .any :: .any :: .any :: .any :: .any :: .any :: .any :: .any :: .any :: .any :: .any :: .any :: .any :: .any :: .any :: .any :: .any :: .any :: .any :: .any :: .any :: .any :: .any :: .any :: .any :: .any :: .any :: .any :: .any :: .any :: .any :: .any :: .any :: .any :: .any :: .any :: .any :: .any :: []), []⟩) (fun X => Guess Y R (L % 4294967296) X.1 X.2 ∧ X.2 < 4294967296) (fun X => X.1) (q0, r0) ⟨g0, hr1⟩ (wkt []) ?_
        rintro ⟨q, r⟩ ⟨g, hr⟩ K2 hK2
        dsimp only at g hr
        have hle := g.le
        by_cases hc : 4294967296 ≤ q ∨ r * 4294967296 + L % 4294967296 < q * (Y % 4294967296)
        · obtain ⟨hq, g'⟩ := guess_down hR1 (by omega) g hc
          have hov := guess_over hY0 g' (by omega)
          by_cases ha : 4294967296 ≤ q
          · by_cases hd : 4294967296 ≤ r + Y / 4294967296
            · refine wk ?_
              refine (hK _ () trivial ?_).1
              rw [← hov hd]
              exact wkt []
            · refine wk ?_
              exact hK2 _ (q - 1, r + Y / 4294967296) ⟨g', by show r + Y / 4294967296 < 4294967296; omega⟩ (wkt []) (by show q - 1 < q; omega)
          · have hP : q * (Y % 4294967296) ≤ 4294967295 * 4294967295 := Nat.mul_le_mul (by omega) (by omega)
            have hc2 := hc.resolve_left ha
            clear hc
            by_cases hd : 4294967296 ≤ r + Y / 4294967296
            · refine wk ?_
              refine (hK _ () trivial ?_).1
              rw [← hov hd]
              exact wkt []
            · refine wk ?_
              exact hK2 _ (q - 1, r + Y / 4294967296) ⟨g', by show r + Y / 4294967296 < 4294967296; omega⟩ (wkt []) (by show q - 1 < q; omega)
        · have ha : ¬ 4294967296 ≤ q := fun h => hc (.inl h)
          have hb : q * (Y % 4294967296) ≤ r * 4294967296 + L % 4294967296 := Nat.le_of_not_lt fun h => hc (.inr h)
          clear hc
          have hP : q * (Y % 4294967296) ≤ 4294967295 * 4294967295 := Nat.mul_le_mul (by omega) (by omega)
          have he := guess_end hY0 g hb
          refine wk ?_
          refine (hK _ () trivial ?_).1
          rw [← he]
          exact wkt []
      · clear g0 hr1
        have hdm2 := Nat.div_add_mod' (R * 4294967296 + L % 4294967296) Y
        have hR2 := Nat.mod_lt (R * 4294967296 + L % 4294967296) hY0
        have hQ2 := guess_lt hR1 (show L % 4294967296 < 4294967296 by omega)
        obtain ⟨Q0, hQ0⟩ : ∃ z, (R * 4294967296 + L % 4294967296) / Y = z := ⟨_, rfl⟩
        obtain ⟨R0, hR0⟩ : ∃ z, (R * 4294967296 + L % 4294967296) % Y = z := ⟨_, rfl⟩
        rw [hQ0] at hdm2 hQ2
        rw [hR0] at hdm2 hR2
        rw [hQ0, hR0]
        have e22 : ((R : Int) * 4294967296 % 18446744073709551616 + (L % 4294967296 : Nat) - (Q0 : Int) * Y % 18446744073709551616) % 18446744073709551616 = (R0 : Nat) := by
          rw [show (Q0 : Int) * Y = ((Q0 * Y : Nat) : Int) from (Int.natCast_mul _ _).symm]
          generalize Q0 * Y = z at hdm2 ⊢
          omega
        refine wk ?_
        refine fin ?_
        rw [e22]
        have f1 : (Q : Int) * 4294967296 + Q0 = ((Q * 4294967296 + Q0 : Nat) : Int) := by omega
        have f2 : (R0 : Int) / 2 ^ s = ((R0 / 2 ^ s : Nat) : Int) := by simp
        rw [f1, f2]
end Go.Abs
