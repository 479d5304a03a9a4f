/- Text and Take, the program's and the page's: walks. -/
import Derived.Test.YtemlnaipcdajeaaGreatM12
set_option linter.unusedVariables false
set_option linter.unusedSimpArgs false
namespace Go.Abs
open Go Go.Proofs

/-- A byte of a number. -/
def byt (n j : Nat) : Nat := n / 256 ^ j % 256
/-- Its lowest bytes, the highest first: as cells, as bytes. -/
def be (n : Nat) : Nat → List V
  | 0 => []
  | i + 1 => .int .u8 (byt n i) :: be n i
def bes (n : Nat) : Nat → List UInt8
  | 0 => []
  | i + 1 => UInt8.ofNat (byt n i) :: bes n i
/-- How many bytes a number has. -/
def nb (n : Nat) : Nat := (blen n + 7) / 8
def textS (n : Nat) : ByteArray := ⟨(bes n (nb n)).toArray⟩
theorem be_length (n : Nat) : ∀ k, (be n k).length = k
  | 0 => rfl
  | k + 1 => by simp [be, be_length n k]
theorem clean_be (n : Nat) : ∀ k, Cleans (be n k)
  | 0 => cleans_nil
  | k + 1 => cleans_cons (.int _ _) (clean_be n k)
theorem clean_rep (k : Nat) {v : V} (h : Clean v) : Cleans (List.replicate k v) := fun u hu => by rw [List.eq_of_mem_replicate hu]; exact h
theorem bytesOf_be (n : Nat) : ∀ k, bytesOf (be n k) = some (bes n k)
  | 0 => rfl
  | k + 1 => by simp [be, bes, bytesOf, bytesOf_be n k]
theorem flat_one (k : Nat) (v : V) : (List.replicate k [v]).flatten = List.replicate k v := by
  induction k with
  | zero => rfl
  | succ k ih => simp [List.replicate_succ, ih]
theorem set_rep (n : Nat) (v w : V) (l : List V) : (List.replicate (n + 1) v ++ l).set n w = List.replicate n v ++ w :: l := by
  rw [List.replicate_succ', List.append_assoc, List.set_append_right _ _ (by simp)]
  simp
theorem nb_le {x : Nat} (hx : x < 115792089237316195423570985008687907853269984665640564039457584007913129639936) : nb x ≤ 32 := by
  have := blen_le_of_lt (n := x) (k := 256) hx
  unfold nb; omega
theorem lt_nb (x : Nat) : x < 256 ^ nb x := by
  have h := blen_lt x
  refine Nat.lt_of_lt_of_le h ?_
  rw [show (256 : Nat) = 2 ^ 8 from rfl, ← Nat.pow_mul]
  exact Nat.pow_le_pow_right (by omega) (by unfold nb; omega)
theorem nb_low {x : Nat} (h : x ≠ 0) : 0 < nb x ∧ 256 ^ (nb x - 1) ≤ x := by
  have p := blen_pos h
  refine ⟨by unfold nb; omega, Nat.le_trans ?_ (blen_le h)⟩
  rw [show (256 : Nat) = 2 ^ 8 from rfl, ← Nat.pow_mul]
  exact Nat.pow_le_pow_right (by omega) (by unfold nb; omega)
theorem nb_zero : nb 0 = 0 := rfl
theorem nb_unique {x k : Nat} (h1 : x < 256 ^ k) (h2 : k = 0 ∨ 256 ^ (k - 1) ≤ x) : nb x = k := by
  by_cases h0 : x = 0
  · subst h0
    rcases h2 with rfl | h2
    · rfl
    · have := Nat.pow_pos (n := k - 1) (show 0 < 256 by omega); omega
  · have a := lt_nb x
    obtain ⟨p, b⟩ := nb_low h0
    have c : k ≠ 0 := by rintro rfl; simp at h1; exact h0 h1
    have d := h2.resolve_left c
    have e : k - 1 < nb x := (Nat.pow_lt_pow_iff_right (by omega : 1 < 256)).1 (Nat.lt_of_le_of_lt d a)
    have f : nb x - 1 < k := (Nat.pow_lt_pow_iff_right (by omega : 1 < 256)).1 (Nat.lt_of_le_of_lt b h1)
    omega

/-- A byte of a limb is a byte of the number. -/
theorem byt_limb (x i : Nat) : lb x (i / 8) / 2 ^ (i % 8 * 8) % 256 = byt x i := by
  have h := lb_shift x (8 * i) 8 (by omega)
  rw [show 8 * i / 64 = i / 8 from by omega, show 8 * i % 64 = i % 8 * 8 from by omega] at h
  rw [show (256 : Nat) = 2 ^ 8 from rfl, h]
  unfold byt
  rw [show (256 : Nat) = 2 ^ 8 from rfl, ← Nat.pow_mul]

theorem byt_limb' (x i : Nat) : ((lb x (i / 8) : Int) / 2 ^ (i % 8 * 8)) % 256 = (byt x i : Nat) := by rw [← byt_limb]; simp

set_option maxHeartbeats 20000000 in
theorem text_c (x : Nat) (hx : x < 115792089237316195423570985008687907853269984665640564039457584007913129639936) : Pure Tryz.prog 179 [uv x] (.str (textS x)) := by
  refine pure_ac ?_ (cleans_cons (clean_uv _) cleans_nil) (.str _)
  have hb := bits_c x hx
  have hb8 := blen_le_of_lt (n := x) (k := 256) hx
  have hk : ((blen x : Int) + 7) / 8 = (nb x : Nat) := by unfold nb; omega
  have hk8 := nb_le hx
  unfold textS
  generalize nb x = k at hk hk8 ⊢
  have hcr := fun n : Nat => clean_rep n (v := .int .u8 0) (.int _ _)
  have hcb := clean_be x
  (refine enter Tryz.func179 Tryz.results179 Tryz.ntmps179 ty_ok (hw := fun F hF => ?_); simp only [List.length_cons, List.length_nil, Nat.reduceAdd, Nat.reduceSub, List.replicate_succ, List.replicate_zero, List.cons_append, List.nil_append]; apply hF; clear hF F)
  refine wk ?_
  (refine aw_fx (fun F hF => ?_); simp only [hk, Int.toNat_natCast, flat_one]; apply hF; clear hF F)
  refine aw_loopI (fun (i : Nat) => ⟨(.any :: (.ptr 0 0) :: (.str ByteArray.empty) :: (.slc 1 0 1 k k) :: .any :: .any :: .any :: .any :: .any :: .any :: .any :: (.int .i64 k) :: (.int .i64 i) :: .any :: .any :: .any :: .any :: .any :: .any :: .any :: .any :: .any :: .any :: .any :: .any :: .any :: .any :: .any :: .any :: .any :: .any :: .any :: .any :: .any :: []), [.live [.int .u64 (lb x 0), .int .u64 (lb x 1), .int .u64 (lb x 2), .int .u64 (lb x 3)], .live (List.replicate (k - i) (.int .u8 0) ++ be x i)]⟩) (fun i => i ≤ k) (fun i => k - i) 0 (by omega) (wkt [0, 1] (hh := by rw [Nat.sub_zero, be, List.append_nil]; dsimp only [renS, renH, renL, renV, renB, hbAt, List.map_cons, List.map_nil, List.getElem?_cons_zero, List.getElem?_cons_succ]; simp only [renL_clean _ (hcr k)])) ?_
  intro i hi K hK
  by_cases h1 : i < k
  · have hj := nth_limbs x (j := i / 8) (by omega)
    have ej : ((i : Int) / 8).toNat * 1 = i / 8 := by omega
    have er : ((i : Int) % 8 * 8).toNat = i % 8 * 8 := by omega
    have e3 : (((k : Int) - 1 - i).toNat * 1) = k - i - 1 := by omega
    have hlen : (List.replicate (k - i) (V.int .u8 0) ++ be x i).length = k := by simp [be_length]; omega
    have hb := byt_limb' x i
    refine wk ?_
    (refine aseq_fx (fun F hF => ?_); simp only [ej, Nat.zero_add, hj]; apply hF; clear hF F)
    refine wk ?_
    refine hK _ (i + 1) (by omega) (wkt [0, 1] (hh := ?_)) (by omega)
    dsimp only [renS, renH, renL, renV, renB, hbAt, List.map_cons, List.map_nil, List.getElem?_cons_zero, List.getElem?_cons_succ]
    rw [er, hb, Nat.zero_add, e3, show k - i = (k - i - 1) + 1 from by omega, Nat.add_sub_cancel, set_rep, show k - (i + 1) = k - i - 1 from by omega]
    simp (disch := (first | assumption | solve_by_elim)) only [renL_append, renL_clean]
    rw [renL_clean _ (cleans_cons (.int _ _) (hcb i))]; rfl
  · obtain rfl : i = k := by omega
    (refine aw_fx (fun F hF => ?_); simp only [Nat.sub_self, List.replicate_zero, List.nil_append]; apply hF; clear hF F)
    refine wk ?_
    refine st_op (op_toStr (cs := be x i) (bs := bes x i) rfl rfl rfl rfl rfl rfl (by intro s h; cases h) rfl (by show some _ = some _; simp [List.take_of_length_le, be_length]) (bytesOf_be x i)) (be_length x i) ?_
    refine wk ?_
    refine fin ?_
    rfl
theorem be_div (x m : Nat) : ∀ k, be (x / 256 ^ m) k ++ be x m = be x (k + m)
  | 0 => by simp [be]
  | k + 1 => by
    rw [be, List.cons_append, be_div x m k, show k + 1 + m = (k + m) + 1 from by omega, be]
    unfold byt
    rw [Nat.div_div_eq_div_mul, ← Nat.pow_add, Nat.add_comm m k]
theorem byt_div (x n : Nat) : x / 256 ^ n % 256 = byt x n := rfl
/-- The bytes of a number's upper part, one more of them. -/
theorem nb_step (x n : Nat) (h : x / 256 ^ n ≠ 0) : nb (x / 256 ^ n) = nb (x / 256 ^ (n + 1)) + 1 := by
  have e : x / 256 ^ (n + 1) = x / 256 ^ n / 256 := by rw [Nat.div_div_eq_div_mul, ← Nat.pow_succ]
  rw [e]
  generalize x / 256 ^ n = y at h
  have a := lt_nb (y / 256)
  refine nb_unique ?_ (.inr ?_)
  · rw [Nat.pow_succ]; omega
  · rw [Nat.add_sub_cancel]
    by_cases h0 : y / 256 = 0
    · rw [h0, nb_zero]; omega
    · obtain ⟨p, b⟩ := nb_low h0
      have : 256 ^ nb (y / 256) = 256 ^ (nb (y / 256) - 1) * 256 := by rw [← Nat.pow_succ]; congr 1; omega
      omega
theorem be_step (x n : Nat) (h : x / 256 ^ n ≠ 0) : be (x / 256 ^ (n + 1)) (nb (x / 256 ^ (n + 1))) ++ [.int .u8 (byt x n)] = be (x / 256 ^ n) (nb (x / 256 ^ n)) := by
  rw [nb_step x n h]
  have e : x / 256 ^ (n + 1) = x / 256 ^ n / 256 ^ 1 := by rw [Nat.div_div_eq_div_mul, ← Nat.pow_add]
  have := be_div (x / 256 ^ n) 1 (nb (x / 256 ^ (n + 1)))
  rw [← e] at this
  rw [← this]
  simp [be, byt]
theorem byt_ne (x n : Nat) (h : byt x n ≠ 0) : x / 256 ^ n ≠ 0 := by intro e; unfold byt at h; rw [e] at h; exact h rfl
theorem byt_eq (x n : Nat) (h : byt x n = 0) (h1 : x / 256 ^ (n + 1) = 0) : x / 256 ^ n = 0 := by
  unfold byt at h
  have e : x / 256 ^ (n + 1) = x / 256 ^ n / 256 := by rw [Nat.div_div_eq_div_mul, ← Nat.pow_succ]
  rw [e] at h1; omega
theorem up_ne (x n : Nat) (h1 : x / 256 ^ (n + 1) ≠ 0) : x / 256 ^ n ≠ 0 := by
  have e : x / 256 ^ (n + 1) = x / 256 ^ n / 256 := by rw [Nat.div_div_eq_div_mul, ← Nat.pow_succ]
  rw [e] at h1; omega
theorem nb_pos' {x : Nat} (h : x ≠ 0) : 0 < nb x := (nb_low h).1

set_option maxHeartbeats 20000000 in
theorem rtext_c (x : Nat) (hx : x < 115792089237316195423570985008687907853269984665640564039457584007913129639936) : Pure Tryz.prog 158 [uv x] (.str (textS x)) := by
  refine pure_ac ?_ (cleans_cons (clean_uv _) cleans_nil) (.str _)
  have hcb := clean_be
  have h32 : x / 256 ^ 32 = 0 := Nat.div_eq_of_lt (by simpa using hx)
  (refine enter Tryz.func158 Tryz.results158 Tryz.ntmps158 ty_ok (hw := fun F hF => ?_); simp only [List.length_cons, List.length_nil, Nat.reduceAdd, Nat.reduceSub, List.replicate_succ, List.replicate_zero, List.cons_append, List.nil_append]; apply hF; clear hF F)
  refine wk ?_
  refine aw_loopI (fun (n : Nat) => if x / 256 ^ n = 0
    then ⟨(.any :: (.ptr 0 0) :: (.str ByteArray.empty) :: .nils :: (.int .i64 ((n : Int) - 1)) :: .any :: .any :: .any :: .any :: .any :: .any :: .any :: .any :: .any :: .any :: .any :: .any :: .any :: .any :: .any :: .any :: .any :: .any :: .any :: .any :: .any :: .any :: .any :: .any :: .any :: .any :: .any :: []), [.live [.int .u64 (lb x 0), .int .u64 (lb x 1), .int .u64 (lb x 2), .int .u64 (lb x 3)]]⟩
    else ⟨(.any :: (.ptr 0 0) :: (.str ByteArray.empty) :: (.slc 1 0 1 (nb (x / 256 ^ n)) (nb (x / 256 ^ n))) :: (.int .i64 ((n : Int) - 1)) :: .any :: .any :: .any :: .any :: .any :: .any :: .any :: .any :: .any :: .any :: .any :: .any :: .any :: .any :: .any :: .any :: .any :: .any :: .any :: .any :: .any :: .any :: .any :: .any :: .any :: .any :: .any :: []), [.live [.int .u64 (lb x 0), .int .u64 (lb x 1), .int .u64 (lb x 2), .int .u64 (lb x 3)], .live (be (x / 256 ^ n) (nb (x / 256 ^ n)))]⟩)
    (fun n => n ≤ 32) (fun n => n) 32 (by omega) (by rw [if_pos h32]; exact wkt [0]) ?_
  intro n hn K hK
  rcases n with _ | n
  · simp only [Nat.pow_zero, Nat.div_one]
    by_cases h0 : x = 0
    · rw [if_pos h0]
      refine wk ?_
      refine fin ?_
      subst h0; rfl
    · rw [if_neg h0]
      refine wk ?_
      refine st_op (op_toStr (cs := be x (nb x)) (bs := bes x (nb x)) rfl rfl rfl rfl rfl rfl (by intro s h; cases h) rfl (by show some _ = some _; simp [List.take_of_length_le, be_length]) (bytesOf_be x (nb x))) (be_length x (nb x)) ?_
      refine wk ?_
      refine fin ?_
      rfl
  · have hj := nth_limbs x (j := n / 8) (by omega)
    have e0 : ((n + 1 : Nat) : Int) - 1 = n := by omega
    have ej : ((n : Int) / 8).toNat * 1 = n / 8 := by omega
    have er : (8 * ((n : Int) % 8)).toNat = n % 8 * 8 := by omega
    have hb := byt_limb' x n
    rw [e0]
    by_cases h0 : x / 256 ^ (n + 1) = 0
    · rw [if_pos h0]
      refine wk ?_
      (refine aseq_fx (fun F hF => ?_); simp only [ej, Nat.zero_add, hj]; apply hF; clear hF F)
      refine wk ?_
      (refine aseq_fx (fun F hF => ?_); simp only [er, hb]; apply hF; clear hF F)
      repeat' (first | refine st_ifd ?_ ?_ | refine st_ifdF ?_ ?_ | refine st_ife ?_ ?_ | refine st_ifeF ?_ ?_ | refine st_ifne ?_ ?_ | refine st_ifneF ?_ ?_ | refine st_ifnT ?_ ?_ | refine st_ifnF ?_ ?_ | refine st_ifT ?_ ?_ | refine st_ifF ?_ ?_ | refine aw_ifd ?_ ?_ | refine aw_ife ?_ ?_ | refine aw_ifne ?_ ?_ | refine aw_ifn ?_ ?_ | refine aw_ifnb ?_ ?_ | refine aw_ifb ?_ ?_) <;> intro hb <;> refine wk ?_
      · refine hK _ n (by omega) ?_ (by omega)
        rw [if_pos (byt_eq x n (by omega) h0)]
        exact wkt [0]
      · have h2 := byt_ne x n (by omega)
        have hs := be_step x n h2
        have hn' := nb_step x n h2
        rw [h0, nb_zero] at hs hn'
        refine hK _ n (by omega) ?_ (by omega)
        rw [if_neg h2, ← hs, hn']
        exact wkt [0, 2]
    · rw [if_neg h0]
      have h2 := up_ne x n h0
      have hp := nb_pos' h0
      have hs := be_step x n h2
      have hn' := nb_step x n h2
      have hl := be_length (x / 256 ^ (n + 1)) (nb (x / 256 ^ (n + 1)))
      have hnb := nb_le (x := x / 256 ^ (n + 1)) (Nat.lt_of_le_of_lt (Nat.div_le_self _ _) hx)
      refine wk ?_
      (refine aseq_fx (fun F hF => ?_); simp only [ej, Nat.zero_add, hj]; apply hF; clear hF F)
      refine wk ?_
      (refine aseq_fx (fun F hF => ?_); simp only [er, hb]; apply hF; clear hF F)
      repeat' (first | refine st_ifd ?_ ?_ | refine st_ifdF ?_ ?_ | refine st_ife ?_ ?_ | refine st_ifeF ?_ ?_ | refine st_ifne ?_ ?_ | refine st_ifneF ?_ ?_ | refine st_ifnT ?_ ?_ | refine st_ifnF ?_ ?_ | refine st_ifT ?_ ?_ | refine st_ifF ?_ ?_ | refine aw_ifd ?_ ?_ | refine aw_ife ?_ ?_ | refine aw_ifne ?_ ?_ | refine aw_ifn ?_ ?_ | refine aw_ifnb ?_ ?_ | refine aw_ifb ?_ ?_) <;> intro hb <;> refine wk ?_
      · refine hK _ n (by omega) ?_ (by omega)
        rw [if_neg h2, ← hs, hn']
        exact wkt [0, 3]
      · refine hK _ n (by omega) ?_ (by omega)
        rw [if_neg h2, ← hs, hn']
        exact wkt [0, 3]

/-! ### Numbers of bytes -/
theorem bt_lt (s : ByteArray) (j : Nat) : bt s j < 256 := UInt8.toNat_lt _
/-- The number of the first bytes; of the last of n. -/
def hiS (s : ByteArray) : Nat → Nat
  | 0 => 0
  | i + 1 => hiS s i * 256 + bt s i
def loS (s : ByteArray) (n : Nat) : Nat → Nat
  | 0 => 0
  | i + 1 => loS s n i + bt s (n - 1 - i) * 256 ^ i
def valS (s : ByteArray) : Nat := hiS s s.size
theorem hiS_lt (s : ByteArray) : ∀ i, hiS s i < 256 ^ i
  | 0 => by simp [hiS]
  | i + 1 => by have := hiS_lt s i; have := bt_lt s i; rw [hiS, Nat.pow_succ]; omega
theorem loS_lt (s : ByteArray) (n : Nat) : ∀ i, loS s n i < 256 ^ i
  | 0 => by simp [loS]
  | i + 1 => by
    have h1 := loS_lt s n i
    have h2 := bt_lt s (n - 1 - i)
    rw [loS, Nat.pow_succ]
    have : bt s (n - 1 - i) * 256 ^ i ≤ 255 * 256 ^ i := Nat.mul_le_mul_right _ (by omega)
    omega
theorem hi_lo (s : ByteArray) (n : Nat) : ∀ i, i ≤ n → hiS s (n - i) * 256 ^ i + loS s n i = hiS s n
  | 0, _ => by simp [loS]
  | i + 1, h => by
    have := hi_lo s n i (by omega)
    rw [← this, loS, show n - i = (n - (i + 1)) + 1 from by omega, hiS, show n - (i + 1) = n - 1 - i from by omega, Nat.pow_succ]
    rw [Nat.add_mul, Nat.mul_assoc, Nat.mul_comm 256 (256 ^ i)]
    omega
theorem valS_lo (s : ByteArray) : loS s s.size s.size = valS s := by
  have := hi_lo s s.size s.size (Nat.le_refl _)
  simpa [hiS, valS] using this
theorem valS_lt {s : ByteArray} (h : s.size ≤ 32) : valS s < 115792089237316195423570985008687907853269984665640564039457584007913129639936 :=
  Nat.lt_of_lt_of_le (hiS_lt s s.size) (Nat.le_trans (Nat.pow_le_pow_right (by omega) h) (by decide))

theorem or_nat {x y : Nat} (hx : x < 18446744073709551616) (hy : y < 18446744073709551616) : bitsOp .or .u64 (x : Int) (y : Int) = ((x ||| y : Nat) : Int) := by
  have l : x ||| y < 2 ^ 64 := Nat.or_lt_two_pow (by simpa using hx) (by simpa using hy)
  show IntKind.wrap .u64 (((BitVec.ofInt 64 (x : Int) ||| BitVec.ofInt 64 (y : Int)).toNat : Nat) : Int) = _
  rw [BitVec.toNat_or, BitVec.toNat_ofInt, BitVec.toNat_ofInt]
  have e1 : (((x : Nat) : Int) % ((2 ^ 64 : Nat) : Int)).toNat = x := by omega
  have e2 : (((y : Nat) : Int) % ((2 ^ 64 : Nat) : Int)).toNat = y := by omega
  rw [e1, e2, wu64 (by simp only [Nat.reducePow] at l; omega)]

theorem or_shl {x b k : Nat} (hx : x < 18446744073709551616) (hy : b * 2 ^ k < 18446744073709551616) : bitsOp .or .u64 (x : Int) ((b : Int) * 2 ^ k) = ((x ||| b * 2 ^ k : Nat) : Int) := by
  have e : ((b * 2 ^ k : Nat) : Int) = (b : Int) * 2 ^ k := by rw [Int.natCast_mul, Int.natCast_pow]; rfl
  rw [← e]; exact or_nat hx hy

theorem shl_mod {b k : Nat} (hb : b < 256) (hy : b * 2 ^ k < 18446744073709551616) : ((b : Int) % 18446744073709551616 * 2 ^ k) % 18446744073709551616 = (b : Int) * 2 ^ k := by
  have e : ((b * 2 ^ k : Nat) : Int) = (b : Int) * 2 ^ k := by rw [Int.natCast_mul, Int.natCast_pow]; rfl
  rw [Int.emod_eq_of_lt (a := (b : Int)) (by omega) (by omega), ← e]; omega

/-- Something is added to a limb. -/
theorem lb_add (m q c : Nat) (h : lb m q + c < 18446744073709551616) (j : Nat) : lb (m + c * 18446744073709551616 ^ q) j = if j = q then lb m q + c else lb m j := by
  unfold lb at h ⊢
  have hB : 0 < 18446744073709551616 := by omega
  rcases Nat.lt_trichotomy j q with hj | rfl | hj
  · rw [if_neg (by omega)]
    obtain ⟨d, rfl⟩ : ∃ d, q = j + (d + 1) := ⟨q - j - 1, by omega⟩
    rw [show c * 18446744073709551616 ^ (j + (d + 1)) = 18446744073709551616 ^ j * (18446744073709551616 * (c * 18446744073709551616 ^ d)) from by rw [Nat.pow_add, Nat.pow_succ]; ac_rfl, Nat.add_mul_div_left _ _ (Nat.pow_pos hB), Nat.add_mul_mod_self_left]
  · rw [if_pos rfl, Nat.mul_comm c, Nat.add_mul_div_left _ _ (Nat.pow_pos hB), Nat.add_mod, Nat.mod_eq_of_lt (b := 18446744073709551616) (a := c) (by omega), Nat.mod_eq_of_lt h]
  · rw [if_neg (by omega)]
    obtain ⟨d, rfl⟩ : ∃ d, j = q + (1 + d) := ⟨j - q - 1, by omega⟩
    rw [Nat.pow_add, ← Nat.div_div_eq_div_mul, ← Nat.div_div_eq_div_mul, Nat.mul_comm c, Nat.add_mul_div_left _ _ (Nat.pow_pos hB)]
    rw [Nat.pow_add, ← Nat.div_div_eq_div_mul, ← Nat.div_div_eq_div_mul, Nat.pow_one]
    have : (m / 18446744073709551616 ^ q + c) / 18446744073709551616 = m / 18446744073709551616 ^ q / 18446744073709551616 := by omega
    rw [this]
theorem pow_split (i : Nat) : 256 ^ i = 2 ^ (i % 8 * 8) * 18446744073709551616 ^ (i / 8) := by
  rw [show (256 : Nat) = 2 ^ 8 from rfl, show (18446744073709551616 : Nat) = 2 ^ 64 from by decide, ← Nat.pow_mul, ← Nat.pow_mul, ← Nat.pow_add]
  congr 1; omega
theorem byte_fits (b i : Nat) (hb : b < 256) : b * 2 ^ (i % 8 * 8) < 2 ^ (i % 8 * 8 + 8) ∧ 2 ^ (i % 8 * 8 + 8) ≤ 18446744073709551616 := by
  refine ⟨?_, ?_⟩
  · rw [Nat.pow_add, Nat.mul_comm]; exact Nat.mul_lt_mul_of_pos_left hb (Nat.two_pow_pos _)
  · rw [show (18446744073709551616 : Nat) = 2 ^ 64 from by decide]; exact Nat.pow_le_pow_right (by omega) (by omega)
/-- A byte ahead of a number's. -/
theorem lb_upd (m b i : Nat) (hm : m < 256 ^ i) (hb : b < 256) : (∀ j, lb (m + b * 256 ^ i) j = if j = i / 8 then (lb m (i / 8) ||| b * 2 ^ (i % 8 * 8)) else lb m j) ∧ b * 2 ^ (i % 8 * 8) < 18446744073709551616 := by
  obtain ⟨f1, f2⟩ := byte_fits b i hb
  have hl : lb m (i / 8) < 2 ^ (i % 8 * 8) := by
    refine Nat.lt_of_le_of_lt (Nat.mod_le _ _) ?_
    rw [Nat.div_lt_iff_lt_mul (Nat.pow_pos (by omega)), ← pow_split]; exact hm
  have e : lb m (i / 8) ||| b * 2 ^ (i % 8 * 8) = lb m (i / 8) + b * 2 ^ (i % 8 * 8) := by
    rw [Nat.or_comm, Nat.mul_comm b, ← Nat.two_pow_add_eq_or_of_lt hl, Nat.add_comm]
  refine ⟨fun j => ?_, by omega⟩
  rw [e, show b * 256 ^ i = b * 2 ^ (i % 8 * 8) * 18446744073709551616 ^ (i / 8) from by rw [pow_split]; ac_rfl]
  refine lb_add _ _ _ ?_ j
  have : b * 2 ^ (i % 8 * 8) + 2 ^ (i % 8 * 8) ≤ 2 ^ (i % 8 * 8 + 8) := by
    rw [Nat.pow_add, ← Nat.succ_mul, Nat.mul_comm]; exact Nat.mul_le_mul_left _ (by omega)
  omega
/-- A byte behind a number's. -/
theorem lb_dn (h b i : Nat) (hb : b < 256) : (∀ j, lb (h * 256 ^ (i + 1) + b * 256 ^ i) j = if j = i / 8 then (lb (h * 256 ^ (i + 1)) (i / 8) ||| b * 2 ^ (i % 8 * 8)) else lb (h * 256 ^ (i + 1)) j) ∧ b * 2 ^ (i % 8 * 8) < 18446744073709551616 := by
  obtain ⟨f1, f2⟩ := byte_fits b i hb
  obtain ⟨a, ha⟩ : ∃ a, lb (h * 256 ^ (i + 1)) (i / 8) = 2 ^ (i % 8 * 8 + 8) * a := by
    unfold lb
    have e : h * 256 ^ (i + 1) = 2 ^ (i % 8 * 8 + 8) * h * 18446744073709551616 ^ (i / 8) := by rw [Nat.pow_succ, pow_split, Nat.pow_add]; ac_rfl
    rw [e, Nat.mul_div_cancel _ (Nat.pow_pos (by omega)), show (18446744073709551616 : Nat) = 2 ^ (i % 8 * 8 + 8) * 2 ^ (56 - i % 8 * 8) from by rw [← Nat.pow_add, show i % 8 * 8 + 8 + (56 - i % 8 * 8) = 64 from by omega], Nat.mul_mod_mul_left]
    exact ⟨_, rfl⟩
  have hl := lb_lt (h * 256 ^ (i + 1)) (i / 8)
  have e : lb (h * 256 ^ (i + 1)) (i / 8) ||| b * 2 ^ (i % 8 * 8) = lb (h * 256 ^ (i + 1)) (i / 8) + b * 2 ^ (i % 8 * 8) := by
    rw [ha, ← Nat.two_pow_add_eq_or_of_lt f1]
  refine ⟨fun j => ?_, by omega⟩
  rw [e, show b * 256 ^ i = b * 2 ^ (i % 8 * 8) * 18446744073709551616 ^ (i / 8) from by rw [pow_split]; ac_rfl]
  refine lb_add _ _ _ ?_ j
  rw [← e]
  have l := Nat.or_lt_two_pow (n := 64) (x := lb (h * 256 ^ (i + 1)) (i / 8)) (y := b * 2 ^ (i % 8 * 8)) (by simpa using hl) (by simp only [Nat.reducePow]; omega)
  simpa using l
theorem limbs_set {m m' q : Nat} {v : Nat} (hq : q < 4) (h : ∀ j, j < 4 → lb m' j = if j = q then v else lb m j) :
    [V.int .u64 (lb m 0), .int .u64 (lb m 1), .int .u64 (lb m 2), .int .u64 (lb m 3)].set q (.int .u64 v) = [V.int .u64 (lb m' 0), .int .u64 (lb m' 1), .int .u64 (lb m' 2), .int .u64 (lb m' 3)] := by
  rw [h 0 (by omega), h 1 (by omega), h 2 (by omega), h 3 (by omega)]
  have : q = 0 ∨ q = 1 ∨ q = 2 ∨ q = 3 := by omega
  rcases this with rfl | rfl | rfl | rfl <;> rfl

/-- Are these the bytes of a number? -/
def okText (s : ByteArray) : Bool := !(decide (32 < s.size) || (decide (s.size ≠ 0) && bt s 0 == 0))
def takeV (s : ByteArray) : V := if okText s then ue (valS s) 0 else ue 0 1
def rtakeV (s : ByteArray) : V := if okText s then ub (valS s) true else ub 0 false
theorem clean_takeV (s : ByteArray) : Clean (takeV s) := by unfold takeV; split <;> exact clean_ue _ _
theorem clean_rtakeV (s : ByteArray) : Clean (rtakeV s) := by unfold rtakeV; split <;> exact clean_ub _ _
theorem beq_empty (s : ByteArray) : (s == ⟨#[]⟩) = decide (s.size = 0) := by
  rcases s with ⟨a⟩
  have e : ((ByteArray.mk a) == ByteArray.mk #[]) = (a == #[]) := rfl
  rw [e]
  by_cases h : a.size = 0
  · have : a = #[] := Array.eq_empty_of_size_eq_zero h
    subst this; rfl
  · rw [beq_eq_false_iff_ne.2 (fun e => h (by rw [e]; rfl))]
    exact (decide_eq_false h).symm
theorem okText_iff (s : ByteArray) : okText s = true ↔ s.size ≤ 32 ∧ (s.size = 0 ∨ bt s 0 ≠ 0) := by
  unfold okText
  by_cases h1 : 32 < s.size <;> by_cases h2 : s.size = 0 <;> by_cases h3 : bt s 0 = 0 <;> simp [h1, h2, h3] <;> omega

/-- What a form says of the test's words. -/
theorem okText_cases (s : ByteArray) : (okText s = true ∧ s.size ≤ 32 ∧ ((s == ⟨#[]⟩) = true ∧ s.size = 0 ∨ (s == ⟨#[]⟩) = false ∧ s.size ≠ 0 ∧ bt s 0 ≠ 0)) ∨ (okText s = false ∧ (32 < s.size ∨ s.size ≤ 32 ∧ (s == ⟨#[]⟩) = false ∧ s.size ≠ 0 ∧ bt s 0 = 0)) := by
  have he := beq_empty s
  have hok := okText_iff s
  by_cases hk : okText s = true
  · obtain ⟨k1, k2⟩ := hok.1 hk
    refine .inl ⟨hk, k1, ?_⟩
    by_cases h0 : s.size = 0
    · rw [decide_eq_true h0] at he; exact .inl ⟨he, h0⟩
    · rw [decide_eq_false h0] at he; exact .inr ⟨he, h0, k2.resolve_left h0⟩
  · refine .inr ⟨by simpa using hk, ?_⟩
    have hk' := mt hok.2 hk
    by_cases h : 32 < s.size
    · exact .inl h
    · have h0 : s.size ≠ 0 := by omega
      rw [decide_eq_false h0] at he
      exact .inr ⟨by omega, he, h0, by omega⟩

end Go.Abs
/- What the laws of layers 1 and 3 share. -/
namespace Go.Abs
open Go Go.Proofs

theorem seal_fl (h : List HB) (d : Nat) (ns : List Nat) : sealL h d (fl ns) = fl ns := by
  have one : ∀ v : V, (∃ k n, v = .int k n) → sealV h d v = v := by
    rintro v ⟨k, n, rfl⟩; cases d <;> simp [sealV]
  have lst : ∀ l : List V, (∀ v ∈ l, ∃ k n, v = .int k n) → sealL h d l = l := by
    intro l
    induction l with
    | nil => intro _; simp [sealL]
    | cons v l ih => intro hl; simp only [sealL]; rw [one v (hl v (by simp)), ih fun u hu => hl u (by simp [hu])]
  refine lst _ ?_
  induction ns with
  | nil => simp [flat]
  | cons n ns ih =>
    intro v hv
    rcases List.mem_append.1 hv with h | h
    · simp at h; rcases h with h | h | h | h <;> exact ⟨_, _, h⟩
    · exact ih v h
/-- A slice of numbers that nobody writes. -/
def vecU (ns : List Nat) (x : Bool) : V := .vec (fl ns) ns.length x
theorem clean_vecU (ns : List Nat) (x : Bool) : Clean (vecU ns x) := .vec _ _ _ (cleans_flat ns)

/-- The numbers at the ends. -/
def ends : List Nat := [0, 1, 2, 18446744073709551615, 18446744073709551616, 6277101735386680763835789423207666416102355444464034512896, 57896044618658097711785492504343953926634992332820282019728792003956564819968, 115792089237316195423570985008687907853269984665640564039457584007913129639935]
/-- All numbers that are asked about. -/
def alls (ns : List Nat) : List Nat := ends ++ ns.take 12
theorem alls_lt {ns : List Nat} (h : ∀ n ∈ ns, n < 115792089237316195423570985008687907853269984665640564039457584007913129639936) : ∀ n ∈ alls ns, n < 115792089237316195423570985008687907853269984665640564039457584007913129639936 := by
  intro n hn
  rcases List.mem_append.1 hn with h1 | h1
  · simp [ends] at h1; omega
  · exact h n (List.mem_of_mem_take h1)
theorem alls_len (ns : List Nat) : (alls ns).length ≤ 20 := by simp [alls, ends]; omega
end Go.Abs
/- A small number; the page's Of: the walk. -/
namespace Go.Abs
open Go Go.Proofs

theorem uvs {m : Nat} (h : m < 18446744073709551616) : uv m = .agg [.int .u64 (m : Nat), .int .u64 0, .int .u64 0, .int .u64 0] :=
  (uv_congr (a := m) (b := 0) (c := 0) (d := 0) (n := m) h (by omega) (by omega) (by omega) (by unfold num4; omega)).symm
theorem rof_c (n : Int) (h0 : 0 ≤ n) (hn : n < 9223372036854775808) : Pure Tryz.prog 116 [.int .i64 n] (uv n.toNat) := by
  refine pure_ac ?_ (cleans_cons (.int _ _) cleans_nil) (clean_uv _)
  obtain ⟨m, rfl⟩ := Int.eq_ofNat_of_zero_le h0
  have hm : m < 18446744073709551616 := by omega
  have e := uv_congr (a := m) (b := 0) (c := 0) (d := 0) (n := m) hm (by omega) (by omega) (by omega) (by unfold num4; omega)
  rw [Int.toNat_natCast, ← e]
  (refine enter Tryz.func116 Tryz.results116 Tryz.ntmps116 ty_ok (hw := fun F hF => ?_); simp only [List.length_cons, List.length_nil, Nat.reduceAdd, Nat.reduceSub, List.replicate_succ, List.replicate_zero, List.cons_append, List.nil_append]; apply hF; clear hF F)
  refine wk ?_
  refine fin ?_
  rfl
end Go.Abs
