/- Numbers of 256 bits as values; sums and differences with a carry: the model's own. -/
import Derived.Test.YtemlnaipcdajeaaGreatM7
import Derived.Laws.Externs
set_option linter.unusedVariables false
set_option linter.unusedSimpArgs false
namespace Go.Abs
open Go Go.Proofs

/-- Four limbs. -/
@[reducible] def uvl (a b c d : Nat) : V := .agg [.int .u64 a, .int .u64 b, .int .u64 c, .int .u64 d]
/-- A limb of a number. -/
def lb (n i : Nat) : Nat := n / 18446744073709551616 ^ i % 18446744073709551616
/-- The cells of a number. -/
@[reducible] def uvc (n : Nat) : List V := [.int .u64 (lb n 0), .int .u64 (lb n 1), .int .u64 (lb n 2), .int .u64 (lb n 3)]
@[reducible] def uv (n : Nat) : V := .agg (uvc n)
instance rows_uvc : Rows uvc 4 where
  len := fun _ => rfl
  clean := fun _ => cleans_cons (.int _ _) (cleans_cons (.int _ _) (cleans_cons (.int _ _) (cleans_cons (.int _ _) cleans_nil)))
  one := fun n v h => by simp [uvc] at h; rcases h with h | h | h | h <;> subst h <;> rfl
/-- The cells of numbers, one behind the other. -/
abbrev fl (ns : List Nat) : List V := flat uvc ns

theorem clean_uvl (a b c d : Nat) : Clean (uvl a b c d) := clean_agg (cleans_cons (.int _ _) (cleans_cons (.int _ _) (cleans_cons (.int _ _) (cleans_cons (.int _ _) cleans_nil))))
theorem clean_uv (n : Nat) : Clean (uv n) := clean_agg (rows_uvc.clean n)

theorem lb_lt (n i : Nat) : lb n i < 18446744073709551616 := Nat.mod_lt _ (by omega)

/-- The number of four limbs. -/
def num4 (a b c d : Nat) : Nat := a + 18446744073709551616 * (b + 18446744073709551616 * (c + 18446744073709551616 * d))
theorem uv_num4 {a b c d : Nat} (ha : a < 18446744073709551616) (hb : b < 18446744073709551616) (hc : c < 18446744073709551616) (hd : d < 18446744073709551616) : uvl a b c d = uv (num4 a b c d) := by
  have e0 : lb (num4 a b c d) 0 = a := by unfold lb num4; omega
  have e1 : lb (num4 a b c d) 1 = b := by unfold lb num4; omega
  have e2 : lb (num4 a b c d) 2 = c := by unfold lb num4; simp only [Nat.reducePow]; omega
  have e3 : lb (num4 a b c d) 3 = d := by unfold lb num4; simp only [Nat.reducePow]; omega
  unfold uv uvc; rw [e0, e1, e2, e3]
theorem num4_lb {n : Nat} (h : n < 115792089237316195423570985008687907853269984665640564039457584007913129639936) : num4 (lb n 0) (lb n 1) (lb n 2) (lb n 3) = n := by
  unfold lb num4; simp only [Nat.reducePow, Nat.pow_zero, Nat.pow_one, Nat.div_one]; omega
theorem num4_lt {a b c d : Nat} (ha : a < 18446744073709551616) (hb : b < 18446744073709551616) (hc : c < 18446744073709551616) (hd : d < 18446744073709551616) :
    num4 a b c d < 115792089237316195423570985008687907853269984665640564039457584007913129639936 := by unfold num4; omega

/-! ### Add64, Sub64: the model's own -/

theorem pure_extern {f : FuncId} {args : List V} {r : V} {vs : Array Value} {x : Value} (ha : ∀ (ρ : Rho) (I : Nat → Prop) (w : World) (us : Array Value), args.length = us.size → (∀ (i : Nat) (v : V) (y : Value), args[i]? = some v → us[i]? = some y → RV ρ I w v y) → us = vs)
    (hx : ∀ w, (callFunc f vs).run Tryz.prog w = .ok (.value x) w) (hr : ∀ ρ I w, RV ρ I w r x) : Pure Tryz.prog f args r := by
  intro h ρ I w us hl hv H
  rw [ha ρ I w us hl hv]
  exact .inr ⟨x, w, hx w, r, h, ρ, I, ⟨rfl, rfl⟩, hr ρ I w, H, Keep.refl _ _ _ _⟩

theorem three_ints {k : IntKind} {a b c : Int} {ρ : Rho} {I : Nat → Prop} {w : World} {us : Array Value} (hl : [V.int k a, V.int k b, V.int k c].length = us.size)
    (hv : ∀ (i : Nat) (v : V) (y : Value), [V.int k a, V.int k b, V.int k c][i]? = some v → us[i]? = some y → RV ρ I w v y) : us = #[.int k a, .int k b, .int k c] := by
  obtain ⟨l⟩ := us
  match l, hl, hv with
  | [x, y, z], _, hv =>
    have h0 := hv 0 _ x rfl rfl
    have h1 := hv 1 _ y rfl rfl
    have h2 := hv 2 _ z rfl rfl
    cases h0; cases h1; cases h2; rfl

def addLo (x y c : Nat) : Nat := (x + y + c) % 18446744073709551616
def addHi (x y c : Nat) : Nat := (x + y + c) / 18446744073709551616
def subLo (x y b : Nat) : Nat := (x + 18446744073709551616 - y - b) % 18446744073709551616
def subHi (x y b : Nat) : Nat := if x < y + b then 1 else 0

def add64E : Array Value → Sem Value := fun args => do
  let (x, y, c) ← Extern.MathBitsCarry.three "Add64" args
  pure (Extern.MathBitsCarry.pair ((x + y + c) % Extern.MathBitsCarry.m64) ((x + y + c) / Extern.MathBitsCarry.m64))
def sub64E : Array Value → Sem Value := fun args => do
  let (x, y, b) ← Extern.MathBitsCarry.three "Sub64" args
  pure (Extern.MathBitsCarry.pair ((x + Extern.MathBitsCarry.m64 - y - b) % Extern.MathBitsCarry.m64) (if x < y + b then 1 else 0))

theorem add64_c (x y c : Nat) (hc : c ≤ 1) : Pure Tryz.prog 166 [.int .u64 x, .int .u64 y, .int .u64 c] (.tup [.int .u64 (addLo x y c), .int .u64 (addHi x y c)]) := by
  refine pure_extern (vs := #[.int .u64 x, .int .u64 y, .int .u64 c]) (x := .tuple #[.int .u64 (addLo x y c), .int .u64 (addHi x y c)]) (fun ρ I w us hl hv => three_ints hl hv) (fun w => ?_) (fun ρ I w => .tup rfl ?_)
  · rw [run_callFunc_extern Tryz.func166 (by kernel_rfl) (by kernel_rfl) (by kernel_rfl) (e := add64E) (by kernel_rfl)]
    have : c = 0 ∨ c = 1 := by omega
    rcases this with rfl | rfl <;> rfl
  · intro i v y h1 h2
    match i with
    | 0 => simp at h1 h2; subst h1; subst h2; exact .int _ _
    | 1 => simp at h1 h2; subst h1; subst h2; exact .int _ _
    | i + 2 => simp at h1
theorem add64_0 (x y : Nat) : Pure Tryz.prog 166 [.int .u64 x, .int .u64 y, .int .u64 0] (.tup [.int .u64 (addLo x y 0), .int .u64 (addHi x y 0)]) := add64_c x y 0 (Nat.zero_le 1)
theorem sub64_c (x y c : Nat) (hc : c ≤ 1) : Pure Tryz.prog 167 [.int .u64 x, .int .u64 y, .int .u64 c] (.tup [.int .u64 (subLo x y c), .int .u64 (subHi x y c)]) := by
  refine pure_extern (vs := #[.int .u64 x, .int .u64 y, .int .u64 c]) (x := .tuple #[.int .u64 (subLo x y c), .int .u64 (subHi x y c)]) (fun ρ I w us hl hv => three_ints hl hv) (fun w => ?_) (fun ρ I w => .tup rfl ?_)
  · rw [run_callFunc_extern Tryz.func167 (by kernel_rfl) (by kernel_rfl) (by kernel_rfl) (e := sub64E) (by kernel_rfl)]
    have : c = 0 ∨ c = 1 := by omega
    rcases this with rfl | rfl <;> rfl
  · intro i v y h1 h2
    match i with
    | 0 => simp at h1 h2; subst h1; subst h2; exact .int _ _
    | 1 => simp at h1 h2; subst h1; subst h2; exact .int _ _
    | i + 2 => simp at h1
theorem sub64_0 (x y : Nat) : Pure Tryz.prog 167 [.int .u64 x, .int .u64 y, .int .u64 0] (.tup [.int .u64 (subLo x y 0), .int .u64 (subHi x y 0)]) := sub64_c x y 0 (Nat.zero_le 1)

theorem uv_elim {n : Nat} (h : n < 115792089237316195423570985008687907853269984665640564039457584007913129639936) : ∃ a b c d, a < 18446744073709551616 ∧ b < 18446744073709551616 ∧ c < 18446744073709551616 ∧ d < 18446744073709551616 ∧ n = num4 a b c d ∧ uv n = .agg [.int .u64 a, .int .u64 b, .int .u64 c, .int .u64 d] :=
  ⟨lb n 0, lb n 1, lb n 2, lb n 3, lb_lt _ _, lb_lt _ _, lb_lt _ _, lb_lt _ _, (num4_lb h).symm, rfl⟩
theorem addHi_le {x y c : Nat} (hx : x < 18446744073709551616) (hy : y < 18446744073709551616) (hc : c ≤ 1) : addHi x y c ≤ 1 := by unfold addHi; omega
theorem addLo_lt (x y c : Nat) : addLo x y c < 18446744073709551616 := Nat.mod_lt _ (by omega)
theorem subHi_le (x y c : Nat) : subHi x y c ≤ 1 := by unfold subHi; split <;> omega
theorem subLo_lt (x y c : Nat) : subLo x y c < 18446744073709551616 := Nat.mod_lt _ (by omega)
theorem sub_eq {x y c : Nat} (hx : x < 18446744073709551616) (hy : y < 18446744073709551616) (hc : c ≤ 1) : x + 18446744073709551616 * subHi x y c = subLo x y c + y + c := by unfold subHi subLo; split <;> omega
theorem add_eq (x y c : Nat) : x + y + c = addLo x y c + 18446744073709551616 * addHi x y c := by unfold addHi addLo; omega

def errV (n : Nat) : V := .int .i64 n
/-- A number and an error's number. -/
def ue (n k : Nat) : V := .tup [uv n, errV k]
def ub (n : Nat) (b : Bool) : V := .tup [uv n, .bool b]
theorem clean_ue (n k : Nat) : Clean (ue n k) := clean_tup (cleans_cons (clean_uv _) (cleans_cons (.int _ _) cleans_nil))
theorem clean_ub (n : Nat) (b : Bool) : Clean (ub n b) := clean_tup (cleans_cons (clean_uv _) (cleans_cons (.bool _) cleans_nil))
theorem uv_congr {a b c d n : Nat} (ha : a < 18446744073709551616) (hb : b < 18446744073709551616) (hc : c < 18446744073709551616) (hd : d < 18446744073709551616) (h : num4 a b c d = n) : V.agg [.int .u64 a, .int .u64 b, .int .u64 c, .int .u64 d] = uv n := by
  rw [← h]; exact uv_num4 ha hb hc hd

theorem ue_of {a b c d n k : Nat} (ha : a < 18446744073709551616) (hb : b < 18446744073709551616) (hc : c < 18446744073709551616) (hd : d < 18446744073709551616) (h : num4 a b c d = n) : V.tup [V.agg [.int .u64 a, .int .u64 b, .int .u64 c, .int .u64 d], .int .i64 k] = ue n k := by
  rw [uv_congr ha hb hc hd h]; rfl
theorem ub_of {a b c d n : Nat} {k : Bool} (ha : a < 18446744073709551616) (hb : b < 18446744073709551616) (hc : c < 18446744073709551616) (hd : d < 18446744073709551616) (h : num4 a b c d = n) : V.tup [V.agg [.int .u64 a, .int .u64 b, .int .u64 c, .int .u64 d], .bool k] = ub n k := by
  rw [uv_congr ha hb hc hd h]; rfl
theorem ue_zero (k : Nat) : V.tup [V.agg [.int .u64 0, .int .u64 0, .int .u64 0, .int .u64 0], .int .i64 k] = ue 0 k := rfl
theorem ub_zero (k : Bool) : V.tup [V.agg [.int .u64 0, .int .u64 0, .int .u64 0, .int .u64 0], .bool k] = ub 0 k := rfl

/-- Which one is greater. -/
def cmpN (a b : Nat) : Int := if a < b then -1 else if b < a then 1 else 0
theorem cmpN_lt {a b : Nat} (h : a < b) : cmpN a b = -1 := if_pos h
theorem cmpN_gt {a b : Nat} (h : b < a) : cmpN a b = 1 := by unfold cmpN; rw [if_neg (by omega), if_pos h]
theorem cmpN_eq {a b : Nat} (h : a = b) : cmpN a b = 0 := by unfold cmpN; rw [if_neg (by omega), if_neg (by omega)]
theorem cmpN_cases (a b : Nat) : (a < b ∧ cmpN a b = -1) ∨ (b < a ∧ cmpN a b = 1) ∨ (a = b ∧ cmpN a b = 0) := by
  rcases Nat.lt_trichotomy a b with h | h | h
  · exact .inl ⟨h, cmpN_lt h⟩
  · exact .inr (.inr ⟨h, cmpN_eq h⟩)
  · exact .inr (.inl ⟨h, cmpN_gt h⟩)
end Go.Abs
/- limbs, Cmp, Add, Sub: the program's and the page's: walks. -/
namespace Go.Abs
open Go Go.Proofs

def lims (a b c d : Nat) : Nat := if d ≠ 0 then 4 else if c ≠ 0 then 3 else if b ≠ 0 then 2 else if a ≠ 0 then 1 else 0

set_option maxHeartbeats 20000000 in
theorem limbs_c (a b c d : Nat) : Pure Tryz.prog 208 [uvl a b c d] (.int .i64 (lims a b c d)) := by
  refine pure_ac ?_ (cleans_cons (clean_uvl _ _ _ _) cleans_nil) (.int _ _)
  unfold uvl
  (refine enter Tryz.func208 Tryz.results208 Tryz.ntmps208 ty_ok (hw := fun F hF => ?_); simp only [List.length_cons, List.length_nil, Nat.reduceAdd, Nat.reduceSub, List.replicate_succ, List.replicate_zero, List.cons_append, List.nil_append]; apply hF; clear hF F)
  refine wk ?_
  refine aw_rounds 5 ?_
  refine wk ?_
  repeat' (first | refine aw_ifd ?_ ?_ | refine aw_ife ?_ ?_ | refine aw_ifne ?_ ?_ | refine aw_ifn ?_ ?_ | refine aw_ifnb ?_ ?_ | refine aw_ifb ?_ ?_) <;> intro hb <;> refine wk ?_
  all_goals (refine fin ?_)
  all_goals (unfold lims; (repeat (first | rw [if_pos (by omega)] | rw [if_neg (by omega)])); rfl)
set_option maxHeartbeats 20000000 in
theorem cmp_c (x y : Nat) (hx : x < 115792089237316195423570985008687907853269984665640564039457584007913129639936) (hy : y < 115792089237316195423570985008687907853269984665640564039457584007913129639936) : Pure Tryz.prog 90 [uv x, uv y] (.int .i64 (cmpN x y)) := by
  refine pure_ac ?_ (cleans_cons (clean_uv _) (cleans_cons (clean_uv _) cleans_nil)) (.int _ _)
  obtain ⟨x0, x1, x2, x3, p0, p1, p2, p3, ex, rx⟩ := uv_elim hx
  obtain ⟨y0, y1, y2, y3, q0, q1, q2, q3, ey, ry⟩ := uv_elim hy
  rw [rx, ry]; clear rx ry
  unfold num4 at ex ey
  (refine enter Tryz.func90 Tryz.results90 Tryz.ntmps90 ty_ok (hw := fun F hF => ?_); simp only [List.length_cons, List.length_nil, Nat.reduceAdd, Nat.reduceSub, List.replicate_succ, List.replicate_zero, List.cons_append, List.nil_append]; apply hF; clear hF F)
  refine wk ?_
  refine aw_rounds 5 ?_
  refine wk ?_
  repeat' (first | refine aw_ifd ?_ ?_ | refine aw_ife ?_ ?_ | refine aw_ifne ?_ ?_ | refine aw_ifn ?_ ?_ | refine aw_ifnb ?_ ?_ | refine aw_ifb ?_ ?_) <;> intro hb <;> refine wk ?_
  all_goals (refine fin ?_)
  all_goals (first | rw [cmpN_lt (by omega)] | rw [cmpN_gt (by omega)] | rw [cmpN_eq (by omega)])
set_option maxHeartbeats 20000000 in
theorem rcmp_c (x y : Nat) (hx : x < 115792089237316195423570985008687907853269984665640564039457584007913129639936) (hy : y < 115792089237316195423570985008687907853269984665640564039457584007913129639936) : Pure Tryz.prog 27 [uv x, uv y] (.int .i64 (cmpN x y)) := by
  refine pure_ac ?_ (cleans_cons (clean_uv _) (cleans_cons (clean_uv _) cleans_nil)) (.int _ _)
  obtain ⟨x0, x1, x2, x3, p0, p1, p2, p3, ex, rx⟩ := uv_elim hx
  obtain ⟨y0, y1, y2, y3, q0, q1, q2, q3, ey, ry⟩ := uv_elim hy
  rw [rx, ry]; clear rx ry
  unfold num4 at ex ey
  (refine enter Tryz.func27 Tryz.results27 Tryz.ntmps27 ty_ok (hw := fun F hF => ?_); simp only [List.length_cons, List.length_nil, Nat.reduceAdd, Nat.reduceSub, List.replicate_succ, List.replicate_zero, List.cons_append, List.nil_append]; apply hF; clear hF F)
  refine wk ?_
  refine aw_rounds 5 ?_
  refine wk ?_
  repeat' (first | refine aw_ifd ?_ ?_ | refine aw_ife ?_ ?_ | refine aw_ifne ?_ ?_ | refine aw_ifn ?_ ?_ | refine aw_ifnb ?_ ?_ | refine aw_ifb ?_ ?_) <;> intro hb <;> refine wk ?_
  all_goals (refine fin ?_)
  all_goals (first | rw [cmpN_lt (by omega)] | rw [cmpN_gt (by omega)] | rw [cmpN_eq (by omega)])
/-- What a sum answers: the number and the error's number; the page's. -/
def sumV (x y : Nat) : V := if x + y < 115792089237316195423570985008687907853269984665640564039457584007913129639936 then ue (x + y) 0 else ue 0 8
def diffV (x y : Nat) : V := if x < y then ue 0 8 else ue (x - y) 0
def rsumV (x y : Nat) : V := if x + y < 115792089237316195423570985008687907853269984665640564039457584007913129639936 then ub (x + y) true else ub 0 false
def rdiffV (x y : Nat) : V := if x < y then ub 0 false else ub (x - y) true
theorem clean_sumV (x y : Nat) : Clean (sumV x y) := by unfold sumV; split <;> exact clean_ue _ _
theorem clean_diffV (x y : Nat) : Clean (diffV x y) := by unfold diffV; split <;> exact clean_ue _ _
theorem clean_rsumV (x y : Nat) : Clean (rsumV x y) := by unfold rsumV; split <;> exact clean_ub _ _
theorem clean_rdiffV (x y : Nat) : Clean (rdiffV x y) := by unfold rdiffV; split <;> exact clean_ub _ _

set_option maxHeartbeats 20000000 in
theorem add_c (x y : Nat) (hx : x < 115792089237316195423570985008687907853269984665640564039457584007913129639936) (hy : y < 115792089237316195423570985008687907853269984665640564039457584007913129639936) : Pure Tryz.prog 131 [uv x, uv y] (sumV x y) := by
  refine pure_ac ?_ (cleans_cons (clean_uv _) (cleans_cons (clean_uv _) cleans_nil)) (clean_sumV _ _)
  obtain ⟨x0, x1, x2, x3, p0, p1, p2, p3, ex, rx⟩ := uv_elim hx
  obtain ⟨y0, y1, y2, y3, q0, q1, q2, q3, ey, ry⟩ := uv_elim hy
  rw [rx, ry]; clear rx ry
  have k0 := addHi_le p0 q0 (Nat.zero_le 1)
  have k1 := addHi_le p1 q1 k0
  have k2 := addHi_le p2 q2 k1
  have c0 := add64_0
  have c1 := add64_c
  (refine enter Tryz.func131 Tryz.results131 Tryz.ntmps131 ty_ok (hw := fun F hF => ?_); simp only [List.length_cons, List.length_nil, Nat.reduceAdd, Nat.reduceSub, List.replicate_succ, List.replicate_zero, List.cons_append, List.nil_append]; apply hF; clear hF F)
  refine wk ?_
  refine aw_rounds 5 ?_
  refine wk ?_
  clear c0 c1
  have key : x + y = num4 (addLo x0 y0 0) (addLo x1 y1 (addHi x0 y0 0)) (addLo x2 y2 (addHi x1 y1 (addHi x0 y0 0))) (addLo x3 y3 (addHi x2 y2 (addHi x1 y1 (addHi x0 y0 0)))) + 115792089237316195423570985008687907853269984665640564039457584007913129639936 * addHi x3 y3 (addHi x2 y2 (addHi x1 y1 (addHi x0 y0 0))) := by
    rw [ex, ey]; unfold num4 addLo addHi; omega
  have lt := num4_lt (addLo_lt x0 y0 0) (addLo_lt x1 y1 (addHi x0 y0 0)) (addLo_lt x2 y2 (addHi x1 y1 (addHi x0 y0 0))) (addLo_lt x3 y3 (addHi x2 y2 (addHi x1 y1 (addHi x0 y0 0))))
  repeat' (first | refine aw_ifd ?_ ?_ | refine aw_ife ?_ ?_ | refine aw_ifne ?_ ?_ | refine aw_ifn ?_ ?_ | refine aw_ifnb ?_ ?_ | refine aw_ifb ?_ ?_) <;> intro hb <;> refine wk ?_
  · refine fin ?_
    rw [show sumV x y = ue 0 8 from if_neg (by omega)]; rfl
  · refine fin ?_
    rw [show sumV x y = ue (x + y) 0 from if_pos (by omega)]
    exact ue_of (k := 0) (addLo_lt _ _ _) (addLo_lt _ _ _) (addLo_lt _ _ _) (addLo_lt _ _ _) (by omega)
set_option maxHeartbeats 20000000 in
theorem sub_c (x y : Nat) (hx : x < 115792089237316195423570985008687907853269984665640564039457584007913129639936) (hy : y < 115792089237316195423570985008687907853269984665640564039457584007913129639936) : Pure Tryz.prog 132 [uv x, uv y] (diffV x y) := by
  refine pure_ac ?_ (cleans_cons (clean_uv _) (cleans_cons (clean_uv _) cleans_nil)) (clean_diffV _ _)
  obtain ⟨x0, x1, x2, x3, p0, p1, p2, p3, ex, rx⟩ := uv_elim hx
  obtain ⟨y0, y1, y2, y3, q0, q1, q2, q3, ey, ry⟩ := uv_elim hy
  rw [rx, ry]; clear rx ry
  have k0 := subHi_le x0 y0 0
  have k1 := subHi_le x1 y1 (subHi x0 y0 0)
  have k2 := subHi_le x2 y2 (subHi x1 y1 (subHi x0 y0 0))
  have c0 := sub64_0
  have c1 := sub64_c
  (refine enter Tryz.func132 Tryz.results132 Tryz.ntmps132 ty_ok (hw := fun F hF => ?_); simp only [List.length_cons, List.length_nil, Nat.reduceAdd, Nat.reduceSub, List.replicate_succ, List.replicate_zero, List.cons_append, List.nil_append]; apply hF; clear hF F)
  refine wk ?_
  refine aw_rounds 5 ?_
  refine wk ?_
  clear c0 c1
  have e0 := sub_eq p0 q0 (Nat.zero_le 1)
  have e1 := sub_eq p1 q1 k0
  have e2 := sub_eq p2 q2 k1
  have e3 := sub_eq p3 q3 k2
  have key : x + 115792089237316195423570985008687907853269984665640564039457584007913129639936 * subHi x3 y3 (subHi x2 y2 (subHi x1 y1 (subHi x0 y0 0))) = num4 (subLo x0 y0 0) (subLo x1 y1 (subHi x0 y0 0)) (subLo x2 y2 (subHi x1 y1 (subHi x0 y0 0))) (subLo x3 y3 (subHi x2 y2 (subHi x1 y1 (subHi x0 y0 0)))) + y := by
    rw [ex, ey]; unfold num4; omega
  have lt := num4_lt (subLo_lt x0 y0 0) (subLo_lt x1 y1 (subHi x0 y0 0)) (subLo_lt x2 y2 (subHi x1 y1 (subHi x0 y0 0))) (subLo_lt x3 y3 (subHi x2 y2 (subHi x1 y1 (subHi x0 y0 0))))
  repeat' (first | refine aw_ifd ?_ ?_ | refine aw_ife ?_ ?_ | refine aw_ifne ?_ ?_ | refine aw_ifn ?_ ?_ | refine aw_ifnb ?_ ?_ | refine aw_ifb ?_ ?_) <;> intro hb <;> refine wk ?_
  · refine fin ?_
    rw [show diffV x y = ue 0 8 from if_pos (by omega)]; rfl
  · refine fin ?_
    rw [show diffV x y = ue (x - y) 0 from if_neg (by omega)]
    exact ue_of (k := 0) (subLo_lt _ _ _) (subLo_lt _ _ _) (subLo_lt _ _ _) (subLo_lt _ _ _) (by omega)
theorem radd_lo (x y : Nat) (c : Nat) : (((x : Int) + y) % 18446744073709551616 + c) % 18446744073709551616 = (addLo x y c : Nat) := by unfold addLo; omega
theorem radd_hi {x y c : Nat} (hx : x < 18446744073709551616) (hy : y < 18446744073709551616) (hc : c ≤ 1) : (if ((((x : Int) + y) % 18446744073709551616 + c) % 18446744073709551616 < ((x : Int) + y) % 18446744073709551616) then (1 : Int) else if ((x : Int) + y) % 18446744073709551616 < x then 1 else 0) = (addHi x y c : Nat) := by
  unfold addHi; split
  · omega
  · split <;> omega
theorem rsub_lo {x y c : Nat} (hx : x < 18446744073709551616) (hy : y < 18446744073709551616) (hc : c ≤ 1) : (((x : Int) - y) % 18446744073709551616 - c) % 18446744073709551616 = (subLo x y c : Nat) := by unfold subLo; omega
theorem rsub_hi {x y c : Nat} (hx : x < 18446744073709551616) (hy : y < 18446744073709551616) (hc : c ≤ 1) : (if (((x : Int) - y) % 18446744073709551616 < c) then (1 : Int) else if (x : Int) < y then 1 else 0) = (subHi x y c : Nat) := by
  unfold subHi; split
  · split <;> omega
  · split <;> split <;> omega

set_option maxHeartbeats 20000000 in
theorem radd_c (x y : Nat) (hx : x < 115792089237316195423570985008687907853269984665640564039457584007913129639936) (hy : y < 115792089237316195423570985008687907853269984665640564039457584007913129639936) : Pure Tryz.prog 25 [uv x, uv y] (rsumV x y) := by
  refine pure_ac ?_ (cleans_cons (clean_uv _) (cleans_cons (clean_uv _) cleans_nil)) (clean_rsumV _ _)
  obtain ⟨x0, x1, x2, x3, p0, p1, p2, p3, ex, rx⟩ := uv_elim hx
  obtain ⟨y0, y1, y2, y3, q0, q1, q2, q3, ey, ry⟩ := uv_elim hy
  rw [rx, ry]; clear rx ry
  have k0 := addHi_le p0 q0 (Nat.zero_le 1)
  have k1 := addHi_le p1 q1 k0
  have k2 := addHi_le p2 q2 k1
  have a0 : ((x0 : Int) + y0) % 18446744073709551616 + 0 = (addLo x0 y0 0 : Nat) := by unfold addLo; omega
  have a1 := radd_lo x1 y1 (addHi x0 y0 0)
  have a2 := radd_lo x2 y2 (addHi x1 y1 (addHi x0 y0 0))
  have a3 := radd_lo x3 y3 (addHi x2 y2 (addHi x1 y1 (addHi x0 y0 0)))
  have c0 : (if ((x0 : Int) + y0) % 18446744073709551616 < x0 then (1 : Int) else 0) = (addHi x0 y0 0 : Nat) := by
    unfold addHi; split <;> omega
  have c1 := radd_hi p1 q1 k0
  have c2 := radd_hi p2 q2 k1
  have c3 := radd_hi p3 q3 k2
  clear hx hy
  (refine enter Tryz.func25 Tryz.results25 Tryz.ntmps25 ty_ok (hw := fun F hF => ?_); simp only [List.length_cons, List.length_nil, Nat.reduceAdd, Nat.reduceSub, List.replicate_succ, List.replicate_zero, List.cons_append, List.nil_append]; apply hF; clear hF F)
  refine wk ?_
  refine aw_rounds 5 ?_
  refine wk ?_
  (apply aw_mux rfl; (focus (intro hb; refine wk ?_; exact here_n)); (focus (intro hb; refine wk ?_; exact here_n)); (focus rfl); (focus rfl); intro F hF; dsimp only [muxS, muxL, muxH, muxB]; simp only [muxV_self, muxV_int, muxV_bool, decide_eq_true_eq, beq_iff_eq]; apply hF; clear hF F)
  (refine aw_fx (fun F hF => ?_); simp only [c0]; apply hF; clear hF F)
  refine wk ?_
  (apply aw_mux rfl; (focus (intro hb; refine wk ?_; exact here_n)); (focus (intro hb; refine wk ?_; exact here_n)); (focus rfl); (focus rfl); intro F hF; dsimp only [muxS, muxL, muxH, muxB]; simp only [muxV_self, muxV_int, muxV_bool, decide_eq_true_eq, beq_iff_eq]; apply hF; clear hF F)
  refine wk ?_
  (apply aw_mux rfl; (focus (intro hb; refine wk ?_; exact here_n)); (focus (intro hb; refine wk ?_; exact here_n)); (focus rfl); (focus rfl); intro F hF; dsimp only [muxS, muxL, muxH, muxB]; simp only [muxV_self, muxV_int, muxV_bool, decide_eq_true_eq, beq_iff_eq]; apply hF; clear hF F)
  (refine aw_fx (fun F hF => ?_); simp only [c1]; apply hF; clear hF F)
  (refine aw_fx (fun F hF => ?_); simp only [a0, a1]; apply hF; clear hF F)
  refine wk ?_
  (apply aw_mux rfl; (focus (intro hb; refine wk ?_; exact here_n)); (focus (intro hb; refine wk ?_; exact here_n)); (focus rfl); (focus rfl); intro F hF; dsimp only [muxS, muxL, muxH, muxB]; simp only [muxV_self, muxV_int, muxV_bool, decide_eq_true_eq, beq_iff_eq]; apply hF; clear hF F)
  refine wk ?_
  (apply aw_mux rfl; (focus (intro hb; refine wk ?_; exact here_n)); (focus (intro hb; refine wk ?_; exact here_n)); (focus rfl); (focus rfl); intro F hF; dsimp only [muxS, muxL, muxH, muxB]; simp only [muxV_self, muxV_int, muxV_bool, decide_eq_true_eq, beq_iff_eq]; apply hF; clear hF F)
  (refine aw_fx (fun F hF => ?_); simp only [c2]; apply hF; clear hF F)
  (refine aw_fx (fun F hF => ?_); simp only [a2]; apply hF; clear hF F)
  refine wk ?_
  (apply aw_mux rfl; (focus (intro hb; refine wk ?_; exact here_n)); (focus (intro hb; refine wk ?_; exact here_n)); (focus rfl); (focus rfl); intro F hF; dsimp only [muxS, muxL, muxH, muxB]; simp only [muxV_self, muxV_int, muxV_bool, decide_eq_true_eq, beq_iff_eq]; apply hF; clear hF F)
  refine wk ?_
  (apply aw_mux rfl; (focus (intro hb; refine wk ?_; exact here_n)); (focus (intro hb; refine wk ?_; exact here_n)); (focus rfl); (focus rfl); intro F hF; dsimp only [muxS, muxL, muxH, muxB]; simp only [muxV_self, muxV_int, muxV_bool, decide_eq_true_eq, beq_iff_eq]; apply hF; clear hF F)
  (refine aw_fx (fun F hF => ?_); simp only [c3]; apply hF; clear hF F)
  (refine aw_fx (fun F hF => ?_); simp only [a3]; apply hF; clear hF F)
  clear a0 a1 a2 a3 c0 c1 c2 c3
  have key : x + y = num4 (addLo x0 y0 0) (addLo x1 y1 (addHi x0 y0 0)) (addLo x2 y2 (addHi x1 y1 (addHi x0 y0 0))) (addLo x3 y3 (addHi x2 y2 (addHi x1 y1 (addHi x0 y0 0)))) + 115792089237316195423570985008687907853269984665640564039457584007913129639936 * addHi x3 y3 (addHi x2 y2 (addHi x1 y1 (addHi x0 y0 0))) := by
    rw [ex, ey]; unfold num4 addLo addHi; omega
  have lt := num4_lt (addLo_lt x0 y0 0) (addLo_lt x1 y1 (addHi x0 y0 0)) (addLo_lt x2 y2 (addHi x1 y1 (addHi x0 y0 0))) (addLo_lt x3 y3 (addHi x2 y2 (addHi x1 y1 (addHi x0 y0 0))))
  refine wk ?_
  repeat' (first | refine aw_ifd ?_ ?_ | refine aw_ife ?_ ?_ | refine aw_ifne ?_ ?_ | refine aw_ifn ?_ ?_ | refine aw_ifnb ?_ ?_ | refine aw_ifb ?_ ?_) <;> intro hb <;> refine wk ?_
  · refine fin ?_
    rw [show rsumV x y = ub 0 false from if_neg (by omega)]; rfl
  · refine fin ?_
    rw [show rsumV x y = ub (x + y) true from if_pos (by omega)]
    exact ub_of (addLo_lt _ _ _) (addLo_lt _ _ _) (addLo_lt _ _ _) (addLo_lt _ _ _) (by omega)
end Go.Abs
/- Len64, Bits, Of: walks. -/
namespace Go.Abs
open Go Go.Proofs

/-- How many bits a number has. -/
def blen (n : Nat) : Nat := if n = 0 then 0 else Nat.log2 n + 1
theorem blen_lt (n : Nat) : n < 2 ^ blen n := by
  unfold blen; split
  · omega
  · rename_i h; exact Nat.lt_log2_self
theorem blen_le {n : Nat} (h : n ≠ 0) : 2 ^ (blen n - 1) ≤ n := by
  unfold blen; rw [if_neg h]; exact Nat.log2_self_le h
theorem blen_unique {n k : Nat} (h1 : n < 2 ^ k) (h2 : k = 0 ∨ 2 ^ (k - 1) ≤ n) : blen n = k := by
  by_cases h0 : n = 0
  · subst h0
    rcases h2 with rfl | h2
    · rfl
    · have := Nat.two_pow_pos (k - 1); omega
  · have a := blen_lt n
    have b := blen_le h0
    have p : 0 < blen n := by unfold blen; rw [if_neg h0]; omega
    have c : k ≠ 0 := by rintro rfl; simp at h1; exact h0 h1
    have d : 2 ^ (k - 1) ≤ n := h2.resolve_left c
    have e : k - 1 < blen n := (Nat.pow_lt_pow_iff_right (by omega : 1 < 2)).1 (Nat.lt_of_le_of_lt d a)
    have f : blen n - 1 < k := (Nat.pow_lt_pow_iff_right (by omega : 1 < 2)).1 (Nat.lt_of_le_of_lt b h1)
    omega
theorem blen_zero : blen 0 = 0 := rfl
theorem blen_pos {n : Nat} (h : n ≠ 0) : 0 < blen n := by unfold blen; rw [if_neg h]; omega
/-- Bits of a number that is shifted. -/
theorem blen_div {n k : Nat} (h : n / 2 ^ k ≠ 0) : blen n = blen (n / 2 ^ k) + k := by
  have a := blen_lt (n / 2 ^ k)
  have b := blen_le h
  have p := blen_pos h
  refine blen_unique ?_ (.inr ?_)
  · rw [Nat.pow_add]
    exact (Nat.div_lt_iff_lt_mul (Nat.two_pow_pos k)).1 a
  · rw [show blen (n / 2 ^ k) + k - 1 = (blen (n / 2 ^ k) - 1) + k from by omega, Nat.pow_add]
    exact (Nat.le_div_iff_mul_le (Nat.two_pow_pos k)).1 b
theorem blen_le_of_lt {n k : Nat} (h : n < 2 ^ k) : blen n ≤ k := by
  by_cases h0 : n = 0
  · subst h0; simp [blen]
  · have b := blen_le h0
    have p := blen_pos h0
    have f : blen n - 1 < k := (Nat.pow_lt_pow_iff_right (by omega : 1 < 2)).1 (Nat.lt_of_le_of_lt b h)
    omega

theorem len8_fin {s : ByteArray} {y : Nat} (hs : (List.range 256).all (fun y => bt s y == blen y) = true) (hy : y < 256) : bt s y = blen y := by
  have := List.all_eq_true.1 hs y (List.mem_range.2 hy)
  simpa using this
theorem len_leaf {x k m : Nat} {e n : Int} (hm : blen (Int.toNat e) = m) (he : e = (x / 2 ^ k : Nat)) (hn : n = k) (hk : k = 0 ∨ x / 2 ^ k ≠ 0) : n + (m : Nat) = blen x := by
  subst hm; subst he; subst hn
  simp only [Int.toNat_natCast]
  rcases hk with rfl | hk
  · simp
  · rw [blen_div hk]; omega
theorem blen_high {n k m : Nat} (h : n / 2 ^ k = m) (hm : m ≠ 0) : blen n = blen m + k := by subst h; exact blen_div hm

/-- A look into the table of lengths. -/
theorem st_len8 {L : List FuncId} {ops : Array Oper} {os : List Oper} {t : List V} {h : List HB} {K : St → Prop} {xt : TypeId} {o : Operand} {d : Option Tmp} {a : TypeId} {b : String} {c : Array Edge} {s : ByteArray} {k : IntKind} {e : Int} {i : Ty}
    (hs : (List.range 256).all (fun y => bt s y == blen y) = true) (hz : (256 : Int) = s.size) (hx : ty xt = some i) (hi : i.desc = .string) (ho : ev t o = .int k e) (h0 : 0 ≤ e ∧ e < 256)
    (kk : ∀ m : Nat, m ≤ 8 → blen e.toNat = m → ∀ F : St → Prop, (∀ s, ASeq Tryz.prog ty L ops os s K → F s) → F ⟨put t d (.int .u8 m), h⟩) : ASeq Tryz.prog ty L ops (⟨d, .index xt (.const (.string s)) o, a, b, c, none⟩ :: os) ⟨t, h⟩ K := by
  have e1 : bt s e.toNat = blen e.toNat := len8_fin hs (by omega)
  refine st_op (p := 0 ≤ e ∧ e < s.size) (v := .int .u8 (bt s e.toNat)) (h' := h) ?_ ⟨h0.1, by omega⟩ ?_
  · simp only [aop, hx, Option.bind_some, aIndex, ho, hi]; rfl
  · rw [e1]; exact kk _ (blen_le_of_lt (k := 8) (by simp only [Nat.reducePow]; omega)) rfl _ fun _ h => h

set_option maxHeartbeats 20000000 in
theorem len64_c (x : Nat) (hx : x < 18446744073709551616) : Pure Tryz.prog 195 [.int .u64 x] (.int .i64 (blen x)) := by
  refine pure_ac ?_ (cleans_cons (.int _ _) cleans_nil) (.int _ _)
  (refine enter Tryz.func195 Tryz.results195 Tryz.ntmps195 ty_ok (hw := fun F hF => ?_); simp only [List.length_cons, List.length_nil, Nat.reduceAdd, Nat.reduceSub, List.replicate_succ, List.replicate_zero, List.cons_append, List.nil_append]; apply hF; clear hF F)
  refine wk ?_
  repeat' (first | refine aw_ifd ?_ ?_ | refine aw_ife ?_ ?_ | refine aw_ifne ?_ ?_ | refine aw_ifn ?_ ?_ | refine aw_ifnb ?_ ?_ | refine aw_ifb ?_ ?_) <;> intro hb <;> refine wk ?_
  all_goals (refine st_len8 (by kernel_rfl) (by kernel_rfl) rfl rfl rfl ⟨by omega, by omega⟩ (fun m hm8 hm F hF => ?_); dsimp only [put, ev, ofC, ofS, one, List.set_cons_zero, List.set_cons_succ, nth, List.getElem?_cons_zero, List.getElem?_cons_succ, List.length_cons, List.length_nil, List.length_set, List.nil_append, List.cons_append, binInt, shiftOp, aUn, Option.map_some, Option.bind_some, Nat.reduceAdd, Nat.reduceSub, Nat.reduceMul, Int.reduceAdd, Int.reduceSub, Int.reduceMul, Int.reduceNeg, Int.reduceToNat, List.drop_zero, List.drop_succ_cons, List.take_succ_cons, List.take_zero, List.map_cons, List.map_nil, List.replicate_succ, List.replicate_zero, List.flatten_cons, List.flatten_nil, splice, partOf, aggD, Option.getD_some, reduceIte, Bool.not_true, Bool.not_false, V.cells?, Nat.zero_add, Nat.add_zero, Int.toNat_natCast, Nat.reducePow, Int.reducePow, IntKind.bits]; apply hF; clear hF F)
  all_goals (refine wk ?_; refine fin ?_; refine congrArg (V.int _) ?_)
  all_goals (first | exact len_leaf (k := 56) hm (by simp only [Nat.reducePow]; omega) (by omega) (by simp only [Nat.reducePow]; omega) | exact len_leaf (k := 48) hm (by simp only [Nat.reducePow]; omega) (by omega) (by simp only [Nat.reducePow]; omega) | exact len_leaf (k := 40) hm (by simp only [Nat.reducePow]; omega) (by omega) (by simp only [Nat.reducePow]; omega) | exact len_leaf (k := 32) hm (by simp only [Nat.reducePow]; omega) (by omega) (by simp only [Nat.reducePow]; omega) | exact len_leaf (k := 24) hm (by simp only [Nat.reducePow]; omega) (by omega) (by simp only [Nat.reducePow]; omega) | exact len_leaf (k := 16) hm (by simp only [Nat.reducePow]; omega) (by omega) (by simp only [Nat.reducePow]; omega) | exact len_leaf (k := 8) hm (by simp only [Nat.reducePow]; omega) (by omega) (by simp only [Nat.reducePow]; omega) | (exact len_leaf (k := 0) hm (by simp only [Nat.pow_zero, Nat.div_one]) (by omega) (.inl rfl)))
set_option maxHeartbeats 20000000 in
theorem bits_c (x : Nat) (hx : x < 115792089237316195423570985008687907853269984665640564039457584007913129639936) : Pure Tryz.prog 197 [uv x] (.int .i64 (blen x)) := by
  refine pure_ac ?_ (cleans_cons (clean_uv _) cleans_nil) (.int _ _)
  obtain ⟨a, b, c, d, p0, p1, p2, p3, ex, rx⟩ := uv_elim hx
  have hl := limbs_c a b c d
  have c0 := len64_c
  rw [rx]; clear rx
  unfold num4 at ex
  by_cases hd : d = 0
  · by_cases hc : c = 0
    · by_cases hb : b = 0
      · by_cases ha : a = 0
        · rw [show lims a b c d = 0 from by simp [lims, hd, hc, hb, ha]] at hl
          (refine enter Tryz.func197 Tryz.results197 Tryz.ntmps197 ty_ok (hw := fun F hF => ?_); simp only [List.length_cons, List.length_nil, Nat.reduceAdd, Nat.reduceSub, List.replicate_succ, List.replicate_zero, List.cons_append, List.nil_append]; apply hF; clear hF F)
          refine wk ?_
          refine fin ?_
          rw [show x = 0 from by omega]; rfl
        · rw [show lims a b c d = 1 from by simp [lims, hd, hc, hb, ha]] at hl
          have hb := blen_high (n := x) (k := 0) (m := a) (by simp only [Nat.reducePow]; omega) ha
          have hb8 := blen_le_of_lt (n := a) (k := 64) (by simp only [Nat.reducePow]; omega)
          (refine enter Tryz.func197 Tryz.results197 Tryz.ntmps197 ty_ok (hw := fun F hF => ?_); simp only [List.length_cons, List.length_nil, Nat.reduceAdd, Nat.reduceSub, List.replicate_succ, List.replicate_zero, List.cons_append, List.nil_append]; apply hF; clear hF F)
          refine wk ?_
          refine fin ?_
          exact congrArg (V.int _) (by omega)
      · rw [show lims a b c d = 2 from by simp [lims, hd, hc, hb]] at hl
        have hb := blen_high (n := x) (k := 64) (m := b) (by simp only [Nat.reducePow]; omega) hb
        have hb8 := blen_le_of_lt (n := b) (k := 64) (by simp only [Nat.reducePow]; omega)
        (refine enter Tryz.func197 Tryz.results197 Tryz.ntmps197 ty_ok (hw := fun F hF => ?_); simp only [List.length_cons, List.length_nil, Nat.reduceAdd, Nat.reduceSub, List.replicate_succ, List.replicate_zero, List.cons_append, List.nil_append]; apply hF; clear hF F)
        refine wk ?_
        refine fin ?_
        exact congrArg (V.int _) (by omega)
    · rw [show lims a b c d = 3 from by simp [lims, hd, hc]] at hl
      have hb := blen_high (n := x) (k := 128) (m := c) (by simp only [Nat.reducePow]; omega) hc
      have hb8 := blen_le_of_lt (n := c) (k := 64) (by simp only [Nat.reducePow]; omega)
      (refine enter Tryz.func197 Tryz.results197 Tryz.ntmps197 ty_ok (hw := fun F hF => ?_); simp only [List.length_cons, List.length_nil, Nat.reduceAdd, Nat.reduceSub, List.replicate_succ, List.replicate_zero, List.cons_append, List.nil_append]; apply hF; clear hF F)
      refine wk ?_
      refine fin ?_
      exact congrArg (V.int _) (by omega)
  · rw [show lims a b c d = 4 from by simp [lims, hd]] at hl
    have hb := blen_high (n := x) (k := 192) (m := d) (by simp only [Nat.reducePow]; omega) hd
    have hb8 := blen_le_of_lt (n := d) (k := 64) (by simp only [Nat.reducePow]; omega)
    (refine enter Tryz.func197 Tryz.results197 Tryz.ntmps197 ty_ok (hw := fun F hF => ?_); simp only [List.length_cons, List.length_nil, Nat.reduceAdd, Nat.reduceSub, List.replicate_succ, List.replicate_zero, List.cons_append, List.nil_append]; apply hF; clear hF F)
    refine wk ?_
    refine fin ?_
    exact congrArg (V.int _) (by omega)
theorem of_c (n : Int) (h0 : 0 ≤ n) (hn : n < 9223372036854775808) : Pure Tryz.prog 214 [.int .i64 n] (ue n.toNat 0) := by
  refine pure_ac ?_ (cleans_cons (.int _ _) cleans_nil) (clean_ue _ _)
  (refine enter Tryz.func214 Tryz.results214 Tryz.ntmps214 ty_ok (hw := fun F hF => ?_); simp only [List.length_cons, List.length_nil, Nat.reduceAdd, Nat.reduceSub, List.replicate_succ, List.replicate_zero, List.cons_append, List.nil_append]; apply hF; clear hF F)
  refine wk ?_
  refine fin ?_
  rw [show n = ((n.toNat : Nat) : Int) from by omega]
  exact ue_of (b := 0) (c := 0) (d := 0) (k := 0) (by omega) (by omega) (by omega) (by omega) (by unfold num4; omega)
theorem of_neg (n : Int) (h0 : n < 0) : Pure Tryz.prog 214 [.int .i64 n] (ue 0 1) := by
  refine pure_ac ?_ (cleans_cons (.int _ _) cleans_nil) (clean_ue _ _)
  (refine enter Tryz.func214 Tryz.results214 Tryz.ntmps214 ty_ok (hw := fun F hF => ?_); simp only [List.length_cons, List.length_nil, Nat.reduceAdd, Nat.reduceSub, List.replicate_succ, List.replicate_zero, List.cons_append, List.nil_append]; apply hF; clear hF F)
  refine wk ?_
  refine fin ?_
  rfl
/-- One limb of four. -/
theorem nth_limbs (x : Nat) {j : Nat} (h : j < 4) : nth [.int .u64 (lb x 0), .int .u64 (lb x 1), .int .u64 (lb x 2), .int .u64 (lb x 3)] j = .int .u64 (lb x j) := by
  have : j = 0 ∨ j = 1 ∨ j = 2 ∨ j = 3 := by omega
  rcases this with rfl | rfl | rfl | rfl <;> rfl
theorem lb_shift (x i : Nat) (m : Nat) (hm : m ≤ 64 - i % 64) : lb x (i / 64) / 2 ^ (i % 64) % 2 ^ m = x / 2 ^ i % 2 ^ m := by
  unfold lb
  have e : x / 2 ^ i = x / 18446744073709551616 ^ (i / 64) / 2 ^ (i % 64) := by
    rw [Nat.div_div_eq_div_mul, show (18446744073709551616 : Nat) = 2 ^ 64 from by decide, ← Nat.pow_mul, ← Nat.pow_add]
    congr 2; omega
  rw [e]
  generalize x / 18446744073709551616 ^ (i / 64) = y
  rw [show (18446744073709551616 : Nat) = 2 ^ (i % 64) * 2 ^ (64 - i % 64) from by rw [← Nat.pow_add]; rw [show i % 64 + (64 - i % 64) = 64 from by omega], Nat.mod_mul_right_div_self]
  exact Nat.mod_mod_of_dvd _ (Nat.pow_dvd_pow 2 hm)
/-- The lowest bit. -/
theorem and_one {x : Int} (h0 : 0 ≤ x) (h : x < 18446744073709551616) : bitsOp .and .u64 x 1 = x % 2 := by
  obtain ⟨n, rfl⟩ := Int.eq_ofNat_of_zero_le h0
  have hn : n < 2 ^ 64 := by simp only [Nat.reducePow]; omega
  show IntKind.wrap .u64 (((BitVec.ofInt 64 (n : Int) &&& BitVec.ofInt 64 1).toNat : Nat) : Int) = _
  rw [BitVec.toNat_and, BitVec.toNat_ofInt, BitVec.toNat_ofInt]
  have e1 : (((n : Nat) : Int) % ((2 ^ 64 : Nat) : Int)).toNat = n := by omega
  have e2 : ((1 : Int) % ((2 ^ 64 : Nat) : Int)).toNat = 1 := by decide
  rw [e1, e2, Nat.and_one_is_mod, wu64 (by omega)]
  omega

theorem bit_of (x n : Nat) : bitsOp .and .u64 ((lb x (n / 64) : Int) / 2 ^ (n % 64)) 1 = ((x / 2 ^ n % 2 : Nat) : Int) := by
  have hl := lb_lt x (n / 64)
  have hs := lb_shift x n 1 (by omega)
  have e : (lb x (n / 64) : Int) / 2 ^ (n % 64) = ((lb x (n / 64) / 2 ^ (n % 64) : Nat) : Int) := by simp
  have hlt : lb x (n / 64) / 2 ^ (n % 64) < 18446744073709551616 := Nat.lt_of_le_of_lt (Nat.div_le_self _ _) hl
  rw [e]
  generalize lb x (n / 64) / 2 ^ (n % 64) = q at hs hlt
  generalize x / 2 ^ n = y at hs ⊢
  rw [and_one (by omega) (by omega)]
  rw [Nat.pow_one] at hs
  omega

end Go.Abs
