/- Numbers of 256 bits as values; sums and differences with a carry: the model's own. -/
import Derived.Test.YtpaehjjkfjgfiaaA15
import Derived.Laws.Externs
set_option linter.unusedVariables false
set_option linter.unusedSimpArgs false
namespace Go.Abs
open Go Go.Proofs

/-- Four limbs. -/
@[reducible] def uvl (a b c d : Nat) : V := .agg [.int .u64 a, .int .u64 b, .int .u64 c, .int .u64 d]
/-- A limb of a number. -/
def lb (n i : Nat) : Nat := n / 18446744073709551616 ^ i % 18446744073709551616
/-- The cells of a number. -/
@[reducible] def uvc (n : Nat) : List V := [.int .u64 (lb n 0), .int .u64 (lb n 1), .int .u64 (lb n 2), .int .u64 (lb n 3)]
@[reducible] def uv (n : Nat) : V := .agg (uvc n)
instance rows_uvc : Rows uvc 4 where
  len := fun _ => rfl
  clean := fun _ => cleans_cons (.int _ _) (cleans_cons (.int _ _) (cleans_cons (.int _ _) (cleans_cons (.int _ _) cleans_nil)))
  one := fun n v h => by simp [uvc] at h; rcases h with h | h | h | h <;> subst h <;> rfl
/-- The cells of numbers, one behind the other. -/
abbrev fl (ns : List Nat) : List V := flat uvc ns

theorem clean_uvl (a b c d : Nat) : Clean (uvl a b c d) := clean_agg (cleans_cons (.int _ _) (cleans_cons (.int _ _) (cleans_cons (.int _ _) (cleans_cons (.int _ _) cleans_nil))))
theorem clean_uv (n : Nat) : Clean (uv n) := clean_agg (rows_uvc.clean n)

theorem lb_lt (n i : Nat) : lb n i < 18446744073709551616 := Nat.mod_lt _ (by omega)

/-- The number of four limbs. -/
def num4 (a b c d : Nat) : Nat := a + 18446744073709551616 * (b + 18446744073709551616 * (c + 18446744073709551616 * d))
theorem uv_num4 {a b c d : Nat} (ha : a < 18446744073709551616) (hb : b < 18446744073709551616) (hc : c < 18446744073709551616) (hd : d < 18446744073709551616) : uvl a b c d = uv (num4 a b c d) := by
  have e0 : lb (num4 a b c d) 0 = a := by unfold lb num4; omega
  have e1 : lb (num4 a b c d) 1 = b := by unfold lb num4; omega
  have e2 : lb (num4 a b c d) 2 = c := by unfold lb num4; simp only [Nat.reducePow]; omega
  have e3 : lb (num4 a b c d) 3 = d := by unfold lb num4; simp only [Nat.reducePow]; omega
  unfold uv uvc; rw [e0, e1, e2, e3]
theorem num4_lb {n : Nat} (h : n < 115792089237316195423570985008687907853269984665640564039457584007913129639936) : num4 (lb n 0) (lb n 1) (lb n 2) (lb n 3) = n := by
  unfold lb num4; simp only [Nat.reducePow, Nat.pow_zero, Nat.pow_one, Nat.div_one]; omega
theorem num4_lt {a b c d : Nat} (ha : a < 18446744073709551616) (hb : b < 18446744073709551616) (hc : c < 18446744073709551616) (hd : d < 18446744073709551616) :
    num4 a b c d < 115792089237316195423570985008687907853269984665640564039457584007913129639936 := by unfold num4; omega

/-! ### Add64, Sub64: the model's own -/

theorem pure_extern {f : FuncId} {args : List V} {r : V} {vs : Array Value} {x : Value} (ha : ∀ (ρ : Rho) (I : Nat → Prop) (w : World) (us : Array Value), args.length = us.size → (∀ (i : Nat) (v : V) (y : Value), args[i]? = some v → us[i]? = some y → RV ρ I w v y) → us = vs)
    (hx : ∀ w, (callFunc f vs).run Try.prog w = .ok (.value x) w) (hr : ∀ ρ I w, RV ρ I w r x) : Pure Try.prog f args r := by
  intro h ρ I w us hl hv H
  rw [ha ρ I w us hl hv]
  exact .inr ⟨x, w, hx w, r, h, ρ, I, ⟨rfl, rfl⟩, hr ρ I w, H, Keep.refl _ _ _ _⟩

theorem three_ints {k : IntKind} {a b c : Int} {ρ : Rho} {I : Nat → Prop} {w : World} {us : Array Value} (hl : [V.int k a, V.int k b, V.int k c].length = us.size)
    (hv : ∀ (i : Nat) (v : V) (y : Value), [V.int k a, V.int k b, V.int k c][i]? = some v → us[i]? = some y → RV ρ I w v y) : us = #[.int k a, .int k b, .int k c] := by
  obtain ⟨l⟩ := us
  match l, hl, hv with
  | [x, y, z], _, hv =>
    have h0 := hv 0 _ x rfl rfl
    have h1 := hv 1 _ y rfl rfl
    have h2 := hv 2 _ z rfl rfl
    cases h0; cases h1; cases h2; rfl

def addLo (x y c : Nat) : Nat := (x + y + c) % 18446744073709551616
def addHi (x y c : Nat) : Nat := (x + y + c) / 18446744073709551616
def subLo (x y b : Nat) : Nat := (x + 18446744073709551616 - y - b) % 18446744073709551616
def subHi (x y b : Nat) : Nat := if x < y + b then 1 else 0

def add64E : Array Value → Sem Value := fun args => do
  let (x, y, c) ← Extern.MathBitsCarry.three "Add64" args
  pure (Extern.MathBitsCarry.pair ((x + y + c) % Extern.MathBitsCarry.m64) ((x + y + c) / Extern.MathBitsCarry.m64))
def sub64E : Array Value → Sem Value := fun args => do
  let (x, y, b) ← Extern.MathBitsCarry.three "Sub64" args
  pure (Extern.MathBitsCarry.pair ((x + Extern.MathBitsCarry.m64 - y - b) % Extern.MathBitsCarry.m64) (if x < y + b then 1 else 0))

theorem add64_c (x y c : Nat) (hc : c ≤ 1) : Pure Try.prog 60 [.int .u64 x, .int .u64 y, .int .u64 c] (.tup [.int .u64 (addLo x y c), .int .u64 (addHi x y c)]) := by
  refine pure_extern (vs := #[.int .u64 x, .int .u64 y, .int .u64 c]) (x := .tuple #[.int .u64 (addLo x y c), .int .u64 (addHi x y c)]) (fun ρ I w us hl hv => three_ints hl hv) (fun w => ?_) (fun ρ I w => .tup rfl ?_)
  · rw [run_callFunc_extern Try.func60 (by kernel_rfl) (by kernel_rfl) (by kernel_rfl) (e := add64E) (by kernel_rfl)]
    have : c = 0 ∨ c = 1 := by omega
    rcases this with rfl | rfl <;> rfl
  · intro i v y h1 h2
    match i with
    | 0 => simp at h1 h2; subst h1; subst h2; exact .int _ _
    | 1 => simp at h1 h2; subst h1; subst h2; exact .int _ _
    | i + 2 => simp at h1
theorem add64_0 (x y : Nat) : Pure Try.prog 60 [.int .u64 x, .int .u64 y, .int .u64 0] (.tup [.int .u64 (addLo x y 0), .int .u64 (addHi x y 0)]) := add64_c x y 0 (Nat.zero_le 1)
theorem sub64_c (x y c : Nat) (hc : c ≤ 1) : Pure Try.prog 72 [.int .u64 x, .int .u64 y, .int .u64 c] (.tup [.int .u64 (subLo x y c), .int .u64 (subHi x y c)]) := by
  refine pure_extern (vs := #[.int .u64 x, .int .u64 y, .int .u64 c]) (x := .tuple #[.int .u64 (subLo x y c), .int .u64 (subHi x y c)]) (fun ρ I w us hl hv => three_ints hl hv) (fun w => ?_) (fun ρ I w => .tup rfl ?_)
  · rw [run_callFunc_extern Try.func72 (by kernel_rfl) (by kernel_rfl) (by kernel_rfl) (e := sub64E) (by kernel_rfl)]
    have : c = 0 ∨ c = 1 := by omega
    rcases this with rfl | rfl <;> rfl
  · intro i v y h1 h2
    match i with
    | 0 => simp at h1 h2; subst h1; subst h2; exact .int _ _
    | 1 => simp at h1 h2; subst h1; subst h2; exact .int _ _
    | i + 2 => simp at h1
theorem sub64_0 (x y : Nat) : Pure Try.prog 72 [.int .u64 x, .int .u64 y, .int .u64 0] (.tup [.int .u64 (subLo x y 0), .int .u64 (subHi x y 0)]) := sub64_c x y 0 (Nat.zero_le 1)

theorem uv_elim {n : Nat} (h : n < 115792089237316195423570985008687907853269984665640564039457584007913129639936) : ∃ a b c d, a < 18446744073709551616 ∧ b < 18446744073709551616 ∧ c < 18446744073709551616 ∧ d < 18446744073709551616 ∧ n = num4 a b c d ∧ uv n = .agg [.int .u64 a, .int .u64 b, .int .u64 c, .int .u64 d] :=
  ⟨lb n 0, lb n 1, lb n 2, lb n 3, lb_lt _ _, lb_lt _ _, lb_lt _ _, lb_lt _ _, (num4_lb h).symm, rfl⟩
theorem addHi_le {x y c : Nat} (hx : x < 18446744073709551616) (hy : y < 18446744073709551616) (hc : c ≤ 1) : addHi x y c ≤ 1 := by unfold addHi; omega
theorem addLo_lt (x y c : Nat) : addLo x y c < 18446744073709551616 := Nat.mod_lt _ (by omega)
theorem subHi_le (x y c : Nat) : subHi x y c ≤ 1 := by unfold subHi; split <;> omega
theorem subLo_lt (x y c : Nat) : subLo x y c < 18446744073709551616 := Nat.mod_lt _ (by omega)
theorem sub_eq {x y c : Nat} (hx : x < 18446744073709551616) (hy : y < 18446744073709551616) (hc : c ≤ 1) : x + 18446744073709551616 * subHi x y c = subLo x y c + y + c := by unfold subHi subLo; split <;> omega
theorem add_eq (x y c : Nat) : x + y + c = addLo x y c + 18446744073709551616 * addHi x y c := by unfold addHi addLo; omega

def errV (n : Nat) : V := .int .i64 n
/-- A number and an error's number. -/
def ue (n k : Nat) : V := .tup [uv n, errV k]
def ub (n : Nat) (b : Bool) : V := .tup [uv n, .bool b]
theorem clean_ue (n k : Nat) : Clean (ue n k) := clean_tup (cleans_cons (clean_uv _) (cleans_cons (.int _ _) cleans_nil))
theorem clean_ub (n : Nat) (b : Bool) : Clean (ub n b) := clean_tup (cleans_cons (clean_uv _) (cleans_cons (.bool _) cleans_nil))
theorem uv_congr {a b c d n : Nat} (ha : a < 18446744073709551616) (hb : b < 18446744073709551616) (hc : c < 18446744073709551616) (hd : d < 18446744073709551616) (h : num4 a b c d = n) : V.agg [.int .u64 a, .int .u64 b, .int .u64 c, .int .u64 d] = uv n := by
  rw [← h]; exact uv_num4 ha hb hc hd

theorem ue_of {a b c d n k : Nat} (ha : a < 18446744073709551616) (hb : b < 18446744073709551616) (hc : c < 18446744073709551616) (hd : d < 18446744073709551616) (h : num4 a b c d = n) : V.tup [V.agg [.int .u64 a, .int .u64 b, .int .u64 c, .int .u64 d], .int .i64 k] = ue n k := by
  rw [uv_congr ha hb hc hd h]; rfl
theorem ub_of {a b c d n : Nat} {k : Bool} (ha : a < 18446744073709551616) (hb : b < 18446744073709551616) (hc : c < 18446744073709551616) (hd : d < 18446744073709551616) (h : num4 a b c d = n) : V.tup [V.agg [.int .u64 a, .int .u64 b, .int .u64 c, .int .u64 d], .bool k] = ub n k := by
  rw [uv_congr ha hb hc hd h]; rfl
theorem ue_zero (k : Nat) : V.tup [V.agg [.int .u64 0, .int .u64 0, .int .u64 0, .int .u64 0], .int .i64 k] = ue 0 k := rfl
theorem ub_zero (k : Bool) : V.tup [V.agg [.int .u64 0, .int .u64 0, .int .u64 0, .int .u64 0], .bool k] = ub 0 k := rfl

/-- Which one is greater. -/
def cmpN (a b : Nat) : Int := if a < b then -1 else if b < a then 1 else 0
theorem cmpN_lt {a b : Nat} (h : a < b) : cmpN a b = -1 := if_pos h
theorem cmpN_gt {a b : Nat} (h : b < a) : cmpN a b = 1 := by unfold cmpN; rw [if_neg (by omega), if_pos h]
theorem cmpN_eq {a b : Nat} (h : a = b) : cmpN a b = 0 := by unfold cmpN; rw [if_neg (by omega), if_neg (by omega)]
theorem cmpN_cases (a b : Nat) : (a < b ∧ cmpN a b = -1) ∨ (b < a ∧ cmpN a b = 1) ∨ (a = b ∧ cmpN a b = 0) := by
  rcases Nat.lt_trichotomy a b with h | h | h
  · exact .inl ⟨h, cmpN_lt h⟩
  · exact .inr (.inr ⟨h, cmpN_eq h⟩)
  · exact .inr (.inl ⟨h, cmpN_gt h⟩)
end Go.Abs
