/- The abstract machine, part 12: both ways of a branch at once; lookups at a place that is a number; remainders. -/
import Derived.Test.YtpaehjjkfjgfiaaA11
set_option linter.unusedVariables false
set_option linter.unusedSimpArgs false
namespace Go.Abs
open Go Go.RowKit

/-- One value or the other. -/
def muxV (b : Bool) (x y : V) : V := match b with
  | true => x
  | false => y
def muxL (b : Bool) : List V → List V → List V
  | x :: xs, y :: ys => muxV b x y :: muxL b xs ys
  | _, _ => []
def muxB (b : Bool) : HB → HB → HB
  | .live xs, .live ys => .live (muxL b xs ys)
  | _, _ => .dead
def muxH (b : Bool) : List HB → List HB → List HB
  | x :: xs, y :: ys => muxB b x y :: muxH b xs ys
  | _, _ => []
def sameB : HB → HB → Bool
  | .live xs, .live ys => xs.length == ys.length
  | .dead, .dead => true
  | _, _ => false
def sameH : List HB → List HB → Bool
  | [], [] => true
  | x :: xs, y :: ys => sameB x y && sameH xs ys
  | _, _ => false
def muxS (b : Bool) (s1 s2 : St) : St := ⟨muxL b s1.t s2.t, muxH b s1.h s2.h⟩

theorem muxV_self (b : Bool) (x : V) : muxV b x x = x := by cases b <;> rfl
theorem muxV_int (b : Bool) (k : IntKind) (m n : Int) : muxV b (.int k m) (.int k n) = .int k (if b = true then m else n) := by cases b <;> rfl
theorem muxV_bool (b : Bool) (m n : Bool) : muxV b (.bool m) (.bool n) = .bool (if b = true then m else n) := by cases b <;> rfl
theorem muxL_agg (b : Bool) (x y : List V) (h : x.length = y.length) : muxV b (.agg x) (.agg y) = .agg (muxL b x y) := by
  have : ∀ (x y : List V), x.length = y.length → muxL b x y = (match b with | true => x | false => y) := by
    intro x
    induction x with
    | nil => intro y h; cases y with
      | nil => cases b <;> rfl
      | cons => simp at h
    | cons a x ih =>
      intro y h
      cases y with
      | nil => simp at h
      | cons c y =>
        simp only [muxL, ih y (by simpa using h)]
        cases b <;> rfl
  rw [this x y h]; cases b <;> rfl

theorem muxL_eq (b : Bool) : ∀ (x y : List V), x.length = y.length → muxL b x y = (match b with | true => x | false => y) := by
  intro x
  induction x with
  | nil => intro y h; cases y with
    | nil => cases b <;> rfl
    | cons => simp at h
  | cons a x ih =>
    intro y h
    cases y with
    | nil => simp at h
    | cons c y =>
      simp only [muxL, ih y (by simpa using h)]
      cases b <;> rfl
theorem muxH_eq (b : Bool) : ∀ (x y : List HB), sameH x y = true → muxH b x y = (match b with | true => x | false => y) := by
  intro x
  induction x with
  | nil => intro y h; cases y with
    | nil => cases b <;> rfl
    | cons => simp [sameH] at h
  | cons a x ih =>
    intro y h
    cases y with
    | nil => simp [sameH] at h
    | cons c y =>
      simp only [sameH, Bool.and_eq_true] at h
      simp only [muxH, ih y h.2]
      have : muxB b a c = (match b with | true => a | false => c) := by
        cases a <;> cases c <;> simp only [sameB] at h <;> first
          | (cases b <;> rfl)
          | exact absurd h.1 (by decide)
          | (simp only [muxB]; rw [muxL_eq b _ _ (by simpa using h.1)]; cases b <;> rfl)
      rw [this]; cases b <;> rfl

section
variable {P : Program} {N : Nat} {Q : Exit → St → Prop} {s : St}

/-- Where a piece ends: here. -/
def Here (s1 : St) : Exit → St → Prop := fun e s => e = .normal ∧ s = s1
theorem here_n {s1 : St} : Here s1 .normal s1 := ⟨rfl, rfl⟩

theorem muxS_eq {b : Bool} {s1 s2 : St} (hl : s1.t.length = s2.t.length) (hh : sameH s1.h s2.h = true) : muxS b s1 s2 = (match b with | true => s1 | false => s2) := by
  unfold muxS
  rw [muxL_eq _ _ _ hl, muxH_eq _ _ _ hh]
  cases b <;> rfl

/-- **Both ways of a branch.** -/
theorem aw_mux {c : Operand} {x y : Code} {b : Bool} {s1 s2 : St} (hc : ev s.t c = .bool b) (hx : b = true → AW P N x (Here s1) s) (hy : b = false → AW P N y (Here s2) s) (hl : s1.t.length = s2.t.length) (hh : sameH s1.h s2.h = true)
    (k : ∀ F : St → Prop, (∀ s, Q .normal s → F s) → F (muxS b s1 s2)) : AW P N (.cond c x y) Q s := by
  have k := k _ fun _ h => h
  rw [muxS_eq hl hh] at k
  cases b with
  | true => exact aw_condT hc rfl ((hx rfl).mono fun e s ⟨h1, h2⟩ => by rw [h1, h2]; exact k)
  | false => exact aw_condF hc rfl ((hy rfl).mono fun e s ⟨h1, h2⟩ => by rw [h1, h2]; exact k)
end

section
variable {P : Program} {ty : Tab} {L : List FuncId} {ops : Array Oper} {os : List Oper} {t : List V} {h : List HB} {K : St → Prop}
variable {op : Op} {d : Option Tmp} {a : TypeId} {b : String} {c : Array Edge} {j : Nat} {q : Tmp} {g : Bool}
theorem st_gyT (hj : (ops[j]?).bind (·.dst) = some q) (hq : t[q]? = some (.bool g)) (hg : g = true) (k : ASeq P ty L ops (⟨d, op, a, b, c, none⟩ :: os) ⟨t, h⟩ K) : ASeq P ty L ops (⟨d, op, a, b, c, some (j, true)⟩ :: os) ⟨t, h⟩ K := st_gy hj hq hg k
theorem st_gyF (hj : (ops[j]?).bind (·.dst) = some q) (hq : t[q]? = some (.bool g)) (hg : g = false) (k : ASeq P ty L ops (⟨d, op, a, b, c, none⟩ :: os) ⟨t, h⟩ K) : ASeq P ty L ops (⟨d, op, a, b, c, some (j, false)⟩ :: os) ⟨t, h⟩ K := st_gy hj hq hg k
theorem st_gnT (hj : (ops[j]?).bind (·.dst) = some q) (hq : t[q]? = some (.bool g)) (hg : g = false) (k : ∀ F : St → Prop, (∀ s, ASeq P ty L ops os s K → F s) → F ⟨put t d udf, h⟩) : ASeq P ty L ops (⟨d, op, a, b, c, some (j, true)⟩ :: os) ⟨t, h⟩ K := st_gn hj hq hg k
theorem st_gnF (hj : (ops[j]?).bind (·.dst) = some q) (hq : t[q]? = some (.bool g)) (hg : g = true) (k : ∀ F : St → Prop, (∀ s, ASeq P ty L ops os s K → F s) → F ⟨put t d udf, h⟩) : ASeq P ty L ops (⟨d, op, a, b, c, some (j, false)⟩ :: os) ⟨t, h⟩ K := st_gn hj hq hg k
end

theorem aw_fx {P : Program} {N : Nat} {Q : Exit → St → Prop} {s : St} {c : Code} (k : ∀ F : St → Prop, (∀ s, AW P N c Q s → F s) → F s) : AW P N c Q s := k _ fun _ h => h

/-! ### Numbers -/
theorem shr_min (a : Int) {n m : Nat} (h : n ≤ m) : a.fdiv (2 ^ min n m) = a / 2 ^ n := by
  rw [Nat.min_eq_left h, Int.fdiv_eq_ediv_of_nonneg _ (Int.le_of_lt (Int.pow_pos (by omega)))]
theorem shl_min (a : Int) {n m : Nat} (h : n ≤ m) : a * 2 ^ min n m = a * 2 ^ n := by
  rw [Nat.min_eq_left h]
theorem wu64m (n : Int) : IntKind.wrap .u64 n = n % 18446744073709551616 := by
  simp only [IntKind.wrap, IntKind.bits, IntKind.signed, Bool.false_and, Bool.false_eq_true, if_false, Nat.reducePow, Int.reducePow]
  first | done | rfl
theorem wu8m (n : Int) : IntKind.wrap .u8 n = n % 256 := by
  simp only [IntKind.wrap, IntKind.bits, IntKind.signed, Bool.false_and, Bool.false_eq_true, if_false, Nat.reducePow, Int.reducePow]
  first | done | rfl
end Go.Abs
