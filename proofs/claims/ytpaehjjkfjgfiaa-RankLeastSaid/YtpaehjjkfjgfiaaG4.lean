/- What the laws of ranks ask, opened. -/
import Derived.Test.YtpaehjjkfjgfiaaR0
import Derived.Test.YtpaehjjkfjgfiaaG0
set_option linter.unusedVariables false
set_option linter.unusedSimpArgs false
namespace Go.Abs
open Go Go.Proofs Go.ChangeShapes Go.WideShapes Go.ChangeAt Go.RowKit Go.Deep

/-- What the laws of ranks ask: transactions, a head, two ranks. -/
structure RAsk where
  l : List Tx
  n : Int
  b : Nat
  e : Int
  rd : Int
  rt : Nat
  sd : Int
  st : Nat
  deriving Inhabited
@[reducible] def raskc (p : RAsk) : List V := [.vec (flat txc p.l) p.l.length false, .int .i64 p.n, .int .u64 (lb p.b 0), .int .u64 (lb p.b 1), .int .u64 (lb p.b 2), .int .u64 (lb p.b 3), .int .i64 p.e,
  .int .i64 p.rd, .int .u64 (lb p.rt 0), .int .u64 (lb p.rt 1), .int .u64 (lb p.rt 2), .int .u64 (lb p.rt 3), .int .i64 p.sd, .int .u64 (lb p.st 0), .int .u64 (lb p.st 1), .int .u64 (lb p.st 2), .int .u64 (lb p.st 3)]
/-- What comes in. -/
structure RAsk.ok (p : RAsk) : Prop where
  l : ∀ t ∈ p.l, t.ok
  ll : p.l.length < 9223372036854775808
  n : -9223372036854775808 ≤ p.n ∧ p.n < 9223372036854775808
  b : p.b < 115792089237316195423570985008687907853269984665640564039457584007913129639936
  e : -9223372036854775808 ≤ p.e ∧ p.e < 9223372036854775808
  rd : -9223372036854775808 ≤ p.rd ∧ p.rd < 9223372036854775808
  rt : p.rt < 115792089237316195423570985008687907853269984665640564039457584007913129639936
  sd : -9223372036854775808 ≤ p.sd ∧ p.sd < 9223372036854775808
  st : p.st < 115792089237316195423570985008687907853269984665640564039457584007913129639936
theorem cleans_raskc (p : RAsk) : Cleans (raskc p) := by
  have h1 : Clean (.vec (flat txc p.l) p.l.length false) := .vec _ _ _ (cleans_flat p.l)
  unfold raskc
  repeat (first | exact cleans_nil | refine cleans_cons (.int _ _) ?_ | refine cleans_cons h1 ?_)
instance rows_rask : Rows raskc 17 where
  len := fun _ => rfl
  clean := cleans_raskc
  one := fun a v hv => by
    simp only [raskc, List.mem_cons, List.not_mem_nil, or_false] at hv
    rcases hv with h | h | h | h | h | h | h | h | h | h | h | h | h | h | h | h | h <;> rw [h] <;> rfl
instance rowsL_rask : RowsL raskc (fun p => [.vec (flat txc p.l) p.l.length false, .int .i64 p.n, .int .u64 (lb p.b 0), .int .u64 (lb p.b 1), .int .u64 (lb p.b 2), .int .u64 (lb p.b 3), .int .i64 p.e,
  .int .i64 p.rd, .int .u64 (lb p.rt 0), .int .u64 (lb p.rt 1), .int .u64 (lb p.rt 2), .int .u64 (lb p.rt 3), .int .i64 p.sd, .int .u64 (lb p.st 0), .int .u64 (lb p.st 1), .int .u64 (lb p.st 2), .int .u64 (lb p.st 3)]) := ⟨fun _ => rfl⟩
def vecR (ps : List RAsk) (x : Bool) : V := .vec (flat raskc ps) ps.length x
theorem clean_vecR (ps : List RAsk) (x : Bool) : Clean (vecR ps x) := .vec _ _ _ (cleans_flat ps)

theorem okT_rask {n : Nat} {r : List V} (h : OkT ty n 32 r) : ∃ p : RAsk, p.ok ∧ r = raskc p := by
  obtain ⟨m, rows, h1, rfl, h3⟩ := okT_struct rfl h
  match rows, h1 with
  | [r0, r1, r2, r3], _ =>
    have hm : maxLen ≤ 9223372036854775807 := by decide
    obtain ⟨l, y0, x0, rfl⟩ := okT_slice (f := txc) (ok := Tx.ok) (t := 23) (e := 38) rfl (fun n r h => okT_tx h) (h3 0 _ r0 rfl rfl)
    obtain ⟨m1, q1, g1, rfl, k1⟩ := okT_struct (t := 28) rfl (h3 1 _ r1 rfl rfl)
    obtain ⟨m2, q2, g2, rfl, k2⟩ := okT_struct (t := 30) rfl (h3 2 _ r2 rfl rfl)
    obtain ⟨m3, q3, g3, rfl, k3⟩ := okT_struct (t := 30) rfl (h3 3 _ r3 rfl rfl)
    match q1, g1, k1, q2, g2, k2, q3, g3, k3 with
    | [a0, a1, a2], _, k1, [b0, b1], _, k2, [c0, c1], _, k3 =>
      obtain ⟨n, z1, rfl⟩ := okT_i64 (t := 3) rfl (k1 0 _ a0 rfl rfl)
      obtain ⟨b, z2, rfl⟩ := okT_u256 (k1 1 _ a1 rfl rfl)
      obtain ⟨e, z3, rfl⟩ := okT_i64 (t := 3) rfl (k1 2 _ a2 rfl rfl)
      obtain ⟨rd, z4, rfl⟩ := okT_i64 (t := 3) rfl (k2 0 _ b0 rfl rfl)
      obtain ⟨rt, z5, rfl⟩ := okT_u256 (k2 1 _ b1 rfl rfl)
      obtain ⟨sd, z6, rfl⟩ := okT_i64 (t := 3) rfl (k3 0 _ c0 rfl rfl)
      obtain ⟨st, z7, rfl⟩ := okT_u256 (k3 1 _ c1 rfl rfl)
      exact ⟨⟨l, n, b, e, rd, rt, sd, st⟩, ⟨x0, by show l.length < _; omega, z1, z2, z3, z4, z5, z6, z7⟩, rfl⟩

/-- **A slice of what is asked, that came in.** -/
theorem open_rasks {H : Type} {enc : TypeId × Value → H} {W : World} {v : Value} {d : DataW H} {ps : List MemPlace} (hs : ∃ a len cap, v = .slice a len cap) (h : DataW.Trod enc Try.prog W 0 (fun _ => true) true 22 v d ps) :
    ∃ ns : List RAsk, (∀ n ∈ ns, n.ok) ∧ ns.length < 9223372036854775808 ∧ RV [] (Old W) W (vecR ns false) v :=
  open_rows 8 (by decide) rfl (fun n r h => okT_rask h) hs h
end Go.Abs
