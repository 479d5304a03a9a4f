/- A slice of what the laws of fees ask, opened; from an abstract contract to the model's. -/
import Derived.Test.YtdhonccddoaeiaaT1
import Derived.ProofKit
import Derived.Deep.Slices
import Derived.Laws.IdiomArrays
import Derived.Carry
set_option linter.unusedVariables false
set_option linter.unusedSimpArgs false
namespace Go.Abs
open Go Go.Proofs Go.ChangeShapes Go.WideShapes Go.ChangeAt Go.RowKit Go.Deep

theorem own : ownKnob Try.prog.godebug = none := by kernel_rfl
theorem laidOut : laidOutB Try.prog = true := by kernel_rfl
theorem cellsU : Try.prog.cellsOf 23 = 1 := by kernel_rfl
theorem cellsN : Try.prog.cellsOf 25 = 4 := by kernel_rfl

/-- What the laws of fees ask. -/
structure Ask where
  a : Nat
  b : Nat
  c : Nat
  e : Int
  u : Int
  t : Int
  deriving Inhabited
@[reducible] def askc (p : Ask) : List V := [.int .u64 (lb p.a 0), .int .u64 (lb p.a 1), .int .u64 (lb p.a 2), .int .u64 (lb p.a 3), .int .u64 (lb p.b 0), .int .u64 (lb p.b 1), .int .u64 (lb p.b 2), .int .u64 (lb p.b 3),
  .int .u64 (lb p.c 0), .int .u64 (lb p.c 1), .int .u64 (lb p.c 2), .int .u64 (lb p.c 3), .int .i64 p.e, .int .i64 p.u, .int .i64 p.t]
/-- What comes in. -/
structure Ask.ok (p : Ask) : Prop where
  a : p.a < 115792089237316195423570985008687907853269984665640564039457584007913129639936
  b : p.b < 115792089237316195423570985008687907853269984665640564039457584007913129639936
  c : p.c < 115792089237316195423570985008687907853269984665640564039457584007913129639936
  e : -9223372036854775808 ≤ p.e ∧ p.e < 9223372036854775808
  u : -9223372036854775808 ≤ p.u ∧ p.u < 9223372036854775808
  t : -9223372036854775808 ≤ p.t ∧ p.t < 9223372036854775808
instance rows_ask : Rows askc 15 where
  len := fun _ => rfl
  clean := fun a => by
    unfold askc
    repeat (first | exact cleans_nil | refine cleans_cons (.int _ _) ?_)
  one := fun a v hv => by
    simp only [askc, List.mem_cons, List.not_mem_nil, or_false] at hv
    rcases hv with h | h | h | h | h | h | h | h | h | h | h | h | h | h | h <;> rw [h] <;> rfl
instance rowsL_ask : RowsL askc (fun p => [.int .u64 (lb p.a 0), .int .u64 (lb p.a 1), .int .u64 (lb p.a 2), .int .u64 (lb p.a 3), .int .u64 (lb p.b 0), .int .u64 (lb p.b 1), .int .u64 (lb p.b 2), .int .u64 (lb p.b 3),
  .int .u64 (lb p.c 0), .int .u64 (lb p.c 1), .int .u64 (lb p.c 2), .int .u64 (lb p.c 3), .int .i64 p.e, .int .i64 p.u, .int .i64 p.t]) := ⟨fun _ => rfl⟩
def vecA (ps : List Ask) (x : Bool) : V := .vec (flat askc ps) ps.length x
theorem clean_vecA (ps : List Ask) (x : Bool) : Clean (vecA ps x) := .vec _ _ _ (cleans_flat ps)
/-- What has been all along is nobody's. -/
def Old (w : World) : Nat → Prop := fun b => b < w.heap.size

/-- From a contract to the model's. -/
theorem calls_of {P : Program} {f : FuncId} {args : List V} {r : V} (h : Pure P f args r) (he : Enters P f) {w : World} {vs : Array Value} (hl : args.length = vs.size) (hv : ∀ (i : Nat) (v : V) (x : Value), args[i]? = some v → vs[i]? = some x → RV [] (Old w) w v x) :
    Calls P f vs w fun e w' => ∃ x ρ' I', e = .returned x ∧ RV ρ' I' w' r x ∧ Below w.heap.size w w' := by
  have H : RH [] (Old w) w [] := ⟨rfl, by intro i cs h; simp at h, by intro i j cs ds rb b1 b2 h; simp at h, fun b hb => hb⟩
  rcases h [] [] (Old w) w vs hl hv H with ⟨_, hc⟩ | ⟨x, w', hr, _⟩
  · refine callsIn_wide.1 (CallsIn.mono (F := Fw none) hc ?_)
    rintro e w' ⟨x, rfl, v, h'', ρ', I', ⟨rfl, rfl⟩, hrv, H', K⟩
    exact ⟨x, ρ', I', rfl, hrv, ⟨K.os, K.tape, K.output, K.size, fun k hk => K.same k hk (by rintro ⟨i, cs, base, h, _⟩; simp at h)⟩⟩
  · rw [he vs w] at hr; cases hr

theorem cells_get {w : World} {a : Addr} {n : Nat} {cs : List Value} (h : w.cells? 0 a n = some cs) : cs.length = n ∧ ∀ i, i < n → w.cell? (a.add i) = cs[i]? := by
  unfold World.cells? at h
  rw [if_pos (Nat.zero_le _)] at h
  refine ⟨by rw [mapM_some_length h]; simp, fun i hi => ?_⟩
  exact mapM_some_get h i i (by rw [List.getElem?_range hi])

/-- Four limbs that are read. -/
theorem open_four {H : Type} {enc : TypeId × Value → H} {W : World} {sp : Nat → Bool} {n : Nat} {cs : List Value} {x : DataW H × List MemPlace} (hl : cs.length = 4) (h : DataW.trod enc Try.prog W 0 sp true n 25 cs = some x) :
    ∃ m : Nat, m < 115792089237316195423570985008687907853269984665640564039457584007913129639936 ∧ cs = [.int .u64 (lb m 0), .int .u64 (lb m 1), .int .u64 (lb m 2), .int .u64 (lb m 3)] := by
  match cs, hl with
  | [c0, c1, c2, c3], _ =>
    obtain ⟨y0, y1, y2, y3, k, _, h0, h1, h2, h3⟩ := trod_array4 (ty_ok 25 _ rfl).1 cellsU h
    obtain ⟨x0, e0, _, w0⟩ := DataW.trod_int (ty_ok 23 _ rfl).1 h0
    obtain ⟨x1, e1, _, w1⟩ := DataW.trod_int (ty_ok 23 _ rfl).1 h1
    obtain ⟨x2, e2, _, w2⟩ := DataW.trod_int (ty_ok 23 _ rfl).1 h2
    obtain ⟨x3, e3, _, w3⟩ := DataW.trod_int (ty_ok 23 _ rfl).1 h3
    have bnd : ∀ z : Int, (Lit.int .u64 z).wf = true → 0 ≤ z ∧ z ≤ 18446744073709551615 := fun z hz => by
      have e1 : IntKind.u64.min = 0 := rfl
      have e2 : IntKind.u64.max = 18446744073709551615 := rfl
      simpa [Lit.wf, e1, e2] using hz
    obtain ⟨l0, u0⟩ := bnd _ w0
    obtain ⟨l1, u1⟩ := bnd _ w1
    obtain ⟨l2, u2⟩ := bnd _ w2
    obtain ⟨l3, u3⟩ := bnd _ w3
    obtain ⟨a, rfl⟩ := Int.eq_ofNat_of_zero_le l0
    obtain ⟨b, rfl⟩ := Int.eq_ofNat_of_zero_le l1
    obtain ⟨c, rfl⟩ := Int.eq_ofNat_of_zero_le l2
    obtain ⟨d, rfl⟩ := Int.eq_ofNat_of_zero_le l3
    simp only [List.cons.injEq, and_true] at e0 e1 e2 e3
    subst e0 e1 e2 e3
    have hu := uv_num4 (a := a) (b := b) (c := c) (d := d) (by omega) (by omega) (by omega) (by omega)
    simp only [uv, uvl, V.agg.injEq, List.cons.injEq, V.int.injEq, true_and, and_true] at hu
    obtain ⟨q0, q1, q2, q3⟩ := hu
    exact ⟨num4 a b c d, num4_lt (by omega) (by omega) (by omega) (by omega), by rw [← q0, ← q1, ← q2, ← q3]⟩

theorem cellsI : Try.prog.cellsOf 3 = 1 := by kernel_rfl
theorem cellsA : Try.prog.cellsOf 30 = 15 := by kernel_rfl
/-- A whole number that is read. -/
theorem open_int {H : Type} {enc : TypeId × Value → H} {W : World} {sp : Nat → Bool} {n : Nat} {c : Value} {x : DataW H × List MemPlace} (h : DataW.trod enc Try.prog W 0 sp true n 3 [c] = some x) :
    ∃ z : Int, (-9223372036854775808 ≤ z ∧ z < 9223372036854775808) ∧ c = .int .i64 z := by
  obtain ⟨z, e, _, w⟩ := DataW.trod_int (ty_ok 3 _ rfl).1 h
  have e1 : IntKind.i64.min = -9223372036854775808 := by decide
  have e2 : IntKind.i64.max = 9223372036854775807 := by decide
  have := w
  simp only [Lit.wf, Bool.and_eq_true, decide_eq_true_eq, e1, e2] at this
  simp only [List.cons.injEq, and_true] at e
  exact ⟨z, ⟨by omega, by omega⟩, e⟩
def conv : V → Value
  | .int k n => .int k n
  | _ => .nilFunc
theorem asks_int (ps : List Ask) : ∀ v ∈ flat askc ps, ∃ k n, v = .int k n := by
  induction ps with
  | nil => intro v hv; cases hv
  | cons p ps ih =>
    intro v hv
    rcases List.mem_append.1 hv with h | h
    · simp only [askc, List.mem_cons, List.not_mem_nil, or_false] at h
      rcases h with h | h | h | h | h | h | h | h | h | h | h | h | h | h | h <;> exact ⟨_, _, h⟩
    · exact ih v h
theorem open_ask {H : Type} {enc : TypeId × Value → H} {W : World} {sp : Nat → Bool} {n : Nat} {cs : List Value} {x : DataW H × List MemPlace} (hl : cs.length = 15) (h : DataW.trod enc Try.prog W 0 sp true n 30 cs = some x) :
    ∃ p : Ask, p.ok ∧ cs = (askc p).map conv := by
  obtain ⟨xs, m, _, _, _, hlen, hf⟩ := DataW.trod_struct (ty_ok 30 _ rfl).1 h
  match cs, hl with
  | [c0, c1, c2, c3, c4, c5, c6, c7, c8, c9, c10, c11, c12, c13, c14], _ =>
    match xs, hlen with
    | [y0, y1, y2, y3, y4, y5], _ =>
      have hf' := fun (i : Nat) (f : Field) (y : DataW H × List MemPlace) (ty : TypeId) (off : Nat) h (h2 : [y0, y1, y2, y3, y4, y5][i]? = some y) (h3 : f.type = ty) (h4 : f.offset = off) => (h3 ▸ h4 ▸ (hf i f h).trans h2 : DataW.trod enc Try.prog W 0 sp true m ty (([c0, c1, c2, c3, c4, c5, c6, c7, c8, c9, c10, c11, c12, c13, c14].drop off).take (Try.prog.cellsOf ty)) = some y)
      have h0 := hf' 0 _ y0 25 0 rfl rfl rfl rfl
      have h1 := hf' 1 _ y1 25 4 rfl rfl rfl rfl
      have h2 := hf' 2 _ y2 25 8 rfl rfl rfl rfl
      have h3 := hf' 3 _ y3 3 12 rfl rfl rfl rfl
      have h4 := hf' 4 _ y4 3 13 rfl rfl rfl rfl
      have h5 := hf' 5 _ y5 3 14 rfl rfl rfl rfl
      simp only [cellsN, cellsI, List.drop_zero, List.drop_succ_cons, List.take_succ_cons, List.take_zero] at h0 h1 h2 h3 h4 h5
      obtain ⟨a, ha, e0⟩ := open_four rfl h0
      obtain ⟨b, hb, e1⟩ := open_four rfl h1
      obtain ⟨c, hc, e2⟩ := open_four rfl h2
      obtain ⟨e, he, e3⟩ := open_int h3
      obtain ⟨u, hu, e4⟩ := open_int h4
      obtain ⟨t, ht, e5⟩ := open_int h5
      simp only [List.cons.injEq, and_true] at e0 e1 e2
      obtain ⟨rfl, rfl, rfl, rfl⟩ := e0
      obtain ⟨rfl, rfl, rfl, rfl⟩ := e1
      obtain ⟨rfl, rfl, rfl, rfl⟩ := e2
      subst e3 e4 e5
      exact ⟨⟨a, b, c, e, u, t⟩, ⟨ha, hb, hc, he, hu, ht⟩, rfl⟩

/-- **A slice of what is asked, that came in.** -/
theorem open_asks {H : Type} {enc : TypeId × Value → H} {W : World} {v : Value} {d : DataW H} {ps : List MemPlace} (hs : ∃ a len cap, v = .slice a len cap) (h : DataW.Trod enc Try.prog W 0 (fun _ => true) true 22 v d ps) :
    ∃ ns : List Ask, (∀ n ∈ ns, n.ok) ∧ ns.length < 9223372036854775808 ∧ RV [] (Old W) W (vecA ns false) v := by
  obtain ⟨fuel, hf⟩ := h
  obtain ⟨a, len, cap, rfl⟩ := hs
  rcases open_slice (ty_ok 22 _ rfl).1 hf with ⟨hcs, _⟩ | ⟨a', len', cap', m, n, D, Pl, hcs, _, hl, hm, hmm, _, hel⟩
  · simp [Value.cells] at hcs
    obtain ⟨rfl, rfl, rfl⟩ := hcs
    exact ⟨[], by simp, by simp, .vecn _ _⟩
  · simp [Value.cells] at hcs
    obtain ⟨rfl, rfl, rfl⟩ := hcs
    simp only [if_true] at hmm
    subst hmm
    rw [cellsA] at hel
    have el : ∀ i, i < m → ∃ k : Ask, k.ok ∧ ∀ j, j < 15 → W.cell? (a'.add (i * 15 + j)) = some (conv (nth (askc k) j)) := by
      intro i hi
      obtain ⟨cs', h1, h2⟩ := hel i hi
      obtain ⟨hl4, hg⟩ := cells_get h1
      obtain ⟨k, hk, rfl⟩ := open_ask hl4 h2
      refine ⟨k, hk, fun j hj => ?_⟩
      rw [← add_add, hg j hj, List.getElem?_map]
      rw [nth_eq, List.getD_eq_getElem?_getD]
      have hkl : (askc k).length = 15 := rfl
      rw [List.getElem?_eq_getElem (by omega)]
      rfl
    by_cases hc : m = 0
    · subst hc
      have : len = 0 := by omega
      subst this
      exact ⟨[], by simp, by simp, .vecn _ _⟩
    · obtain ⟨k0, _, hk0⟩ := el 0 (by omega)
      have h00 := hk0 0 (by omega)
      obtain ⟨rb, off, spot⟩ := a'
      have hspot : spot = none := by simpa [Addr.add] using World.cell?_spot h00
      subst hspot
      have hold : Old W rb := by
        have := h00
        rw [addr_add] at this
        unfold World.cell? at this
        split at this
        · rename_i hq; exact (Array.getElem?_eq_some_iff.1 hq).1
        · cases this
      obtain ⟨f, hf2⟩ := choose_lt (α := Ask) el
      refine ⟨(List.range len).map f, ?_, ?_, ?_⟩
      · intro q hq
        obtain ⟨i, hi, rfl⟩ := List.mem_map.1 hq
        exact (hf2 i (by have := List.mem_range.1 hi; omega)).1
      · have : maxLen ≤ 9223372036854775807 := by decide
        simp; omega
      · have hl : ((List.range len).map f).length = len := by simp
        have hfl : ∀ i, i < len * 15 → (flat askc ((List.range len).map f))[i]? = (askc (f (i / 15)))[i % 15]? := by
          intro i hi
          have := flat_at (f := askc) ((List.range len).map f) (i / 15) (i % 15) (by omega) (by omega)
          rw [show i / 15 * 15 + i % 15 = i from by omega] at this
          rw [this]; simp
        show RV [] (Old W) W (.vec (flat askc ((List.range len).map f)) ((List.range len).map f).length false) _
        rw [hl]
        refine .vec (rb := rb) (off := off) (fun i => conv (nth (askc (f (i / 15))) (i % 15))) hold (fun i hi => ?_) (fun i v hv => ?_) (by omega) (by simp)
        · rw [flat_length, hl] at hi
          have := (hf2 (i / 15) (by omega)).2 (i % 15) (by omega)
          rw [addr_add, show i / 15 * 15 + i % 15 = i from by omega] at this
          exact this
        · have hi : i < ((List.range len).map f).length * 15 := by rw [← flat_length (f := askc)]; exact (List.getElem?_eq_some_iff.1 hv).1
          obtain ⟨k, z, rfl⟩ := asks_int _ v (List.mem_of_getElem? hv)
          rw [hl] at hi
          rw [hfl i hi] at hv
          show RV [] (Old W) W (.int k z) (conv (nth (askc (f (i / 15))) (i % 15)))
          rw [nth_eq, List.getD_eq_getElem?_getD, hv]
          exact .int _ _
end Go.Abs
