/- A slice of numbers that came in, opened; from an abstract contract to the model's. -/
import Derived.Test.YthnckfnpbdlokaaN5
import Derived.ProofKit
import Derived.Deep.Slices
import Derived.Laws.IdiomArrays
import Derived.Carry
set_option linter.unusedVariables false
set_option linter.unusedSimpArgs false
namespace Go.Abs
open Go Go.Proofs Go.ChangeShapes Go.WideShapes Go.ChangeAt Go.RowKit Go.Deep

theorem own : ownKnob Try.prog.godebug = none := by kernel_rfl
theorem laidOut : laidOutB Try.prog = true := by kernel_rfl
theorem cellsU : Try.prog.cellsOf 25 = 1 := by kernel_rfl
theorem cellsN : Try.prog.cellsOf 27 = 4 := by kernel_rfl

theorem fl_cell (ns : List Nat) (i : Nat) (h : i < ns.length * 4) : (fl ns)[i]? = some (.int .u64 (lb (ns[i / 4]'(by omega)) (i % 4))) := by
  have := flat_at (f := uvc) ns (i / 4) (i % 4) (by omega) (by omega)
  rw [show i / 4 * 4 + i % 4 = i from by omega] at this
  rw [show (fl ns)[i]? = (flat uvc ns)[i]? from rfl, this]
  have : i % 4 = 0 ∨ i % 4 = 1 ∨ i % 4 = 2 ∨ i % 4 = 3 := by omega
  rcases this with e | e | e | e <;> rw [e] <;> rfl

/-- What has been all along is nobody's. -/
def Old (w : World) : Nat → Prop := fun b => b < w.heap.size

/-- From a contract to the model's. -/
theorem calls_of {P : Program} {f : FuncId} {args : List V} {r : V} (h : Pure P f args r) (he : Enters P f) {w : World} {vs : Array Value} (hl : args.length = vs.size) (hv : ∀ (i : Nat) (v : V) (x : Value), args[i]? = some v → vs[i]? = some x → RV [] (Old w) w v x) :
    Calls P f vs w fun e w' => ∃ x ρ' I', e = .returned x ∧ RV ρ' I' w' r x ∧ Below w.heap.size w w' := by
  have H : RH [] (Old w) w [] := ⟨rfl, by intro i cs h; simp at h, by intro i j cs ds rb b1 b2 h; simp at h, fun b hb => hb, LoopsOK.nil _ _ _⟩
  rcases h [] [] (Old w) w vs hl hv H with ⟨_, hc⟩ | ⟨x, w', hr, _⟩
  · refine callsIn_wide.1 (CallsIn.mono (F := Fw none) hc ?_)
    rintro e w' ⟨x, rfl, v, h'', ρ', I', ⟨rfl, rfl⟩, hrv, H', K⟩
    exact ⟨x, ρ', I', rfl, hrv, ⟨K.os, K.tape, K.output, K.size, fun k hk => K.same k hk (by rintro ⟨i, cs, base, h, _⟩; simp at h)⟩⟩
  · rw [he vs w] at hr; cases hr

theorem cells_get {w : World} {a : Addr} {n : Nat} {cs : List Value} (h : w.cells? 0 a n = some cs) : cs.length = n ∧ ∀ i, i < n → w.cell? (a.add i) = cs[i]? := by
  unfold World.cells? at h
  rw [if_pos (Nat.zero_le _)] at h
  refine ⟨by rw [mapM_some_length h]; simp, fun i hi => ?_⟩
  exact mapM_some_get h i i (by rw [List.getElem?_range hi])

/-- Four limbs that are read. -/
theorem open_four {H : Type} {enc : TypeId × Value → H} {W : World} {sp : Nat → Bool} {n : Nat} {cs : List Value} {x : DataW H × List MemPlace} (hl : cs.length = 4) (h : DataW.trod enc Try.prog W 0 sp true n 27 cs = some x) :
    ∃ m : Nat, m < 115792089237316195423570985008687907853269984665640564039457584007913129639936 ∧ cs = [.int .u64 (lb m 0), .int .u64 (lb m 1), .int .u64 (lb m 2), .int .u64 (lb m 3)] := by
  match cs, hl with
  | [c0, c1, c2, c3], _ =>
    obtain ⟨y0, y1, y2, y3, k, _, h0, h1, h2, h3⟩ := trod_array4 Try.underlying27 cellsU h
    obtain ⟨x0, e0, _, w0⟩ := DataW.trod_int Try.underlying25 h0
    obtain ⟨x1, e1, _, w1⟩ := DataW.trod_int Try.underlying25 h1
    obtain ⟨x2, e2, _, w2⟩ := DataW.trod_int Try.underlying25 h2
    obtain ⟨x3, e3, _, w3⟩ := DataW.trod_int Try.underlying25 h3
    have bnd : ∀ z : Int, (Lit.int .u64 z).wf = true → 0 ≤ z ∧ z ≤ 18446744073709551615 := fun z hz => by
      have e1 : IntKind.u64.min = 0 := rfl
      have e2 : IntKind.u64.max = 18446744073709551615 := rfl
      simpa [Lit.wf, e1, e2] using hz
    obtain ⟨l0, u0⟩ := bnd _ w0
    obtain ⟨l1, u1⟩ := bnd _ w1
    obtain ⟨l2, u2⟩ := bnd _ w2
    obtain ⟨l3, u3⟩ := bnd _ w3
    obtain ⟨a, rfl⟩ := Int.eq_ofNat_of_zero_le l0
    obtain ⟨b, rfl⟩ := Int.eq_ofNat_of_zero_le l1
    obtain ⟨c, rfl⟩ := Int.eq_ofNat_of_zero_le l2
    obtain ⟨d, rfl⟩ := Int.eq_ofNat_of_zero_le l3
    simp only [List.cons.injEq, and_true] at e0 e1 e2 e3
    subst e0 e1 e2 e3
    have hu := uv_num4 (a := a) (b := b) (c := c) (d := d) (by omega) (by omega) (by omega) (by omega)
    simp only [uv, uvl, V.agg.injEq, List.cons.injEq, V.int.injEq, true_and, and_true] at hu
    obtain ⟨q0, q1, q2, q3⟩ := hu
    exact ⟨num4 a b c d, num4_lt (by omega) (by omega) (by omega) (by omega), by rw [← q0, ← q1, ← q2, ← q3]⟩

/-- **A slice of numbers that came in.** -/
theorem open_nums {H : Type} {enc : TypeId × Value → H} {W : World} {v : Value} {d : DataW H} {ps : List MemPlace} (hs : ∃ a len cap, v = .slice a len cap) (h : DataW.Trod enc Try.prog W 0 (fun _ => true) true 22 v d ps) :
    ∃ ns : List Nat, (∀ n ∈ ns, n < 115792089237316195423570985008687907853269984665640564039457584007913129639936) ∧ ns.length < 9223372036854775808 ∧ RV [] (Old W) W (vecU ns false) v := by
  obtain ⟨fuel, hf⟩ := h
  obtain ⟨a, len, cap, rfl⟩ := hs
  rcases open_slice Try.underlying22 hf with ⟨hcs, _⟩ | ⟨a', len', cap', m, n, D, Pl, hcs, _, hl, hm, hmm, _, hel⟩
  · simp [Value.cells] at hcs
    obtain ⟨rfl, rfl, rfl⟩ := hcs
    exact ⟨[], by simp, by simp, .vecn _ _⟩
  · simp [Value.cells] at hcs
    obtain ⟨rfl, rfl, rfl⟩ := hcs
    simp only [if_true] at hmm
    subst hmm
    rw [cellsN] at hel
    have el : ∀ i, i < m → ∃ k : Nat, k < 115792089237316195423570985008687907853269984665640564039457584007913129639936 ∧ ∀ j, j < 4 → W.cell? (a'.add (i * 4 + j)) = some (.int .u64 (lb k j)) := by
      intro i hi
      obtain ⟨cs', h1, h2⟩ := hel i hi
      obtain ⟨hl4, hg⟩ := cells_get h1
      obtain ⟨k, hk, rfl⟩ := open_four hl4 h2
      refine ⟨k, hk, fun j hj => ?_⟩
      rw [← add_add, hg j hj]
      have : j = 0 ∨ j = 1 ∨ j = 2 ∨ j = 3 := by omega
      rcases this with rfl | rfl | rfl | rfl <;> rfl
    by_cases hc : m = 0
    · subst hc
      have : len = 0 := by omega
      subst this
      exact ⟨[], by simp, by simp, .vecn _ _⟩
    · obtain ⟨k0, _, hk0⟩ := el 0 (by omega)
      have h00 := hk0 0 (by omega)
      obtain ⟨rb, off, spot⟩ := a'
      have hspot : spot = none := by simpa [Addr.add] using World.cell?_spot h00
      subst hspot
      have hold : Old W rb := by
        have := h00
        rw [addr_add] at this
        unfold World.cell? at this
        split at this
        · rename_i hq; exact (Array.getElem?_eq_some_iff.1 hq).1
        · cases this
      obtain ⟨f, hf2⟩ := choose_lt el
      refine ⟨(List.range len).map f, ?_, ?_, ?_⟩
      · intro q hq
        obtain ⟨i, hi, rfl⟩ := List.mem_map.1 hq
        exact (hf2 i (by have := List.mem_range.1 hi; omega)).1
      · have : maxLen ≤ 9223372036854775807 := by decide
        simp; omega
      · have hl : ((List.range len).map f).length = len := by simp
        show RV [] (Old W) W (.vec (fl ((List.range len).map f)) ((List.range len).map f).length false) _
        rw [hl]
        refine .vec (rb := rb) (off := off) (fun i => .int .u64 (lb (f (i / 4)) (i % 4))) hold (fun i hi => ?_) (fun i v hv => ?_) (by omega) (by simp)
        · rw [flat_length, hl] at hi
          have := (hf2 (i / 4) (by omega)).2 (i % 4) (by omega)
          rw [addr_add, show i / 4 * 4 + i % 4 = i from by omega] at this
          exact this
        · have hi : i < ((List.range len).map f).length * 4 := by rw [← flat_length (f := uvc)]; exact (List.getElem?_eq_some_iff.1 hv).1
          rw [fl_cell _ i hi] at hv
          cases hv
          simp
          exact .int _ _
end Go.Abs
