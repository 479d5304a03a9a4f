/- A slice of strings that came in, opened. -/
import Derived.Test.YthnckfnpbdlokaaG1
import Derived.Test.YthnckfnpbdlokaaN7
import Derived.SliceStrings
set_option linter.unusedVariables false
set_option linter.unusedSimpArgs false
namespace Go.Abs
open Go Go.Proofs Go.ChangeShapes Go.WideShapes Go.ChangeAt Go.RowKit Go.Deep

theorem cellsS : Try.prog.cellsOf 9 = 1 := by kernel_rfl

/-- **A slice of strings that came in.** -/
theorem open_strs {H : Type} {enc : TypeId × Value → H} {W : World} {v : Value} {d : DataW H} {ps : List MemPlace} (hs : ∃ a len cap, v = .slice a len cap) (h : DataW.Trod enc Try.prog W 0 (fun _ => true) true 35 v d ps) :
    ∃ ss : List ByteArray, (∀ s ∈ ss, s.size < 9223372036854775808) ∧ ss.length < 9223372036854775808 ∧ RV [] (Old W) W (vecS ss false) v := by
  obtain ⟨fuel, hf⟩ := h
  obtain ⟨a, len, cap, rfl⟩ := hs
  have hmx : maxLen ≤ 9223372036854775807 := by decide
  rcases open_strings Try.underlying35 Try.underlying9 cellsS hf with ⟨hcs, _⟩ | ⟨a', len', cap', ss, hcs, _, hl, hm, hz, _, hcell, hsz⟩
  · simp [Value.cells] at hcs
    obtain ⟨rfl, rfl, rfl⟩ := hcs
    exact ⟨[], by simp, by simp, .vecn _ _⟩
  · simp [Value.cells] at hcs
    obtain ⟨rfl, rfl, rfl⟩ := hcs
    simp only [if_true] at hz
    by_cases hc : cap = 0
    · have : len = 0 := by omega
      subst this; subst hc
      exact ⟨[], by simp, by simp, .vecn _ _⟩
    · have h00 := hcell 0 (by omega)
      obtain ⟨rb, off, spot⟩ := a'
      have hspot : spot = none := by simpa [Addr.add] using World.cell?_spot h00
      subst hspot
      have hold : Old W rb := by
        have := h00
        rw [addr_add] at this
        unfold World.cell? at this
        split at this
        · rename_i hq; exact (Array.getElem?_eq_some_iff.1 hq).1
        · cases this
      refine ⟨ss.take len, fun s hs => ?_, by simp; omega, ?_⟩
      · have := hsz s (List.mem_of_mem_take hs); omega
      · have hl' : (ss.take len).length = len := by simp; omega
        show RV [] (Old W) W (.vec (flat strc (ss.take len)) (ss.take len).length false) _
        rw [hl']
        refine .vec (rb := rb) (off := off) (fun i => .string (ss.getD i ByteArray.empty)) hold (fun i hi => ?_) (fun i v hv => ?_) (by omega) (by simp)
        · rw [flat_length, hl'] at hi
          have := hcell i (by omega)
          rw [addr_add] at this
          exact this
        · have hi : i < (ss.take len).length * 1 := by rw [← flat_length (f := strc)]; exact (List.getElem?_eq_some_iff.1 hv).1
          have e := flat_at (f := strc) (ss.take len) i 0 (by omega) (by omega)
          rw [Nat.mul_one, Nat.add_zero] at e
          rw [e] at hv
          simp at hv
          subst hv
          rw [List.getD_eq_getElem?_getD, List.getElem?_eq_getElem (by omega)]
          exact .str _
end Go.Abs
