/- From an abstract contract to the model's. -/
import Derived.Test.YtpaehjjkfjgfiaaA20
import Derived.ProofKit
import Derived.Deep.Slices
import Derived.Laws.IdiomArrays
import Derived.Carry
set_option linter.unusedVariables false
set_option linter.unusedSimpArgs false
namespace Go.Abs
open Go Go.Proofs Go.ChangeShapes Go.WideShapes Go.ChangeAt Go.RowKit Go.Deep

theorem own : ownKnob Try.prog.godebug = none := by kernel_rfl
theorem laidOut : laidOutB Try.prog = true := by kernel_rfl
/-- What has been all along is nobody's. -/
def Old (w : World) : Nat → Prop := fun b => b < w.heap.size

/-- From a contract to the model's. -/
theorem calls_of {P : Program} {f : FuncId} {args : List V} {r : V} (h : Pure P f args r) (he : Enters P f) {w : World} {vs : Array Value} (hl : args.length = vs.size) (hv : ∀ (i : Nat) (v : V) (x : Value), args[i]? = some v → vs[i]? = some x → RV [] (Old w) w v x) :
    Calls P f vs w fun e w' => ∃ x ρ' I', e = .returned x ∧ RV ρ' I' w' r x ∧ Below w.heap.size w w' := by
  have H : RH [] (Old w) w [] := ⟨rfl, by intro i cs h; simp at h, by intro i j cs ds rb b1 b2 h; simp at h, fun b hb => hb, LoopsOK.nil _ _ _⟩
  rcases h [] [] (Old w) w vs hl hv H with ⟨_, hc⟩ | ⟨x, w', hr, _⟩
  · refine callsIn_wide.1 (CallsIn.mono (F := Fw none) hc ?_)
    rintro e w' ⟨x, rfl, v, h'', ρ', I', ⟨rfl, rfl⟩, hrv, H', K⟩
    exact ⟨x, ρ', I', rfl, hrv, ⟨K.os, K.tape, K.output, K.size, fun k hk => K.same k hk (by rintro ⟨i, cs, base, h, _⟩; simp at h)⟩⟩
  · rw [he vs w] at hr; cases hr


/-- **A slice of records, that came in.** -/
theorem open_rows {H : Type} {enc : TypeId × Value → H} {W : World} {v : Value} {d : DataW H} {ps : List MemPlace} {α : Type} {f : α → List V} {ok : α → Prop} {t e : TypeId} (n : Nat) (hc : covT ty n t = true) (hd : ((ty t).map fun i => i.desc) = some (.slice e)) (he : ∀ n r, OkT ty n e r → ∃ a, ok a ∧ r = f a)
    (hs : ∃ a len cap, v = .slice a len cap) (h : DataW.Trod enc Try.prog W 0 (fun _ => true) true t v d ps) :
    ∃ ns : List α, (∀ n ∈ ns, ok n) ∧ ns.length < 9223372036854775808 ∧ RV [] (Old W) W (.vec (flat f ns) ns.length false) v := by
  obtain ⟨fuel, hf⟩ := h
  obtain ⟨a, len, cap, rfl⟩ := hs
  obtain ⟨ds, h1, h2⟩ := open_any ty_ok n t hc fuel _ _ hf
  obtain ⟨l, hl, hok, rfl⟩ := okT_slice hd he h2
  have hm : maxLen ≤ 9223372036854775807 := by decide
  exact ⟨l, hok, by omega, h1.2 0 _ _ rfl (by simp [Value.cells])⟩
end Go.Abs
