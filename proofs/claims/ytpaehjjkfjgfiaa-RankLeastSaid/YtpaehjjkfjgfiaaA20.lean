/- The abstract machine, part 20: what comes in, of a type, turned into records. -/
import Derived.Test.YtpaehjjkfjgfiaaA15
import Derived.Test.YtpaehjjkfjgfiaaA19
set_option linter.unusedVariables false
set_option linter.unusedSimpArgs false
namespace Go.Abs
open Go Go.RowKit Go.Deep

/-- Rows that are all of one kind. -/
theorem rows_of {α : Type} {f : α → List V} {ok : α → Prop} : ∀ (rows : List (List V)), (∀ r ∈ rows, ∃ a, ok a ∧ r = f a) → ∃ l : List α, l.length = rows.length ∧ (∀ a ∈ l, ok a) ∧ rows.flatten = flat f l
  | [], _ => ⟨[], rfl, by simp, rfl⟩
  | r :: rows, h => by
    obtain ⟨a, ha, rfl⟩ := h r (by simp)
    obtain ⟨l, h1, h2, h3⟩ := rows_of rows fun q hq => h q (by simp [hq])
    refine ⟨a :: l, by simp [h1], ?_, by rw [List.flatten_cons, h3, flat]⟩
    intro b hb
    rcases List.mem_cons.1 hb with rfl | hb
    · exact ha
    · exact h2 b hb
section
variable {ty : Tab} {n : Nat} {t : TypeId} {ds : List V}
theorem okT_int {k : IntKind} (hd : ((ty t).map fun i => i.desc) = some (.int k)) (h : OkT ty n t ds) : ∃ z : Int, (Lit.int k z).wf = true ∧ ds = [.int k z] := by
  cases n with
  | zero => exact h.elim
  | succ n => unfold OkT at h; rw [hd] at h; exact h
theorem okT_i64 (hd : ((ty t).map fun i => i.desc) = some (.int .i64)) (h : OkT ty n t ds) : ∃ z : Int, (-9223372036854775808 ≤ z ∧ z < 9223372036854775808) ∧ ds = [.int .i64 z] := by
  obtain ⟨z, w, e⟩ := okT_int hd h
  have e1 : IntKind.i64.min = -9223372036854775808 := by decide
  have e2 : IntKind.i64.max = 9223372036854775807 := by decide
  simp only [Lit.wf, Bool.and_eq_true, decide_eq_true_eq, e1, e2] at w
  exact ⟨z, ⟨by omega, by omega⟩, e⟩
theorem okT_u64 (hd : ((ty t).map fun i => i.desc) = some (.int .u64)) (h : OkT ty n t ds) : ∃ z : Nat, z < 18446744073709551616 ∧ ds = [.int .u64 (z : Nat)] := by
  obtain ⟨z, w, e⟩ := okT_int hd h
  have e1 : IntKind.u64.min = 0 := rfl
  have e2 : IntKind.u64.max = 18446744073709551615 := rfl
  simp only [Lit.wf, Bool.and_eq_true, decide_eq_true_eq, e1, e2] at w
  obtain ⟨a, rfl⟩ := Int.eq_ofNat_of_zero_le w.1
  exact ⟨a, by omega, e⟩
theorem okT_bool (hd : ((ty t).map fun i => i.desc) = some .bool) (h : OkT ty n t ds) : ∃ b, ds = [.bool b] := by
  cases n with
  | zero => exact h.elim
  | succ n => unfold OkT at h; rw [hd] at h; exact h
theorem okT_str (hd : ((ty t).map fun i => i.desc) = some .string) (h : OkT ty n t ds) : ∃ s : ByteArray, s.size ≤ maxLen ∧ ds = [.str s] := by
  cases n with
  | zero => exact h.elim
  | succ n => unfold OkT at h; rw [hd] at h; exact h
theorem okT_array {α : Type} {f : α → List V} {ok : α → Prop} {m : Nat} {e : TypeId} (hd : ((ty t).map fun i => i.desc) = some (.array m e)) (he : ∀ n r, OkT ty n e r → ∃ a, ok a ∧ r = f a) (h : OkT ty n t ds) :
    ∃ l : List α, l.length = m ∧ (∀ a ∈ l, ok a) ∧ ds = flat f l := by
  cases n with
  | zero => exact h.elim
  | succ n =>
    unfold OkT at h; rw [hd] at h
    obtain ⟨rows, h1, rfl, h3⟩ := h
    obtain ⟨l, a, b, c⟩ := rows_of (f := f) (ok := ok) rows fun r hr => he n r (h3 r hr)
    exact ⟨l, by rw [a, h1], b, c⟩
theorem okT_slice {α : Type} {f : α → List V} {ok : α → Prop} {e : TypeId} (hd : ((ty t).map fun i => i.desc) = some (.slice e)) (he : ∀ n r, OkT ty n e r → ∃ a, ok a ∧ r = f a) (h : OkT ty n t ds) :
    ∃ l : List α, l.length ≤ maxLen ∧ (∀ a ∈ l, ok a) ∧ ds = [.vec (flat f l) l.length false] := by
  cases n with
  | zero => exact h.elim
  | succ n =>
    unfold OkT at h; rw [hd] at h
    obtain ⟨rows, h1, rfl, h3⟩ := h
    obtain ⟨l, a, b, c⟩ := rows_of (f := f) (ok := ok) rows fun r hr => he n r (h3 r hr)
    exact ⟨l, by rw [a]; exact h1, b, by rw [c, a]⟩
theorem okT_struct {fs : Array Field} (hd : ((ty t).map fun i => i.desc) = some (.struct fs)) (h : OkT ty n t ds) :
    ∃ (m : Nat) (rows : List (List V)), rows.length = fs.size ∧ ds = rows.flatten ∧ ∀ (i : Nat) (f : Field) (r : List V), fs[i]? = some f → rows[i]? = some r → OkT ty m f.type r := by
  cases n with
  | zero => exact h.elim
  | succ n =>
    unfold OkT at h; rw [hd] at h
    obtain ⟨rows, h1, h2, h3⟩ := h
    exact ⟨n, rows, h1, h2, h3⟩
end
end Go.Abs
