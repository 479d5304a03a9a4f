/- The abstract machine, part 10: steps of a walk. -/
import Derived.Test.YtpaehjjkfjgfiaaA9
set_option linter.unusedVariables false
set_option linter.unusedSimpArgs false
namespace Go.Abs
open Go Go.RowKit

section
variable {P : Program} {N : Nat} {ty : Tab} {L : List FuncId} {ops : Array Oper} {os : List Oper} {o : Oper} {t : List V} {h : List HB} {K : St → Prop}

theorem st_nil {s : St} (k : K s) : ASeq P ty L ops [] s K := k

/-- An operation that is no call and has no guard. -/
theorem st_op {op : Op} {d : Option Tmp} {a : TypeId} {b : String} {c : Array Edge} {p : Prop} {v : V} {h' : List HB} (e : aop ty t h op = some (p, v, h')) (hp : p) (k : ASeq P ty L ops os ⟨put t d v, h'⟩ K) :
    ASeq P ty L ops (⟨d, op, a, b, c, none⟩ :: os) ⟨t, h⟩ K := by
  simp only [ASeq, AStep, guardOf, ADo, e]
  exact ⟨fun _ => ⟨hp, k⟩, fun h => by cases h⟩

/-- The same, the rest hidden. -/
theorem st_k {op : Op} {d : Option Tmp} {a : TypeId} {b : String} {c : Array Edge} {p : Prop} {v : V} {h' : List HB} (e : aop ty t h op = some (p, v, h')) (k : ∀ F : St → Prop, (∀ s, ASeq P ty L ops os s K → F s) → p ∧ F ⟨put t d v, h'⟩) :
    ASeq P ty L ops (⟨d, op, a, b, c, none⟩ :: os) ⟨t, h⟩ K :=
  st_op e (k _ fun _ h => h).1 (k _ fun _ h => h).2

/-- The same, where nothing is asked. -/
theorem st_t {op : Op} {d : Option Tmp} {a : TypeId} {b : String} {c : Array Edge} {v : V} {h' : List HB} (e : aop ty t h op = some (True, v, h')) (k : ∀ F : St → Prop, (∀ s, ASeq P ty L ops os s K → F s) → F ⟨put t d v, h'⟩) :
    ASeq P ty L ops (⟨d, op, a, b, c, none⟩ :: os) ⟨t, h⟩ K :=
  st_op e trivial (k _ fun _ h => h)

/-- An operation that has a guard. -/
theorem st_guard {op : Op} {d : Option Tmp} {a : TypeId} {b : String} {c : Array Edge} {j : Nat} {want : Bool} {q : Tmp} {g : Bool} (hj : (ops[j]?).bind (·.dst) = some q) (hq : t[q]? = some (.bool g))
    (hy : g = want → ASeq P ty L ops (⟨d, op, a, b, c, none⟩ :: os) ⟨t, h⟩ K) (hn : g = (!want) → ASeq P ty L ops os ⟨put t d udf, h⟩ K) : ASeq P ty L ops (⟨d, op, a, b, c, some (j, want)⟩ :: os) ⟨t, h⟩ K := by
  simp only [ASeq, AStep, guardOf, hj, hq]
  refine ⟨fun e => ?_, fun e => hn (by cases g <;> cases want <;> first | rfl | cases e)⟩
  have := hy (by cases g <;> cases want <;> first | rfl | cases e)
  simp only [ASeq, AStep, guardOf] at this
  have h2 := by simpa using this
  exact h2

/-- An operation whose guard hangs on one that was not wanted. -/
theorem st_skip {op : Op} {d : Option Tmp} {a : TypeId} {b : String} {c : Array Edge} {j : Nat} {want : Bool} {q : Tmp} {l : List V} (hj : (ops[j]?).bind (·.dst) = some q) (hq : t[q]? = some (.tup l))
    (k : ASeq P ty L ops os ⟨put t d udf, h⟩ K) : ASeq P ty L ops (⟨d, op, a, b, c, some (j, want)⟩ :: os) ⟨t, h⟩ K := by
  simp only [ASeq, AStep, guardOf, hj, hq]
  simpa using k

/-- A call of a function that neither reads nor writes the heap. -/
theorem st_pure {op : Op} {d : Option Tmp} {a : TypeId} {b : String} {c : Array Edge} {f : FuncId} {args : List V} {r : V} (e : callOf t op = some (f, args)) (hc : Pure P f args r) (k : ASeq P ty L ops os ⟨put t d r, h⟩ K) :
    ASeq P ty L ops (⟨d, op, a, b, c, none⟩ :: os) ⟨t, h⟩ K := by
  simp only [ASeq, AStep, guardOf, ADo, aop_call e, e]
  refine ⟨fun _ => ?_, fun h => by cases h⟩
  split
  · exact ⟨r, hc, k⟩
  · exact ⟨r, h, hc h, k⟩

/-- Any call. -/
theorem st_call {op : Op} {d : Option Tmp} {a : TypeId} {b : String} {c : Array Edge} {f : FuncId} {args : List V} {r : V} {h' : List HB} (e : callOf t op = some (f, args)) (hL : namedIn L op = false) (hc : CallD P f args h r h')
    (k : ASeq P ty L ops os ⟨put t d r, h'⟩ K) : ASeq P ty L ops (⟨d, op, a, b, c, none⟩ :: os) ⟨t, h⟩ K := by
  simp only [ASeq, AStep, guardOf, ADo, aop_call e, e]
  refine ⟨fun _ => ?_, fun h => by cases h⟩
  rw [if_neg (by rw [hL]; simp)]
  exact ⟨r, h', hc, k⟩

/-! Single operations -/
theorem op_move (x : Operand) : aop ty t h (.move x) = some (True, ev t x, h) := rfl
theorem op_assign (x : Operand) : aop ty t h (.assign x) = some (True, ev t x, h) := rfl
end
end Go.Abs
