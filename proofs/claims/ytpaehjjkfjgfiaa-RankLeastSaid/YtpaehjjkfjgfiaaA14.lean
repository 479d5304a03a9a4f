/- The abstract machine, part 14: single operations whose operands are of unknown length. -/
import Derived.Test.YtpaehjjkfjgfiaaA13
set_option linter.unusedVariables false
set_option linter.unusedSimpArgs false
namespace Go.Abs
open Go Go.RowKit

section
variable {P : Program} {ty : Tab} {L : List FuncId} {ops : Array Oper} {os : List Oper} {t : List V} {h : List HB} {K : St → Prop}
theorem st_pTk {d : Option Tmp} {x y z : Operand} {a : TypeId} {b : String} {c : Array Edge} {g : Bool} (e : ev t x = .bool g) (hg : g = true) (k : ∀ F : St → Prop, (∀ s, ASeq P ty L ops os s K → F s) → True ∧ F ⟨put t d (ev t y), h⟩) :
    ASeq P ty L ops (⟨d, .pick x y z, a, b, c, none⟩ :: os) ⟨t, h⟩ K := st_pT e hg fun F hF => (k F hF).2
theorem st_pFk {d : Option Tmp} {x y z : Operand} {a : TypeId} {b : String} {c : Array Edge} {g : Bool} (e : ev t x = .bool g) (hg : g = false) (k : ∀ F : St → Prop, (∀ s, ASeq P ty L ops os s K → F s) → True ∧ F ⟨put t d (ev t z), h⟩) :
    ASeq P ty L ops (⟨d, .pick x y z, a, b, c, none⟩ :: os) ⟨t, h⟩ K := st_pF e hg fun F hF => (k F hF).2
theorem st_gnTk {op : Op} {d : Option Tmp} {a : TypeId} {b : String} {c : Array Edge} {j : Nat} {q : Tmp} {g : Bool} (hj : (ops[j]?).bind (·.dst) = some q) (hq : t[q]? = some (.bool g)) (hg : g = false) (k : ∀ F : St → Prop, (∀ s, ASeq P ty L ops os s K → F s) → True ∧ F ⟨put t d udf, h⟩) :
    ASeq P ty L ops (⟨d, op, a, b, c, some (j, true)⟩ :: os) ⟨t, h⟩ K := st_gnT hj hq hg fun F hF => (k F hF).2
theorem st_gnFk {op : Op} {d : Option Tmp} {a : TypeId} {b : String} {c : Array Edge} {j : Nat} {q : Tmp} {g : Bool} (hj : (ops[j]?).bind (·.dst) = some q) (hq : t[q]? = some (.bool g)) (hg : g = true) (k : ∀ F : St → Prop, (∀ s, ASeq P ty L ops os s K → F s) → True ∧ F ⟨put t d udf, h⟩) :
    ASeq P ty L ops (⟨d, op, a, b, c, some (j, false)⟩ :: os) ⟨t, h⟩ K := st_gnF hj hq hg fun F hF => (k F hF).2
theorem st_skk {op : Op} {d : Option Tmp} {a : TypeId} {b : String} {c : Array Edge} {j : Nat} {want : Bool} {q : Tmp} {l : List V} (hj : (ops[j]?).bind (·.dst) = some q) (hq : t[q]? = some (.tup l)) (k : ∀ F : St → Prop, (∀ s, ASeq P ty L ops os s K → F s) → True ∧ F ⟨put t d udf, h⟩) :
    ASeq P ty L ops (⟨d, op, a, b, c, some (j, want)⟩ :: os) ⟨t, h⟩ K := st_skip hj hq (k _ fun _ h => h).2
theorem st_ck {op : Op} {d : Option Tmp} {a : TypeId} {b : String} {c : Array Edge} {f : FuncId} {args : List V} {r : V} (e : callOf t op = some (f, args)) (hc : Pure P f args r) (k : ∀ F : St → Prop, (∀ s, ASeq P ty L ops os s K → F s) → True ∧ F ⟨put t d r, h⟩) :
    ASeq P ty L ops (⟨d, op, a, b, c, none⟩ :: os) ⟨t, h⟩ K := st_c e hc fun F hF => (k F hF).2
end

section
variable {ty : Tab} {t : List V} {h : List HB}

/-- Bytes to a string. -/
theorem op_toStr {src dst e : TypeId} {o : Operand} {si d ei : Ty} {n : Nat} {cs : List V} {bs : List UInt8} (h1 : ty src = some si) (h2 : ty dst = some d) (h3 : si.desc = .slice e) (h4 : d.desc = .string) (h5 : ty e = some ei) (h6 : ei.desc = .int .u8)
    (hs : ∀ s, ev t o ≠ .str s) (hn : lenOfV (ev t o) = some n) (hc : cellsOf h (ev t o) = some cs) (hb : bytesOf cs = some bs) : aop ty t h (.convert src dst o) = some (cs.length = n, .str ⟨bs.toArray⟩, h) := by
  simp only [aop, h1, h2, h3, h4, h5, h6]
  unfold aToStr
  rw [hn, hc]
  generalize hv : ev t o = v at hs
  cases v <;> first | (exact absurd rfl (hs _)) | (simp only [hb])
end
end Go.Abs
