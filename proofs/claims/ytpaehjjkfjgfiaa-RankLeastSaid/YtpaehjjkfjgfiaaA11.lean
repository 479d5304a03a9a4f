/- The abstract machine, part 11: rules that a walk applies. -/
import Derived.Test.YtpaehjjkfjgfiaaA10
set_option linter.unusedVariables false
set_option linter.unusedSimpArgs false
namespace Go.Abs
open Go Go.RowKit

theorem enters_of {P : Program} {f : FuncId} {fn : Func} {c : Code} (hf : P.funcs[f]? = some fn) (hname : (fn.name == "runtime.NumGoroutine") = false) (hb : fn.body = some c) : Enters P f := by
  intro args w
  have h1 : fn.name ≠ "runtime.NumGoroutine" := by simpa using hname
  simp [callFunc, hf, h1, hb, mark]

section
variable {P : Program} {N : Nat} {ty : Tab} {L : List FuncId} {ops : Array Oper} {os : List Oper} {t : List V} {h : List HB} {K : St → Prop} {Q : Exit → St → Prop} {s : St}

/-- **A function's contract, out of its body**: what is asked of the frame hidden. -/
theorem ac_body (T : TyOK P ty) {f : FuncId} {fn : Func} {c : Code} {args : List V} {R : V → List HB → Prop} {rs : List ResultVar} (hf : P.funcs[f]? = some fn) (hb : fn.body = some c) (hrs : fn.results = rs.toArray)
    (hname : (fn.name == "runtime.NumGoroutine") = false) (hargs : args.length ≤ fn.ntmps) (hw : ∀ F : St → Prop, (∀ s, AW P h.length c (RetK ty rs R) s → F s) → F ⟨args ++ List.replicate (fn.ntmps - args.length) .any, h⟩) : AC P f args h R :=
  ac_enter T hf hb hrs (enters_of hf hname hb) hargs (hw _ fun _ h => h)

theorem st_id {l : List Oper} (k : ASeq P ty L ops l s K) : ASeq P ty L ops l s K := k
theorem aw_id {c : Code} (k : AW P N c Q s) : AW P N c Q s := k
theorem thenK_n (k : K s) : thenK K Q .normal s := k
theorem thenK_r (k : Q .ret s) : thenK K Q .ret s := k
theorem thenK_e {i : Nat} (k : Q (.exit i) s) : thenK K Q (.exit i) s := k
theorem blockK_n {id : Nat} (k : Q .normal s) : blockK id Q .normal s := k
theorem blockK_r {id : Nat} (k : Q .ret s) : blockK id Q .ret s := k
theorem blockK_h {id i : Nat} (e : i = id) (k : Q .normal s) : blockK id Q (.exit i) s := by rw [blockK_exit, if_pos e]; exact k
theorem blockK_m {id i : Nat} (e : i ≠ id) (k : Q (.exit i) s) : blockK id Q (.exit i) s := by rw [blockK_exit, if_neg e]; exact k

theorem retK_r {rs : List ResultVar} {R : V → List HB → Prop} {p : Prop} {vs : List V} (e : aRess ty s rs = some (p, vs)) (k : p ∧ R (one vs) s.h) : RetK ty rs R .ret s := by
  rw [ret_ret, e]; exact k
theorem retK_n {rs : List ResultVar} {R : V → List HB → Prop} {p : Prop} {vs : List V} (e : aRess ty s rs = some (p, vs)) (k : p ∧ R (one vs) s.h) : RetK ty rs R .normal s := by
  rw [ret_normal, e]; exact k

theorem aw_condT {c : Operand} {x y : Code} {b : Bool} (hc : ev s.t c = .bool b) (hb : b = true) (k : AW P N x Q s) : AW P N (.cond c x y) Q s :=
  aw_cond hc (fun _ => k) (fun e => by rw [hb] at e; cases e)
theorem aw_condF {c : Operand} {x y : Code} {b : Bool} (hc : ev s.t c = .bool b) (hb : b = false) (k : AW P N y Q s) : AW P N (.cond c x y) Q s :=
  aw_cond hc (fun e => by rw [hb] at e; cases e) (fun _ => k)

theorem st_gy {op : Op} {d : Option Tmp} {a : TypeId} {b : String} {c : Array Edge} {j : Nat} {want : Bool} {q : Tmp} {g : Bool} (hj : (ops[j]?).bind (·.dst) = some q) (hq : t[q]? = some (.bool g)) (hg : g = want)
    (k : ASeq P ty L ops (⟨d, op, a, b, c, none⟩ :: os) ⟨t, h⟩ K) : ASeq P ty L ops (⟨d, op, a, b, c, some (j, want)⟩ :: os) ⟨t, h⟩ K :=
  st_guard hj hq (fun _ => k) (fun e => by rw [hg] at e; cases want <;> cases e)
theorem st_gn {op : Op} {d : Option Tmp} {a : TypeId} {b : String} {c : Array Edge} {j : Nat} {want : Bool} {q : Tmp} {g : Bool} (hj : (ops[j]?).bind (·.dst) = some q) (hq : t[q]? = some (.bool g)) (hg : g = (!want))
    (k : ∀ F : St → Prop, (∀ s, ASeq P ty L ops os s K → F s) → F ⟨put t d udf, h⟩) : ASeq P ty L ops (⟨d, op, a, b, c, some (j, want)⟩ :: os) ⟨t, h⟩ K :=
  st_guard hj hq (fun e => by rw [hg] at e; cases want <;> cases e) (fun _ => k _ fun _ h => h)

/-- A choice, the test known. -/
theorem st_pT {d : Option Tmp} {x y z : Operand} {a : TypeId} {b : String} {c : Array Edge} {g : Bool} (e : ev t x = .bool g) (hg : g = true) (k : ∀ F : St → Prop, (∀ s, ASeq P ty L ops os s K → F s) → F ⟨put t d (ev t y), h⟩) :
    ASeq P ty L ops (⟨d, .pick x y z, a, b, c, none⟩ :: os) ⟨t, h⟩ K :=
  st_op (p := True) (v := ev t y) (h' := h) (by simp only [aop, e, hg, if_true]) trivial (k _ fun _ h => h)
theorem st_pF {d : Option Tmp} {x y z : Operand} {a : TypeId} {b : String} {c : Array Edge} {g : Bool} (e : ev t x = .bool g) (hg : g = false) (k : ∀ F : St → Prop, (∀ s, ASeq P ty L ops os s K → F s) → F ⟨put t d (ev t z), h⟩) :
    ASeq P ty L ops (⟨d, .pick x y z, a, b, c, none⟩ :: os) ⟨t, h⟩ K :=
  st_op (p := True) (v := ev t z) (h' := h) (by simp only [aop, e, hg, Bool.false_eq_true, if_false]) trivial (k _ fun _ h => h)

/-- A call of a function that neither reads nor writes the heap; the rest hidden. -/
theorem st_c {op : Op} {d : Option Tmp} {a : TypeId} {b : String} {c : Array Edge} {f : FuncId} {args : List V} {r : V} (e : callOf t op = some (f, args)) (hc : Pure P f args r)
    (k : ∀ F : St → Prop, (∀ s, ASeq P ty L ops os s K → F s) → F ⟨put t d r, h⟩) : ASeq P ty L ops (⟨d, op, a, b, c, none⟩ :: os) ⟨t, h⟩ K :=
  st_pure e hc (k _ fun _ h => h)

/-- The state may be turned into an equal one. -/
theorem aw_eq {c : Code} {s' : St} (e : s = s') (k : AW P N c Q s') : AW P N c Q s := e ▸ k

/-- So many rounds of a loop at most. -/
def Rounds (P : Program) (N : Nat) (c : Code) (Q : Exit → St → Prop) : Nat → St → Prop
  | 0, _ => False
  | n + 1, s => AW P N c (thenK (Rounds P N c Q n) Q) s

theorem aw_rounds {c : Code} (n : Nat) (h : Rounds P N c Q n s) : AW P N (.loop c) Q s := by
  refine aw_loop (X := { p : Nat × St // Rounds P N c Q p.1 p.2 }) (fun x => x.1.2) (fun x => x.1.1) ⟨(n, s), h⟩ (Wk.refl s) ?_
  rintro ⟨⟨m, s⟩, hm⟩
  cases m with
  | zero => exact hm.elim
  | succ m =>
    refine AW.mono hm ?_
    intro e s' q
    cases e with
    | normal => exact ⟨⟨(m, s'), q⟩, Wk.refl _, Nat.lt_succ_self m⟩
    | _ => exact q

theorem rounds_succ {c : Code} {n : Nat} (h : AW P N c (thenK (Rounds P N c Q n) Q) s) : Rounds P N c Q (n + 1) s := h
end

/-! ### Values that name no block -/
def Cleans (l : List V) : Prop := ∀ v ∈ l, Clean v
theorem cleans_nil : Cleans [] := by intro v h; cases h
theorem cleans_cons {v : V} {l : List V} (h : Clean v) (k : Cleans l) : Cleans (v :: l) := by
  intro u hu; rcases List.mem_cons.1 hu with rfl | h'
  · exact h
  · exact k u h'
theorem clean_agg {l : List V} (h : Cleans l) : Clean (.agg l) := .agg l h
theorem clean_tup {l : List V} (h : Cleans l) : Clean (.tup l) := .tup l h
theorem pure_ac {P : Program} {f : FuncId} {args : List V} {r : V} (h : AC P f args [] fun v _ => v = r) (ha : Cleans args) (hr : Clean r) : Pure P f args r := pure_of_ac h ha hr

/-! ### Numbers that fit their kind -/
theorem wi64 {n : Int} (h : -9223372036854775808 ≤ n ∧ n ≤ 9223372036854775807) : IntKind.wrap .i64 n = n := by
  show (if (true && decide (n % 18446744073709551616 ≥ 9223372036854775808)) = true then n % 18446744073709551616 - 18446744073709551616 else n % 18446744073709551616) = n
  rw [Bool.true_and]
  simp only [decide_eq_true_eq]
  split <;> omega
theorem wu64 {n : Int} (h : 0 ≤ n ∧ n ≤ 18446744073709551615) : IntKind.wrap .u64 n = n := by
  simp only [IntKind.wrap, IntKind.bits, IntKind.signed, Bool.true_and, Bool.false_and, decide_eq_true_eq, Bool.false_eq_true, if_false, Nat.reducePow, Nat.reduceSub, Int.reducePow]
  first | omega | (split <;> omega)
theorem wu8 {n : Int} (h : 0 ≤ n ∧ n ≤ 255) : IntKind.wrap .u8 n = n := by
  simp only [IntKind.wrap, IntKind.bits, IntKind.signed, Bool.true_and, Bool.false_and, decide_eq_true_eq, Bool.false_eq_true, if_false, Nat.reducePow, Nat.reduceSub, Int.reducePow]
  first | omega | (split <;> omega)
attribute [irreducible] Rounds
end Go.Abs
