/- The abstract machine, part 4: each operation is the model's. -/
import Derived.Test.YtemlnaipcdajeaaGreatM1
import Derived.ChangeKeysEq
set_option linter.unusedVariables false
set_option linter.unusedSimpArgs false
namespace Go.Abs
open Go Go.RowKit

section
variable {P : Program} {ty : Tab} {ρ : Rho} {I : Nat → Prop} {w : World}

theorem bin_int (op : BinOp) (t : TypeId) (k k' : IntKind) (a b : Int) (hp : (binInt op k k' a b).1) :
    ∃ x, (binOp op t (.int k a) (.int k' b)).run P w = .ok x w ∧ RV ρ I w (binInt op k k' a b).2 x := by
  cases op
  case shl =>
    have h0 : ¬ b < 0 := by have : 0 ≤ b := hp; omega
    exact ⟨_, by simp only [binOp, Op.shift, if_neg h0]; rfl, .int _ _⟩
  case shr =>
    have h0 : ¬ b < 0 := by have : 0 ≤ b := hp; omega
    exact ⟨_, by simp only [binOp, Op.shift, if_neg h0]; rfl, .int _ _⟩
  case quo =>
    obtain ⟨rfl, h0⟩ := hp
    exact ⟨_, by simp [binOp, Op.intDiv, h0], .int _ _⟩
  case rem =>
    obtain ⟨rfl, h0⟩ := hp
    exact ⟨_, by simp [binOp, Op.intDiv, h0], .int _ _⟩
  case add => obtain rfl : k = k' := hp; exact ⟨_, by simp [binOp, Op.intArith], .int _ _⟩
  case sub => obtain rfl : k = k' := hp; exact ⟨_, by simp [binOp, Op.intArith], .int _ _⟩
  case mul => obtain rfl : k = k' := hp; exact ⟨_, by simp [binOp, Op.intArith], .int _ _⟩
  case and => obtain rfl : k = k' := hp; exact ⟨_, by simp only [binOp, ne_eq, not_true_eq_false, if_false, Op.intBits]; rfl, .int _ _⟩
  case or => obtain rfl : k = k' := hp; exact ⟨_, by simp only [binOp, ne_eq, not_true_eq_false, if_false, Op.intBits]; rfl, .int _ _⟩
  case xor => obtain rfl : k = k' := hp; exact ⟨_, by simp only [binOp, ne_eq, not_true_eq_false, if_false, Op.intBits]; rfl, .int _ _⟩
  case andNot => obtain rfl : k = k' := hp; exact ⟨_, by simp only [binOp, ne_eq, not_true_eq_false, if_false, Op.intBits]; rfl, .int _ _⟩
  case eql => obtain rfl : k = k' := hp; exact ⟨_, by simp [binOp, Op.intCmp], .bool _⟩
  case neq => obtain rfl : k = k' := hp; exact ⟨_, by simp [binOp, Op.intCmp], .bool _⟩
  case lss => obtain rfl : k = k' := hp; exact ⟨_, by simp [binOp, Op.intCmp], .bool _⟩
  case leq => obtain rfl : k = k' := hp; exact ⟨_, by simp [binOp, Op.intCmp], .bool _⟩
  case gtr => obtain rfl : k = k' := hp; exact ⟨_, by simp [binOp, Op.intCmp], .bool _⟩
  case geq => obtain rfl : k = k' := hp; exact ⟨_, by simp [binOp, Op.intCmp], .bool _⟩

theorem guard_int (op : BinOp) (t : TypeId) (x y : Operand) (k k' : IntKind) (a b : Int) : (eqGuard op t x y (.int k a) (.int k' b)).run P w = .ok () w := by
  unfold eqGuard; split <;> rfl

theorem run_indexAt {T : TyOK P ty} {xt : TypeId} {d : Ty} (hd : ty xt = some d) {x ix : V} {h : List HB} {p : Prop} {v : V} {h' : List HB}
    (hr : aIndexAddr ty d.desc x ix h = some (p, v, h')) (hp : p) {y iy : Value} (hx : RV ρ I w x y) (hi : RV ρ I w ix iy) :
    h' = h ∧ ∃ z, (Instr.indexAt xt y iy).run P w = .ok z w ∧ RV ρ I w v z := by
  have und := run_und T hd w
  cases hi with
  | int k i =>
    simp only [aIndexAddr] at hr
    simp only [Instr.indexAt, asIntOf, Sem.run_bind, Sem.run_pure, Result.andThen_ok, und]
    split at hr
    · rename_i n e b o hde
      cases he : ty e with
      | none => simp [he] at hr
      | some ei =>
        simp only [he, Option.map_some, Option.some.injEq, Prod.mk.injEq] at hr
        obtain ⟨rfl, rfl, rfl⟩ := hr
        cases hx with
        | ptr hb =>
          refine ⟨rfl, _, ?_, .ptr hb⟩
          simp [hde, Instr.sureAddr, und, hp, run_size T he, addr_add, Nat.add_assoc]
    · rename_i n e cs o hde
      cases he : ty e with
      | none => simp [he] at hr
      | some ei =>
        simp only [he, Option.map_some, Option.some.injEq, Prod.mk.injEq] at hr
        obtain ⟨rfl, rfl, rfl⟩ := hr
        cases hx with
        | vptr f hI hc hv =>
          refine ⟨rfl, _, ?_, .vptr f hI hc hv⟩
          simp [hde, Instr.sureAddr, und, hp, run_size T he, addr_add, Nat.add_assoc]
    · rename_i e b o z len cap hde
      cases he : ty e with
      | none => simp [he] at hr
      | some ei =>
        simp only [he, Option.map_some, Option.some.injEq, Prod.mk.injEq] at hr
        obtain ⟨rfl, rfl, rfl⟩ := hr
        cases hx with
        | slc hb h1 h2 hb2 hs =>
          refine ⟨rfl, _, ?_, .ptr hb⟩
          simp [hde, und, hp, run_size T he, addr_add, Nat.add_assoc]
    · rename_i e cs len x hde
      cases he : ty e with
      | none => simp [he] at hr
      | some ei =>
        simp only [he, Option.map_some, Option.some.injEq, Prod.mk.injEq] at hr
        obtain ⟨rfl, rfl, rfl⟩ := hr
        cases hx with
        | vecn x => exact absurd hp (by omega)
        | vec f hI hc hv h1 hx =>
          refine ⟨rfl, _, ?_, .vptr f hI hc hv⟩
          simp [hde, und, hp, run_size T he, addr_add]
    · cases hr
  | _ => simp [aIndexAddr] at hr

theorem run_index {T : TyOK P ty} {xt : TypeId} {d : Ty} (hd : ty xt = some d) {x ix : V} {h : List HB} {p : Prop} {v : V} {h' : List HB}
    (hr : aIndex ty d.desc x ix h = some (p, v, h')) (hp : p) {y iy : Value} (hx : RV ρ I w x y) (hi : RV ρ I w ix iy) :
    h' = h ∧ ∃ z, (Instr.index xt y iy).run P w = .ok z w ∧ RV ρ I w v z := by
  have und := run_und T hd w
  cases hi with
  | int k i =>
    simp only [aIndex] at hr
    simp only [Instr.index, asIntOf, Sem.run_bind, Sem.run_pure, Result.andThen_ok, und]
    split at hr
    · rename_i n e cs hde
      cases he : ty e with
      | none => simp [he] at hr
      | some ei =>
        simp only [he, Option.map_some, Option.some.injEq, Prod.mk.injEq] at hr
        obtain ⟨rfl, rfl, rfl⟩ := hr
        cases hx with
        | agg hl hv =>
          obtain ⟨z, hz, hrz⟩ := part_part (P := P) T he hl hv hp.2
          refine ⟨rfl, z, ?_, hrz⟩
          simp only [hde]
          rw [if_pos hp.1, Sem.run_bind, run_size T he, Result.andThen_ok]
          exact hz
    · rename_i s hde
      simp only [Option.some.injEq, Prod.mk.injEq] at hr
      obtain ⟨rfl, rfl, rfl⟩ := hr
      cases hx with
      | str s =>
        refine ⟨rfl, .int .u8 (bt s i.toNat), ?_, .int _ _⟩
        simp only [hde]
        obtain ⟨h0, h1⟩ := hp
        have hlt : i.toNat < s.size := by omega
        have hs : s[i.toNat]? = some (s.data[i.toNat]'hlt) := by
          rw [getElem?_pos s i.toNat hlt]; rfl
        have hb : bt s i.toNat = (s.data[i.toNat]'hlt).toNat := by
          unfold bt; rw [Array.getElem?_eq_getElem hlt]; rfl
        rw [if_pos h0, hs, hb]; rfl
    · cases hr
  | _ => simp [aIndex] at hr

theorem run_field {T : TyOK P ty} {xt : TypeId} {d : Ty} (hd : ty xt = some d) {x : V} {f : Nat} {h : List HB} {p : Prop} {v : V} {h' : List HB}
    (hr : aField ty d.desc x f h = some (p, v, h')) (hp : p) {y : Value} (hx : RV ρ I w x y) :
    h' = h ∧ ∃ z, (Instr.field xt y f).run P w = .ok z w ∧ RV ρ I w v z := by
  have und := run_und T hd w
  unfold aField at hr
  split at hr
  · rename_i fd cs hf
    cases he : ty fd.type with
    | none => simp [he] at hr
    | some fi =>
      simp only [he, Option.map_some, Option.some.injEq, Prod.mk.injEq] at hr
      obtain ⟨rfl, rfl, rfl⟩ := hr
      unfold fieldOf at hf
      split at hf
      · rename_i fs hde
        cases hx with
        | agg hl hv =>
          obtain ⟨z, hz, hrz⟩ := part_part (P := P) T he hl hv hp
          exact ⟨rfl, z, by simp [Instr.field, und, hde, hf, asAgg, hz], hrz⟩
      · cases hf
  · cases hr

theorem run_fieldAt {T : TyOK P ty} {xt : TypeId} {d : Ty} (hd : ty xt = some d) {x : V} {f : Nat} {h : List HB} {p : Prop} {v : V} {h' : List HB}
    (hr : aFieldAddr ty d.desc x f h = some (p, v, h')) (hp : p) {y : Value} (hx : RV ρ I w x y) :
    h' = h ∧ ∃ z, (Instr.fieldAt xt y f).run P w = .ok z w ∧ RV ρ I w v z := by
  have und := run_und T hd w
  unfold aFieldAddr at hr
  have hfs : ∀ fd, fieldOf d.desc f = some fd → ∃ fs : Array Field, d.desc = .struct fs ∧ fs[f]? = some fd := by
    intro fd hf; unfold fieldOf at hf; split at hf
    · rename_i fs hde; exact ⟨fs, hde, hf⟩
    · cases hf
  split at hr
  · rename_i fd b o hf
    cases he : ty fd.type with
    | none => simp [he] at hr
    | some fi =>
      simp only [he, Option.map_some, Option.some.injEq, Prod.mk.injEq] at hr
      obtain ⟨rfl, rfl, rfl⟩ := hr
      obtain ⟨fs, hde, hff⟩ := hfs fd hf
      cases hx with
      | ptr hb =>
        have hp' : ¬ fi.size = 0 := hp
        exact ⟨rfl, _, by simp [Instr.fieldAt, und, hde, hff, Instr.sureAddr, fieldPlace, run_size T he, hp', addr_add, Nat.add_assoc], .ptr hb⟩
  · rename_i fd cs o hf
    cases he : ty fd.type with
    | none => simp [he] at hr
    | some fi =>
      simp only [he, Option.map_some, Option.some.injEq, Prod.mk.injEq] at hr
      obtain ⟨rfl, rfl, rfl⟩ := hr
      obtain ⟨fs, hde, hff⟩ := hfs fd hf
      cases hx with
      | vptr g hI hc hv =>
        have hp' : ¬ fi.size = 0 := hp
        exact ⟨rfl, _, by simp [Instr.fieldAt, und, hde, hff, Instr.sureAddr, fieldPlace, run_size T he, hp', addr_add, Nat.add_assoc], .vptr g hI hc hv⟩
  · cases hr

theorem run_un {op : UnOp} {x v : V} (hr : aUn op x = some v) {y : Value} (hx : RV ρ I w x y) : ∃ z, (Op.unary op y).run P w = .ok z w ∧ RV ρ I w v z := by
  unfold aUn at hr
  split at hr
  · cases hr; cases hx; exact ⟨_, by simp [Op.unary, Op.intArith], .int _ _⟩
  · cases hr; cases hx; exact ⟨_, by simp [Op.unary], .bool _⟩
  · cases hr; cases hx; exact ⟨_, by simp only [Op.unary, Op.intBits]; rfl, .int _ _⟩
  · cases hr


/-! ### Equality of values that are flat -/

def eqVal : Kd → Value → Value → Option Bool
  | .i q, .int k a, .int k' b => if q = k ∧ k = k' then some (a == b) else none
  | .b, .bool a, .bool b => some (a == b)
  | .s, .string a, .string b => some (a == b)
  | _, _, _ => none

def eqVals : List Kd → List Value → List Value → Option Bool
  | [], [], [] => some true
  | k :: ks, x :: xs, y :: ys => match eqVal k x y, eqVals ks xs ys with
    | some a, some b => some (a && b)
    | _, _ => none
  | _, _, _ => none

theorem eqVal_of {k : Kd} {u v : V} {x y : Value} {r : Bool} (h : eqCell k u v = some r) (hx : RV ρ I w u x) (hy : RV ρ I w v y) : eqVal k x y = some r := by
  unfold eqCell at h
  split at h
  · cases hx; cases hy; exact h
  · cases hx; cases hy; exact h
  · cases hx; cases hy; exact h
  · cases h

theorem eqVals_of : ∀ {ks : List Kd} {cs ds : List V} {xs ys : List Value} {r : Bool}, eqCells ks cs ds = some r → cs.length = xs.length → ds.length = ys.length →
    (∀ (i : Nat) (v : V) (x : Value), cs[i]? = some v → xs[i]? = some x → RV ρ I w v x) → (∀ (i : Nat) (v : V) (x : Value), ds[i]? = some v → ys[i]? = some x → RV ρ I w v x) → eqVals ks xs ys = some r
  | [], [], [], xs, ys, r, h, hl, hl', _, _ => by
    obtain rfl : xs = [] := List.length_eq_zero_iff.1 hl.symm
    obtain rfl : ys = [] := List.length_eq_zero_iff.1 hl'.symm
    exact h
  | k :: ks, u :: cs, v :: ds, [], ys, r, h, hl, hl', _, _ => by simp at hl
  | k :: ks, u :: cs, v :: ds, x :: xs, [], r, h, hl, hl', _, _ => by simp at hl'
  | k :: ks, u :: cs, v :: ds, x :: xs, y :: ys, r, h, hl, hl', hx, hy => by
    simp only [eqCells] at h
    cases h1 : eqCell k u v with
    | none => simp [h1] at h
    | some a =>
      cases h2 : eqCells ks cs ds with
      | none => simp [h1, h2] at h
      | some b =>
        simp only [h1, h2, Option.some.injEq] at h
        have e1 := eqVal_of h1 (hx 0 u x rfl rfl) (hy 0 v y rfl rfl)
        have e2 := eqVals_of h2 (by simpa using hl) (by simpa using hl') (fun i a b h k => hx (i + 1) a b (by simpa using h) (by simpa using k)) (fun i a b h k => hy (i + 1) a b (by simpa using h) (by simpa using k))
        simp [eqVals, e1, e2, h]
  | [], [], _ :: _, _, _, _, h, _, _, _, _ => by simp [eqCells] at h
  | [], _ :: _, _, _, _, _, h, _, _, _, _ => by simp [eqCells] at h
  | _ :: _, [], _, _, _, _, h, _, _, _, _ => by simp [eqCells] at h
  | _ :: _, _ :: _, [], _, _, _, h, _, _, _, _ => by simp [eqCells] at h

theorem eqVals_append : ∀ {ks ls : List Kd} {a c b d : List Value} {r : Bool}, ks.length = a.length → a.length = c.length → eqVals (ks ++ ls) (a ++ b) (c ++ d) = some r → ∃ r1 r2, eqVals ks a c = some r1 ∧ eqVals ls b d = some r2 ∧ r = (r1 && r2)
  | [], ls, [], [], b, d, r, _, _, h => ⟨true, r, rfl, h, by simp⟩
  | [], _, _ :: _, _, _, _, _, hk, _, _ => by simp at hk
  | _ :: _, _, [], _, _, _, _, hk, _, _ => by simp at hk
  | _, _, [], _ :: _, b, d, r, _, hl, h => by simp at hl
  | _, _, _ :: _, [], b, d, r, _, hl, h => by simp at hl
  | k :: ks, ls, x :: a, y :: c, b, d, r, hk, hl, h => by
    simp only [List.cons_append, eqVals] at h
    cases h1 : eqVal k x y with
    | none => simp [h1] at h
    | some p =>
      cases h2 : eqVals (ks ++ ls) (a ++ b) (c ++ d) with
      | none => simp [h1, h2] at h
      | some q =>
        simp only [h1, h2, Option.some.injEq] at h
        obtain ⟨r1, r2, e1, e2, e3⟩ := eqVals_append (by simpa using hk) (by simpa using hl) h2
        exact ⟨p && r1, r2, by simp [eqVals, h1, e1], e2, by rw [← h, e3, Bool.and_assoc]⟩

/-- The part of a row that a type takes. -/
def seg (xs : Array Value) (off n : Nat) : List Value := (xs.toList.drop off).take n

theorem seg_add (xs : Array Value) (off m n : Nat) : seg xs off (m + n) = seg xs off m ++ seg xs (off + m) n := by
  simp only [seg, List.take_add, List.drop_drop]

def FlatEq (P : Program) (ty : Tab) (dd : Nat) (t : TypeId) (ks : List Kd) : Prop :=
  ∀ (w : World) (i : Ty) (xs ys : Array Value) (off : Nat) (r : Bool), ty t = some i → off + i.size ≤ xs.size → off + i.size ≤ ys.size → eqVals ks (seg xs off i.size) (seg ys off i.size) = some r →
    ∃ a b, (part t xs off).run P w = .ok a w ∧ (part t ys off).run P w = .ok b w ∧ (Op.equalIn dd t a b).run P w = .ok r w

theorem eqVals_one {k : Kd} {x y : Value} {r : Bool} (h : eqVals [k] [x] [y] = some r) : eqVal k x y = some r := by
  simp only [eqVals] at h
  cases h1 : eqVal k x y with
  | none => simp [h1] at h
  | some p => simp [h1] at h; rw [h]

theorem seg_one {xs : Array Value} {off : Nat} (h : off + 1 ≤ xs.size) : seg xs off 1 = [xs[off]'(by omega)] := by
  unfold seg
  rw [List.drop_eq_getElem_cons (by simp; omega)]
  simp

theorem seg_length {xs : Array Value} {off n : Nat} (h : off + n ≤ xs.size) : (seg xs off n).length = n := by simp [seg]; omega

theorem seg_extract {xs : Array Value} {off n o m : Nat} (h : o + m ≤ n) : seg (xs.extract off (off + n)) o m = seg xs (off + o) m := by
  simp only [seg, Array.toList_extract, List.extract_eq_take_drop]
  rw [List.drop_take, List.drop_drop, List.take_take]
  congr 1; omega

theorem part_leaf {t : TypeId} {i : Ty} (T : TyOK P ty) (h : ty t = some i) (ha : aggD i.desc = false) {xs : Array Value} {off : Nat} (hl : off + 1 ≤ xs.size) (w : World) : (part t xs off).run P w = .ok (xs[off]'(by omega)) w := by
  simp only [part, Sem.run_bind, run_agg T h, Result.andThen_ok, ha, Bool.false_eq_true, if_false]
  rw [Array.getElem?_eq_getElem (by omega)]; rfl

theorem part_aggr {t : TypeId} {i : Ty} (T : TyOK P ty) (h : ty t = some i) (ha : aggD i.desc = true) {xs : Array Value} {off : Nat} (w : World) : (part t xs off).run P w = .ok (.agg (xs.extract off (off + i.size))) w := by
  simp only [part, Sem.run_bind, run_agg T h, Result.andThen_ok, ha, if_true, run_size T h]; rfl

theorem eqItems_flat {dd : Nat} {e : TypeId} {ei : Ty} {l : List Kd} (he : ty e = some ei) (hl : l.length = ei.size) (IH : FlatEq P ty dd e l) (xs ys : Array Value) (w : World) : ∀ (m k : Nat) (r : Bool), (k + m) * ei.size ≤ xs.size → (k + m) * ei.size ≤ ys.size →
    eqVals (List.replicate m l).flatten (seg xs (k * ei.size) (m * ei.size)) (seg ys (k * ei.size) (m * ei.size)) = some r → (Op.eqItems dd e ei.size xs ys (List.range' k m)).run P w = .ok r w
  | 0, k, r, _, _, h => by simp [seg, eqVals] at h; subst h; simp [Op.eqItems]
  | m + 1, k, r, hx, hy, h => by
    have hx1 : k * ei.size + ei.size ≤ xs.size := by rw [← Nat.succ_mul]; exact Nat.le_trans (Nat.mul_le_mul_right _ (by omega)) hx
    have hy1 : k * ei.size + ei.size ≤ ys.size := by rw [← Nat.succ_mul]; exact Nat.le_trans (Nat.mul_le_mul_right _ (by omega)) hy
    rw [show (m + 1) * ei.size = ei.size + m * ei.size from by rw [Nat.succ_mul, Nat.add_comm], seg_add, seg_add, List.replicate_succ, List.flatten_cons] at h
    obtain ⟨r1, r2, h1, h2, rfl⟩ := eqVals_append (by rw [seg_length hx1, hl]) (by rw [seg_length hx1, seg_length hy1]) h
    obtain ⟨a, b, p1, p2, p3⟩ := IH w ei xs ys (k * ei.size) r1 he hx1 hy1 h1
    have h2' := eqItems_flat he hl IH xs ys w m (k + 1) r2 (by rw [show k + 1 + m = k + (m + 1) from by omega]; exact hx) (by rw [show k + 1 + m = k + (m + 1) from by omega]; exact hy) (by rw [Nat.succ_mul]; exact h2)
    simp only [List.range'_succ, Op.eqItems, Sem.run_bind, p1, p2, p3, Result.andThen_ok]
    cases r1
    · simp
    · simpa using h2'

theorem contig_le (ty : Tab) : ∀ (fs : List Field) (off n : Nat), contig ty off fs = some n → off ≤ n
  | [], off, n, h => by simp only [contig, Option.some.injEq] at h; omega
  | g :: fs, off, n, h => by
    simp only [contig] at h
    split at h
    · cases hg : ty g.type with
      | none => simp [hg] at h
      | some j => simp only [hg, Option.bind_some] at h; have := contig_le ty fs _ _ h; omega
    · cases h

theorem eqFields_flat {dd : Nat} {f : TypeId → Option (List Kd)} (hf : ∀ t l i, f t = some l → ty t = some i → l.length = i.size) (xs ys : Array Value) (w : World) : ∀ (fs : List Field) (off n : Nat) (r : Bool) (ls : List Kd), contig ty off fs = some n →
    leavesF f fs = some ls → (∀ g ∈ fs, ∀ l, f g.type = some l → FlatEq P ty dd g.type l) → n ≤ xs.size → n ≤ ys.size →
    eqVals ls (seg xs off (n - off)) (seg ys off (n - off)) = some r → (Op.eqFields dd xs ys fs).run P w = .ok r w
  | [], off, n, r, ls, hc, hl, _, _, _, h => by
    simp only [contig, Option.some.injEq] at hc
    subst hc
    simp only [leavesF, Option.some.injEq] at hl
    subst hl
    simp [seg, eqVals] at h; subst h; simp [Op.eqFields]
  | g :: fs, off, n, r, ls, hc, hl, IH, hx, hy, h => by
    simp only [contig] at hc
    simp only [leavesF] at hl
    split at hl
    · rename_i a b hfa hfb
      simp only [Option.some.injEq] at hl
      subst hl
      split at hc
      · rename_i hg
        obtain ⟨hg1, hg2⟩ := hg
        cases hi : ty g.type with
        | none => simp [hi] at hc
        | some i =>
          simp only [hi, Option.bind_some] at hc
          have hle2 := contig_le ty _ _ _ hc
          have hal := hf _ _ _ hfa hi
          rw [show n - off = i.size + (n - (off + i.size)) from by omega, seg_add, seg_add] at h
          obtain ⟨r1, r2, h1, h2, rfl⟩ := eqVals_append (by rw [seg_length (by omega), hal]) (by rw [seg_length (by omega), seg_length (by omega)]) h
          obtain ⟨x, y, p1, p2, p3⟩ := IH g (by simp) a hfa w i xs ys off r1 hi (by omega) (by omega) h1
          have h2' := eqFields_flat hf xs ys w fs (off + i.size) n r2 b hc hfb (fun g hg => IH g (by simp [hg])) hx hy h2
          rw [← hg1] at p1 p2
          simp only [Op.eqFields, hg2, ne_eq, not_false_eq_true, if_true, Sem.run_bind, p1, p2, p3, Result.andThen_ok]
          cases r1
          · simp
          · simpa using h2'
      · cases hc
    · cases hl

theorem leavesF_length {f : TypeId → Option (List Kd)} (hf : ∀ t l i, f t = some l → ty t = some i → l.length = i.size) : ∀ (fs : List Field) (off n : Nat) (ls : List Kd), contig ty off fs = some n → leavesF f fs = some ls → off + ls.length = n
  | [], off, n, ls, hc, hl => by
    simp only [contig, Option.some.injEq] at hc
    simp only [leavesF, Option.some.injEq] at hl
    subst hl; simpa using hc
  | g :: fs, off, n, ls, hc, hl => by
    simp only [contig] at hc
    simp only [leavesF] at hl
    split at hl
    · rename_i a b hfa hfb
      simp only [Option.some.injEq] at hl
      subst hl
      split at hc
      · cases hi : ty g.type with
        | none => simp [hi] at hc
        | some i =>
          simp only [hi, Option.bind_some] at hc
          have := leavesF_length hf fs _ n b hc hfb
          have hal := hf _ _ _ hfa hi
          simp; omega
      · cases hc
    · cases hl

theorem leaves_length : ∀ (d : Nat) (t : TypeId) (l : List Kd) (i : Ty), leaves ty d t = some l → ty t = some i → l.length = i.size
  | 0, _, _, _, h, _ => by simp [leaves] at h
  | d + 1, t, l, i, h, hi => by
    unfold leaves at h
    simp only [hi] at h
    split at h
    · split at h
      · cases h; simp; omega
      · cases h
    · split at h
      · cases h; simp; omega
      · cases h
    · split at h
      · cases h; simp; omega
      · cases h
    · rename_i n e hd
      split at h
      · rename_i ei l' hei hl'
        split at h
        · rename_i hs
          cases h
          rw [List.length_flatten, List.map_replicate, List.sum_replicate_nat, leaves_length d e l' ei hl' hei, hs]
        · cases h
      · cases h
    · rename_i fs hd
      split at h
      · rename_i hs
        have := leavesF_length (fun t l i => leaves_length d t l i) _ _ _ _ hs.2 h
        omega
      · cases h
    · cases h

theorem flat_eq (T : TyOK P ty) (dd : Nat) : ∀ (d : Nat) (t : TypeId) (ks : List Kd), leaves ty d t = some ks → FlatEq P ty (dd + d) t ks
  | 0, _, _, h => by simp [leaves] at h
  | d + 1, t, ks, hf => by
    intro w i xs ys off r hi hx hy h
    unfold leaves at hf
    simp only [hi] at hf
    have hu := (T t i hi).1
    have leaf : ∀ (k : Kd), ks = [k] → i.size = 1 → aggD i.desc = false → (∀ x y : Value, ∀ q, eqVal k x y = some q → (Op.equalIn (dd + (d + 1)) t x y).run P w = .ok q w) →
        ∃ a b, (part t xs off).run P w = .ok a w ∧ (part t ys off).run P w = .ok b w ∧ (Op.equalIn (dd + (d + 1)) t a b).run P w = .ok r w := by
      rintro k rfl h1 ha hq
      rw [h1] at h hx hy
      rw [seg_one hx, seg_one hy] at h
      exact ⟨_, _, part_leaf T hi ha hx w, part_leaf T hi ha hy w, hq _ _ _ (eqVals_one h)⟩
    split at hf
    · rename_i k hd
      split at hf
      · rename_i h1
        cases hf
        refine leaf _ rfl h1 (by rw [hd]; rfl) ?_
        intro x y q hq
        unfold eqVal at hq
        split at hq
        · split at hq
          · rename_i hk
            cases hq
            rw [hd] at hu
            rw [show dd + (d + 1) = (dd + d) + 1 from rfl, ← hk.2]
            exact run_equalIn_int w _ t _ _ _ _ hu
          · cases hq
        · rename_i heq; cases heq
        · rename_i heq; cases heq
        · cases hq
      · cases hf
    · rename_i hd
      split at hf
      · rename_i h1
        cases hf
        refine leaf _ rfl h1 (by rw [hd]; rfl) ?_
        intro x y q hq
        unfold eqVal at hq
        split at hq
        · rename_i heq; cases heq
        · cases hq; rw [hd] at hu; exact run_equalIn_bool' w _ t _ _ hu
        · rename_i heq; cases heq
        · cases hq
      · cases hf
    · rename_i hd
      split at hf
      · rename_i h1
        cases hf
        refine leaf _ rfl h1 (by rw [hd]; rfl) ?_
        intro x y q hq
        unfold eqVal at hq
        split at hq
        · rename_i heq; cases heq
        · rename_i heq; cases heq
        · cases hq; rw [hd] at hu; rw [beq_toListBytes]; exact run_equalIn_string w _ t _ _ hu
        · cases hq
      · cases hf
    · rename_i n e hd
      split at hf
      · rename_i ei l hei hl
        split at hf
        · rename_i hs
          cases hf
          rw [hd] at hu
          obtain ⟨_, ti, z, q1, q2, _⟩ := T e ei hei
          have ha : aggD i.desc = true := by rw [hd]; rfl
          refine ⟨_, _, part_aggr T hi ha w, part_aggr T hi ha w, ?_⟩
          rw [show dd + (d + 1) = (dd + d) + 1 from rfl, run_equalIn_array w (dd + d) _ _ hu q1]
          have hce : P.cellsOf e = ei.size := by simp [Program.cellsOf, q1, q2]
          rw [hce, List.range_eq_range']
          refine eqItems_flat hei (leaves_length d e l ei hl hei) (flat_eq T dd d e l hl) _ _ w n 0 r (by simp; omega) (by simp; omega) ?_
          rw [hs] at h ⊢
          rw [Nat.zero_mul, seg_extract (by omega), seg_extract (by omega)]
          exact h
        · cases hf
      · cases hf
    · rename_i fs hd
      split at hf
      · rename_i hs
        rw [hd] at hu
        have ha : aggD i.desc = true := by rw [hd]; rfl
        obtain ⟨_, ti, z, _, _, _, _, _, _, q⟩ := T t i hi
        have hfs : P.fieldsOf t = fs := by simp [Program.fieldsOf, hu]
        refine ⟨_, _, part_aggr T hi ha w, part_aggr T hi ha w, ?_⟩
        rw [show dd + (d + 1) = (dd + d) + 1 from rfl, run_equalIn_struct w (dd + d) t _ _ (by rw [hfs]; exact hu) (q hs.1).1, hfs]
        refine eqFields_flat (fun t l i => leaves_length d t l i) _ _ w fs.toList 0 i.size r ks hs.2 hf (fun g _ l hl => flat_eq T dd d g.type l hl) (by simp; omega) (by simp; omega) ?_
        rw [Nat.sub_zero, seg_extract (by omega), seg_extract (by omega)]
        exact h
      · cases hf
    · cases hf

theorem run_eqGuard_plain (op : BinOp) (t : TypeId) (x y : Operand) (a b : Value) (h : ∀ c, a ≠ .agg c) (h' : a ≠ .nilIface) : (eqGuard op t x y a b).run P w = .ok () w := by
  cases a <;> first | exact absurd rfl (h _) | exact absurd rfl h' | (cases op <;> cases b <;> rfl)

theorem run_bin (T : TyOK P ty) {op : BinOp} {t : TypeId} {ox oy : Operand} {x y : V} {h : List HB} {p : Prop} {v : V} {h' : List HB} (hr : aBin ty op t x y h = some (p, v, h')) (hp : p)
    {a b : Value} (hx : RV ρ I w x a) (hy : RV ρ I w y b) :
    h' = h ∧ ∃ z, (do eqGuard op t ox oy a b; binOp op t a b : Sem Value).run P w = .ok z w ∧ RV ρ I w v z := by
  unfold aBin at hr
  split at hr
  · simp only [Option.some.injEq, Prod.mk.injEq] at hr
    obtain ⟨rfl, rfl, rfl⟩ := hr
    cases hx; cases hy
    obtain ⟨z, hz, hrz⟩ := bin_int (P := P) (ρ := ρ) (I := I) (w := w) op t _ _ _ _ hp
    exact ⟨rfl, z, by rw [Sem.run_bind, guard_int, Result.andThen_ok]; exact hz, hrz⟩
  · split at hr
    · rename_i i hi
      split at hr
      · rename_i hd
        have hu := (T t i hi).1
        rw [hd] at hu
        cases hx; cases hy
        have hb := fun (a b : Bool) => run_equalIn_bool' (P := P) w 9999 t a b hu
        unfold eqV at hr
        split at hr <;> simp only [Option.some.injEq, Prod.mk.injEq, reduceCtorEq] at hr
        · obtain ⟨rfl, rfl, rfl⟩ := hr
          refine ⟨rfl, _, ?_, .bool _⟩
          rw [Sem.run_bind, run_eqGuard_plain _ _ _ _ _ _ (by intro c h; cases h) (by intro h; cases h), Result.andThen_ok]
          simp only [binOp, Op.equal, Op.maxDepth, Sem.run_bind, hb, Result.andThen_ok, Sem.run_pure]
        · obtain ⟨rfl, rfl, rfl⟩ := hr
          refine ⟨rfl, _, ?_, .bool _⟩
          rw [Sem.run_bind, run_eqGuard_plain _ _ _ _ _ _ (by intro c h; cases h) (by intro h; cases h), Result.andThen_ok]
          simp only [binOp, Op.equal, Op.maxDepth, Sem.run_bind, hb, Result.andThen_ok, Sem.run_pure]
      · cases hr
    · cases hr
  · cases hx; cases hy
    have hg := fun (op : BinOp) (a b : ByteArray) => run_eqGuard_plain (P := P) (w := w) op t ox oy (.string a) (.string b) (by intro c h; cases h) (by intro h; cases h)
    split at hr <;> simp only [Option.some.injEq, Prod.mk.injEq, reduceCtorEq] at hr
    · obtain ⟨rfl, rfl, rfl⟩ := hr
      exact ⟨rfl, _, by rw [Sem.run_bind, hg, Result.andThen_ok, beq_toListBytes]; rfl, .bool _⟩
    · obtain ⟨rfl, rfl, rfl⟩ := hr
      exact ⟨rfl, _, by rw [Sem.run_bind, hg, Result.andThen_ok, beq_toListBytes]; rfl, .bool _⟩
    · obtain ⟨rfl, rfl, rfl⟩ := hr
      refine ⟨rfl, _, ?_, .str _⟩
      rw [Sem.run_bind, hg, Result.andThen_ok]
      simp only [binOp, Op.stringOp]
      rw [if_neg (by simp [IntKind.max, IntKind.signed, IntKind.bits] at hp ⊢; omega)]
      rfl
    · obtain ⟨rfl, rfl, rfl⟩ := hr
      exact ⟨rfl, _, by rw [Sem.run_bind, hg, Result.andThen_ok]; rfl, .bool _⟩
  · rename_i cs ds
    split at hr
    · rename_i i ks hi hk
      split at hr
      · rename_i r hq
        split at hr
        · rename_i hs
          obtain ⟨_, ti, z, _, _, _, _, _, _, q⟩ := T t i hi
          cases hx with
          | agg hl hv =>
            cases hy with
            | agg hl' hv' =>
              rename_i xs ys
              have hlen : ∀ (ks : List Kd) (cs ds : List V) (r : Bool), eqCells ks cs ds = some r → cs.length = ks.length ∧ ds.length = ks.length := by
                intro ks
                induction ks with
                | nil => intro cs ds r h; cases cs <;> cases ds <;> simp [eqCells] at h ⊢
                | cons k ks ih =>
                  intro cs ds r h
                  cases cs with
                  | nil => simp [eqCells] at h
                  | cons c cs =>
                    cases ds with
                    | nil => simp [eqCells] at h
                    | cons d ds =>
                      simp only [eqCells] at h
                      split at h
                      · rename_i h1 h2; have := ih _ _ _ h2; simp [this]
                      · cases h
              obtain ⟨z1, z2⟩ := hlen _ _ _ _ hq
              have sx : xs.size = i.size := by omega
              have sy : ys.size = i.size := by omega
              have he := eqVals_of (xs := xs.toList) (ys := ys.toList) hq (by simp [hl]) (by simp [hl']) (fun i v x h k => hv i v x h (by simpa using k)) (fun i v x h k => hv' i v x h (by simpa using k))
              have ha : aggD i.desc = true := hs.2.1
              obtain ⟨a, b, p1, p2, p3⟩ := flat_eq T 9988 12 t ks hk w i xs ys 0 r hi (by omega) (by omega) (by
                rw [show seg xs 0 i.size = xs.toList from List.take_of_length_le (by simp; omega), show seg ys 0 i.size = ys.toList from List.take_of_length_le (by simp; omega)]; exact he)
              rw [part_aggr T hi ha, Nat.zero_add, ← sx, Array.extract_size] at p1
              rw [part_aggr T hi ha, Nat.zero_add, ← sy, Array.extract_size] at p2
              cases p1; cases p2
              have hg := run_eqGuard_agg (P := P) w op t ox oy xs ys (q hs.1).2
              unfold eqV at hr
              split at hr <;> simp only [Option.some.injEq, Prod.mk.injEq, reduceCtorEq] at hr
              · obtain ⟨rfl, rfl, rfl⟩ := hr
                exact ⟨rfl, _, by rw [Sem.run_bind, hg, Result.andThen_ok, run_eql_struct, p3]; rfl, .bool _⟩
              · obtain ⟨rfl, rfl, rfl⟩ := hr
                exact ⟨rfl, _, by rw [Sem.run_bind, hg, Result.andThen_ok, run_neq_struct, p3]; rfl, .bool _⟩
        · cases hr
      · cases hr
    · cases hr
  · cases hr
end
end Go.Abs
/- The abstract machine, part 4b: slices, strings, aggregates are the model's. -/
namespace Go.Abs
open Go Go.RowKit

section
variable {P : Program} {ty : Tab} {ρ : Rho} {I : Nat → Prop} {w : World}

theorem run_lenOf {x : V} {y : Value} (hx : RV ρ I w x y) {n : Nat} (h : lenOfV x = some n) (w' : World) : (Builtin.lenOf y).run P w' = .ok n w' := by
  cases hx <;> simp [lenOfV] at h <;> subst h <;> rfl

/-- The cells that a slice shows are in memory. -/
theorem read_slice {h : List HB} (H : RH ρ I w h) {x : V} {y : Value} (hx : RV ρ I w x y) {cs : List V} (hc : cellsOf h x = some cs) {n size : Nat} (hn : lenOfV x = some n) (hl : cs.length = n * size) :
    ∃ arr : Array Value, (∀ w' : World, w'.heap = w.heap → (Builtin.firstCells size n y).run P w' = .ok arr w') ∧ arr.size = cs.length ∧ ∀ (i : Nat) (v : V), cs[i]? = some v → ∃ z, arr[i]? = some z ∧ RV ρ I w v z := by
  have mk : ∀ (a : Addr) (len cap : Nat), y = .slice (some a) len cap → (∀ (j : Nat) (v : V), cs[j]? = some v → ∃ z, w.cell? (a.add j) = some z ∧ RV ρ I w v z) →
      ∃ arr : Array Value, (∀ w' : World, w'.heap = w.heap → (Builtin.firstCells size n y).run P w' = .ok arr w') ∧ arr.size = cs.length ∧ ∀ (i : Nat) (v : V), cs[i]? = some v → ∃ z, arr[i]? = some z ∧ RV ρ I w v z := by
    rintro a len cap rfl hcell
    classical
    let f : Nat → Value := fun j => if h : j < cs.length then Classical.choose (hcell j cs[j] (by simp [h])) else undef
    have hf : ∀ j (h : j < cs.length), w.cell? (a.add j) = some (f j) ∧ RV ρ I w cs[j] (f j) := by
      intro j h; simp only [f, h, dif_pos]; exact Classical.choose_spec (hcell j cs[j] (by simp [h]))
    refine ⟨((List.range (n * size)).map f).toArray, fun w' hw => ?_, by simp [hl], fun i v hv => ?_⟩
    · simp only [Builtin.firstCells]
      refine run_loadCells w' a (n * size) f (fun j hj => ?_)
      rw [show w'.cell? (a.add j) = w.cell? (a.add j) from World.cell?_of_block (by rw [hw])]
      exact (hf j (by omega)).1
    · have hi := (List.getElem?_eq_some_iff.1 hv).1
      have hv' : cs[i] = v := by rw [List.getElem?_eq_getElem hi] at hv; exact Option.some.inj hv
      exact ⟨f i, by rw [← hl, List.getElem?_toArray, List.getElem?_map, List.getElem?_range hi]; rfl, by rw [← hv']; exact (hf i hi).2⟩
  cases hx with
  | nils =>
    simp only [cellsOf, Option.some.injEq] at hc; subst hc
    exact ⟨#[], fun w' _ => rfl, rfl, by simp⟩
  | str s =>
    simp only [cellsOf, Option.some.injEq] at hc; subst hc
    simp only [lenOfV, Option.some.injEq] at hn; subst hn
    refine ⟨(s.extract 0 s.size).data.map fun b => .int .u8 b.toNat, fun w' _ => rfl, by simp [strCells], fun i v hv => ?_⟩
    have : (s.extract 0 s.size).data = s.data := by rw [ByteArray.data_extract]; exact Array.extract_size
    rw [this]
    simp only [strCells, List.getElem?_map] at hv
    cases hq : s.data.toList[i]? with
    | none => simp [hq] at hv
    | some b =>
      simp [hq] at hv; subst hv
      have : s.data[i]? = some b := by simpa using hq
      exact ⟨.int .u8 b.toNat, by simp [this], .int _ _⟩
  | slc hb h1 h2 hb2 hs =>
    rename_i b o z len cap rb base rcap c e fr
    simp only [lenOfV, Option.some.injEq] at hn; subst hn
    simp only [cellsOf] at hc
    split at hc
    · rename_i ds hd
      simp only [Option.some.injEq] at hc
      obtain ⟨rb', base', c', e', fr', g1, g2, g3, g4, _⟩ := H.row b ds hd
      rw [hb] at g1; cases g1
      refine mk _ _ _ rfl (fun j v hv => ?_)
      rw [addr_add, Nat.add_assoc, cell_of g2]
      refine g4 (o + j) v ?_
      rw [← hc] at hv
      rw [List.getElem?_take] at hv
      split at hv
      · rw [List.getElem?_drop] at hv; exact hv
      · cases hv
    · cases hc
  | vecn x =>
    simp only [cellsOf, Option.some.injEq] at hc; subst hc
    refine ⟨#[], fun w' _ => ?_, rfl, by simp⟩
    simp only [lenOfV, Option.some.injEq] at hn; subst hn
    cases x
    · rfl
    · simp only [Builtin.firstCells, Nat.zero_mul]; rfl
  | vec f hI hcell hv h1 hx =>
    simp only [cellsOf, Option.some.injEq] at hc; subst hc
    refine mk _ _ _ rfl (fun j v hj => ?_)
    rw [addr_add]
    exact ⟨f j, hcell j (List.getElem?_eq_some_iff.1 hj).1, hv j v hj⟩
  | _ => simp [cellsOf] at hc

/-- New cells behind old ones. -/
def behind (base : Option Addr) (k : Nat) (l : List Value) : Sem Unit :=
  match base with
  | some a => storeCells (a.add k) l
  | none => pure ()

theorem append_core {argTypes : Array TypeId} {tyid t0 t1 e : TypeId} {d1 : TypeDesc} {ti : TypeInfo} {z : Value} (h0 : argTypes[0]? = some t0) (h1 : argTypes[1]? = some t1) (hu0 : P.underlying t0 = some (.slice e)) (hu1 : P.underlying t1 = some d1)
    (hd1 : (∃ q, d1 = .slice q) ∨ d1 = .string) (hi : P.info? e = some ti) (hz : ti.zero = some z) (base : Option Addr) (len cap n : Nat) (xv : Value) (hlen : ∀ w, (Builtin.lenOf xv).run P w = .ok n w) (news olds : Array Value)
    (hnew : ∀ w' : World, w'.heap = w.heap → (Builtin.firstCells ti.size n xv).run P w' = .ok news w') (hold : ∀ w' : World, w'.heap = w.heap → (Builtin.firstCells ti.size len (.slice base len cap)).run P w' = .ok olds w')
    (hb : 0 < ti.bytes) (hbytes : (len + n) * ti.bytes ≤ 140737488355328) :
    (len + n ≤ cap → (Builtin.append_ argTypes tyid #[.slice base len cap, xv]).run P w =
      ((behind base (len * ti.size) news.toList).run P w).andThen fun _ w' => .ok (.slice base (len + n) cap) w') ∧
    (cap < len + n → ∃ nc, len + n ≤ nc ∧ (Builtin.append_ argTypes tyid #[.slice base len cap, xv]).run P w =
      .ok (.slice (some ⟨w.heap.size, 0, none⟩) (len + n) nc) (w.drew.alloc (.cells (olds ++ news ++ Builtin.zeroCells z.cells (nc - (len + n))) e))) := by
  have hz1 : (#[Value.slice base len cap, xv] : Array Value)[0]? = some (.slice base len cap) := rfl
  have hz2 : (#[Value.slice base len cap, xv] : Array Value)[1]? = some xv := rfl
  have hs : ∀ w, (sizeOf e).run P w = .ok ti.size w := fun w => by simp [sizeOf, typeInfo, hi]
  have hti : ∀ w, (typeInfo e).run P w = .ok ti w := fun w => by simp [typeInfo, hi]
  have hzv : ∀ w, (zeroValue e).run P w = .ok z w := fun w => by simp [zeroValue, typeInfo, hi, hz]
  have hn0 : ti.bytes ≠ 0 := by omega
  constructor
  · intro hle
    unfold Builtin.append_
    rcases hd1 with ⟨q, rfl⟩ | rfl
    all_goals
      simp only [h0, h1, hz1, hz2, Sem.run_bind, run_underlying hu0, run_underlying hu1, Result.andThen_ok, hs, Sem.run_pure, Sem.run_ite, Bool.false_eq_true, if_false, hlen, Bool.not_false, if_true]
      rw [if_pos hle, hnew w rfl, Result.andThen_ok]
      cases base with
      | none => simp [behind]
      | some a => simp [behind, Sem.run_bind]
  · intro hgt
    have hfit : ¬ (Builtin.nextslicecap (len + n) cap * ti.bytes > 2 ^ 48) := by
      have := growslice_fits hgt hbytes; omega
    refine ⟨grownCap w (len + n) cap e, ?_, ?_⟩
    · unfold grownCap Question.cut; simp
    · unfold Builtin.append_
      rcases hd1 with ⟨q, rfl⟩ | rfl
      all_goals
        simp only [h0, h1, hz1, hz2, Sem.run_bind, run_underlying hu0, run_underlying hu1, Result.andThen_ok, hs, Sem.run_pure, Sem.run_ite, Bool.false_eq_true, if_false, hlen, Bool.not_false, if_true]
        rw [if_neg (by omega)]
        simp only [hti, Result.andThen_ok, hn0, hfit, Bool.false_eq_true, false_or, and_false, if_false, run_choose, Question.forced, World.drew_eq, run_askRoom, hzv, hold w.drew rfl, hnew w.drew rfl, newRow, Sem.run_bind, Sem.run_pure, run_newObj]
        rfl

/-- Cells and values, one by one. -/
def RVs (ρ : Rho) (I : Nat → Prop) (w : World) (cs : List V) (arr : Array Value) : Prop := ∀ (i : Nat) (v : V), cs[i]? = some v → ∃ z, arr[i]? = some z ∧ RV ρ I w v z

theorem RVs.append {cs ds : List V} {a b : Array Value} (h : RVs ρ I w cs a) (hl : a.size = cs.length) (k : RVs ρ I w ds b) : RVs ρ I w (cs ++ ds) (a ++ b) := by
  intro i v hv
  rcases Nat.lt_or_ge i cs.length with hi | hi
  · rw [List.getElem?_append_left hi] at hv
    obtain ⟨z, hz, hr⟩ := h i v hv
    exact ⟨z, by rw [Array.getElem?_append_left (by omega)]; exact hz, hr⟩
  · rw [List.getElem?_append_right hi] at hv
    obtain ⟨z, hz, hr⟩ := k _ v hv
    exact ⟨z, by rw [Array.getElem?_append_right (by omega), hl]; exact hz, hr⟩

theorem RVs.left {cs : List V} {a b : Array Value} (h : RVs ρ I w cs a) : RVs ρ I w cs (a ++ b) := by
  intro i v hv
  obtain ⟨z, hz, hr⟩ := h i v hv
  exact ⟨z, by rw [Array.getElem?_append_left (Array.getElem?_eq_some_iff.1 hz).1]; exact hz, hr⟩

theorem RVs.ext {ρ' : Rho} {I' : Nat → Prop} {w' : World} {cs : List V} {a : Array Value} (x : Ext ρ I w ρ' I' w') (h : RVs ρ I w cs a) : RVs ρ' I' w' cs a := by
  intro i v hv
  obtain ⟨z, hz, hr⟩ := h i v hv
  exact ⟨z, hz, hr.ext x⟩

/-- A block dies. -/
theorem RH.die {h : List HB} (H : RH ρ I w h) (b : Nat) : RH ρ I w (h.set b .dead) ∧ Keep h ρ I w (h.set b .dead) ρ I w := by
  have inv : ∀ (i : Nat) (q : List V), (h.set b .dead)[i]? = some (.live q) → h[i]? = some (.live q) := by
    intro i q hi
    by_cases e : b = i
    · subst e
      rcases Nat.lt_or_ge b h.length with hb | hb
      · rw [List.getElem?_set_self hb] at hi; cases hi
      · rw [List.getElem?_eq_none (by simpa using hb)] at hi; cases hi
    · rw [List.getElem?_set_ne e] at hi; exact hi
  have on : ∀ (i : Nat) (x : HB), (h.set b .dead)[i]? = some x → x.on → h[i]? = some x := by
    intro i x hi hx
    rcases on_set hi hx with ⟨_, h⟩ | ⟨_, rfl, _⟩
    · exact h
    · exact hx.elim
  refine ⟨⟨by rw [H.len, List.length_set], fun i cs hi => H.row i cs (inv i cs hi), fun i j x y rb b1 b2 hi o1 hj o2 => H.inj i j x y rb b1 b2 (on i x hi o1) o1 (on j y hj o2) o2, H.imlt, H.lp.ext (Ext.refl _ _ _) (fun l rec _ hi => ⟨rfl, hi⟩) (lp_set (by intro L e; cases e))⟩, ?_⟩
  refine ⟨rfl, rfl, rfl, Nat.le_refl _, fun _ _ h => h, fun _ h => h, fun _ _ _ => rfl, fun _ c e fr h => ⟨c, e, fr, h, rfl⟩, fun _ _ h => .inl h, ?_⟩
  rintro k hk ⟨i, x, base, h1, o, h2⟩
  exact ⟨i, x, base, on i x h1 o, o, h2⟩

/-- A new block of cells that were read. -/
theorem RH.alloc_cells {h : List HB} (H : RH ρ I w h) {e : TypeId} {cs : List V} {arr rest : Array Value} (hl : arr.size = cs.length) (hv : RVs ρ I w cs arr) :
    RH (ρ ++ [(w.heap.size, 0)]) I (w.alloc (.cells (arr ++ rest) e)) (h ++ [.live cs]) ∧ Keep h ρ I w (h ++ [.live cs]) (ρ ++ [(w.heap.size, 0)]) I (w.alloc (.cells (arr ++ rest) e)) :=
  H.alloc (by simp; omega) fun j v hj => by
    obtain ⟨z, hz, hr⟩ := hv.left (b := rest) j v hj
    exact ⟨z, hz, hr⟩

theorem rv_new {h : List HB} (H : RH ρ I w h) {arr : Array Value} {e : TypeId} {len cap rcap z : Nat} (h1 : len ≤ cap) (h2 : cap ≤ rcap) (h3 : rcap * z ≤ arr.size) :
    RV (ρ ++ [(w.heap.size, 0)]) I (w.alloc (.cells arr e)) (.slc h.length 0 z len cap) (.slice (some ⟨w.heap.size, 0, none⟩) len rcap) :=
  .slc (rb := w.heap.size) (base := 0) (c := arr) (e := e) (fr := (0, 0)) (by rw [← H.len]; simp) h1 h2 (show (w.heap.push _)[w.heap.size]? = _ from by simp) (by omega)

theorem splice_cons (vs : List V) : ∀ (c : V) (cs : List V) (o : Nat), splice (c :: cs) (o + 1) vs = c :: splice cs o vs := by
  induction vs with
  | nil => intro c cs o; rfl
  | cons v vs ih => intro c cs o; simp only [splice, List.set_cons_succ]; exact ih _ _ _
theorem splice_zero (vs : List V) : ∀ (bs : List V), bs.length = vs.length → splice bs 0 vs = vs := by
  induction vs with
  | nil => intro bs h; exact (List.length_eq_zero_iff.1 (by simpa using h) : bs = [])
  | cons v vs ih =>
    intro bs h
    cases bs with
    | nil => simp at h
    | cons b bs => simp only [splice, List.set_cons_zero]; rw [splice_cons, ih _ (by simpa using h)]
theorem splice_append (as bs vs : List V) (h : bs.length = vs.length) : splice (as ++ bs) as.length vs = as ++ vs := by
  induction as with
  | nil => exact splice_zero vs bs h
  | cons a as ih => simp only [List.cons_append, List.length_cons]; rw [splice_cons, ih]

theorem size_zero (z : Array Value) (n : Nat) : (Builtin.zeroCells z n).size = n * z.size := by simp [Builtin.zeroCells]

theorem run_append (T : TyOK P ty) {h : List HB} (H : RH ρ I w h) {argTypes : Array TypeId} {tyid t0 t1 e : TypeId} {i0 i1 : Ty} (h0 : argTypes[0]? = some t0) (h1 : argTypes[1]? = some t1) (ht0 : ty t0 = some i0) (ht1 : ty t1 = some i1)
    (hd0 : i0.desc = .slice e) (hd1 : (∃ q, i1.desc = .slice q) ∨ i1.desc = .string) {s x : V} {sv xv : Value} (hs : RV ρ I w s sv) (hx : RV ρ I w x xv) {p : Prop} {v : V} {h' : List HB} (hr : aAppend ty e s x h = some (p, v, h')) (hp : p) :
    ∃ z w' ρ' I', (Builtin.append_ argTypes tyid #[sv, xv]).run P w = .ok z w' ∧ RV ρ' I' w' v z ∧ RH ρ' I' w' h' ∧ Keep h ρ I w h' ρ' I' w' := by
  unfold aAppend at hr
  split at hr
  · rename_i i n xs hi hn hxs
    obtain ⟨_, ti, z, q1, q2, q3, q4, q5, q6, _⟩ := T e i hi
    have hu0 := (T t0 i0 ht0).1
    have hu1 := (T t1 i1 ht1).1
    rw [hd0] at hu0
    have hzs : z.cells.size = i.size := by
      have := congrArg List.length q5
      rw [q6] at this; simpa using this.symm
    -- what a new block holds
    have fresh : ∀ {w1 : World} {cs : List V} {arr news : Array Value} {nc len : Nat}, w1.heap = w.heap → RVs ρ I w1 cs arr → arr.size = cs.length → RVs ρ I w1 xs news → news.size = xs.length → True := fun _ _ _ _ _ => trivial
    clear fresh
    split at hr
    · -- a nil slice
      simp only [Option.some.injEq, Prod.mk.injEq] at hr
      obtain ⟨rfl, rfl, rfl⟩ := hr
      obtain ⟨⟨hl, hone⟩, hb, hby⟩ := hp
      cases hs
      obtain ⟨news, hnew, hns, hnv⟩ := read_slice (P := P) H hx hxs hn (size := ti.size) (by rw [q2]; exact hl)
      obtain ⟨k1, k2⟩ := append_core (P := P) (w := w) (tyid := tyid) h0 h1 hu0 hu1 hd1 q1 q4 none 0 0 n xv (fun w => run_lenOf hx hn w) news #[] hnew (fun w' _ => rfl) (by rw [q3]; exact hb) (by rw [q3]; simpa using hby)
      by_cases hn0 : n = 0
      · subst hn0
        refine ⟨_, w, ρ, I, by rw [k1 (by omega)]; rfl, ?_, by simpa using H, by simpa using Keep.refl _ _ _ _⟩
        exact .nils
      · obtain ⟨nc, hnc, hrun⟩ := k2 (by omega)
        rw [if_neg hn0, if_neg hn0]
        obtain ⟨H2, K2⟩ := H.drew.alloc_cells (e := e) (arr := news) (rest := Builtin.zeroCells z.cells (nc - (0 + n))) hns (RVs.ext ((Keep.drew h ρ I w).ext H) hnv)
        have he : #[] ++ news = news := by simp
        rw [he] at hrun
        refine ⟨_, w.drew.alloc (.cells (news ++ Builtin.zeroCells z.cells (nc - (0 + n))) e), ρ ++ [(w.heap.size, 0)], I, hrun, ?_, H2, (Keep.drew h ρ I w).trans K2⟩
        rw [Nat.zero_add] at hnc ⊢
        refine rv_new (w := w.drew) H.drew (Nat.le_refl _) hnc ?_
        simp only [Nat.zero_add, Array.size_append, size_zero, hzs, hns, hl]
        rw [← Nat.add_mul]; exact Nat.mul_le_mul_right _ (by omega)
    · -- a slice of the call's own
      rename_i b o zz len cap
      split at hr
      · rename_i cs hbk
        simp only [Option.some.injEq, Prod.mk.injEq] at hr
        obtain ⟨rfl, rfl, rfl⟩ := hr
        obtain ⟨⟨hl, hone⟩, rfl, hcov, hb, hby⟩ := hp
        obtain ⟨news, hnew, hns, hnv⟩ := read_slice (P := P) H hx hxs hn (size := ti.size) (by rw [q2]; exact hl)
        have hlo : (cs.drop o).length = len * i.size := by simp; omega
        have hcs : cellsOf h (.slc b o i.size len cap) = some (cs.drop o) := by
          simp only [cellsOf, hbk]; rw [List.take_of_length_le (by omega)]
        obtain ⟨olds, hold, hos, hov⟩ := read_slice (P := P) H hs hcs rfl (size := ti.size) (by rw [q2]; exact hlo)
        obtain ⟨rb, base, c, e', fr, g1, g2, g3, g4, g5, g6⟩ := H.row b cs hbk
        cases hs with
        | slc hp1 hp2 hp3 hp4 hp5 =>
          rename_i rb' base' rcap c' e'' fr'
          rw [g1] at hp1; cases hp1
          rw [g2] at hp4; cases hp4
          obtain ⟨k1, k2⟩ := append_core (P := P) (w := w) (tyid := tyid) h0 h1 hu0 hu1 hd1 q1 q4 (some ⟨rb, base + o, none⟩) len rcap n xv (fun w => run_lenOf hx hn w) news olds hnew hold (by rw [q3]; exact hb) (by rw [q3]; exact hby)
          obtain ⟨HD, KD⟩ := H.die b
          have hbl : b < h.length := (List.getElem?_eq_some_iff.1 hbk).1
          by_cases hle : len + n ≤ rcap
          · -- in place: the block lives on under a new number
            have hneed : base + o + (len + n) * i.size ≤ c.size := by
              have := Nat.mul_le_mul_right i.size hle; omega
            have hH3 : RH (ρ ++ [(rb, base + o)]) I w ((h.set b .dead) ++ [.live (cs.drop o ++ List.replicate (n * i.size) V.any)]) ∧ Keep h ρ I w ((h.set b .dead) ++ [.live (cs.drop o ++ List.replicate (n * i.size) V.any)]) (ρ ++ [(rb, base + o)]) I w := by
              have X : Ext ρ I w (ρ ++ [(rb, base + o)]) I w := ⟨fun i p hp => getElem?_append_some hp, fun _ h => h, fun _ _ => rfl, fun _ c e fr h => ⟨c, e, fr, h, rfl⟩⟩
              have inv : ∀ (j : Nat) (q : List V), ((h.set b .dead) ++ [HB.live (cs.drop o ++ List.replicate (n * i.size) V.any)])[j]? = some (.live q) → (j ≠ b ∧ j < h.length ∧ h[j]? = some (.live q)) ∨ (j = h.length ∧ q = (cs.drop o ++ List.replicate (n * i.size) V.any)) := by
                intro j q hj
                rcases Nat.lt_trichotomy j h.length with hlt | rfl | hgt
                · rw [List.getElem?_append_left (by simpa using hlt)] at hj
                  by_cases e : b = j
                  · subst e; rw [List.getElem?_set_self hbl] at hj; cases hj
                  · rw [List.getElem?_set_ne e] at hj; exact .inl ⟨fun h => e h.symm, hlt, hj⟩
                · rw [List.getElem?_append_right (by simp)] at hj; simp at hj; exact .inr ⟨rfl, hj.symm⟩
                · rw [List.getElem?_eq_none (by simp; omega)] at hj; cases hj
              have invo : ∀ (j : Nat) (q : HB), ((h.set b .dead) ++ [HB.live (cs.drop o ++ List.replicate (n * i.size) V.any)])[j]? = some q → q.on → (j ≠ b ∧ j < h.length ∧ h[j]? = some q) ∨ j = h.length := by
                intro j q hj hq
                rcases on_app hj with ⟨hj, hlt⟩ | ⟨e, _⟩
                · rcases on_set hj hq with ⟨e, hj⟩ | ⟨_, rfl, _⟩
                  · exact .inl ⟨e, by simpa using hlt, hj⟩
                  · exact hq.elim
                · exact .inr (by simpa using e)
              have rinv : ∀ (j : Nat) (p : Nat × Nat), (ρ ++ [(rb, base + o)])[j]? = some p → j < h.length → ρ[j]? = some p := by
                intro j p hp hj; rwa [List.getElem?_append_left (by rw [H.len]; exact hj)] at hp
              have rnew : ∀ (p : Nat × Nat), (ρ ++ [(rb, base + o)])[h.length]? = some p → p = (rb, base + o) := by
                intro p hp; rw [← H.len] at hp; simp at hp; exact hp.symm
              constructor
              · refine ⟨by simp [H.len], ?_, ?_, H.imlt, H.lp.ext X (fun _ _ _ hi => ⟨rfl, hi⟩) (fun i L hi => lp_set (by intro L e; cases e) i L (lp_app (by intro L e; cases e) i L hi))⟩
                · intro j q hj
                  rcases inv j q hj with ⟨hne, hlt, hj'⟩ | ⟨rfl, rfl⟩
                  · obtain ⟨rb2, base2, c2, e2, fr2, m1, m2, m3, m4, m5, m6⟩ := H.row j q hj'
                    exact ⟨rb2, base2, c2, e2, fr2, X.rho _ _ m1, m2, m3, fun k u hu => by obtain ⟨y, hy, hr⟩ := m4 k u hu; exact ⟨y, hy, hr.ext X⟩, m5, m6⟩
                  · have hlen : (cs.drop o ++ List.replicate (n * i.size) V.any).length = (len + n) * i.size := by
                      rw [List.length_append, hlo, List.length_replicate, Nat.add_mul]
                    refine ⟨rb, base + o, c, e', fr, by rw [← H.len]; simp, g2, by rw [hlen]; exact hneed, fun k u hu => ?_, fun k k1 k2 => g5 k (by omega) k2, g6⟩
                    rcases Nat.lt_or_ge k (cs.drop o).length with hk | hk
                    · rw [List.getElem?_append_left hk, List.getElem?_drop] at hu
                      obtain ⟨y, hy, hr⟩ := g4 _ u hu
                      exact ⟨y, by rw [Nat.add_assoc]; exact hy, hr.ext X⟩
                    · have hkl : k < (len + n) * i.size := by rw [← hlen]; exact (List.getElem?_eq_some_iff.1 hu).1
                      rw [List.getElem?_append_right hk] at hu
                      have hu' : u = .any := by
                        rw [List.getElem?_replicate] at hu
                        split at hu
                        · exact (Option.some.inj hu).symm
                        · cases hu
                      subst hu'
                      exact ⟨_, Array.getElem?_eq_getElem (by omega), .any _⟩
                · intro j1 j2 q1 q2 rb2 b1 b2 hj1 o1 hj2 o2 m1 m2
                  rcases invo j1 q1 hj1 o1 with ⟨n1, l1, hj1'⟩ | e1
                  · rcases invo j2 q2 hj2 o2 with ⟨n2, l2, hj2'⟩ | e2
                    · exact H.inj j1 j2 q1 q2 rb2 b1 b2 hj1' o1 hj2' o2 (rinv _ _ m1 l1) (rinv _ _ m2 l2)
                    · subst e2
                      have := rnew _ m2; cases this
                      exact absurd (H.inj j1 b q1 _ rb b1 base hj1' o1 hbk trivial (rinv _ _ m1 l1) g1) n1
                  · rcases invo j2 q2 hj2 o2 with ⟨n2, l2, hj2'⟩ | e2
                    · subst e1
                      have := rnew _ m1; cases this
                      exact absurd (H.inj j2 b q2 _ rb b2 base hj2' o2 hbk trivial (rinv _ _ m2 l2) g1) n2
                    · rw [e1, e2]
              · refine ⟨rfl, rfl, rfl, Nat.le_refl _, X.rho, fun _ h => h, fun _ _ _ => rfl, X.sz, fun _ _ h => .inl h, ?_⟩
                rintro k hk ⟨j, q, base2, hj, o, m1⟩
                rcases invo j q hj o with ⟨_, l1, hj'⟩ | e1
                · exact ⟨j, q, base2, hj', o, rinv _ _ m1 l1⟩
                · subst e1
                  have := rnew _ m1; cases this
                  exact live_row hbk g1
            obtain ⟨H3, K3⟩ := hH3
            have X3 := K3.ext H
            have hlb : ((h.set b .dead) ++ [HB.live (cs.drop o ++ List.replicate (n * i.size) V.any)])[h.length]? = some (.live (cs.drop o ++ List.replicate (n * i.size) V.any)) := by
              rw [List.getElem?_append_right (by simp)]; simp
            have hrho : (ρ ++ [(rb, base + o)])[h.length]? = some (rb, base + o) := by rw [← H.len]; simp
            obtain ⟨w', hr, H4, K4⟩ := RH.sets (P := P) xs news.toList H3 hlb hrho (o := len * i.size) (by rw [List.length_append, hlo, List.length_replicate, hl]; omega) (by simpa using hns)
              (fun j u x hu hx => by
                obtain ⟨y, hy, hr⟩ := hnv j u hu
                have : y = x := by rw [Array.getElem?_toList] at hx; rw [hy] at hx; exact Option.some.inj hx
                subst this; exact hr.ext X3) hone (base + o + len * i.size) 0 (by omega)
            rw [show len * i.size = (cs.drop o).length from hlo.symm, splice_append _ _ _ (by rw [List.length_replicate, hl]),
              show h.length = (h.set b HB.dead).length from by simp, List.set_append_right _ _ (Nat.le_refl _), Nat.sub_self, List.set_cons_zero] at H4 K4
            have hrun := k1 hle
            rw [q2] at hrun
            simp only [behind, addr_add] at hrun
            rw [hr] at hrun
            refine ⟨_, w', _, _, hrun, ?_, H4, K3.trans K4⟩
            obtain ⟨c', e2, fr', hc', hcs'⟩ := K4.sz _ _ _ _ g2
            exact .slc (base := base + o) hrho (Nat.le_refl _) hle hc' (by rw [hcs']; omega)
          · obtain ⟨nc, hnc, hrun⟩ := k2 (by omega)
            have X1 := (Keep.drew h ρ I w).ext H
            have HD1 : RH ρ I w.drew (h.set b .dead) := HD.drew
            obtain ⟨H2, K2⟩ := HD1.alloc_cells (e := e) (arr := olds ++ news) (rest := Builtin.zeroCells z.cells (nc - (len + n))) (cs := cs.drop o ++ xs) (by simp only [Array.size_append, List.length_append]; omega) (RVs.append (RVs.ext X1 hov) hos (RVs.ext X1 hnv))
            refine ⟨_, w.drew.alloc (.cells (olds ++ news ++ Builtin.zeroCells z.cells (nc - (len + n))) e), ρ ++ [(w.heap.size, 0)], I, hrun, ?_, H2, (KD.trans (Keep.drew _ ρ I w)).trans K2⟩
            refine rv_new (w := w.drew) H.drew (Nat.le_refl _) hnc ?_
            simp only [Nat.zero_add, Array.size_append, size_zero, hzs, hns, hos, hlo, hl]
            rw [← Nat.add_mul, ← Nat.add_mul]; exact Nat.mul_le_mul_right _ (by omega)
      · cases hr
    · -- a slice that came in, with no room
      rename_i cs len
      simp only [Option.some.injEq, Prod.mk.injEq] at hr
      obtain ⟨rfl, rfl, rfl⟩ := hr
      obtain ⟨⟨hl, hone⟩, hcl, hb, hby⟩ := hp
      obtain ⟨news, hnew, hns, hnv⟩ := read_slice (P := P) H hx hxs hn (size := ti.size) (by rw [q2]; exact hl)
      obtain ⟨olds, hold, hos, hov⟩ := read_slice (P := P) H hs (cs := cs) rfl rfl (size := ti.size) (by rw [q2]; exact hcl)
      cases hs with
      | vecn oa =>
        obtain ⟨k1, k2⟩ := append_core (P := P) (w := w) (tyid := tyid) h0 h1 hu0 hu1 hd1 q1 q4 oa 0 0 n xv (fun w => run_lenOf hx hn w) news #[] hnew (fun w' _ => by cases oa <;> simp only [Builtin.firstCells, Nat.zero_mul] <;> rfl) (by rw [q3]; exact hb) (by rw [q3]; simpa using hby)
        by_cases hn0 : n = 0
        · subst hn0
          have hn0 : news = #[] := Array.eq_empty_of_size_eq_zero (by rw [hns, hl]; simp)
          refine ⟨.slice oa 0 0, w, ρ, I, by rw [k1 (by omega), hn0]; cases oa <;> rfl, ?_, by simpa using H, by simpa using Keep.refl _ _ _ _⟩
          exact .vecn _ _
        · obtain ⟨nc, hnc, hrun⟩ := k2 (by omega)
          rw [if_neg hn0, if_neg hn0]
          obtain ⟨H2, K2⟩ := H.drew.alloc_cells (e := e) (arr := news) (rest := Builtin.zeroCells z.cells (nc - (0 + n))) hns (RVs.ext ((Keep.drew h ρ I w).ext H) hnv)
          have he : #[] ++ news = news := by simp
          rw [he] at hrun
          refine ⟨_, w.drew.alloc (.cells (news ++ Builtin.zeroCells z.cells (nc - (0 + n))) e), ρ ++ [(w.heap.size, 0)], I, hrun, ?_, H2, (Keep.drew h ρ I w).trans K2⟩
          refine rv_new (w := w.drew) H.drew (Nat.le_refl _) hnc ?_
          simp only [Array.size_append, size_zero, hzs, hns, hl]
          rw [← Nat.add_mul]; exact Nat.mul_le_mul_right _ (by omega)
      | vec f hI hcell hv hp1 hp2 =>
        rename_i rb off rcap
        have := hp2 rfl
        subst this
        obtain ⟨k1, k2⟩ := append_core (P := P) (w := w) (tyid := tyid) h0 h1 hu0 hu1 hd1 q1 q4 (some ⟨rb, off, none⟩) rcap rcap n xv (fun w => run_lenOf hx hn w) news olds hnew hold (by rw [q3]; exact hb) (by rw [q3]; exact hby)
        by_cases hn0 : n = 0
        · subst hn0
          have hn0 : news = #[] := Array.eq_empty_of_size_eq_zero (by rw [hns, hl]; simp)
          refine ⟨_, w, ρ, I, by rw [k1 (by omega), hn0]; rfl, ?_, by simpa using H, by simpa using Keep.refl _ _ _ _⟩
          simp only [if_true, Nat.add_zero]
          exact .vec f hI hcell hv hp1 hp2
        · obtain ⟨nc, hnc, hrun⟩ := k2 (by omega)
          rw [if_neg hn0, if_neg hn0]
          have X1 := (Keep.drew h ρ I w).ext H
          obtain ⟨H2, K2⟩ := H.drew.alloc_cells (e := e) (arr := olds ++ news) (rest := Builtin.zeroCells z.cells (nc - (rcap + n))) (cs := cs ++ xs) (by simp only [Array.size_append, List.length_append]; omega) (RVs.append (RVs.ext X1 hov) hos (RVs.ext X1 hnv))
          refine ⟨_, w.drew.alloc (.cells (olds ++ news ++ Builtin.zeroCells z.cells (nc - (rcap + n))) e), ρ ++ [(w.heap.size, 0)], I, hrun, ?_, H2, (Keep.drew _ ρ I w).trans K2⟩
          refine rv_new (w := w.drew) H.drew (Nat.le_refl _) hnc ?_
          simp only [Nat.zero_add, Array.size_append, size_zero, hzs, hns, hos, hcl, hl]
          rw [← Nat.add_mul, ← Nat.add_mul]; exact Nat.mul_le_mul_right _ (by omega)
    · cases hr
  · cases hr
end
end Go.Abs
