/- The abstract machine, part 4: each operation is the model's. -/
import Derived.Test.YtpaehjjkfjgfiaaA3
import Derived.ChangeKeysEq
set_option linter.unusedVariables false
set_option linter.unusedSimpArgs false
namespace Go.Abs
open Go Go.RowKit

section
variable {P : Program} {ty : Tab} {ρ : Rho} {I : Nat → Prop} {w : World}

theorem bin_int (op : BinOp) (t : TypeId) (k k' : IntKind) (a b : Int) (hp : (binInt op k k' a b).1) :
    ∃ x, (binOp op t (.int k a) (.int k' b)).run P w = .ok x w ∧ RV ρ I w (binInt op k k' a b).2 x := by
  cases op
  case shl =>
    have h0 : ¬ b < 0 := by have : 0 ≤ b := hp; omega
    exact ⟨_, by simp only [binOp, Op.shift, if_neg h0]; rfl, .int _ _⟩
  case shr =>
    have h0 : ¬ b < 0 := by have : 0 ≤ b := hp; omega
    exact ⟨_, by simp only [binOp, Op.shift, if_neg h0]; rfl, .int _ _⟩
  case quo =>
    obtain ⟨rfl, h0⟩ := hp
    exact ⟨_, by simp [binOp, Op.intDiv, h0], .int _ _⟩
  case rem =>
    obtain ⟨rfl, h0⟩ := hp
    exact ⟨_, by simp [binOp, Op.intDiv, h0], .int _ _⟩
  case add => obtain rfl : k = k' := hp; exact ⟨_, by simp [binOp, Op.intArith], .int _ _⟩
  case sub => obtain rfl : k = k' := hp; exact ⟨_, by simp [binOp, Op.intArith], .int _ _⟩
  case mul => obtain rfl : k = k' := hp; exact ⟨_, by simp [binOp, Op.intArith], .int _ _⟩
  case and => obtain rfl : k = k' := hp; exact ⟨_, by simp only [binOp, ne_eq, not_true_eq_false, if_false, Op.intBits]; rfl, .int _ _⟩
  case or => obtain rfl : k = k' := hp; exact ⟨_, by simp only [binOp, ne_eq, not_true_eq_false, if_false, Op.intBits]; rfl, .int _ _⟩
  case xor => obtain rfl : k = k' := hp; exact ⟨_, by simp only [binOp, ne_eq, not_true_eq_false, if_false, Op.intBits]; rfl, .int _ _⟩
  case andNot => obtain rfl : k = k' := hp; exact ⟨_, by simp only [binOp, ne_eq, not_true_eq_false, if_false, Op.intBits]; rfl, .int _ _⟩
  case eql => obtain rfl : k = k' := hp; exact ⟨_, by simp [binOp, Op.intCmp], .bool _⟩
  case neq => obtain rfl : k = k' := hp; exact ⟨_, by simp [binOp, Op.intCmp], .bool _⟩
  case lss => obtain rfl : k = k' := hp; exact ⟨_, by simp [binOp, Op.intCmp], .bool _⟩
  case leq => obtain rfl : k = k' := hp; exact ⟨_, by simp [binOp, Op.intCmp], .bool _⟩
  case gtr => obtain rfl : k = k' := hp; exact ⟨_, by simp [binOp, Op.intCmp], .bool _⟩
  case geq => obtain rfl : k = k' := hp; exact ⟨_, by simp [binOp, Op.intCmp], .bool _⟩

theorem guard_int (op : BinOp) (t : TypeId) (x y : Operand) (k k' : IntKind) (a b : Int) : (eqGuard op t x y (.int k a) (.int k' b)).run P w = .ok () w := by
  unfold eqGuard; split <;> rfl

theorem run_indexAt {T : TyOK P ty} {xt : TypeId} {d : Ty} (hd : ty xt = some d) {x ix : V} {h : List HB} {p : Prop} {v : V} {h' : List HB}
    (hr : aIndexAddr ty d.desc x ix h = some (p, v, h')) (hp : p) {y iy : Value} (hx : RV ρ I w x y) (hi : RV ρ I w ix iy) :
    h' = h ∧ ∃ z, (Instr.indexAt xt y iy).run P w = .ok z w ∧ RV ρ I w v z := by
  have und := run_und T hd w
  cases hi with
  | int k i =>
    simp only [aIndexAddr] at hr
    simp only [Instr.indexAt, asIntOf, Sem.run_bind, Sem.run_pure, Result.andThen_ok, und]
    split at hr
    · rename_i n e b o hde
      cases he : ty e with
      | none => simp [he] at hr
      | some ei =>
        simp only [he, Option.map_some, Option.some.injEq, Prod.mk.injEq] at hr
        obtain ⟨rfl, rfl, rfl⟩ := hr
        cases hx with
        | ptr hb =>
          refine ⟨rfl, _, ?_, .ptr hb⟩
          simp [hde, Instr.sureAddr, und, hp, run_size T he, addr_add, Nat.add_assoc]
    · rename_i n e cs o hde
      cases he : ty e with
      | none => simp [he] at hr
      | some ei =>
        simp only [he, Option.map_some, Option.some.injEq, Prod.mk.injEq] at hr
        obtain ⟨rfl, rfl, rfl⟩ := hr
        cases hx with
        | vptr f hI hc hv =>
          refine ⟨rfl, _, ?_, .vptr f hI hc hv⟩
          simp [hde, Instr.sureAddr, und, hp, run_size T he, addr_add, Nat.add_assoc]
    · rename_i e b o z len cap hde
      cases he : ty e with
      | none => simp [he] at hr
      | some ei =>
        simp only [he, Option.map_some, Option.some.injEq, Prod.mk.injEq] at hr
        obtain ⟨rfl, rfl, rfl⟩ := hr
        cases hx with
        | slc hb h1 h2 hb2 hs =>
          refine ⟨rfl, _, ?_, .ptr hb⟩
          simp [hde, und, hp, run_size T he, addr_add, Nat.add_assoc]
    · rename_i e cs len x hde
      cases he : ty e with
      | none => simp [he] at hr
      | some ei =>
        simp only [he, Option.map_some, Option.some.injEq, Prod.mk.injEq] at hr
        obtain ⟨rfl, rfl, rfl⟩ := hr
        cases hx with
        | vecn x => exact absurd hp (by omega)
        | vec f hI hc hv h1 hx =>
          refine ⟨rfl, _, ?_, .vptr f hI hc hv⟩
          simp [hde, und, hp, run_size T he, addr_add]
    · cases hr
  | _ => simp [aIndexAddr] at hr

theorem run_index {T : TyOK P ty} {xt : TypeId} {d : Ty} (hd : ty xt = some d) {x ix : V} {h : List HB} {p : Prop} {v : V} {h' : List HB}
    (hr : aIndex ty d.desc x ix h = some (p, v, h')) (hp : p) {y iy : Value} (hx : RV ρ I w x y) (hi : RV ρ I w ix iy) :
    h' = h ∧ ∃ z, (Instr.index xt y iy).run P w = .ok z w ∧ RV ρ I w v z := by
  have und := run_und T hd w
  cases hi with
  | int k i =>
    simp only [aIndex] at hr
    simp only [Instr.index, asIntOf, Sem.run_bind, Sem.run_pure, Result.andThen_ok, und]
    split at hr
    · rename_i n e cs hde
      cases he : ty e with
      | none => simp [he] at hr
      | some ei =>
        simp only [he, Option.map_some, Option.some.injEq, Prod.mk.injEq] at hr
        obtain ⟨rfl, rfl, rfl⟩ := hr
        cases hx with
        | agg hl hv =>
          obtain ⟨z, hz, hrz⟩ := part_part (P := P) T he hl hv hp.2
          refine ⟨rfl, z, ?_, hrz⟩
          simp only [hde]
          rw [if_pos hp.1, Sem.run_bind, run_size T he, Result.andThen_ok]
          exact hz
    · rename_i s hde
      simp only [Option.some.injEq, Prod.mk.injEq] at hr
      obtain ⟨rfl, rfl, rfl⟩ := hr
      cases hx with
      | str s =>
        refine ⟨rfl, .int .u8 (bt s i.toNat), ?_, .int _ _⟩
        simp only [hde]
        obtain ⟨h0, h1⟩ := hp
        have hlt : i.toNat < s.size := by omega
        have hs : s[i.toNat]? = some (s.data[i.toNat]'hlt) := by
          rw [getElem?_pos s i.toNat hlt]; rfl
        have hb : bt s i.toNat = (s.data[i.toNat]'hlt).toNat := by
          unfold bt; rw [Array.getElem?_eq_getElem hlt]; rfl
        rw [if_pos h0, hs, hb]; rfl
    · cases hr
  | _ => simp [aIndex] at hr

theorem run_field {T : TyOK P ty} {xt : TypeId} {d : Ty} (hd : ty xt = some d) {x : V} {f : Nat} {h : List HB} {p : Prop} {v : V} {h' : List HB}
    (hr : aField ty d.desc x f h = some (p, v, h')) (hp : p) {y : Value} (hx : RV ρ I w x y) :
    h' = h ∧ ∃ z, (Instr.field xt y f).run P w = .ok z w ∧ RV ρ I w v z := by
  have und := run_und T hd w
  unfold aField at hr
  split at hr
  · rename_i fd cs hf
    cases he : ty fd.type with
    | none => simp [he] at hr
    | some fi =>
      simp only [he, Option.map_some, Option.some.injEq, Prod.mk.injEq] at hr
      obtain ⟨rfl, rfl, rfl⟩ := hr
      unfold fieldOf at hf
      split at hf
      · rename_i fs hde
        cases hx with
        | agg hl hv =>
          obtain ⟨z, hz, hrz⟩ := part_part (P := P) T he hl hv hp
          exact ⟨rfl, z, by simp [Instr.field, und, hde, hf, asAgg, hz], hrz⟩
      · cases hf
  · cases hr

theorem run_fieldAt {T : TyOK P ty} {xt : TypeId} {d : Ty} (hd : ty xt = some d) {x : V} {f : Nat} {h : List HB} {p : Prop} {v : V} {h' : List HB}
    (hr : aFieldAddr ty d.desc x f h = some (p, v, h')) (hp : p) {y : Value} (hx : RV ρ I w x y) :
    h' = h ∧ ∃ z, (Instr.fieldAt xt y f).run P w = .ok z w ∧ RV ρ I w v z := by
  have und := run_und T hd w
  unfold aFieldAddr at hr
  have hfs : ∀ fd, fieldOf d.desc f = some fd → ∃ fs : Array Field, d.desc = .struct fs ∧ fs[f]? = some fd := by
    intro fd hf; unfold fieldOf at hf; split at hf
    · rename_i fs hde; exact ⟨fs, hde, hf⟩
    · cases hf
  split at hr
  · rename_i fd b o hf
    cases he : ty fd.type with
    | none => simp [he] at hr
    | some fi =>
      simp only [he, Option.map_some, Option.some.injEq, Prod.mk.injEq] at hr
      obtain ⟨rfl, rfl, rfl⟩ := hr
      obtain ⟨fs, hde, hff⟩ := hfs fd hf
      cases hx with
      | ptr hb =>
        have hp' : ¬ fi.size = 0 := hp
        exact ⟨rfl, _, by simp [Instr.fieldAt, und, hde, hff, Instr.sureAddr, fieldPlace, run_size T he, hp', addr_add, Nat.add_assoc], .ptr hb⟩
  · rename_i fd cs o hf
    cases he : ty fd.type with
    | none => simp [he] at hr
    | some fi =>
      simp only [he, Option.map_some, Option.some.injEq, Prod.mk.injEq] at hr
      obtain ⟨rfl, rfl, rfl⟩ := hr
      obtain ⟨fs, hde, hff⟩ := hfs fd hf
      cases hx with
      | vptr g hI hc hv =>
        have hp' : ¬ fi.size = 0 := hp
        exact ⟨rfl, _, by simp [Instr.fieldAt, und, hde, hff, Instr.sureAddr, fieldPlace, run_size T he, hp', addr_add, Nat.add_assoc], .vptr g hI hc hv⟩
  · cases hr

theorem run_un {op : UnOp} {x v : V} (hr : aUn op x = some v) {y : Value} (hx : RV ρ I w x y) : ∃ z, (Op.unary op y).run P w = .ok z w ∧ RV ρ I w v z := by
  unfold aUn at hr
  split at hr
  · cases hr; cases hx; exact ⟨_, by simp [Op.unary, Op.intArith], .int _ _⟩
  · cases hr; cases hx; exact ⟨_, by simp [Op.unary], .bool _⟩
  · cases hr; cases hx; exact ⟨_, by simp only [Op.unary, Op.intBits]; rfl, .int _ _⟩
  · cases hr


/-! ### Equality of values that are flat -/

def eqVal : Kd → Value → Value → Option Bool
  | .i q, .int k a, .int k' b => if q = k ∧ k = k' then some (a == b) else none
  | .b, .bool a, .bool b => some (a == b)
  | .s, .string a, .string b => some (a == b)
  | _, _, _ => none

def eqVals : List Kd → List Value → List Value → Option Bool
  | [], [], [] => some true
  | k :: ks, x :: xs, y :: ys => match eqVal k x y, eqVals ks xs ys with
    | some a, some b => some (a && b)
    | _, _ => none
  | _, _, _ => none

theorem eqVal_of {k : Kd} {u v : V} {x y : Value} {r : Bool} (h : eqCell k u v = some r) (hx : RV ρ I w u x) (hy : RV ρ I w v y) : eqVal k x y = some r := by
  unfold eqCell at h
  split at h
  · cases hx; cases hy; exact h
  · cases hx; cases hy; exact h
  · cases hx; cases hy; exact h
  · cases h

theorem eqVals_of : ∀ {ks : List Kd} {cs ds : List V} {xs ys : List Value} {r : Bool}, eqCells ks cs ds = some r → cs.length = xs.length → ds.length = ys.length →
    (∀ (i : Nat) (v : V) (x : Value), cs[i]? = some v → xs[i]? = some x → RV ρ I w v x) → (∀ (i : Nat) (v : V) (x : Value), ds[i]? = some v → ys[i]? = some x → RV ρ I w v x) → eqVals ks xs ys = some r
  | [], [], [], xs, ys, r, h, hl, hl', _, _ => by
    obtain rfl : xs = [] := List.length_eq_zero_iff.1 hl.symm
    obtain rfl : ys = [] := List.length_eq_zero_iff.1 hl'.symm
    exact h
  | k :: ks, u :: cs, v :: ds, [], ys, r, h, hl, hl', _, _ => by simp at hl
  | k :: ks, u :: cs, v :: ds, x :: xs, [], r, h, hl, hl', _, _ => by simp at hl'
  | k :: ks, u :: cs, v :: ds, x :: xs, y :: ys, r, h, hl, hl', hx, hy => by
    simp only [eqCells] at h
    cases h1 : eqCell k u v with
    | none => simp [h1] at h
    | some a =>
      cases h2 : eqCells ks cs ds with
      | none => simp [h1, h2] at h
      | some b =>
        simp only [h1, h2, Option.some.injEq] at h
        have e1 := eqVal_of h1 (hx 0 u x rfl rfl) (hy 0 v y rfl rfl)
        have e2 := eqVals_of h2 (by simpa using hl) (by simpa using hl') (fun i a b h k => hx (i + 1) a b (by simpa using h) (by simpa using k)) (fun i a b h k => hy (i + 1) a b (by simpa using h) (by simpa using k))
        simp [eqVals, e1, e2, h]
  | [], [], _ :: _, _, _, _, h, _, _, _, _ => by simp [eqCells] at h
  | [], _ :: _, _, _, _, _, h, _, _, _, _ => by simp [eqCells] at h
  | _ :: _, [], _, _, _, _, h, _, _, _, _ => by simp [eqCells] at h
  | _ :: _, _ :: _, [], _, _, _, h, _, _, _, _ => by simp [eqCells] at h

theorem eqVals_append : ∀ {ks ls : List Kd} {a c b d : List Value} {r : Bool}, ks.length = a.length → a.length = c.length → eqVals (ks ++ ls) (a ++ b) (c ++ d) = some r → ∃ r1 r2, eqVals ks a c = some r1 ∧ eqVals ls b d = some r2 ∧ r = (r1 && r2)
  | [], ls, [], [], b, d, r, _, _, h => ⟨true, r, rfl, h, by simp⟩
  | [], _, _ :: _, _, _, _, _, hk, _, _ => by simp at hk
  | _ :: _, _, [], _, _, _, _, hk, _, _ => by simp at hk
  | _, _, [], _ :: _, b, d, r, _, hl, h => by simp at hl
  | _, _, _ :: _, [], b, d, r, _, hl, h => by simp at hl
  | k :: ks, ls, x :: a, y :: c, b, d, r, hk, hl, h => by
    simp only [List.cons_append, eqVals] at h
    cases h1 : eqVal k x y with
    | none => simp [h1] at h
    | some p =>
      cases h2 : eqVals (ks ++ ls) (a ++ b) (c ++ d) with
      | none => simp [h1, h2] at h
      | some q =>
        simp only [h1, h2, Option.some.injEq] at h
        obtain ⟨r1, r2, e1, e2, e3⟩ := eqVals_append (by simpa using hk) (by simpa using hl) h2
        exact ⟨p && r1, r2, by simp [eqVals, h1, e1], e2, by rw [← h, e3, Bool.and_assoc]⟩

/-- The part of a row that a type takes. -/
def seg (xs : Array Value) (off n : Nat) : List Value := (xs.toList.drop off).take n

theorem seg_add (xs : Array Value) (off m n : Nat) : seg xs off (m + n) = seg xs off m ++ seg xs (off + m) n := by
  simp only [seg, List.take_add, List.drop_drop]

def FlatEq (P : Program) (ty : Tab) (dd : Nat) (t : TypeId) (ks : List Kd) : Prop :=
  ∀ (w : World) (i : Ty) (xs ys : Array Value) (off : Nat) (r : Bool), ty t = some i → off + i.size ≤ xs.size → off + i.size ≤ ys.size → eqVals ks (seg xs off i.size) (seg ys off i.size) = some r →
    ∃ a b, (part t xs off).run P w = .ok a w ∧ (part t ys off).run P w = .ok b w ∧ (Op.equalIn dd t a b).run P w = .ok r w

theorem eqVals_one {k : Kd} {x y : Value} {r : Bool} (h : eqVals [k] [x] [y] = some r) : eqVal k x y = some r := by
  simp only [eqVals] at h
  cases h1 : eqVal k x y with
  | none => simp [h1] at h
  | some p => simp [h1] at h; rw [h]

theorem seg_one {xs : Array Value} {off : Nat} (h : off + 1 ≤ xs.size) : seg xs off 1 = [xs[off]'(by omega)] := by
  unfold seg
  rw [List.drop_eq_getElem_cons (by simp; omega)]
  simp

theorem seg_length {xs : Array Value} {off n : Nat} (h : off + n ≤ xs.size) : (seg xs off n).length = n := by simp [seg]; omega

theorem seg_extract {xs : Array Value} {off n o m : Nat} (h : o + m ≤ n) : seg (xs.extract off (off + n)) o m = seg xs (off + o) m := by
  simp only [seg, Array.toList_extract, List.extract_eq_take_drop]
  rw [List.drop_take, List.drop_drop, List.take_take]
  congr 1; omega

theorem part_leaf {t : TypeId} {i : Ty} (T : TyOK P ty) (h : ty t = some i) (ha : aggD i.desc = false) {xs : Array Value} {off : Nat} (hl : off + 1 ≤ xs.size) (w : World) : (part t xs off).run P w = .ok (xs[off]'(by omega)) w := by
  simp only [part, Sem.run_bind, run_agg T h, Result.andThen_ok, ha, Bool.false_eq_true, if_false]
  rw [Array.getElem?_eq_getElem (by omega)]; rfl

theorem part_aggr {t : TypeId} {i : Ty} (T : TyOK P ty) (h : ty t = some i) (ha : aggD i.desc = true) {xs : Array Value} {off : Nat} (w : World) : (part t xs off).run P w = .ok (.agg (xs.extract off (off + i.size))) w := by
  simp only [part, Sem.run_bind, run_agg T h, Result.andThen_ok, ha, if_true, run_size T h]; rfl

theorem eqItems_flat {dd : Nat} {e : TypeId} {ei : Ty} {l : List Kd} (he : ty e = some ei) (hl : l.length = ei.size) (IH : FlatEq P ty dd e l) (xs ys : Array Value) (w : World) : ∀ (m k : Nat) (r : Bool), (k + m) * ei.size ≤ xs.size → (k + m) * ei.size ≤ ys.size →
    eqVals (List.replicate m l).flatten (seg xs (k * ei.size) (m * ei.size)) (seg ys (k * ei.size) (m * ei.size)) = some r → (Op.eqItems dd e ei.size xs ys (List.range' k m)).run P w = .ok r w
  | 0, k, r, _, _, h => by simp [seg, eqVals] at h; subst h; simp [Op.eqItems]
  | m + 1, k, r, hx, hy, h => by
    have hx1 : k * ei.size + ei.size ≤ xs.size := by rw [← Nat.succ_mul]; exact Nat.le_trans (Nat.mul_le_mul_right _ (by omega)) hx
    have hy1 : k * ei.size + ei.size ≤ ys.size := by rw [← Nat.succ_mul]; exact Nat.le_trans (Nat.mul_le_mul_right _ (by omega)) hy
    rw [show (m + 1) * ei.size = ei.size + m * ei.size from by rw [Nat.succ_mul, Nat.add_comm], seg_add, seg_add, List.replicate_succ, List.flatten_cons] at h
    obtain ⟨r1, r2, h1, h2, rfl⟩ := eqVals_append (by rw [seg_length hx1, hl]) (by rw [seg_length hx1, seg_length hy1]) h
    obtain ⟨a, b, p1, p2, p3⟩ := IH w ei xs ys (k * ei.size) r1 he hx1 hy1 h1
    have h2' := eqItems_flat he hl IH xs ys w m (k + 1) r2 (by rw [show k + 1 + m = k + (m + 1) from by omega]; exact hx) (by rw [show k + 1 + m = k + (m + 1) from by omega]; exact hy) (by rw [Nat.succ_mul]; exact h2)
    simp only [List.range'_succ, Op.eqItems, Sem.run_bind, p1, p2, p3, Result.andThen_ok]
    cases r1
    · simp
    · simpa using h2'

theorem contig_le (ty : Tab) : ∀ (fs : List Field) (off n : Nat), contig ty off fs = some n → off ≤ n
  | [], off, n, h => by simp only [contig, Option.some.injEq] at h; omega
  | g :: fs, off, n, h => by
    simp only [contig] at h
    split at h
    · cases hg : ty g.type with
      | none => simp [hg] at h
      | some j => simp only [hg, Option.bind_some] at h; have := contig_le ty fs _ _ h; omega
    · cases h

theorem eqFields_flat {dd : Nat} {f : TypeId → Option (List Kd)} (hf : ∀ t l i, f t = some l → ty t = some i → l.length = i.size) (xs ys : Array Value) (w : World) : ∀ (fs : List Field) (off n : Nat) (r : Bool) (ls : List Kd), contig ty off fs = some n →
    leavesF f fs = some ls → (∀ g ∈ fs, ∀ l, f g.type = some l → FlatEq P ty dd g.type l) → n ≤ xs.size → n ≤ ys.size →
    eqVals ls (seg xs off (n - off)) (seg ys off (n - off)) = some r → (Op.eqFields dd xs ys fs).run P w = .ok r w
  | [], off, n, r, ls, hc, hl, _, _, _, h => by
    simp only [contig, Option.some.injEq] at hc
    subst hc
    simp only [leavesF, Option.some.injEq] at hl
    subst hl
    simp [seg, eqVals] at h; subst h; simp [Op.eqFields]
  | g :: fs, off, n, r, ls, hc, hl, IH, hx, hy, h => by
    simp only [contig] at hc
    simp only [leavesF] at hl
    split at hl
    · rename_i a b hfa hfb
      simp only [Option.some.injEq] at hl
      subst hl
      split at hc
      · rename_i hg
        obtain ⟨hg1, hg2⟩ := hg
        cases hi : ty g.type with
        | none => simp [hi] at hc
        | some i =>
          simp only [hi, Option.bind_some] at hc
          have hle2 := contig_le ty _ _ _ hc
          have hal := hf _ _ _ hfa hi
          rw [show n - off = i.size + (n - (off + i.size)) from by omega, seg_add, seg_add] at h
          obtain ⟨r1, r2, h1, h2, rfl⟩ := eqVals_append (by rw [seg_length (by omega), hal]) (by rw [seg_length (by omega), seg_length (by omega)]) h
          obtain ⟨x, y, p1, p2, p3⟩ := IH g (by simp) a hfa w i xs ys off r1 hi (by omega) (by omega) h1
          have h2' := eqFields_flat hf xs ys w fs (off + i.size) n r2 b hc hfb (fun g hg => IH g (by simp [hg])) hx hy h2
          rw [← hg1] at p1 p2
          simp only [Op.eqFields, hg2, ne_eq, not_false_eq_true, if_true, Sem.run_bind, p1, p2, p3, Result.andThen_ok]
          cases r1
          · simp
          · simpa using h2'
      · cases hc
    · cases hl

theorem leavesF_length {f : TypeId → Option (List Kd)} (hf : ∀ t l i, f t = some l → ty t = some i → l.length = i.size) : ∀ (fs : List Field) (off n : Nat) (ls : List Kd), contig ty off fs = some n → leavesF f fs = some ls → off + ls.length = n
  | [], off, n, ls, hc, hl => by
    simp only [contig, Option.some.injEq] at hc
    simp only [leavesF, Option.some.injEq] at hl
    subst hl; simpa using hc
  | g :: fs, off, n, ls, hc, hl => by
    simp only [contig] at hc
    simp only [leavesF] at hl
    split at hl
    · rename_i a b hfa hfb
      simp only [Option.some.injEq] at hl
      subst hl
      split at hc
      · cases hi : ty g.type with
        | none => simp [hi] at hc
        | some i =>
          simp only [hi, Option.bind_some] at hc
          have := leavesF_length hf fs _ n b hc hfb
          have hal := hf _ _ _ hfa hi
          simp; omega
      · cases hc
    · cases hl

theorem leaves_length : ∀ (d : Nat) (t : TypeId) (l : List Kd) (i : Ty), leaves ty d t = some l → ty t = some i → l.length = i.size
  | 0, _, _, _, h, _ => by simp [leaves] at h
  | d + 1, t, l, i, h, hi => by
    unfold leaves at h
    simp only [hi] at h
    split at h
    · split at h
      · cases h; simp; omega
      · cases h
    · split at h
      · cases h; simp; omega
      · cases h
    · split at h
      · cases h; simp; omega
      · cases h
    · rename_i n e hd
      split at h
      · rename_i ei l' hei hl'
        split at h
        · rename_i hs
          cases h
          rw [List.length_flatten, List.map_replicate, List.sum_replicate_nat, leaves_length d e l' ei hl' hei, hs]
        · cases h
      · cases h
    · rename_i fs hd
      split at h
      · rename_i hs
        have := leavesF_length (fun t l i => leaves_length d t l i) _ _ _ _ hs.2 h
        omega
      · cases h
    · cases h

theorem flat_eq (T : TyOK P ty) (dd : Nat) : ∀ (d : Nat) (t : TypeId) (ks : List Kd), leaves ty d t = some ks → FlatEq P ty (dd + d) t ks
  | 0, _, _, h => by simp [leaves] at h
  | d + 1, t, ks, hf => by
    intro w i xs ys off r hi hx hy h
    unfold leaves at hf
    simp only [hi] at hf
    have hu := (T t i hi).1
    have leaf : ∀ (k : Kd), ks = [k] → i.size = 1 → aggD i.desc = false → (∀ x y : Value, ∀ q, eqVal k x y = some q → (Op.equalIn (dd + (d + 1)) t x y).run P w = .ok q w) →
        ∃ a b, (part t xs off).run P w = .ok a w ∧ (part t ys off).run P w = .ok b w ∧ (Op.equalIn (dd + (d + 1)) t a b).run P w = .ok r w := by
      rintro k rfl h1 ha hq
      rw [h1] at h hx hy
      rw [seg_one hx, seg_one hy] at h
      exact ⟨_, _, part_leaf T hi ha hx w, part_leaf T hi ha hy w, hq _ _ _ (eqVals_one h)⟩
    split at hf
    · rename_i k hd
      split at hf
      · rename_i h1
        cases hf
        refine leaf _ rfl h1 (by rw [hd]; rfl) ?_
        intro x y q hq
        unfold eqVal at hq
        split at hq
        · split at hq
          · rename_i hk
            cases hq
            rw [hd] at hu
            rw [show dd + (d + 1) = (dd + d) + 1 from rfl, ← hk.2]
            exact run_equalIn_int w _ t _ _ _ _ hu
          · cases hq
        · rename_i heq; cases heq
        · rename_i heq; cases heq
        · cases hq
      · cases hf
    · rename_i hd
      split at hf
      · rename_i h1
        cases hf
        refine leaf _ rfl h1 (by rw [hd]; rfl) ?_
        intro x y q hq
        unfold eqVal at hq
        split at hq
        · rename_i heq; cases heq
        · cases hq; rw [hd] at hu; exact run_equalIn_bool' w _ t _ _ hu
        · rename_i heq; cases heq
        · cases hq
      · cases hf
    · rename_i hd
      split at hf
      · rename_i h1
        cases hf
        refine leaf _ rfl h1 (by rw [hd]; rfl) ?_
        intro x y q hq
        unfold eqVal at hq
        split at hq
        · rename_i heq; cases heq
        · rename_i heq; cases heq
        · cases hq; rw [hd] at hu; rw [beq_toListBytes]; exact run_equalIn_string w _ t _ _ hu
        · cases hq
      · cases hf
    · rename_i n e hd
      split at hf
      · rename_i ei l hei hl
        split at hf
        · rename_i hs
          cases hf
          rw [hd] at hu
          obtain ⟨_, ti, z, q1, q2, _⟩ := T e ei hei
          have ha : aggD i.desc = true := by rw [hd]; rfl
          refine ⟨_, _, part_aggr T hi ha w, part_aggr T hi ha w, ?_⟩
          rw [show dd + (d + 1) = (dd + d) + 1 from rfl, run_equalIn_array w (dd + d) _ _ hu q1]
          have hce : P.cellsOf e = ei.size := by simp [Program.cellsOf, q1, q2]
          rw [hce, List.range_eq_range']
          refine eqItems_flat hei (leaves_length d e l ei hl hei) (flat_eq T dd d e l hl) _ _ w n 0 r (by simp; omega) (by simp; omega) ?_
          rw [hs] at h ⊢
          rw [Nat.zero_mul, seg_extract (by omega), seg_extract (by omega)]
          exact h
        · cases hf
      · cases hf
    · rename_i fs hd
      split at hf
      · rename_i hs
        rw [hd] at hu
        have ha : aggD i.desc = true := by rw [hd]; rfl
        obtain ⟨_, ti, z, _, _, _, _, _, _, q⟩ := T t i hi
        have hfs : P.fieldsOf t = fs := by simp [Program.fieldsOf, hu]
        refine ⟨_, _, part_aggr T hi ha w, part_aggr T hi ha w, ?_⟩
        rw [show dd + (d + 1) = (dd + d) + 1 from rfl, run_equalIn_struct w (dd + d) t _ _ (by rw [hfs]; exact hu) (q hs.1).1, hfs]
        refine eqFields_flat (fun t l i => leaves_length d t l i) _ _ w fs.toList 0 i.size r ks hs.2 hf (fun g _ l hl => flat_eq T dd d g.type l hl) (by simp; omega) (by simp; omega) ?_
        rw [Nat.sub_zero, seg_extract (by omega), seg_extract (by omega)]
        exact h
      · cases hf
    · cases hf

theorem run_eqGuard_plain (op : BinOp) (t : TypeId) (x y : Operand) (a b : Value) (h : ∀ c, a ≠ .agg c) (h' : a ≠ .nilIface) : (eqGuard op t x y a b).run P w = .ok () w := by
  cases a <;> first | exact absurd rfl (h _) | exact absurd rfl h' | (cases op <;> cases b <;> rfl)

theorem run_bin (T : TyOK P ty) {op : BinOp} {t : TypeId} {ox oy : Operand} {x y : V} {h : List HB} {p : Prop} {v : V} {h' : List HB} (hr : aBin ty op t x y h = some (p, v, h')) (hp : p)
    {a b : Value} (hx : RV ρ I w x a) (hy : RV ρ I w y b) :
    h' = h ∧ ∃ z, (do eqGuard op t ox oy a b; binOp op t a b : Sem Value).run P w = .ok z w ∧ RV ρ I w v z := by
  unfold aBin at hr
  split at hr
  · simp only [Option.some.injEq, Prod.mk.injEq] at hr
    obtain ⟨rfl, rfl, rfl⟩ := hr
    cases hx; cases hy
    obtain ⟨z, hz, hrz⟩ := bin_int (P := P) (ρ := ρ) (I := I) (w := w) op t _ _ _ _ hp
    exact ⟨rfl, z, by rw [Sem.run_bind, guard_int, Result.andThen_ok]; exact hz, hrz⟩
  · split at hr
    · rename_i i hi
      split at hr
      · rename_i hd
        have hu := (T t i hi).1
        rw [hd] at hu
        cases hx; cases hy
        have hb := fun (a b : Bool) => run_equalIn_bool' (P := P) w 9999 t a b hu
        unfold eqV at hr
        split at hr <;> simp only [Option.some.injEq, Prod.mk.injEq, reduceCtorEq] at hr
        · obtain ⟨rfl, rfl, rfl⟩ := hr
          refine ⟨rfl, _, ?_, .bool _⟩
          rw [Sem.run_bind, run_eqGuard_plain _ _ _ _ _ _ (by intro c h; cases h) (by intro h; cases h), Result.andThen_ok]
          simp only [binOp, Op.equal, Op.maxDepth, Sem.run_bind, hb, Result.andThen_ok, Sem.run_pure]
        · obtain ⟨rfl, rfl, rfl⟩ := hr
          refine ⟨rfl, _, ?_, .bool _⟩
          rw [Sem.run_bind, run_eqGuard_plain _ _ _ _ _ _ (by intro c h; cases h) (by intro h; cases h), Result.andThen_ok]
          simp only [binOp, Op.equal, Op.maxDepth, Sem.run_bind, hb, Result.andThen_ok, Sem.run_pure]
      · cases hr
    · cases hr
  · cases hx; cases hy
    have hg := fun (op : BinOp) (a b : ByteArray) => run_eqGuard_plain (P := P) (w := w) op t ox oy (.string a) (.string b) (by intro c h; cases h) (by intro h; cases h)
    split at hr <;> simp only [Option.some.injEq, Prod.mk.injEq, reduceCtorEq] at hr
    · obtain ⟨rfl, rfl, rfl⟩ := hr
      exact ⟨rfl, _, by rw [Sem.run_bind, hg, Result.andThen_ok, beq_toListBytes]; rfl, .bool _⟩
    · obtain ⟨rfl, rfl, rfl⟩ := hr
      exact ⟨rfl, _, by rw [Sem.run_bind, hg, Result.andThen_ok, beq_toListBytes]; rfl, .bool _⟩
    · obtain ⟨rfl, rfl, rfl⟩ := hr
      refine ⟨rfl, _, ?_, .str _⟩
      rw [Sem.run_bind, hg, Result.andThen_ok]
      simp only [binOp, Op.stringOp]
      rw [if_neg (by simp [IntKind.max, IntKind.signed, IntKind.bits] at hp ⊢; omega)]
      rfl
    · obtain ⟨rfl, rfl, rfl⟩ := hr
      exact ⟨rfl, _, by rw [Sem.run_bind, hg, Result.andThen_ok]; rfl, .bool _⟩
  · rename_i cs ds
    split at hr
    · rename_i i ks hi hk
      split at hr
      · rename_i r hq
        split at hr
        · rename_i hs
          obtain ⟨_, ti, z, _, _, _, _, _, _, q⟩ := T t i hi
          cases hx with
          | agg hl hv =>
            cases hy with
            | agg hl' hv' =>
              rename_i xs ys
              have hlen : ∀ (ks : List Kd) (cs ds : List V) (r : Bool), eqCells ks cs ds = some r → cs.length = ks.length ∧ ds.length = ks.length := by
                intro ks
                induction ks with
                | nil => intro cs ds r h; cases cs <;> cases ds <;> simp [eqCells] at h ⊢
                | cons k ks ih =>
                  intro cs ds r h
                  cases cs with
                  | nil => simp [eqCells] at h
                  | cons c cs =>
                    cases ds with
                    | nil => simp [eqCells] at h
                    | cons d ds =>
                      simp only [eqCells] at h
                      split at h
                      · rename_i h1 h2; have := ih _ _ _ h2; simp [this]
                      · cases h
              obtain ⟨z1, z2⟩ := hlen _ _ _ _ hq
              have sx : xs.size = i.size := by omega
              have sy : ys.size = i.size := by omega
              have he := eqVals_of (xs := xs.toList) (ys := ys.toList) hq (by simp [hl]) (by simp [hl']) (fun i v x h k => hv i v x h (by simpa using k)) (fun i v x h k => hv' i v x h (by simpa using k))
              have ha : aggD i.desc = true := hs.2.1
              obtain ⟨a, b, p1, p2, p3⟩ := flat_eq T 9988 12 t ks hk w i xs ys 0 r hi (by omega) (by omega) (by
                rw [show seg xs 0 i.size = xs.toList from List.take_of_length_le (by simp; omega), show seg ys 0 i.size = ys.toList from List.take_of_length_le (by simp; omega)]; exact he)
              rw [part_aggr T hi ha, Nat.zero_add, ← sx, Array.extract_size] at p1
              rw [part_aggr T hi ha, Nat.zero_add, ← sy, Array.extract_size] at p2
              cases p1; cases p2
              have hg := run_eqGuard_agg (P := P) w op t ox oy xs ys (q hs.1).2
              unfold eqV at hr
              split at hr <;> simp only [Option.some.injEq, Prod.mk.injEq, reduceCtorEq] at hr
              · obtain ⟨rfl, rfl, rfl⟩ := hr
                exact ⟨rfl, _, by rw [Sem.run_bind, hg, Result.andThen_ok, run_eql_struct, p3]; rfl, .bool _⟩
              · obtain ⟨rfl, rfl, rfl⟩ := hr
                exact ⟨rfl, _, by rw [Sem.run_bind, hg, Result.andThen_ok, run_neq_struct, p3]; rfl, .bool _⟩
        · cases hr
      · cases hr
    · cases hr
  · cases hr
end
end Go.Abs
