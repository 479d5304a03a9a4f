/- The abstract machine, part 19: what comes in, of any type of numbers, strings, arrays, structs and slices, opened. -/
import Derived.Test.YtemlnaipcdajeaaGreatM5
import Derived.ProofKit
import Derived.Deep.Slices
import Derived.OpenShut
import Derived.Test.YtemlnaipcdajeaaGreatM7
import Derived.Test.YtemlnaipcdajeaaGreatM8
set_option linter.unusedVariables false
set_option linter.unusedSimpArgs false
namespace Go.Abs
open Go Go.RowKit Go.Deep

/-- What the cells of a value of a type are. -/
def OkT (ty : Tab) : Nat → TypeId → List V → Prop
  | 0, _, _ => False
  | n + 1, t, ds => match ((ty t).map fun i => i.desc : Option TypeDesc) with
    | some (.int k) => ∃ z : Int, (Lit.int k z).wf = true ∧ ds = [.int k z]
    | some .bool => ∃ b, ds = [.bool b]
    | some .string => ∃ s : ByteArray, s.size ≤ maxLen ∧ ds = [.str s]
    | some (.array m e) => ∃ rows : List (List V), rows.length = m ∧ ds = rows.flatten ∧ ∀ r ∈ rows, OkT ty n e r
    | some (.struct fs) => ∃ rows : List (List V), rows.length = fs.size ∧ ds = rows.flatten ∧ ∀ (i : Nat) (f : Field) (r : List V), fs[i]? = some f → rows[i]? = some r → OkT ty n f.type r
    | some (.slice e) => ∃ rows : List (List V), rows.length ≤ maxLen ∧ ds = [.vec rows.flatten rows.length false] ∧ ∀ r ∈ rows, OkT ty n e r
    | _ => False
def sizeT (ty : Tab) (t : TypeId) : Nat := ((ty t).map (·.size)).getD 0
def goT (ty : Tab) (cov : TypeId → Bool) : List Field → Nat → Option Nat
  | [], o => some o
  | f :: fs, o => if (ty f.type).isSome && (f.offset == o) && cov f.type then goT ty cov fs (o + sizeT ty f.type) else none
/-- Is it of such a type? -/
def covT (ty : Tab) : Nat → TypeId → Bool
  | 0, _ => false
  | n + 1, t => match ty t with
    | none => false
    | some i => match i.desc with
      | .int _ | .bool | .string => true
      | .array m e => (ty e).isSome && covT ty n e && (i.size == m * sizeT ty e)
      | .struct fs => goT ty (covT ty n) fs.toList 0 == some i.size
      | .slice e => (ty e).isSome && covT ty n e && !(sizeT ty e == 0)
      | _ => false

section
variable {P : Program} {ty : Tab} {W : World} {H : Type} {enc : TypeId × Value → H}

theorem goT_spec {cov : TypeId → Bool} : ∀ (fs : List Field) (o tot : Nat), goT ty cov fs o = some tot → tot = o + (fs.map fun f => sizeT ty f.type).sum ∧
    ∀ (i : Nat) (f : Field), fs[i]? = some f → (ty f.type).isSome = true ∧ cov f.type = true ∧ f.offset = o + ((fs.map fun f => sizeT ty f.type).take i).sum
  | [], o, tot, h => by
    simp only [goT, Option.some.injEq] at h
    subst h
    exact ⟨by simp, by simp⟩
  | f :: fs, o, tot, h => by
    simp only [goT] at h
    split at h
    · rename_i hc
      simp only [Bool.and_eq_true, beq_iff_eq] at hc
      obtain ⟨h1, h2⟩ := goT_spec fs _ _ h
      refine ⟨by rw [h1]; simp; omega, ?_⟩
      intro i g hg
      cases i with
      | zero => simp at hg; subst hg; exact ⟨hc.1.1, hc.2, by rw [hc.1.2]; simp⟩
      | succ i =>
        obtain ⟨a, b, c⟩ := h2 i g (by simpa using hg)
        exact ⟨a, b, by rw [c]; simp; omega⟩
    · cases h

/-- The block was there all along. -/
def OldB (W : World) : Nat → Prop := fun b => b < W.heap.size
def RVL (W : World) (ds : List V) (cs : List Value) : Prop := ds.length = cs.length ∧ ∀ (i : Nat) (v : V) (y : Value), ds[i]? = some v → cs[i]? = some y → RV [] (OldB W) W v y
theorem RVL.one {v : V} {y : Value} (h : RV [] (OldB W) W v y) : RVL W [v] [y] := by
  refine ⟨rfl, fun i u z h1 h2 => ?_⟩
  cases i with
  | zero => simp at h1 h2; subst h1; subst h2; exact h
  | succ i => simp at h1
theorem RVL.append {a b : List V} {c d : List Value} (h : RVL W a c) (k : RVL W b d) : RVL W (a ++ b) (c ++ d) := by
  refine ⟨by simp [h.1, k.1], fun i v y h1 h2 => ?_⟩
  rcases Nat.lt_or_ge i a.length with hi | hi
  · rw [List.getElem?_append_left hi] at h1
    rw [List.getElem?_append_left (by rw [← h.1]; exact hi)] at h2
    exact h.2 i v y h1 h2
  · rw [List.getElem?_append_right hi] at h1
    rw [List.getElem?_append_right (by rw [← h.1]; exact hi), ← h.1] at h2
    exact k.2 _ v y h1 h2

/-- Cells that are read part by part. -/
theorem parts : ∀ (sizes : List Nat) (cs : List Value) (p : Nat → List V → Prop), cs.length = sizes.sum → (∀ (i k : Nat), sizes[i]? = some k → ∃ r, RVL W r ((cs.drop (sizes.take i).sum).take k) ∧ p i r) →
    ∃ rows : List (List V), rows.length = sizes.length ∧ RVL W rows.flatten cs ∧ ∀ (i : Nat) (r : List V), rows[i]? = some r → p i r
  | [], cs, p, hl, _ => by
    have : cs = [] := List.eq_nil_of_length_eq_zero (by simpa using hl)
    subst this
    exact ⟨[], rfl, ⟨rfl, by simp⟩, by simp⟩
  | k :: ks, cs, p, hl, each => by
    simp only [List.sum_cons] at hl
    obtain ⟨r, hr, hp⟩ := each 0 k rfl
    simp only [List.take_zero, List.sum_nil, List.drop_zero] at hr
    obtain ⟨rows, h1, h2, h3⟩ := parts ks (cs.drop k) (fun i => p (i + 1)) (by rw [List.length_drop]; omega) (fun i k' hk => by
      obtain ⟨r', a, b⟩ := each (i + 1) k' (by simpa using hk)
      refine ⟨r', ?_, b⟩
      rw [List.take_succ_cons, List.sum_cons, ← List.drop_drop] at a
      exact a)
    refine ⟨r :: rows, by simp [h1], ?_, ?_⟩
    · rw [List.flatten_cons]
      have := hr.append h2
      rwa [List.take_append_drop] at this
    · intro i q hq
      cases i with
      | zero => simp at hq; subst hq; exact hp
      | succ i => exact h3 i q (by simpa using hq)

theorem cells_getN {w : World} {a : Addr} {n : Nat} {cs : List Value} (h : w.cells? 0 a n = some cs) : cs.length = n ∧ ∀ i, i < n → w.cell? (a.add i) = cs[i]? := by
  unfold World.cells? at h
  rw [if_pos (Nat.zero_le _)] at h
  refine ⟨by rw [mapM_some_length h]; simp, fun i hi => ?_⟩
  exact mapM_some_get h i i (by rw [List.getElem?_range hi])

theorem cellsOf_ty (T : TyOK P ty) {t : TypeId} (h : (ty t).isSome = true) : P.cellsOf t = sizeT ty t := by
  obtain ⟨i, hi⟩ := Option.isSome_iff_exists.1 h
  obtain ⟨_, ti, z, h1, h2, _⟩ := T t i hi
  unfold Program.cellsOf sizeT
  rw [h1, hi]; simp [h2]

theorem flatten_get {rows : List (List V)} {k : Nat} (h : ∀ r ∈ rows, r.length = k) : ∀ (i : Nat), rows.flatten.length = rows.length * k ∧ (i < rows.length * k → ∃ (r : List V), rows[i / k]? = some r ∧ rows.flatten[i]? = r[i % k]?) := by
  induction rows with
  | nil => intro i; simp
  | cons r rows ih =>
    intro i
    have hr := h r (by simp)
    have ih' := fun i => ih (fun q hq => h q (by simp [hq])) i
    refine ⟨by rw [List.flatten_cons, List.length_append, hr, (ih' 0).1, List.length_cons, Nat.succ_mul]; omega, fun hi => ?_⟩
    by_cases hk : k = 0
    · subst hk; simp at hi
    rcases Nat.lt_or_ge i k with hlt | hge
    · exact ⟨r, by rw [Nat.div_eq_of_lt hlt]; rfl, by rw [List.flatten_cons, List.getElem?_append_left (by omega), Nat.mod_eq_of_lt hlt]⟩
    · obtain ⟨j, rfl⟩ : ∃ j, i = j + k := ⟨i - k, by omega⟩
      rw [List.length_cons, Nat.succ_mul] at hi
      obtain ⟨q, q1, q2⟩ := (ih' j).2 (by omega)
      refine ⟨q, ?_, ?_⟩
      · rw [Nat.add_div_right _ (by omega)]; simpa using q1
      · rw [List.flatten_cons, List.getElem?_append_right (by omega), hr, Nat.add_sub_cancel, Nat.add_mod_right]; exact q2

/-- **What comes in, opened.** -/
theorem open_any (T : TyOK P ty) : ∀ (n : Nat) (t : TypeId), covT ty n t = true → ∀ (fuel : Nat) (cs : List Value) (x : DataW H × List MemPlace), DataW.trod enc P W 0 (fun _ => true) true fuel t cs = some x → ∃ ds, RVL W ds cs ∧ OkT ty n t ds
  | 0, t, hc, _, _, _, _ => by cases hc
  | n + 1, t, hc, fuel, cs, x, h => by
    unfold covT at hc
    split at hc
    · cases hc
    · rename_i i hi
      have hu := (T t i hi).1
      have hsz : P.cellsOf t = i.size := by rw [cellsOf_ty T (by rw [hi]; rfl)]; simp [sizeT, hi]
      unfold OkT
      simp only [hi, Option.map_some]
      split at hc
      · rename_i k hd
        rw [hd] at hu ⊢
        obtain ⟨z, rfl, _, hw⟩ := DataW.trod_int hu h
        exact ⟨_, .one (.int _ _), z, hw, rfl⟩
      · rename_i hd
        rw [hd] at hu ⊢
        obtain ⟨b, rfl, _⟩ := DataW.trod_bool hu h
        exact ⟨_, .one (.bool _), b, rfl⟩
      · rename_i hd
        rw [hd] at hu ⊢
        obtain ⟨s, rfl, _, hs⟩ := DataW.trod_string hu h
        exact ⟨_, .one (.str _), s, hs, rfl⟩
      · rename_i m e hd
        rw [hd] at hu ⊢
        simp only [Bool.and_eq_true, beq_iff_eq] at hc
        obtain ⟨⟨he, hce⟩, hm⟩ := hc
        obtain ⟨xs, fu, _, _, hl, hxl, hel⟩ := DataW.trod_array hu h
        rw [cellsOf_ty T he] at hel
        have hsum : (List.replicate m (sizeT ty e)).sum = m * sizeT ty e := by simp
        obtain ⟨rows, r1, r2, r3⟩ := parts (W := W) (List.replicate m (sizeT ty e)) cs (fun _ r => OkT ty n e r) (by rw [hl, hsz, hm, hsum]) (fun j k hk => by
          rw [List.getElem?_replicate] at hk
          split at hk
          · rename_i hjm
            simp only [Option.some.injEq] at hk
            subst hk
            have ht : (List.take j (List.replicate m (sizeT ty e))).sum = j * sizeT ty e := by
              rw [List.take_replicate, show min j m = j from by omega]; simp
            rw [ht]
            have h1 := hel j hjm
            obtain ⟨y, hy⟩ : ∃ y, xs[j]? = some y := ⟨xs[j], List.getElem?_eq_getElem (by omega)⟩
            rw [hy] at h1
            exact open_any T n e hce _ _ _ h1
          · cases hk)
        refine ⟨_, r2, rows, by simpa using r1, rfl, fun r hr => ?_⟩
        obtain ⟨j, hj⟩ := List.getElem?_of_mem hr
        exact r3 j r hj
      · rename_i fs hd
        rw [hd] at hu ⊢
        simp only [beq_iff_eq] at hc
        obtain ⟨g1, g2⟩ := goT_spec _ _ _ hc
        obtain ⟨xs, fu, _, _, hl, hxl, hel⟩ := DataW.trod_struct hu h
        obtain ⟨rows, r1, r2, r3⟩ := parts (W := W) (fs.toList.map fun f => sizeT ty f.type) cs (fun j r => ∀ f, fs[j]? = some f → OkT ty n f.type r) (by rw [hl, hsz, g1]; omega) (fun j k hk => by
          rw [List.getElem?_map] at hk
          cases hf : fs.toList[j]? with
          | none => simp [hf] at hk
          | some f =>
            simp [hf] at hk
            subst hk
            obtain ⟨q1, q2, q3⟩ := g2 j f hf
            have hfa : fs[j]? = some f := by rw [← Array.getElem?_toList]; exact hf
            have h1 := hel j f hfa
            obtain ⟨y, hy⟩ : ∃ y, xs[j]? = some y := ⟨xs[j]'(by rw [hxl]; exact (Array.getElem?_eq_some_iff.1 hfa).1), List.getElem?_eq_getElem _⟩
            rw [hy, cellsOf_ty T q1, q3, Nat.zero_add] at h1
            obtain ⟨r, a, b⟩ := open_any T n f.type q2 _ _ _ h1
            refine ⟨r, a, fun g hg => ?_⟩
            rw [hfa] at hg; cases hg; exact b)
        refine ⟨_, r2, rows, by simpa using r1, rfl, fun j f r hf hr => r3 j r hr f hf⟩
      · rename_i e hd
        rw [hd] at hu ⊢
        simp only [Bool.and_eq_true, Bool.not_eq_true', beq_eq_false_iff_ne] at hc
        obtain ⟨⟨he, hce⟩, hk0⟩ := hc
        have hsz1 : i.size = 1 ∨ True := .inr trivial
        rcases open_slice hu h with ⟨rfl, _⟩ | ⟨a, len, cap, m, fu, D, Pl, rfl, _, hl, hm, hmm, _, hel⟩
        · exact ⟨[.vec [] 0 false], .one (.vecn _ _), [], by simp, rfl, by simp⟩
        · simp only [if_true] at hmm
          subst hmm
          rw [cellsOf_ty T he] at hel
          obtain ⟨k, hke⟩ : ∃ k, sizeT ty e = k := ⟨_, rfl⟩
          rw [hke] at hel hk0
          have el : ∀ j, j < m → ∃ r : List V, OkT ty n e r ∧ r.length = k ∧ ∀ q, q < k → ∃ y, W.cell? (a.add (j * k + q)) = some y ∧ ∀ v, r[q]? = some v → RV [] (OldB W) W v y := by
            intro j hj
            obtain ⟨cs', h1, h2⟩ := hel j hj
            obtain ⟨hl4, hg⟩ := cells_getN h1
            obtain ⟨r, hr1, hr2⟩ := open_any T n e hce _ _ _ h2
            refine ⟨r, hr2, by rw [hr1.1, hl4], fun q hq => ?_⟩
            have hlt : q < cs'.length := by omega
            refine ⟨cs'[q], by rw [← add_add, hg q hq, List.getElem?_eq_getElem hlt], fun v hv => hr1.2 q v _ hv (List.getElem?_eq_getElem hlt)⟩
          by_cases hc0 : m = 0
          · subst hc0
            have : len = 0 := by omega
            subst this
            exact ⟨[.vec [] 0 false], .one (.vecn _ _), [], by simp, rfl, by simp⟩
          · obtain ⟨_, _, _, hk⟩ := el 0 (by omega)
            obtain ⟨y0, h00, _⟩ := hk 0 (by omega)
            obtain ⟨rb, off, spot⟩ := a
            have hspot : spot = none := by simpa [Addr.add] using World.cell?_spot h00
            subst hspot
            have hold : OldB W rb := by
              have := h00
              rw [addr_add] at this
              unfold World.cell? at this
              split at this
              · rename_i hq; exact (Array.getElem?_eq_some_iff.1 hq).1
              · cases this
            obtain ⟨f, hf⟩ := choose_lt (α := List V) el
            have hrl : ∀ r ∈ (List.range len).map f, r.length = k := by
              intro r hr
              obtain ⟨j, hj, rfl⟩ := List.mem_map.1 hr
              exact (hf j (by have := List.mem_range.1 hj; omega)).2.1
            have hll : ((List.range len).map f).length = len := by simp
            refine ⟨[.vec ((List.range len).map f).flatten len false], .one ?_, (List.range len).map f, by simp; omega, by rw [hll], fun r hr => ?_⟩
            · refine .vec (rb := rb) (off := off) (fun q => (W.cell? ⟨rb, off + q, none⟩).getD undef) hold (fun q hq => ?_) (fun q v hv => ?_) (by omega) (by simp)
              · have hlt : q < len * k := by rw [(flatten_get hrl 0).1, hll] at hq; exact hq
                have hqk : q / k < len := by rw [Nat.div_lt_iff_lt_mul (by omega)]; exact hlt
                obtain ⟨y, hy, _⟩ := (hf (q / k) (by omega)).2.2 (q % k) (Nat.mod_lt _ (by omega))
                rw [addr_add, Nat.div_add_mod'] at hy
                rw [hy]; rfl
              · have hq : q < ((List.range len).map f).flatten.length := (List.getElem?_eq_some_iff.1 hv).1
                have hlt : q < len * k := by rw [(flatten_get hrl 0).1, hll] at hq; exact hq
                have hqk : q / k < len := by rw [Nat.div_lt_iff_lt_mul (by omega)]; exact hlt
                obtain ⟨r, g1, g2⟩ := (flatten_get hrl q).2 (by rw [hll]; exact hlt)
                obtain ⟨y, hy, hrv⟩ := (hf (q / k) (by omega)).2.2 (q % k) (Nat.mod_lt _ (by omega))
                rw [addr_add, Nat.div_add_mod'] at hy
                simp only [hy, Option.getD_some]
                refine hrv v ?_
                rw [List.getElem?_map, List.getElem?_range hqk] at g1
                simp only [Option.map_some, Option.some.injEq] at g1
                rw [g1, ← g2]; exact hv
            · obtain ⟨j, hj, rfl⟩ := List.mem_map.1 hr
              exact (hf j (by have := List.mem_range.1 hj; omega)).1
      · cases hc
end
end Go.Abs
/- The abstract machine, part 20: what comes in, of a type, turned into records. -/
namespace Go.Abs
open Go Go.RowKit Go.Deep

/-- Rows that are all of one kind. -/
theorem rows_of {α : Type} {f : α → List V} {ok : α → Prop} : ∀ (rows : List (List V)), (∀ r ∈ rows, ∃ a, ok a ∧ r = f a) → ∃ l : List α, l.length = rows.length ∧ (∀ a ∈ l, ok a) ∧ rows.flatten = flat f l
  | [], _ => ⟨[], rfl, by simp, rfl⟩
  | r :: rows, h => by
    obtain ⟨a, ha, rfl⟩ := h r (by simp)
    obtain ⟨l, h1, h2, h3⟩ := rows_of rows fun q hq => h q (by simp [hq])
    refine ⟨a :: l, by simp [h1], ?_, by rw [List.flatten_cons, h3, flat]⟩
    intro b hb
    rcases List.mem_cons.1 hb with rfl | hb
    · exact ha
    · exact h2 b hb
section
variable {ty : Tab} {n : Nat} {t : TypeId} {ds : List V}
theorem okT_int {k : IntKind} (hd : ((ty t).map fun i => i.desc) = some (.int k)) (h : OkT ty n t ds) : ∃ z : Int, (Lit.int k z).wf = true ∧ ds = [.int k z] := by
  cases n with
  | zero => exact h.elim
  | succ n => unfold OkT at h; rw [hd] at h; exact h
theorem okT_i64 (hd : ((ty t).map fun i => i.desc) = some (.int .i64)) (h : OkT ty n t ds) : ∃ z : Int, (-9223372036854775808 ≤ z ∧ z < 9223372036854775808) ∧ ds = [.int .i64 z] := by
  obtain ⟨z, w, e⟩ := okT_int hd h
  have e1 : IntKind.i64.min = -9223372036854775808 := by decide
  have e2 : IntKind.i64.max = 9223372036854775807 := by decide
  simp only [Lit.wf, Bool.and_eq_true, decide_eq_true_eq, e1, e2] at w
  exact ⟨z, ⟨by omega, by omega⟩, e⟩
theorem okT_u64 (hd : ((ty t).map fun i => i.desc) = some (.int .u64)) (h : OkT ty n t ds) : ∃ z : Nat, z < 18446744073709551616 ∧ ds = [.int .u64 (z : Nat)] := by
  obtain ⟨z, w, e⟩ := okT_int hd h
  have e1 : IntKind.u64.min = 0 := rfl
  have e2 : IntKind.u64.max = 18446744073709551615 := rfl
  simp only [Lit.wf, Bool.and_eq_true, decide_eq_true_eq, e1, e2] at w
  obtain ⟨a, rfl⟩ := Int.eq_ofNat_of_zero_le w.1
  exact ⟨a, by omega, e⟩
theorem okT_bool (hd : ((ty t).map fun i => i.desc) = some .bool) (h : OkT ty n t ds) : ∃ b, ds = [.bool b] := by
  cases n with
  | zero => exact h.elim
  | succ n => unfold OkT at h; rw [hd] at h; exact h
theorem okT_str (hd : ((ty t).map fun i => i.desc) = some .string) (h : OkT ty n t ds) : ∃ s : ByteArray, s.size ≤ maxLen ∧ ds = [.str s] := by
  cases n with
  | zero => exact h.elim
  | succ n => unfold OkT at h; rw [hd] at h; exact h
theorem okT_array {α : Type} {f : α → List V} {ok : α → Prop} {m : Nat} {e : TypeId} (hd : ((ty t).map fun i => i.desc) = some (.array m e)) (he : ∀ n r, OkT ty n e r → ∃ a, ok a ∧ r = f a) (h : OkT ty n t ds) :
    ∃ l : List α, l.length = m ∧ (∀ a ∈ l, ok a) ∧ ds = flat f l := by
  cases n with
  | zero => exact h.elim
  | succ n =>
    unfold OkT at h; rw [hd] at h
    obtain ⟨rows, h1, rfl, h3⟩ := h
    obtain ⟨l, a, b, c⟩ := rows_of (f := f) (ok := ok) rows fun r hr => he n r (h3 r hr)
    exact ⟨l, by rw [a, h1], b, c⟩
theorem okT_slice {α : Type} {f : α → List V} {ok : α → Prop} {e : TypeId} (hd : ((ty t).map fun i => i.desc) = some (.slice e)) (he : ∀ n r, OkT ty n e r → ∃ a, ok a ∧ r = f a) (h : OkT ty n t ds) :
    ∃ l : List α, l.length ≤ maxLen ∧ (∀ a ∈ l, ok a) ∧ ds = [.vec (flat f l) l.length false] := by
  cases n with
  | zero => exact h.elim
  | succ n =>
    unfold OkT at h; rw [hd] at h
    obtain ⟨rows, h1, rfl, h3⟩ := h
    obtain ⟨l, a, b, c⟩ := rows_of (f := f) (ok := ok) rows fun r hr => he n r (h3 r hr)
    exact ⟨l, by rw [a]; exact h1, b, by rw [c, a]⟩
theorem okT_struct {fs : Array Field} (hd : ((ty t).map fun i => i.desc) = some (.struct fs)) (h : OkT ty n t ds) :
    ∃ (m : Nat) (rows : List (List V)), rows.length = fs.size ∧ ds = rows.flatten ∧ ∀ (i : Nat) (f : Field) (r : List V), fs[i]? = some f → rows[i]? = some r → OkT ty m f.type r := by
  cases n with
  | zero => exact h.elim
  | succ n =>
    unfold OkT at h; rw [hd] at h
    obtain ⟨rows, h1, h2, h3⟩ := h
    exact ⟨n, rows, h1, h2, h3⟩
end
end Go.Abs
/- The abstract machine, part 21: rounds by their code; ranges over functions that a round may leave. -/
namespace Go.Abs
open Go Go.RowKit

/-- One round, by its code. -/
theorem roundD_of {P : Program} {L : LoopB} {args : List V} {h h' : List HB} (h1 : L.ps.size = args.length) (h2 : noRange L.assign = true) (h3 : noRange L.body = true) (h4 : L.pend = none)
    (k : ∀ K : Exit → St → Prop, (∀ s, (∃ t', Wk h.length s ⟨t', h'⟩) → K .normal s) → AW P h.length L.assign (thenK (AW P h.length L.body K) fun _ _ => False) ⟨roundT L args, h⟩) : RoundD P L args h h' := by
  refine ⟨h1, h2, h3, h4, ?_⟩
  refine AW.mono (k (fun e s => e = .normal ∧ ∃ t', Wk h.length s ⟨t', h'⟩) fun s hs => ⟨rfl, hs⟩) ?_
  intro e s hq
  cases e <;> first | exact ⟨rfl, AW.mono hq fun e s ⟨e1, e2⟩ => by subst e1; exact ⟨rfl, e2⟩⟩ | exact hq.elim
/-- One round, by its code: however it is left. -/
theorem roundX_of {P : Program} {L : LoopB} {args : List V} {h h' : List HB} {c : Option Code} (h1 : L.ps.size = args.length) (h2 : noRange L.assign = true) (h3 : noRange L.body = true) (h4 : L.pend = none)
    (k : ∀ K : Exit → St → Prop, (∀ e s, Jumps c e → (∃ t', Wk h.length s ⟨t', h'⟩) → K e s) → AW P h.length L.assign (thenK (AW P h.length L.body K) fun _ _ => False) ⟨roundT L args, h⟩) : RoundD P L args h h' c := by
  refine ⟨h1, h2, h3, h4, ?_⟩
  refine AW.mono (k (fun e s => Jumps c e ∧ ∃ t', Wk h.length s ⟨t', h'⟩) fun e s hj hs => ⟨hj, hs⟩) ?_
  intro e s hq
  cases e <;> first | exact ⟨rfl, hq⟩ | exact hq.elim
theorem aw_rangeL {P : Program} {N : Nat} {Q : Exit → St → Prop} {s : St} {g : Operand} {ps : Array Tmp} {assign body : Code} {f : FuncId} {caps : List V} (hg : ev s.t g = .fn f caps) (he : Enters P f)
    (hc : ∀ LB : LoopB, LB = ⟨s.t, ps, assign, body, none⟩ → AC P f (.yld s.h.length :: caps) (s.h ++ [.loop LB]) fun _ h' => h'[s.h.length]? = some (.loop LB) ∧ Q .normal ⟨s.t, h'.set s.h.length .dead⟩) :
    AW P N (.rangeFunc g ps assign body) Q s := aw_range hg he (hc _ rfl)
/-- What is done behind a range that may have been left. -/
def AfterR (P : Program) (N : Nat) (Q : Exit → St → Prop) (s : St) : Option Code → Prop
  | none => Q .normal s
  | some c => AW P N c Q s
theorem aw_rangeXL {P : Program} {N : Nat} {Q : Exit → St → Prop} {s : St} {g : Operand} {ps : Array Tmp} {assign body : Code} {f : FuncId} {caps : List V} (hg : ev s.t g = .fn f caps) (he : Enters P f)
    (hc : ∀ LB : LoopB, LB = ⟨s.t, ps, assign, body, none⟩ → AC P f (.yld s.h.length :: caps) (s.h ++ [.loop LB]) fun _ h' => ∃ pd : Option Code, h'[s.h.length]? = some (.loop { LB with pend := pd }) ∧ AfterR P N Q ⟨s.t, h'.set s.h.length .dead⟩ pd) :
    AW P N (.rangeFunc g ps assign body) Q s := by
  refine aw_rangeX hg he fun ρ I w vs h1 h2 h3 => (hc _ rfl ρ I w vs h1 h2 h3).mono fun x w' ⟨v, h', ρ', I', ⟨pd, q1, q2⟩, q3⟩ => ⟨v, h', ρ', I', ⟨pd, q1, ?_⟩, q3⟩
  cases pd <;> exact q2
theorem wkh {N : Nat} {s : St} {h' : List HB} (σ : List Nat) (hN : σ.take N = List.range N) (hn : σ.Nodup) (hh : (renS σ s).h = h') : ∃ t', Wk N s ⟨t', h'⟩ := by
  subst hh; exact ⟨_, wk_ren σ hN hn⟩
end Go.Abs
/- The abstract machine, part 22: blocks that nobody writes any more are frozen: what names them becomes a value. -/
namespace Go.Abs
open Go Go.RowKit

/-- Is it one of these, and a row of cells? -/
def frzAt (h : List HB) (S : List Nat) (b : Nat) : Option (List V) := if S.contains b then match h[b]? with
  | some (.live cs) => some cs
  | _ => none
  else none
mutual
/-- What names these blocks becomes a value, so deep. -/
def frzV (h : List HB) (S : List Nat) : Nat → V → V
  | 0, v => v
  | d + 1, v => match v with
    | .ptr b o => match frzAt h S b with
      | some cs => .vptr (frzL h S d cs) o
      | none => .ptr b o
    | .slc b o z len cap => match frzAt h S b with
      | some cs => .vec (frzL h S d ((cs.drop o).take (len * z))) len false
      | none => .slc b o z len cap
    | .fn f caps => .fn f (frzL h S d caps)
    | .agg cs => .agg (frzL h S d cs)
    | .tup vs => .tup (frzL h S d vs)
    | v => v
def frzL (h : List HB) (S : List Nat) : Nat → List V → List V
  | _, [] => []
  | d, v :: vs => frzV h S d v :: frzL h S d vs
end
theorem frzL_map (h : List HB) (S : List Nat) (d : Nat) : ∀ l, frzL h S d l = l.map (frzV h S d)
  | [] => by simp [frzL]
  | v :: l => by simp [frzL, frzL_map h S d l]
theorem frzL_get (h : List HB) (S : List Nat) (d : Nat) (l : List V) (i : Nat) : (frzL h S d l)[i]? = (l[i]?).map (frzV h S d) := by rw [frzL_map, List.getElem?_map]
theorem frzL_length (h : List HB) (S : List Nat) (d : Nat) (l : List V) : (frzL h S d l).length = l.length := by rw [frzL_map, List.length_map]
theorem frzL_append (h : List HB) (S : List Nat) (d : Nat) (a b : List V) : frzL h S d (a ++ b) = frzL h S d a ++ frzL h S d b := by simp only [frzL_map, List.map_append]
theorem frzV_clean (h : List HB) (S : List Nat) : ∀ (d : Nat) {v : V}, Clean v → frzV h S d v = v
  | 0, v, _ => by simp [frzV]
  | d + 1, v, hc => by
    have lst : ∀ {cs : List V}, (∀ v ∈ cs, Clean v) → frzL h S d cs = cs := by
      intro cs hcs
      rw [frzL_map]
      conv => rhs; rw [← List.map_id cs]
      exact List.map_congr_left fun v hv => frzV_clean h S d (hcs v hv)
    cases hc <;> simp only [frzV] <;> (try rfl)
    · rename_i hcs; rw [lst hcs]
    · rename_i hcs; rw [lst hcs]
    · rename_i hcs; rw [lst hcs]
theorem frzL_clean (h : List HB) (S : List Nat) (d : Nat) {l : List V} (hc : Cleans l) : frzL h S d l = l := by
  rw [frzL_map]
  conv => rhs; rw [← List.map_id l]
  exact List.map_congr_left fun v hv => frzV_clean h S d (hc v hv)

/-- The blocks that become values. -/
def FrzI (ρ : Rho) (I : Nat → Prop) (h : List HB) (S : List Nat) : Nat → Prop := fun b => I b ∨ ∃ (i : Nat) (cs : List V) (base : Nat), frzAt h S i = some cs ∧ ρ[i]? = some (b, base)
theorem frzAt_live {h : List HB} {S : List Nat} {b : Nat} {cs : List V} (e : frzAt h S b = some cs) : h[b]? = some (.live cs) ∧ S.contains b = true := by
  unfold frzAt at e
  split at e
  · rename_i hs
    split at e
    · rename_i q; cases e; exact ⟨q, hs⟩
    · cases e
  · cases e
theorem FrzI.live {ρ : Rho} {I : Nat → Prop} {h : List HB} {S : List Nat} {b : Nat} (hb : FrzI ρ I h S b) : I b ∨ Live h ρ b := by
  rcases hb with hb | ⟨i, cs, base, e, hp⟩
  · exact .inl hb
  · exact .inr ⟨i, _, base, (frzAt_live e).1, trivial, hp⟩

theorem RV.frz {ρ : Rho} {I : Nat → Prop} {w : World} {h : List HB} (H : RH ρ I w h) (S : List Nat) : ∀ (d : Nat) {v : V} {x : Value}, RV ρ I w v x → RV ρ (FrzI ρ I h S) w (frzV h S d v) x := by
  have X : Ext ρ I w ρ (FrzI ρ I h S) w := ⟨fun _ _ h => h, fun _ h => .inl h, fun _ _ => rfl, fun _ c e fr h => ⟨c, e, fr, h, rfl⟩⟩
  intro d
  induction d with
  | zero => intro v x hv; simp only [frzV]; exact hv.ext X
  | succ d ih =>
    intro v x hv
    have lst : ∀ {cs : List V} {f : Nat → Value}, (∀ (i : Nat) (v : V), cs[i]? = some v → RV ρ I w v (f i)) → ∀ (i : Nat) (v : V), (frzL h S d cs)[i]? = some v → RV ρ (FrzI ρ I h S) w v (f i) := by
      intro cs f ih' i v hv
      rw [frzL_get] at hv
      cases hq : cs[i]? with
      | none => simp [hq] at hv
      | some u => simp [hq] at hv; subst hv; exact ih (ih' i u hq)
    have lst2 : ∀ {cs : List V} {vs : Array Value}, (∀ (i : Nat) (v : V) (x : Value), cs[i]? = some v → vs[i]? = some x → RV ρ I w v x) → ∀ (i : Nat) (v : V) (x : Value), (frzL h S d cs)[i]? = some v → vs[i]? = some x → RV ρ (FrzI ρ I h S) w v x := by
      intro cs vs ih' i v x hv hx
      rw [frzL_get] at hv
      cases hq : cs[i]? with
      | none => simp [hq] at hv
      | some u => simp [hq] at hv; subst hv; exact ih (ih' i u x hq hx)
    have blk : ∀ {b : Nat} {cs : List V} {rb base : Nat}, frzAt h S b = some cs → ρ[b]? = some (rb, base) → FrzI ρ I h S rb ∧ ∃ f : Nat → Value, (∀ i, i < cs.length → w.cell? ⟨rb, base + i, none⟩ = some (f i)) ∧ ∀ (i : Nat) (v : V), cs[i]? = some v → RV ρ I w v (f i) := by
      intro b cs rb base hb0 hp
      have hb := (frzAt_live hb0).1
      obtain ⟨rb', base', c, e, fr, g1, g2, g3, g4, g5, g6⟩ := H.row b cs hb
      rw [hp] at g1; cases g1
      refine ⟨.inr ⟨b, cs, base, hb0, hp⟩, fun i => (c[base + i]?).getD undef, fun i hi => ?_, fun i v hi => ?_⟩
      · have : base + i < c.size := by omega
        rw [cell_of g2]; simp [this]
      · obtain ⟨y, hy, hr⟩ := g4 i v hi
        show RV ρ I w v ((c[base + i]?).getD undef)
        rw [hy]; exact hr
    cases hv with
    | any x => simp only [frzV]; exact .any _
    | bool b => simp only [frzV]; exact .bool _
    | int k n => simp only [frzV]; exact .int _ _
    | str s => simp only [frzV]; exact .str _
    | nilp => simp only [frzV]; exact .nilp
    | nils => simp only [frzV]; exact .nils
    | vecn x => simp only [frzV]; exact .vecn _ _
    | nilf => simp only [frzV]; exact .nilf
    | yld hp => simp only [frzV]; exact .yld hp
    | ptr hp =>
      simp only [frzV]; split
      · rename_i cs hb
        obtain ⟨hl, f, f1, f2⟩ := blk hb hp
        exact .vptr f hl (fun i hi => f1 i (by rwa [frzL_length] at hi)) (lst f2)
      · exact .ptr hp
    | slc hp h1 h2 hb2 hs =>
      rename_i b o z len cap rb base rcap c e fr
      simp only [frzV]; split
      · rename_i cs hb
        obtain ⟨hl, f, f1, f2⟩ := blk hb hp
        refine .vec (fun i => f (o + i)) hl (fun i hi => ?_) (lst fun i v hv => ?_) (Nat.le_trans h1 h2) (by simp)
        · rw [frzL_length] at hi
          rw [Nat.add_assoc]
          refine f1 _ ?_
          simp only [List.length_take, List.length_drop] at hi; omega
        · refine f2 _ v ?_
          rw [List.getElem?_take] at hv
          split at hv
          · rw [List.getElem?_drop] at hv; exact hv
          · cases hv
      · exact .slc hp h1 h2 hb2 hs
    | vptr f hI hc hv => simp only [frzV]; exact (RV.vptr f hI hc hv).ext X
    | vec f hI hc hv h1 hx => simp only [frzV]; exact (RV.vec f hI hc hv h1 hx).ext X
    | fn hl hv => simp only [frzV]; exact .fn (by rw [frzL_length]; exact hl) (lst2 hv)
    | agg hl hv => simp only [frzV]; exact .agg (by rw [frzL_length]; exact hl) (lst2 hv)
    | tup hl hv => simp only [frzV]; exact .tup (by rw [frzL_length]; exact hl) (lst2 hv)

/-- The heap without them. -/
def frzB (h : List HB) (S : List Nat) (d : Nat) (i : Nat) : HB → HB
  | .live cs => if S.contains i then .dead else .live (frzL h S d cs)
  | x => x
def frzH (h : List HB) (S : List Nat) (d : Nat) : Nat → List HB → List HB
  | _, [] => []
  | i, x :: xs => frzB h S d i x :: frzH h S d (i + 1) xs
def frzS (S : List Nat) (d : Nat) (s : St) : St := ⟨frzL s.h S d s.t, frzH s.h S d 0 s.h⟩
theorem frzH_get (h : List HB) (S : List Nat) (d : Nat) : ∀ (l : List HB) (k i : Nat), (frzH h S d k l)[i]? = (l[i]?).map (frzB h S d (k + i))
  | [], k, i => by simp [frzH]
  | x :: l, k, 0 => by simp [frzH]
  | x :: l, k, i + 1 => by
    simp only [frzH, List.getElem?_cons_succ]
    rw [frzH_get h S d l (k + 1) i, show k + 1 + i = k + (i + 1) from by omega]
theorem frzH_length (h : List HB) (S : List Nat) (d : Nat) : ∀ (l : List HB) (k : Nat), (frzH h S d k l).length = l.length
  | [], k => rfl
  | x :: l, k => by simp [frzH, frzH_length h S d l (k + 1)]

/-- **What nobody writes any more is frozen.** -/
theorem wk_frz {N : Nat} (S : List Nat) (d : Nat) (s : St) : Wk N s (frzS S d s) := by
  intro ρ I w a R
  have H := R.heap
  have X : Ext ρ I w ρ (FrzI ρ I s.h S) w := ⟨fun _ _ h => h, fun _ h => .inl h, fun _ _ => rfl, fun _ c e fr h => ⟨c, e, fr, h, rfl⟩⟩
  have at_ : ∀ {i : Nat} {x : HB}, (frzH s.h S d 0 s.h)[i]? = some x → ∃ y, s.h[i]? = some y ∧ x = frzB s.h S d i y := by
    intro i x hx
    rw [frzH_get, Nat.zero_add] at hx
    cases hq : s.h[i]? with
    | none => rw [hq] at hx; cases hx
    | some y => rw [hq] at hx; cases hx; exact ⟨y, rfl, rfl⟩
  have on_ : ∀ {i : Nat} {x : HB}, (frzH s.h S d 0 s.h)[i]? = some x → x.on → ∃ y, s.h[i]? = some y ∧ y.on ∧ ∀ cs, frzAt s.h S i ≠ some cs := by
    intro i x hx ho
    obtain ⟨y, hy, e⟩ := at_ hx
    cases y with
    | dead => subst e; exact ho.elim
    | loop L => exact ⟨_, hy, trivial, fun cs hcs => by have := (frzAt_live hcs).1; rw [hy] at this; cases this⟩
    | live cs =>
      refine ⟨_, hy, trivial, fun cs' hcs => ?_⟩
      have := (frzAt_live hcs).2
      subst e
      simp only [frzB, this, if_true] at ho
      exact ho
  have lv : ∀ b, Live (frzH s.h S d 0 s.h) ρ b → Live s.h ρ b := by
    rintro b ⟨i, x, base, hi, ho, hp⟩
    obtain ⟨y, hy, hyo, _⟩ := on_ hi ho
    exact ⟨i, y, base, hy, hyo, hp⟩
  have nI : ∀ {b i : Nat} {y : HB} {base : Nat}, s.h[i]? = some y → y.on → (∀ cs, frzAt s.h S i ≠ some cs) → ρ[i]? = some (b, base) → ¬ FrzI ρ I s.h S b := by
    rintro b i y base hy hyo hne hp (hI | ⟨j, cs, base', e, hp'⟩)
    · exact (H.lt ⟨i, y, base, hy, hyo, hp⟩).2 hI
    · have := H.inj i j y _ b base base' hy hyo (frzAt_live e).1 trivial hp hp'
      subst this
      exact hne cs e
  refine ⟨ρ, FrzI ρ I s.h S, ⟨by show _ = (frzL s.h S d s.t).length; rw [frzL_length]; exact R.tlen, ?_, ?_, ?_⟩, ?_⟩
  · intro i v hv
    have hv' : (frzL s.h S d s.t)[i]? = some v := hv
    rw [frzL_get] at hv'
    cases hq : s.t[i]? with
    | none => rw [hq] at hv'; cases hv'
    | some u =>
      rw [hq] at hv'; cases hv'
      obtain ⟨y, hy, hr⟩ := R.tv i u hq
      exact ⟨y, hy, hr.frz H S d⟩
  · refine ⟨by show _ = (frzH s.h S d 0 s.h).length; rw [frzH_length]; exact H.len, ?_, ?_, ?_, ?_⟩
    · intro i cs hi
      obtain ⟨y, hy, e⟩ := at_ hi
      obtain ⟨y', hy', hyo, hne⟩ := on_ hi trivial
      cases y with
      | dead => cases e
      | loop L => cases e
      | live cs0 =>
        have hnS : S.contains i ≠ true := by
          intro hS; exact hne cs0 (by unfold frzAt; rw [if_pos hS, hy])
        simp only [frzB, if_neg hnS] at e
        cases e
        obtain ⟨rb, base, c, e, fr, g1, g2, g3, g4, g5, g6⟩ := H.row i cs0 hy
        refine ⟨rb, base, c, e, fr, g1, g2, by rw [frzL_length]; exact g3, fun j v hj => ?_, g5, nI hy trivial hne g1⟩
        rw [frzL_get] at hj
        cases hq : cs0[j]? with
        | none => rw [hq] at hj; cases hj
        | some u =>
          rw [hq] at hj; cases hj
          obtain ⟨y, hy, hr⟩ := g4 j u hq
          exact ⟨y, hy, hr.frz H S d⟩
    · intro i j x y rb b1 b2 hi o1 hj o2 p1 p2
      obtain ⟨x', hx', ho1, _⟩ := on_ hi o1
      obtain ⟨y', hy', ho2, _⟩ := on_ hj o2
      exact H.inj i j x' y' rb b1 b2 hx' ho1 hy' ho2 p1 p2
    · intro b hb
      rcases hb.live with hb | hb
      · exact H.imlt b hb
      · exact (H.lt hb).1
    · intro i L hi
      obtain ⟨y, hy, e⟩ := at_ hi
      cases y with
      | dead => cases e
      | live cs0 => simp only [frzB] at e; split at e <;> cases e
      | loop L0 =>
        cases e
        obtain ⟨l, base, rec, h1, A⟩ := H.lp i L hy
        exact ⟨l, base, rec, h1, A.ext X rfl (nI hy trivial (fun cs hcs => by have := (frzAt_live hcs).1; rw [hy] at this; cases this) h1)⟩
  · obtain ⟨Ds, e, hn, hD⟩ := R.marks
    refine ⟨Ds, e, hn, fun D hd => ?_⟩
    obtain ⟨d1, d2, d3, d4⟩ := hD D hd
    exact ⟨d1, fun h => d2 (lv _ h), fun h => h.live.elim d3 d2, d4⟩
  · exact ⟨rfl, rfl, rfl, Nat.le_refl _, fun _ _ _ h => h, fun _ h => .inl h, fun _ _ _ => rfl, fun _ c e fr h => ⟨c, e, fr, h, rfl⟩, fun _ _ h => h.live, fun b _ h => lv b h⟩
theorem aw_frz {P : Program} {N : Nat} {c : Code} {Q : Exit → St → Prop} {s : St} (S : List Nat) (d : Nat) (h : AW P N c Q (frzS S d s)) : AW P N c Q s := aw_wk (wk_frz S d s) h
end Go.Abs
/- The abstract machine, part 23: a call that takes some of the heap's blocks for good, and hands back new ones. -/
namespace Go.Abs
open Go Go.RowKit

theorem app_some {α : Type} {l r : List α} {i : Nat} {p : α} (h : l[i]? = some p) : (l ++ r)[i]? = some p := by
  rw [List.getElem?_append_left (List.getElem?_eq_some_iff.1 h).1]; exact h
mutual
/-- Other numbers of blocks: each so many higher. -/
def shV (n : Nat) : V → V
  | .ptr b o => .ptr (b + n) o
  | .slc b o z len cap => .slc (b + n) o z len cap
  | .yld b => .yld (b + n)
  | .vptr cs o => .vptr (shL n cs) o
  | .vec cs len x => .vec (shL n cs) len x
  | .fn f caps => .fn f (shL n caps)
  | .agg cs => .agg (shL n cs)
  | .tup vs => .tup (shL n vs)
  | v => v
def shL (n : Nat) : List V → List V
  | [] => []
  | v :: vs => shV n v :: shL n vs
end
theorem shL_map (n : Nat) : ∀ l, shL n l = l.map (shV n)
  | [] => by simp [shL]
  | v :: l => by simp [shL, shL_map n l]
theorem shL_length (n : Nat) (l : List V) : (shL n l).length = l.length := by rw [shL_map, List.length_map]
theorem shL_get (n : Nat) (l : List V) (i : Nat) : (shL n l)[i]? = (l[i]?).map (shV n) := by rw [shL_map, List.getElem?_map]
theorem RV.sh {ρ ρ' : Rho} {I : Nat → Prop} {w : World} {n : Nat} (hs : ∀ (i : Nat) (p : Nat × Nat), ρ[i]? = some p → ρ'[i + n]? = some p) {v : V} {x : Value} (h : RV ρ I w v x) : RV ρ' I w (shV n v) x := by
  have lst : ∀ {cs : List V} {f : Nat → Value}, (∀ (i : Nat) (v : V), cs[i]? = some v → RV ρ' I w (shV n v) (f i)) → ∀ (i : Nat) (v : V), (shL n cs)[i]? = some v → RV ρ' I w v (f i) := by
    intro cs f ih i v hv
    rw [shL_get] at hv
    cases hq : cs[i]? with
    | none => rw [hq] at hv; cases hv
    | some u => rw [hq] at hv; cases hv; exact ih i u hq
  have lst2 : ∀ {cs : List V} {vs : Array Value}, (∀ (i : Nat) (v : V) (x : Value), cs[i]? = some v → vs[i]? = some x → RV ρ' I w (shV n v) x) → ∀ (i : Nat) (v : V) (x : Value), (shL n cs)[i]? = some v → vs[i]? = some x → RV ρ' I w v x := by
    intro cs vs ih i v x hv hx
    rw [shL_get] at hv
    cases hq : cs[i]? with
    | none => rw [hq] at hv; cases hv
    | some u => rw [hq] at hv; cases hv; exact ih i u x hq hx
  induction h with
  | any x => simp only [shV]; exact .any _
  | bool b => simp only [shV]; exact .bool _
  | int k n => simp only [shV]; exact .int _ _
  | str s => simp only [shV]; exact .str _
  | nilp => simp only [shV]; exact .nilp
  | nils => simp only [shV]; exact .nils
  | nilf => simp only [shV]; exact .nilf
  | vecn x => simp only [shV, shL]; exact .vecn _ _
  | yld h => simp only [shV]; exact .yld (hs _ _ h)
  | ptr h => simp only [shV]; exact .ptr (hs _ _ h)
  | slc h h1 h2 hb hz => simp only [shV]; exact .slc (hs _ _ h) h1 h2 hb hz
  | vptr f hI hc _ ih => simp only [shV]; exact .vptr f hI (fun i hi => hc i (by rwa [shL_length] at hi)) (lst ih)
  | vec f hI hc _ h1 hx ih => simp only [shV]; exact .vec f hI (fun i hi => hc i (by rwa [shL_length] at hi)) (lst ih) h1 hx
  | fn hl _ ih => simp only [shV]; exact .fn (by rw [shL_length]; exact hl) (lst2 ih)
  | agg hl _ ih => simp only [shV]; exact .agg (by rw [shL_length]; exact hl) (lst2 ih)
  | tup hl _ ih => simp only [shV]; exact .tup (by rw [shL_length]; exact hl) (lst2 ih)
theorem shV_clean (n : Nat) {v : V} (h : Clean v) : shV n v = v := by
  have lst : ∀ {cs : List V}, (∀ v ∈ cs, shV n v = v) → shL n cs = cs := by
    intro cs hcs
    rw [shL_map]
    conv => rhs; rw [← List.map_id cs]
    exact List.map_congr_left hcs
  induction h with
  | any => simp [shV]
  | bool b => simp [shV]
  | int k n => simp [shV]
  | str s => simp [shV]
  | nilp => simp [shV]
  | nils => simp [shV]
  | nilf => simp [shV]
  | vptr cs o _ ih => simp only [shV]; rw [lst ih]
  | vec cs l x _ ih => simp only [shV]; rw [lst ih]
  | fn f caps _ ih => simp only [shV]; rw [lst ih]
  | agg cs _ ih => simp only [shV]; rw [lst ih]
  | tup cs _ ih => simp only [shV]; rw [lst ih]
theorem shL_clean (n : Nat) {l : List V} (h : Cleans l) : shL n l = l := by
  rw [shL_map]
  conv => rhs; rw [← List.map_id l]
  exact List.map_congr_left fun v hv => shV_clean n (h v hv)
def shB (n : Nat) : HB → HB
  | .live cs => .live (shL n cs)
  | x => x
def NoLoop : HB → Prop
  | .loop _ => False
  | _ => True

/-- **A call that takes some blocks for good and hands back new ones.** -/
theorem calld_fresh {P : Program} {f : FuncId} {args : List V} {H H1 hx : List HB} (σ : List Nat) {r0 : V} (hn : σ.Nodup) (d1 : H1.length = H.length) (d2 : ∀ i ∈ σ, ∀ x, H1[i]? = some x → x = .dead) (d3 : ∀ i, i ∉ σ → H1[i]? = H[i]?)
    (hl : ∀ x ∈ hx, NoLoop x)
    (h : AC P f (renL σ args) (renH σ H σ) fun v h' => ∃ τ : List Nat, τ.Nodup ∧ renV τ v = r0 ∧ renH τ h' τ = hx) : CallD P f args H (shV H.length r0) (H1 ++ hx.map (shB H.length)) := by
  intro ρ I w vs hlen hv R
  have rs := R.ren σ hn
  have rget : ∀ {j b : Nat} {p : Nat × Nat}, σ[j]? = some b → ρ[b]? = some p → (renRho σ ρ)[j]? = some p := by
    intro j b p hj hp; simp [renRho, hj, List.getD_eq_getElem?_getD, hp]
  have lv : ∀ {b : Nat}, Live (renH σ H σ) (renRho σ ρ) b → ∃ (j i : Nat) (ds : HB) (base : Nat), σ[j]? = some i ∧ H[i]? = some ds ∧ ds.on ∧ ρ[i]? = some (b, base) := by
    rintro b ⟨j, cs, base, h1, o, h2⟩
    obtain ⟨i, ds, q1, q2, o', _⟩ := ren_on h1 o
    obtain ⟨rb, base', q3⟩ := R.place q2
    have := rget q1 q3
    rw [h2] at this; cases this
    exact ⟨j, i, ds, _, q1, q2, o', q3⟩
  have lvH : ∀ {b : Nat}, Live (renH σ H σ) (renRho σ ρ) b → Live H ρ b := fun h => by
    obtain ⟨j, i, ds, base, _, q2, o, q3⟩ := lv h; exact ⟨i, ds, base, q2, o, q3⟩
  refine (h (renRho σ ρ) I w vs (by rw [renL_length]; exact hlen) (fun i v x h1 h2 => ?_) rs).mono ?_
  · rw [renL_get] at h1
    cases hq : args[i]? with
    | none => simp [hq] at h1
    | some u => simp [hq] at h1; subst h1; exact (hv i u x hq h2).ren σ
  rintro x w' ⟨v, h', ρ', I', ⟨τ, ht, rfl, rfl⟩, hrv, R', K⟩
  have X : Ext ρ I w ρ I' w' := ⟨fun _ _ h => h, K.im, fun b hb => K.same b (R.imlt b hb) (fun hl => (R.lt (lvH hl)).2 hb), K.sz⟩
  have Rx := R'.ren τ ht
  obtain ⟨ρx, hρx⟩ : ∃ ρx, renRho τ ρ' = ρx := ⟨_, rfl⟩
  obtain ⟨hX, hhX⟩ : ∃ hX, renH τ h' τ = hX := ⟨_, rfl⟩
  have lvx : ∀ {b : Nat}, Live hX ρx b → Live h' ρ' b := by
    rw [← hρx, ← hhX]
    rintro b ⟨j, cs, base, h1, o, h2⟩
    obtain ⟨i, ds, q1, q2, o', _⟩ := ren_on h1 o
    obtain ⟨rb, base', q3⟩ := R'.place q2
    have : (renRho τ ρ')[j]? = some (rb, base') := by simp [renRho, q1, List.getD_eq_getElem?_getD, q3]
    rw [h2] at this; cases this
    exact ⟨i, ds, _, q2, o', q3⟩
  have hrx := hrv.ren τ
  rw [hρx, hhX] at Rx
  rw [hρx] at hrx
  rw [hhX] at hl ⊢
  have sl : ρ.length = H1.length := by rw [R.len, d1]
  have sh : ∀ (i : Nat) (p : Nat × Nat), ρx[i]? = some p → (ρ ++ ρx)[i + H.length]? = some p := by
    intro i p hi
    rw [List.getElem?_append_right (by rw [R.len]; omega), R.len, Nat.add_sub_cancel]; exact hi
  have X2 : Ext ρ I' w' (ρ ++ ρx) I' w' := ⟨fun i p hp => app_some hp, fun _ h => h, fun _ _ => rfl, fun _ c e fr h => ⟨c, e, fr, h, rfl⟩⟩
  -- where a block of the new heap comes from
  have cell : ∀ {i : Nat} {y : HB}, (H1 ++ hX.map (shB H.length))[i]? = some y → y.on → (i ∉ σ ∧ H[i]? = some y ∧ i < H.length ∧ (ρ ++ ρx)[i]? = ρ[i]?) ∨ (∃ (k : Nat) (z : HB), i = k + H.length ∧ hX[k]? = some z ∧ y = shB H.length z ∧ (ρ ++ ρx)[i]? = ρx[k]?) := by
    intro i y hi ho
    rcases Nat.lt_or_ge i H.length with hlt | hge
    · rw [List.getElem?_append_left (by rw [d1]; exact hlt)] at hi
      by_cases hm : i ∈ σ
      · have := d2 i hm y hi; subst this; exact ho.elim
      · exact .inl ⟨hm, by rw [← d3 i hm]; exact hi, hlt, List.getElem?_append_left (by rw [R.len]; exact hlt)⟩
    · rw [List.getElem?_append_right (by rw [d1]; exact hge), d1, List.getElem?_map] at hi
      cases hq : hX[i - H.length]? with
      | none => rw [hq] at hi; cases hi
      | some z =>
        rw [hq] at hi; cases hi
        refine .inr ⟨i - H.length, z, by omega, hq, rfl, ?_⟩
        rw [List.getElem?_append_right (by rw [R.len]; exact hge), R.len]
  have onz : ∀ {z : HB}, (shB H.length z).on → z.on := by intro z; cases z <;> exact id
  have nlive : ∀ {i : Nat} {y : HB} {rb base : Nat}, i ∉ σ → H[i]? = some y → y.on → ρ[i]? = some (rb, base) → rb < w.heap.size ∧ ¬ Live (renH σ H σ) (renRho σ ρ) rb := by
    intro i y rb base hm hi ho hp
    refine ⟨(R.lt ⟨i, y, base, hi, ho, hp⟩).1, fun hl => ?_⟩
    obtain ⟨j', i', ds', base', q1, q2, q3o, q3⟩ := lv hl
    have := R.inj i i' y ds' rb base base' hi ho q2 q3o hp q3
    exact hm (this ▸ List.mem_of_getElem? q1)
  have apart : ∀ {i k : Nat} {y z : HB} {rb b1 b2 : Nat}, i ∉ σ → H[i]? = some y → y.on → ρ[i]? = some (rb, b1) → hX[k]? = some z → z.on → ρx[k]? = some (rb, b2) → False := by
    intro i k y z rb b1 b2 hm hi ho hp hk hzo hq
    obtain ⟨g1, g2⟩ := nlive hm hi ho hp
    exact g2 (K.live' rb g1 (lvx ⟨k, z, b2, hk, hzo, hq⟩))
  refine ⟨_, H1 ++ hX.map (shB H.length), ρ ++ ρx, I', ⟨rfl, rfl⟩, hrx.sh sh, ⟨?_, ?_, ?_, R'.imlt, ?_⟩, ?_⟩
  · rw [List.length_append, List.length_append, List.length_map, sl, Rx.len]
  · intro i cs hi
    rcases cell hi trivial with ⟨hm, hc, hlt, hp⟩ | ⟨k, z, rfl, hz, e, hp⟩
    · obtain ⟨rb, base, c, e, fr, k1, k2, k3, k4, k5, k6⟩ := R.row i cs hc
      obtain ⟨g1, g2⟩ := nlive hm hc trivial k1
      refine ⟨rb, base, c, e, fr, hp.trans k1, (K.same rb g1 g2).trans k2, k3, fun q u hu => ?_, k5, fun hI => (K.im' rb g1 hI).elim k6 g2⟩
      obtain ⟨y, hy, hr'⟩ := k4 q u hu; exact ⟨y, hy, (hr'.ext X).ext X2⟩
    · cases z with
      | dead => cases e
      | loop L => cases e
      | live ds =>
        cases e
        obtain ⟨rb, base, c, e, fr, k1, k2, k3, k4, k5, k6⟩ := Rx.row k ds hz
        refine ⟨rb, base, c, e, fr, hp.trans k1, k2, by rw [shL_length]; exact k3, fun q u hu => ?_, k5, k6⟩
        rw [shL_get] at hu
        cases hq : ds[q]? with
        | none => rw [hq] at hu; cases hu
        | some u' =>
          rw [hq] at hu; cases hu
          obtain ⟨y, hy, hr'⟩ := k4 q u' hq
          exact ⟨y, hy, hr'.sh sh⟩
  · intro i1 i2 y1 y2 rb b1 b2 h1 o1 h2 o2 p1 p2
    rcases cell h1 o1 with ⟨hm1, hc1, _, hp1⟩ | ⟨k1, z1, rfl, hz1, e1, hp1⟩
    · rcases cell h2 o2 with ⟨hm2, hc2, _, hp2⟩ | ⟨k2, z2, rfl, hz2, e2, hp2⟩
      · exact R.inj i1 i2 y1 y2 rb b1 b2 hc1 o1 hc2 o2 (hp1.symm.trans p1) (hp2.symm.trans p2)
      · exact (apart hm1 hc1 o1 (hp1.symm.trans p1) hz2 (onz (e2 ▸ o2)) (hp2.symm.trans p2)).elim
    · rcases cell h2 o2 with ⟨hm2, hc2, _, hp2⟩ | ⟨k2, z2, rfl, hz2, e2, hp2⟩
      · exact (apart hm2 hc2 o2 (hp2.symm.trans p2) hz1 (onz (e1 ▸ o1)) (hp1.symm.trans p1)).elim
      · rw [Rx.inj k1 k2 z1 z2 rb b1 b2 hz1 (onz (e1 ▸ o1)) hz2 (onz (e2 ▸ o2)) (hp1.symm.trans p1) (hp2.symm.trans p2)]
  · intro i L hi
    rcases cell hi trivial with ⟨hm, hc, hlt, hp⟩ | ⟨k, z, rfl, hz, e, hp⟩
    · obtain ⟨l, base, rec, k1, A⟩ := R.lp i L hc
      obtain ⟨g1, g2⟩ := nlive hm hc trivial k1
      have A1 := A.ext X (K.same l g1 g2) (fun hI => (K.im' l g1 hI).elim A.im g2)
      exact ⟨l, base, rec, hp.trans k1, A1.ext X2 rfl A1.im⟩
    · cases z with
      | dead => cases e
      | live ds => cases e
      | loop L => exact (hl _ (List.mem_of_getElem? hz)).elim
  · refine ⟨K.os, K.tape, K.output, K.size, fun i p hp => app_some hp, K.im, fun b hb hl => K.same b hb (fun h => hl (lvH h)), K.sz, fun b hb hI => (K.im' b hb hI).imp id lvH, ?_⟩
    rintro b hb ⟨i, y, base, hi, ho, hp⟩
    rcases cell hi ho with ⟨hm, hc, hlt, hpe⟩ | ⟨k, z, rfl, hz, e, hpe⟩
    · exact ⟨i, y, base, hc, ho, hpe.symm.trans hp⟩
    · exact lvH (K.live' b hb (lvx ⟨k, z, base, hz, onz (e ▸ ho), hpe.symm.trans hp⟩))
/-- What comes out is said in other words. -/
theorem ac_wk {P : Program} {f : FuncId} {args : List V} {H : List HB} {R R' : V → List HB → Prop} (h : AC P f args H R) (k : ∀ v h', R v h' → ∃ v2 h2, R' v2 h2 ∧ Wk H.length ⟨[v], h'⟩ ⟨[v2], h2⟩) : AC P f args H R' := by
  intro ρ I w vs hl hv RH
  refine (h ρ I w vs hl hv RH).mono ?_
  rintro x w' ⟨v, h', ρ', I', hR, hrv, H', K⟩
  obtain ⟨v2, h2, hR', hw⟩ := k v h' hR
  obtain ⟨ρ2, I2, S2, K2⟩ := hw ρ' I' w' { tmps := #[x], defers := [] } ⟨rfl, fun i u hu => by
    cases i with
    | zero => simp at hu; subst hu; exact ⟨x, rfl, hrv⟩
    | succ i => simp at hu, H', ⟨[], rfl, List.nodup_nil, by simp⟩⟩
  obtain ⟨y, hy, hr⟩ := S2.tv 0 v2 rfl
  simp at hy; subst hy
  exact ⟨v2, h2, ρ2, I2, hR', hr, S2.heap, ((K.toN _).trans K2).full (by rw [RH.len]; exact Nat.le_refl _)⟩
/-- **A call that writes into one block.** -/
theorem calld_inplace {P : Program} {f : FuncId} {args args0 : List V} {H : List HB} {b : Nat} {c c' : List V} {r : V} (hb : H[b]? = some (.live c)) (hc : Cleans c) (hc' : Cleans c') (hr : Clean r) (ha : renL [b] args = args0)
    (h : AC P f args0 [.live c] fun v h' => v = r ∧ h'[0]? = some (.live c')) : CallD P f args H r (H.set b (.live c')) := by
  have hlt := (List.getElem?_eq_some_iff.1 hb).1
  refine calld_frame [b] (h1 := [.live c']) (by simp) rfl (by intro x hx; rw [List.mem_singleton.1 hx]; exact hc') hr ?_ ?_ (by rw [List.length_set]) ?_
  · intro j k hj
    cases j with
    | zero => simp at hj; subst hj; rw [List.getElem?_set_self hlt]; rfl
    | succ j => simp at hj
  · intro i hi
    rw [List.getElem?_set_ne (fun e => hi (by rw [e]; simp))]
  · rw [ha, show renH [b] H [b] = [.live c] from by simp only [renH, hbAt, hb, renB]; rw [renL_clean _ hc]]
    refine ac_wk h ?_
    rintro v h' ⟨rfl, h0⟩
    obtain ⟨h2, rfl⟩ : ∃ h2, h' = .live c' :: h2 := by
      cases h' with
      | nil => simp at h0
      | cons x h2 => simp at h0; subst h0; exact ⟨h2, rfl⟩
    refine ⟨v, [.live c'], ⟨rfl, rfl⟩, ?_⟩
    exact wk_take (n := 1) (t := [v]) (h := .live c' :: h2) (Nat.le_refl 1) (by intro u hu; rw [List.mem_singleton.1 hu]; exact hr.bel) (by
      intro x hx
      simp at hx; subst hx
      exact fun u hu => (hc' u hu).bel)
end Go.Abs
