/- The abstract machine, part 19: what comes in, of any type of numbers, strings, arrays, structs and slices, opened. -/
import Derived.Test.YtpaehjjkfjgfiaaA14
import Derived.ProofKit
import Derived.Deep.Slices
import Derived.OpenShut
set_option linter.unusedVariables false
set_option linter.unusedSimpArgs false
namespace Go.Abs
open Go Go.RowKit Go.Deep

/-- What the cells of a value of a type are. -/
def OkT (ty : Tab) : Nat → TypeId → List V → Prop
  | 0, _, _ => False
  | n + 1, t, ds => match ((ty t).map fun i => i.desc : Option TypeDesc) with
    | some (.int k) => ∃ z : Int, (Lit.int k z).wf = true ∧ ds = [.int k z]
    | some .bool => ∃ b, ds = [.bool b]
    | some .string => ∃ s : ByteArray, s.size ≤ maxLen ∧ ds = [.str s]
    | some (.array m e) => ∃ rows : List (List V), rows.length = m ∧ ds = rows.flatten ∧ ∀ r ∈ rows, OkT ty n e r
    | some (.struct fs) => ∃ rows : List (List V), rows.length = fs.size ∧ ds = rows.flatten ∧ ∀ (i : Nat) (f : Field) (r : List V), fs[i]? = some f → rows[i]? = some r → OkT ty n f.type r
    | some (.slice e) => ∃ rows : List (List V), rows.length ≤ maxLen ∧ ds = [.vec rows.flatten rows.length false] ∧ ∀ r ∈ rows, OkT ty n e r
    | _ => False
def sizeT (ty : Tab) (t : TypeId) : Nat := ((ty t).map (·.size)).getD 0
def goT (ty : Tab) (cov : TypeId → Bool) : List Field → Nat → Option Nat
  | [], o => some o
  | f :: fs, o => if (ty f.type).isSome && (f.offset == o) && cov f.type then goT ty cov fs (o + sizeT ty f.type) else none
/-- Is it of such a type? -/
def covT (ty : Tab) : Nat → TypeId → Bool
  | 0, _ => false
  | n + 1, t => match ty t with
    | none => false
    | some i => match i.desc with
      | .int _ | .bool | .string => true
      | .array m e => (ty e).isSome && covT ty n e && (i.size == m * sizeT ty e)
      | .struct fs => goT ty (covT ty n) fs.toList 0 == some i.size
      | .slice e => (ty e).isSome && covT ty n e && !(sizeT ty e == 0)
      | _ => false

section
variable {P : Program} {ty : Tab} {W : World} {H : Type} {enc : TypeId × Value → H}

theorem goT_spec {cov : TypeId → Bool} : ∀ (fs : List Field) (o tot : Nat), goT ty cov fs o = some tot → tot = o + (fs.map fun f => sizeT ty f.type).sum ∧
    ∀ (i : Nat) (f : Field), fs[i]? = some f → (ty f.type).isSome = true ∧ cov f.type = true ∧ f.offset = o + ((fs.map fun f => sizeT ty f.type).take i).sum
  | [], o, tot, h => by
    simp only [goT, Option.some.injEq] at h
    subst h
    exact ⟨by simp, by simp⟩
  | f :: fs, o, tot, h => by
    simp only [goT] at h
    split at h
    · rename_i hc
      simp only [Bool.and_eq_true, beq_iff_eq] at hc
      obtain ⟨h1, h2⟩ := goT_spec fs _ _ h
      refine ⟨by rw [h1]; simp; omega, ?_⟩
      intro i g hg
      cases i with
      | zero => simp at hg; subst hg; exact ⟨hc.1.1, hc.2, by rw [hc.1.2]; simp⟩
      | succ i =>
        obtain ⟨a, b, c⟩ := h2 i g (by simpa using hg)
        exact ⟨a, b, by rw [c]; simp; omega⟩
    · cases h

/-- The block was there all along. -/
def OldB (W : World) : Nat → Prop := fun b => b < W.heap.size
def RVL (W : World) (ds : List V) (cs : List Value) : Prop := ds.length = cs.length ∧ ∀ (i : Nat) (v : V) (y : Value), ds[i]? = some v → cs[i]? = some y → RV [] (OldB W) W v y
theorem RVL.one {v : V} {y : Value} (h : RV [] (OldB W) W v y) : RVL W [v] [y] := by
  refine ⟨rfl, fun i u z h1 h2 => ?_⟩
  cases i with
  | zero => simp at h1 h2; subst h1; subst h2; exact h
  | succ i => simp at h1
theorem RVL.append {a b : List V} {c d : List Value} (h : RVL W a c) (k : RVL W b d) : RVL W (a ++ b) (c ++ d) := by
  refine ⟨by simp [h.1, k.1], fun i v y h1 h2 => ?_⟩
  rcases Nat.lt_or_ge i a.length with hi | hi
  · rw [List.getElem?_append_left hi] at h1
    rw [List.getElem?_append_left (by rw [← h.1]; exact hi)] at h2
    exact h.2 i v y h1 h2
  · rw [List.getElem?_append_right hi] at h1
    rw [List.getElem?_append_right (by rw [← h.1]; exact hi), ← h.1] at h2
    exact k.2 _ v y h1 h2

/-- Cells that are read part by part. -/
theorem parts : ∀ (sizes : List Nat) (cs : List Value) (p : Nat → List V → Prop), cs.length = sizes.sum → (∀ (i k : Nat), sizes[i]? = some k → ∃ r, RVL W r ((cs.drop (sizes.take i).sum).take k) ∧ p i r) →
    ∃ rows : List (List V), rows.length = sizes.length ∧ RVL W rows.flatten cs ∧ ∀ (i : Nat) (r : List V), rows[i]? = some r → p i r
  | [], cs, p, hl, _ => by
    have : cs = [] := List.eq_nil_of_length_eq_zero (by simpa using hl)
    subst this
    exact ⟨[], rfl, ⟨rfl, by simp⟩, by simp⟩
  | k :: ks, cs, p, hl, each => by
    simp only [List.sum_cons] at hl
    obtain ⟨r, hr, hp⟩ := each 0 k rfl
    simp only [List.take_zero, List.sum_nil, List.drop_zero] at hr
    obtain ⟨rows, h1, h2, h3⟩ := parts ks (cs.drop k) (fun i => p (i + 1)) (by rw [List.length_drop]; omega) (fun i k' hk => by
      obtain ⟨r', a, b⟩ := each (i + 1) k' (by simpa using hk)
      refine ⟨r', ?_, b⟩
      rw [List.take_succ_cons, List.sum_cons, ← List.drop_drop] at a
      exact a)
    refine ⟨r :: rows, by simp [h1], ?_, ?_⟩
    · rw [List.flatten_cons]
      have := hr.append h2
      rwa [List.take_append_drop] at this
    · intro i q hq
      cases i with
      | zero => simp at hq; subst hq; exact hp
      | succ i => exact h3 i q (by simpa using hq)

theorem cells_getN {w : World} {a : Addr} {n : Nat} {cs : List Value} (h : w.cells? 0 a n = some cs) : cs.length = n ∧ ∀ i, i < n → w.cell? (a.add i) = cs[i]? := by
  unfold World.cells? at h
  rw [if_pos (Nat.zero_le _)] at h
  refine ⟨by rw [mapM_some_length h]; simp, fun i hi => ?_⟩
  exact mapM_some_get h i i (by rw [List.getElem?_range hi])

theorem cellsOf_ty (T : TyOK P ty) {t : TypeId} (h : (ty t).isSome = true) : P.cellsOf t = sizeT ty t := by
  obtain ⟨i, hi⟩ := Option.isSome_iff_exists.1 h
  obtain ⟨_, ti, z, h1, h2, _⟩ := T t i hi
  unfold Program.cellsOf sizeT
  rw [h1, hi]; simp [h2]

theorem flatten_get {rows : List (List V)} {k : Nat} (h : ∀ r ∈ rows, r.length = k) : ∀ (i : Nat), rows.flatten.length = rows.length * k ∧ (i < rows.length * k → ∃ (r : List V), rows[i / k]? = some r ∧ rows.flatten[i]? = r[i % k]?) := by
  induction rows with
  | nil => intro i; simp
  | cons r rows ih =>
    intro i
    have hr := h r (by simp)
    have ih' := fun i => ih (fun q hq => h q (by simp [hq])) i
    refine ⟨by rw [List.flatten_cons, List.length_append, hr, (ih' 0).1, List.length_cons, Nat.succ_mul]; omega, fun hi => ?_⟩
    by_cases hk : k = 0
    · subst hk; simp at hi
    rcases Nat.lt_or_ge i k with hlt | hge
    · exact ⟨r, by rw [Nat.div_eq_of_lt hlt]; rfl, by rw [List.flatten_cons, List.getElem?_append_left (by omega), Nat.mod_eq_of_lt hlt]⟩
    · obtain ⟨j, rfl⟩ : ∃ j, i = j + k := ⟨i - k, by omega⟩
      rw [List.length_cons, Nat.succ_mul] at hi
      obtain ⟨q, q1, q2⟩ := (ih' j).2 (by omega)
      refine ⟨q, ?_, ?_⟩
      · rw [Nat.add_div_right _ (by omega)]; simpa using q1
      · rw [List.flatten_cons, List.getElem?_append_right (by omega), hr, Nat.add_sub_cancel, Nat.add_mod_right]; exact q2

/-- **What comes in, opened.** -/
theorem open_any (T : TyOK P ty) : ∀ (n : Nat) (t : TypeId), covT ty n t = true → ∀ (fuel : Nat) (cs : List Value) (x : DataW H × List MemPlace), DataW.trod enc P W 0 (fun _ => true) true fuel t cs = some x → ∃ ds, RVL W ds cs ∧ OkT ty n t ds
  | 0, t, hc, _, _, _, _ => by cases hc
  | n + 1, t, hc, fuel, cs, x, h => by
    unfold covT at hc
    split at hc
    · cases hc
    · rename_i i hi
      have hu := (T t i hi).1
      have hsz : P.cellsOf t = i.size := by rw [cellsOf_ty T (by rw [hi]; rfl)]; simp [sizeT, hi]
      unfold OkT
      simp only [hi, Option.map_some]
      split at hc
      · rename_i k hd
        rw [hd] at hu ⊢
        obtain ⟨z, rfl, _, hw⟩ := DataW.trod_int hu h
        exact ⟨_, .one (.int _ _), z, hw, rfl⟩
      · rename_i hd
        rw [hd] at hu ⊢
        obtain ⟨b, rfl, _⟩ := DataW.trod_bool hu h
        exact ⟨_, .one (.bool _), b, rfl⟩
      · rename_i hd
        rw [hd] at hu ⊢
        obtain ⟨s, rfl, _, hs⟩ := DataW.trod_string hu h
        exact ⟨_, .one (.str _), s, hs, rfl⟩
      · rename_i m e hd
        rw [hd] at hu ⊢
        simp only [Bool.and_eq_true, beq_iff_eq] at hc
        obtain ⟨⟨he, hce⟩, hm⟩ := hc
        obtain ⟨xs, fu, _, _, hl, hxl, hel⟩ := DataW.trod_array hu h
        rw [cellsOf_ty T he] at hel
        have hsum : (List.replicate m (sizeT ty e)).sum = m * sizeT ty e := by simp
        obtain ⟨rows, r1, r2, r3⟩ := parts (W := W) (List.replicate m (sizeT ty e)) cs (fun _ r => OkT ty n e r) (by rw [hl, hsz, hm, hsum]) (fun j k hk => by
          rw [List.getElem?_replicate] at hk
          split at hk
          · rename_i hjm
            simp only [Option.some.injEq] at hk
            subst hk
            have ht : (List.take j (List.replicate m (sizeT ty e))).sum = j * sizeT ty e := by
              rw [List.take_replicate, show min j m = j from by omega]; simp
            rw [ht]
            have h1 := hel j hjm
            obtain ⟨y, hy⟩ : ∃ y, xs[j]? = some y := ⟨xs[j], List.getElem?_eq_getElem (by omega)⟩
            rw [hy] at h1
            exact open_any T n e hce _ _ _ h1
          · cases hk)
        refine ⟨_, r2, rows, by simpa using r1, rfl, fun r hr => ?_⟩
        obtain ⟨j, hj⟩ := List.getElem?_of_mem hr
        exact r3 j r hj
      · rename_i fs hd
        rw [hd] at hu ⊢
        simp only [beq_iff_eq] at hc
        obtain ⟨g1, g2⟩ := goT_spec _ _ _ hc
        obtain ⟨xs, fu, _, _, hl, hxl, hel⟩ := DataW.trod_struct hu h
        obtain ⟨rows, r1, r2, r3⟩ := parts (W := W) (fs.toList.map fun f => sizeT ty f.type) cs (fun j r => ∀ f, fs[j]? = some f → OkT ty n f.type r) (by rw [hl, hsz, g1]; omega) (fun j k hk => by
          rw [List.getElem?_map] at hk
          cases hf : fs.toList[j]? with
          | none => simp [hf] at hk
          | some f =>
            simp [hf] at hk
            subst hk
            obtain ⟨q1, q2, q3⟩ := g2 j f hf
            have hfa : fs[j]? = some f := by rw [← Array.getElem?_toList]; exact hf
            have h1 := hel j f hfa
            obtain ⟨y, hy⟩ : ∃ y, xs[j]? = some y := ⟨xs[j]'(by rw [hxl]; exact (Array.getElem?_eq_some_iff.1 hfa).1), List.getElem?_eq_getElem _⟩
            rw [hy, cellsOf_ty T q1, q3, Nat.zero_add] at h1
            obtain ⟨r, a, b⟩ := open_any T n f.type q2 _ _ _ h1
            refine ⟨r, a, fun g hg => ?_⟩
            rw [hfa] at hg; cases hg; exact b)
        refine ⟨_, r2, rows, by simpa using r1, rfl, fun j f r hf hr => r3 j r hr f hf⟩
      · rename_i e hd
        rw [hd] at hu ⊢
        simp only [Bool.and_eq_true, Bool.not_eq_true', beq_eq_false_iff_ne] at hc
        obtain ⟨⟨he, hce⟩, hk0⟩ := hc
        have hsz1 : i.size = 1 ∨ True := .inr trivial
        rcases open_slice hu h with ⟨rfl, _⟩ | ⟨a, len, cap, m, fu, D, Pl, rfl, _, hl, hm, hmm, _, hel⟩
        · exact ⟨[.vec [] 0 false], .one (.vecn _ _), [], by simp, rfl, by simp⟩
        · simp only [if_true] at hmm
          subst hmm
          rw [cellsOf_ty T he] at hel
          obtain ⟨k, hke⟩ : ∃ k, sizeT ty e = k := ⟨_, rfl⟩
          rw [hke] at hel hk0
          have el : ∀ j, j < m → ∃ r : List V, OkT ty n e r ∧ r.length = k ∧ ∀ q, q < k → ∃ y, W.cell? (a.add (j * k + q)) = some y ∧ ∀ v, r[q]? = some v → RV [] (OldB W) W v y := by
            intro j hj
            obtain ⟨cs', h1, h2⟩ := hel j hj
            obtain ⟨hl4, hg⟩ := cells_getN h1
            obtain ⟨r, hr1, hr2⟩ := open_any T n e hce _ _ _ h2
            refine ⟨r, hr2, by rw [hr1.1, hl4], fun q hq => ?_⟩
            have hlt : q < cs'.length := by omega
            refine ⟨cs'[q], by rw [← add_add, hg q hq, List.getElem?_eq_getElem hlt], fun v hv => hr1.2 q v _ hv (List.getElem?_eq_getElem hlt)⟩
          by_cases hc0 : m = 0
          · subst hc0
            have : len = 0 := by omega
            subst this
            exact ⟨[.vec [] 0 false], .one (.vecn _ _), [], by simp, rfl, by simp⟩
          · obtain ⟨_, _, _, hk⟩ := el 0 (by omega)
            obtain ⟨y0, h00, _⟩ := hk 0 (by omega)
            obtain ⟨rb, off, spot⟩ := a
            have hspot : spot = none := by simpa [Addr.add] using World.cell?_spot h00
            subst hspot
            have hold : OldB W rb := by
              have := h00
              rw [addr_add] at this
              unfold World.cell? at this
              split at this
              · rename_i hq; exact (Array.getElem?_eq_some_iff.1 hq).1
              · cases this
            obtain ⟨f, hf⟩ := choose_lt (α := List V) el
            have hrl : ∀ r ∈ (List.range len).map f, r.length = k := by
              intro r hr
              obtain ⟨j, hj, rfl⟩ := List.mem_map.1 hr
              exact (hf j (by have := List.mem_range.1 hj; omega)).2.1
            have hll : ((List.range len).map f).length = len := by simp
            refine ⟨[.vec ((List.range len).map f).flatten len false], .one ?_, (List.range len).map f, by simp; omega, by rw [hll], fun r hr => ?_⟩
            · refine .vec (rb := rb) (off := off) (fun q => (W.cell? ⟨rb, off + q, none⟩).getD undef) hold (fun q hq => ?_) (fun q v hv => ?_) (by omega) (by simp)
              · have hlt : q < len * k := by rw [(flatten_get hrl 0).1, hll] at hq; exact hq
                have hqk : q / k < len := by rw [Nat.div_lt_iff_lt_mul (by omega)]; exact hlt
                obtain ⟨y, hy, _⟩ := (hf (q / k) (by omega)).2.2 (q % k) (Nat.mod_lt _ (by omega))
                rw [addr_add, Nat.div_add_mod'] at hy
                rw [hy]; rfl
              · have hq : q < ((List.range len).map f).flatten.length := (List.getElem?_eq_some_iff.1 hv).1
                have hlt : q < len * k := by rw [(flatten_get hrl 0).1, hll] at hq; exact hq
                have hqk : q / k < len := by rw [Nat.div_lt_iff_lt_mul (by omega)]; exact hlt
                obtain ⟨r, g1, g2⟩ := (flatten_get hrl q).2 (by rw [hll]; exact hlt)
                obtain ⟨y, hy, hrv⟩ := (hf (q / k) (by omega)).2.2 (q % k) (Nat.mod_lt _ (by omega))
                rw [addr_add, Nat.div_add_mod'] at hy
                simp only [hy, Option.getD_some]
                refine hrv v ?_
                rw [List.getElem?_map, List.getElem?_range hqk] at g1
                simp only [Option.map_some, Option.some.injEq] at g1
                rw [g1, ← g2]; exact hv
            · obtain ⟨j, hj, rfl⟩ := List.mem_map.1 hr
              exact (hf j (by have := List.mem_range.1 hj; omega)).1
      · cases hc
end
end Go.Abs
