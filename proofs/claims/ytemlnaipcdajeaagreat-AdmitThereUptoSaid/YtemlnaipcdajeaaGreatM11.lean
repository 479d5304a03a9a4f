/- The abstract machine, part 29: what comes in, opened, with a bound of what it holds. -/
import Derived.Test.YtemlnaipcdajeaaGreatM9
set_option linter.unusedVariables false
set_option linter.unusedSimpArgs false
namespace Go.Abs
open Go Go.RowKit Go.Deep

mutual
def bulkN {H : Type} : DataW H → Nat
  | .lit (.string bytes) => bytes.length + 1
  | .lit _ => 1
  | .nil => 1
  | .ptr d => bulkN d + 1
  | .slice elems spare => bulkAllN elems + bulkAllN spare + 1
  | .agg parts => bulkAllN parts + 1
  | .iface _ d => bulkN d + 1
  | .map _ => 1
  | .held _ => 1
def bulkAllN {H : Type} : List (DataW H) → Nat
  | [] => 0
  | d :: r => bulkN d + bulkAllN r
end
mutual
/-- How many elements and letters a value holds. -/
def vbV : V → Nat
  | .str s => s.size
  | .vec cs len _ => len + vbL cs
  | _ => 0
def vbL : List V → Nat
  | [] => 0
  | v :: l => vbV v + vbL l
end
theorem vbL_append : ∀ a b : List V, vbL (a ++ b) = vbL a + vbL b
  | [], b => by simp [vbL]
  | v :: a, b => by rw [List.cons_append, vbL, vbL, vbL_append a b]; omega
/-- Row by row. -/
theorem vb_rows {H : Type} : ∀ (rows : List (List V)) (ds : List (DataW H)), rows.length = ds.length → (∀ (i : Nat) (r : List V) (d : DataW H), rows[i]? = some r → ds[i]? = some d → vbL r + 1 ≤ bulkN d) → vbL rows.flatten + rows.length ≤ bulkAllN ds
  | [], ds, h, _ => by simp [vbL]
  | r :: rows, [], h, _ => by simp at h
  | r :: rows, d :: ds, h, k => by
    have h0 := k 0 r d rfl rfl
    have ih := vb_rows rows ds (by simpa using h) fun i r d h1 h2 => k (i + 1) r d (by simpa using h1) (by simpa using h2)
    rw [List.flatten_cons, vbL_append, bulkAllN, List.length_cons]
    omega
section
variable {P : Program} {ty : Tab} {W : World} {H : Type} {enc : TypeId × Value → H}
/-- **What comes in, opened.** -/
theorem open_bulk (T : TyOK P ty) : ∀ (n : Nat) (t : TypeId), covT ty n t = true → ∀ (fuel : Nat) (cs : List Value) (x : DataW H × List MemPlace), DataW.trod enc P W 0 (fun _ => true) true fuel t cs = some x → ∃ ds, RVL W ds cs ∧ OkT ty n t ds ∧ vbL ds + 1 ≤ bulkN x.1
  | 0, t, hc, _, _, _, _ => by cases hc
  | n + 1, t, hc, fuel, cs, x, h => by
    unfold covT at hc
    split at hc
    · cases hc
    · rename_i i hi
      have hu := (T t i hi).1
      have hsz : P.cellsOf t = i.size := by rw [cellsOf_ty T (by rw [hi]; rfl)]; simp [sizeT, hi]
      unfold OkT
      simp only [hi, Option.map_some]
      split at hc
      · rename_i k hd
        rw [hd] at hu ⊢
        obtain ⟨z, rfl, hx, hw⟩ := DataW.trod_int hu h
        exact ⟨_, .one (.int _ _), ⟨z, hw, rfl⟩, by rw [hx]; simp [vbL, vbV, bulkN]⟩
      · rename_i hd
        rw [hd] at hu ⊢
        obtain ⟨b, rfl, hx⟩ := DataW.trod_bool hu h
        exact ⟨_, .one (.bool _), ⟨b, rfl⟩, by rw [hx]; simp [vbL, vbV, bulkN]⟩
      · rename_i hd
        rw [hd] at hu ⊢
        obtain ⟨s, rfl, hx, hs⟩ := DataW.trod_string hu h
        exact ⟨_, .one (.str _), ⟨s, hs, rfl⟩, by rw [hx]; simp [vbL, vbV, bulkN]⟩
      · rename_i m e hd
        rw [hd] at hu ⊢
        simp only [Bool.and_eq_true, beq_iff_eq] at hc
        obtain ⟨⟨he, hce⟩, hm⟩ := hc
        obtain ⟨xs, fu, _, hx, hl, hxl, hel⟩ := DataW.trod_array hu h
        rw [cellsOf_ty T he] at hel
        have hsum : (List.replicate m (sizeT ty e)).sum = m * sizeT ty e := by simp
        obtain ⟨rows, r1, r2, r3⟩ := parts (W := W) (List.replicate m (sizeT ty e)) cs (fun j r => OkT ty n e r ∧ ∀ y, xs[j]? = some y → vbL r + 1 ≤ bulkN y.1) (by rw [hl, hsz, hm, hsum]) (fun j k hk => by
          rw [List.getElem?_replicate] at hk
          split at hk
          · rename_i hjm
            simp only [Option.some.injEq] at hk
            subst hk
            have ht : (List.take j (List.replicate m (sizeT ty e))).sum = j * sizeT ty e := by
              rw [List.take_replicate, show min j m = j from by omega]; simp
            rw [ht]
            have h1 := hel j hjm
            obtain ⟨y, hy⟩ : ∃ y, xs[j]? = some y := ⟨xs[j], List.getElem?_eq_getElem (by omega)⟩
            rw [hy] at h1
            obtain ⟨r, a, b, c⟩ := open_bulk T n e hce _ _ _ h1
            exact ⟨r, a, b, fun z hz => by rw [hy] at hz; cases hz; exact c⟩
          · cases hk)
        refine ⟨_, r2, ⟨rows, by simpa using r1, rfl, fun r hr => ?_⟩, ?_⟩
        · obtain ⟨j, hj⟩ := List.getElem?_of_mem hr
          exact (r3 j r hj).1
        · have := vb_rows rows (xs.map (·.1)) (by rw [List.length_map, hxl]; simpa using r1) (fun j r d h1 h2 => by
            rw [List.getElem?_map] at h2
            cases hy : xs[j]? with
            | none => rw [hy] at h2; cases h2
            | some y => rw [hy] at h2; cases h2; exact (r3 j r h1).2 y hy)
          rw [hx, bulkN]
          omega
      · rename_i fs hd
        rw [hd] at hu ⊢
        simp only [beq_iff_eq] at hc
        obtain ⟨g1, g2⟩ := goT_spec _ _ _ hc
        obtain ⟨xs, fu, _, hx, hl, hxl, hel⟩ := DataW.trod_struct hu h
        obtain ⟨rows, r1, r2, r3⟩ := parts (W := W) (fs.toList.map fun f => sizeT ty f.type) cs (fun j r => (∀ f, fs[j]? = some f → OkT ty n f.type r) ∧ ∀ y, xs[j]? = some y → vbL r + 1 ≤ bulkN y.1) (by rw [hl, hsz, g1]; omega) (fun j k hk => by
          rw [List.getElem?_map] at hk
          cases hf : fs.toList[j]? with
          | none => simp [hf] at hk
          | some f =>
            simp [hf] at hk
            subst hk
            obtain ⟨q1, q2, q3⟩ := g2 j f hf
            have hfa : fs[j]? = some f := by rw [← Array.getElem?_toList]; exact hf
            have h1 := hel j f hfa
            obtain ⟨y, hy⟩ : ∃ y, xs[j]? = some y := ⟨xs[j]'(by rw [hxl]; exact (Array.getElem?_eq_some_iff.1 hfa).1), List.getElem?_eq_getElem _⟩
            rw [hy, cellsOf_ty T q1, q3, Nat.zero_add] at h1
            obtain ⟨r, a, b, c⟩ := open_bulk T n f.type q2 _ _ _ h1
            refine ⟨r, a, fun g hg => ?_, fun z hz => by rw [hy] at hz; cases hz; exact c⟩
            rw [hfa] at hg; cases hg; exact b)
        refine ⟨_, r2, ⟨rows, by simpa using r1, rfl, fun j f r hf hr => (r3 j r hr).1 f hf⟩, ?_⟩
        have := vb_rows rows (xs.map (·.1)) (by rw [List.length_map, hxl]; simpa using r1) (fun j r d h1 h2 => by
          rw [List.getElem?_map] at h2
          cases hy : xs[j]? with
          | none => rw [hy] at h2; cases h2
          | some y => rw [hy] at h2; cases h2; exact (r3 j r h1).2 y hy)
        rw [hx, bulkN]
        omega
      · rename_i e hd
        rw [hd] at hu ⊢
        simp only [Bool.and_eq_true, Bool.not_eq_true', beq_eq_false_iff_ne] at hc
        obtain ⟨⟨he, hce⟩, hk0⟩ := hc
        have hsz1 : i.size = 1 ∨ True := .inr trivial
        rcases open_slice hu h with ⟨rfl, hx⟩ | ⟨a, len, cap, m, fu, D, Pl, rfl, _, hl, hm, hmm, hx, hel⟩
        · exact ⟨[.vec [] 0 false], .one (.vecn _ _), ⟨[], by simp, rfl, by simp⟩, by rw [hx]; simp [vbL, vbV, bulkN]⟩
        · simp only [if_true] at hmm
          subst hmm
          rw [cellsOf_ty T he] at hel
          obtain ⟨k, hke⟩ : ∃ k, sizeT ty e = k := ⟨_, rfl⟩
          rw [hke] at hel hk0
          have el : ∀ j, j < m → ∃ r : List V, (OkT ty n e r ∧ vbL r + 1 ≤ bulkN (D j)) ∧ r.length = k ∧ ∀ q, q < k → ∃ y, W.cell? (a.add (j * k + q)) = some y ∧ ∀ v, r[q]? = some v → RV [] (OldB W) W v y := by
            intro j hj
            obtain ⟨cs', h1, h2⟩ := hel j hj
            obtain ⟨hl4, hg⟩ := cells_getN h1
            obtain ⟨r, hr1, hr2, hr3⟩ := open_bulk T n e hce _ _ _ h2
            refine ⟨r, ⟨hr2, hr3⟩, by rw [hr1.1, hl4], fun q hq => ?_⟩
            have hlt : q < cs'.length := by omega
            refine ⟨cs'[q], by rw [← add_add, hg q hq, List.getElem?_eq_getElem hlt], fun v hv => hr1.2 q v _ hv (List.getElem?_eq_getElem hlt)⟩
          by_cases hc0 : m = 0
          · subst hc0
            have : len = 0 := by omega
            subst this
            exact ⟨[.vec [] 0 false], .one (.vecn _ _), ⟨[], by simp, rfl, by simp⟩, by rw [hx]; simp [vbL, vbV, bulkN]⟩
          · obtain ⟨_, ⟨_, _⟩, _, hk⟩ := el 0 (by omega)
            obtain ⟨y0, h00, _⟩ := hk 0 (by omega)
            obtain ⟨rb, off, spot⟩ := a
            have hspot : spot = none := by simpa [Addr.add] using World.cell?_spot h00
            subst hspot
            have hold : OldB W rb := by
              have := h00
              rw [addr_add] at this
              unfold World.cell? at this
              split at this
              · rename_i hq; exact (Array.getElem?_eq_some_iff.1 hq).1
              · cases this
            obtain ⟨f, hf⟩ := choose_lt (α := List V) el
            have hrl : ∀ r ∈ (List.range len).map f, r.length = k := by
              intro r hr
              obtain ⟨j, hj, rfl⟩ := List.mem_map.1 hr
              exact (hf j (by have := List.mem_range.1 hj; omega)).2.1
            have hll : ((List.range len).map f).length = len := by simp
            refine ⟨[.vec ((List.range len).map f).flatten len false], .one ?_, ⟨(List.range len).map f, by simp; omega, by rw [hll], fun r hr => ?_⟩, ?_⟩
            · refine .vec (rb := rb) (off := off) (fun q => (W.cell? ⟨rb, off + q, none⟩).getD undef) hold (fun q hq => ?_) (fun q v hv => ?_) (by omega) (by simp)
              · have hlt : q < len * k := by rw [(flatten_get hrl 0).1, hll] at hq; exact hq
                have hqk : q / k < len := by rw [Nat.div_lt_iff_lt_mul (by omega)]; exact hlt
                obtain ⟨y, hy, _⟩ := (hf (q / k) (by omega)).2.2 (q % k) (Nat.mod_lt _ (by omega))
                rw [addr_add, Nat.div_add_mod'] at hy
                rw [hy]; rfl
              · have hq : q < ((List.range len).map f).flatten.length := (List.getElem?_eq_some_iff.1 hv).1
                have hlt : q < len * k := by rw [(flatten_get hrl 0).1, hll] at hq; exact hq
                have hqk : q / k < len := by rw [Nat.div_lt_iff_lt_mul (by omega)]; exact hlt
                obtain ⟨r, g1, g2⟩ := (flatten_get hrl q).2 (by rw [hll]; exact hlt)
                obtain ⟨y, hy, hrv⟩ := (hf (q / k) (by omega)).2.2 (q % k) (Nat.mod_lt _ (by omega))
                rw [addr_add, Nat.div_add_mod'] at hy
                simp only [hy, Option.getD_some]
                refine hrv v ?_
                rw [List.getElem?_map, List.getElem?_range hqk] at g1
                simp only [Option.map_some, Option.some.injEq] at g1
                rw [g1, ← g2]; exact hv
            · obtain ⟨j, hj, rfl⟩ := List.mem_map.1 hr
              exact (hf j (by have := List.mem_range.1 hj; omega)).1.1
            · have := vb_rows ((List.range len).map f) ((List.range len).map D) (by simp) (fun j r d h1 h2 => by
                rw [List.getElem?_map] at h1 h2
                by_cases hj : j < len
                · rw [List.getElem?_range hj] at h1 h2
                  simp only [Option.map_some, Option.some.injEq] at h1 h2
                  subst h1; subst h2
                  exact (hf j (by omega)).1.2
                · rw [List.getElem?_eq_none (by simp; omega)] at h1; cases h1)
              rw [hll] at this
              rw [hx, bulkN]
              simp only [vbL, vbV]
              omega
      · cases hc
end
end Go.Abs
