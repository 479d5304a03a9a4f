/- The abstract machine, part 2: heaps grow, are read and written. -/
import Derived.Test.YtpaehjjkfjgfiaaA1
set_option linter.unusedVariables false
set_option linter.unusedSimpArgs false
namespace Go.Abs
open Go Go.RowKit

def ofS : Value → V
  | .bool b => .bool b
  | .int k n => .int k n
  | .string s => .str s
  | .pointer none => .nilp
  | .slice none 0 0 => .nils
  | .nilFunc => .nilf
  | _ => .any

def ofC : Value → V
  | .agg cs => .agg (cs.toList.map ofS)
  | v => ofS v

/-- The value at a place. -/
def nth : List V → Nat → V
  | [], _ => .any
  | v :: _, 0 => v
  | _ :: l, n + 1 => nth l n

theorem nth_eq : ∀ (l : List V) (i : Nat), nth l i = l.getD i .any
  | [], i => by simp [nth]
  | v :: l, 0 => by simp [nth]
  | v :: l, i + 1 => by rw [nth, nth_eq l i]; simp

def ev (t : List V) : Operand → V
  | .tmp i => nth t i
  | .const v => ofC v
  | .global _ => .any
  | .func f => .fn f []

section
variable {ρ : Rho} {I : Nat → Prop} {w : World}

theorem rv_ofS (x : Value) : RV ρ I w (ofS x) x := by
  unfold ofS
  split <;> first | exact .bool _ | exact .int _ _ | exact .str _ | exact .nilp | exact .nils | exact .nilf | exact .any _

theorem rv_list {cs : List V} {vs : Array Value} (h : ∀ (i : Nat) (x : Value), vs[i]? = some x → cs[i]? = some (ofS x)) :
    ∀ (i : Nat) (v : V) (x : Value), cs[i]? = some v → vs[i]? = some x → RV ρ I w v x := by
  intro i v x hv hx
  have := h i x hx
  rw [hv] at this; cases this
  exact rv_ofS x

theorem rv_ofC (x : Value) : RV ρ I w (ofC x) x := by
  unfold ofC
  split
  · rename_i cs
    exact .agg (by simp) (rv_list (by intro i x hx; simp [List.getElem?_map, hx]))
  · exact rv_ofS _

theorem rv_ev {s : St} {a : Act} (hs : RS ρ I w s a) (x : Operand) : RV ρ I w (ev s.t x) (a.eval x) := by
  cases x with
  | tmp i =>
    simp only [ev, Act.eval, nth_eq]
    rcases Nat.lt_or_ge i s.t.length with h | h
    · obtain ⟨x, hx, hr⟩ := hs.tv i s.t[i] (by simp [h])
      rw [List.getD_eq_getElem?_getD, List.getElem?_eq_getElem h, Array.getD_eq_getD_getElem?, hx]
      exact hr
    · rw [List.getD_eq_getElem?_getD, List.getElem?_eq_none h]
      exact .any _
  | const v => exact rv_ofC v
  | global g => exact .any _
  | func f => exact .fn (by simp) (by intro i v x h; simp at h)

/-- A value that one cell holds. -/
def V.one : V → Bool
  | .any | .agg _ | .tup _ => false
  | _ => true

theorem rv_one {v : V} {x : Value} (h : RV ρ I w v x) (h1 : v.one = true) : x.oneCell' = true := by
  cases h <;> first | rfl | (simp [V.one] at h1)

/-- The cells of a value. -/
def V.cells? : V → Option (List V)
  | .any => none
  | .tup _ => none
  | .agg cs => some cs
  | v => some [v]

theorem rv_cells {v : V} {x : Value} {cs : List V} (h : RV ρ I w v x) (hc : v.cells? = some cs) :
    x.cells.size = cs.length ∧ ∀ (i : Nat) (u : V), cs[i]? = some u → ∃ y, x.cells[i]? = some y ∧ RV ρ I w u y := by
  have one : ∀ {v : V} {x : Value}, RV ρ I w v x → x.cells = #[x] → [v] = cs → x.cells.size = cs.length ∧ ∀ (i : Nat) (u : V), cs[i]? = some u → ∃ y, x.cells[i]? = some y ∧ RV ρ I w u y := by
    intro v x h hx hc
    subst hc
    rw [hx]
    refine ⟨rfl, fun i u hu => ?_⟩
    cases i with
    | zero => simp at hu; subst hu; exact ⟨x, rfl, h⟩
    | succ i => simp at hu
  cases h with
  | any x => simp [V.cells?] at hc
  | tup hl hv => simp [V.cells?] at hc
  | agg hl hv =>
    simp only [V.cells?, Option.some.injEq] at hc
    subst hc
    refine ⟨by simp [Value.cells, hl], fun i u hu => ?_⟩
    have hi := (List.getElem?_eq_some_iff.1 hu).1
    refine ⟨_, Array.getElem?_eq_getElem (by simp [Value.cells]; omega), hv i u _ hu ?_⟩
    simp [Value.cells]
  | bool b => exact one (.bool b) rfl (by simpa [V.cells?] using hc)
  | int k n => exact one (.int k n) rfl (by simpa [V.cells?] using hc)
  | str s => exact one (.str s) rfl (by simpa [V.cells?] using hc)
  | nilp => exact one .nilp rfl (by simpa [V.cells?] using hc)
  | ptr h => exact one (.ptr h) rfl (by simpa [V.cells?] using hc)
  | vptr f hI hcc hv => exact one (.vptr f hI hcc hv) rfl (by simpa [V.cells?] using hc)
  | nils => exact one .nils rfl (by simpa [V.cells?] using hc)
  | slc h h1 h2 hb hs => exact one (.slc h h1 h2 hb hs) rfl (by simpa [V.cells?] using hc)
  | vec f hI hcc hv h1 hx => exact one (.vec f hI hcc hv h1 hx) rfl (by simpa [V.cells?] using hc)
  | vecn x => exact one (.vecn x _) rfl (by simpa [V.cells?] using hc)
  | nilf => exact one .nilf rfl (by simpa [V.cells?] using hc)
  | yld h => exact one (.yld h) rfl (by simpa [V.cells?] using hc)
  | fn hl hv => exact one (.fn hl hv) rfl (by simpa [V.cells?] using hc)

/-- A draw. -/
theorem Keep.drew (h : List HB) (ρ : Rho) (I : Nat → Prop) (w : World) : Keep h ρ I w h ρ I w.drew :=
  ⟨rfl, rfl, rfl, Nat.le_refl _, fun _ _ h => h, fun _ h => h, fun _ _ _ => rfl, fun _ c e fr h => ⟨c, e, fr, h, rfl⟩, fun _ _ h => .inl h, fun _ _ h => h⟩

theorem RH.ext' {h : List HB} {w' : World} (H : RH ρ I w h) (hh : w'.heap = w.heap) : RH ρ I w' h where
  len := H.len
  row := fun i cs hi => by
    have x : Ext ρ I w ρ I w' := ⟨fun _ _ h => h, fun _ h => h, fun b _ => by rw [hh], fun b c e fr hb => ⟨c, e, fr, by rw [hh]; exact hb, rfl⟩⟩
    obtain ⟨rb, base, c, e, fr, h1, h2, h3, h4, h5, h6⟩ := H.row i cs hi
    refine ⟨rb, base, c, e, fr, h1, by rw [hh]; exact h2, h3, fun j v hv => ?_, h5, h6⟩
    obtain ⟨y, hy, hr⟩ := h4 j v hv
    exact ⟨y, hy, hr.ext x⟩
  inj := H.inj
  imlt := fun b hb => by rw [hh]; exact H.imlt b hb
  lp := H.lp.ext ⟨fun _ _ h => h, fun _ h => h, fun b _ => by rw [hh], fun b c e fr hb => ⟨c, e, fr, by rw [hh]; exact hb, rfl⟩⟩ (fun l rec _ hi => ⟨by rw [hh], hi⟩) (fun _ _ h => h)

theorem RH.drew {h : List HB} (H : RH ρ I w h) : RH ρ I w.drew h := H.ext' rfl

theorem getElem?_append_some {α : Type} {l : List α} {x y : α} {i : Nat} (h : l[i]? = some x) : (l ++ [y])[i]? = some x := by
  have := (List.getElem?_eq_some_iff.1 h).1
  rw [List.getElem?_append_left this]; exact h

theorem cell_of {w : World} {rb : Nat} {c : Array Value} {e : TypeId} {fr : Nat × Nat} (h : w.heap[rb]? = some (.cells c e fr)) (i : Nat) : w.cell? ⟨rb, i, none⟩ = c[i]? := by
  simp [World.cell?, h]

/-- A new block. -/
theorem RH.alloc {h : List HB} (H : RH ρ I w h) {c : Array Value} {e : TypeId} {cs : List V} (hl : cs.length ≤ c.size)
    (hv : ∀ (j : Nat) (v : V), cs[j]? = some v → ∃ x, c[j]? = some x ∧ RV ρ I w v x) :
    RH (ρ ++ [(w.heap.size, 0)]) I (w.alloc (.cells c e)) (h ++ [.live cs]) ∧
      Keep h ρ I w (h ++ [.live cs]) (ρ ++ [(w.heap.size, 0)]) I (w.alloc (.cells c e)) := by
  have old : ∀ b, b < w.heap.size → (w.alloc (.cells c e)).heap[b]? = w.heap[b]? := fun b hb => Below.heap_alloc _ _ _ hb
  have lt : ∀ {b : Nat} {o : Obj}, w.heap[b]? = some o → b < w.heap.size := fun h => (Array.getElem?_eq_some_iff.1 h).1
  have x : Ext ρ I w (ρ ++ [(w.heap.size, 0)]) I (w.alloc (.cells c e)) :=
    ⟨fun i p hp => getElem?_append_some hp, fun _ h => h, fun b hb => old b (H.imlt b hb), fun b c e fr hb => ⟨c, e, fr, (old b (lt hb)).trans hb, rfl⟩⟩
  have inv : ∀ (i : Nat) (q : List V), (h ++ [HB.live cs])[i]? = some (.live q) → (h[i]? = some (.live q) ∧ i < h.length) ∨ (i = h.length ∧ q = cs) := by
    intro i q hi
    rcases Nat.lt_trichotomy i h.length with hlt | rfl | hgt
    · rw [List.getElem?_append_left hlt] at hi; exact .inl ⟨hi, hlt⟩
    · simp at hi; exact .inr ⟨rfl, hi.symm⟩
    · rw [List.getElem?_eq_none (by simp; omega)] at hi; cases hi
  have rinv : ∀ (i : Nat) (p : Nat × Nat), (ρ ++ [(w.heap.size, 0)])[i]? = some p → i < h.length → ρ[i]? = some p := by
    intro i p hp hi
    rwa [List.getElem?_append_left (by rw [H.len]; exact hi)] at hp
  have rnew : ∀ (p : Nat × Nat), (ρ ++ [(w.heap.size, 0)])[h.length]? = some p → p = (w.heap.size, 0) := by
    intro p hp; rw [← H.len] at hp; simp at hp; exact hp.symm
  constructor
  · refine ⟨by simp [H.len], ?_, ?_, fun b hb => by simp; exact Nat.lt_succ_of_lt (H.imlt b hb), H.lp.ext x (fun l rec h1 hi => ⟨old l (lt h1), hi⟩) (lp_app (by intro L e; cases e))⟩
    · intro i q hi
      rcases inv i q hi with ⟨hi, hlt⟩ | ⟨rfl, rfl⟩
      · obtain ⟨rb, base, c', e', fr, h1, h2, h3, h4, h5, h6⟩ := H.row i q hi
        refine ⟨rb, base, c', e', fr, x.rho _ _ h1, (old rb (lt h2)).trans h2, h3, fun j v hv => ?_, h5, h6⟩
        obtain ⟨y, hy, hr⟩ := h4 j v hv
        exact ⟨y, hy, hr.ext x⟩
      · refine ⟨w.heap.size, 0, c, e, (0, 0), by rw [← H.len]; simp, (show (w.heap.push _)[w.heap.size]? = _ from by simp), by simpa using hl, fun j v hj => ?_, fun j _ _ => by simp, fun hI => Nat.lt_irrefl _ (H.imlt _ hI)⟩
        obtain ⟨y, hy, hr⟩ := hv j v hj
        exact ⟨y, by simpa using hy, hr.ext x⟩
    · intro i j q1 q2 rb b1 b2 hi o1 hj o2 hp1 hp2
      rcases on_app hi with ⟨hi', hlt⟩ | ⟨hi', _⟩
      · rcases on_app hj with ⟨hj', hlt'⟩ | ⟨hj', _⟩
        · exact H.inj i j q1 q2 rb b1 b2 hi' o1 hj' o2 (rinv _ _ hp1 hlt) (rinv _ _ hp2 hlt')
        · subst hj'
          have := rnew _ hp2; cases this
          have := (H.lt ⟨i, q1, b1, hi', o1, rinv _ _ hp1 hlt⟩).1
          omega
      · rcases on_app hj with ⟨hj', hlt'⟩ | ⟨hj', _⟩
        · subst hi'
          have := rnew _ hp1; cases this
          have := (H.lt ⟨j, q2, b2, hj', o2, rinv _ _ hp2 hlt'⟩).1
          omega
        · rw [hi', hj']
  · refine ⟨rfl, rfl, rfl, by simp, x.rho, fun _ h => h, fun b hb _ => old b hb, x.sz, fun b _ hb => .inl hb, ?_⟩
    rintro b hb ⟨i, q, base, hi, o, hp⟩
    rcases on_app hi with ⟨hi, hlt⟩ | ⟨rfl, rfl⟩
    · exact ⟨i, q, base, hi, o, rinv _ _ hp hlt⟩
    · have := rnew _ hp; cases this; omega

theorem setCell_row {w : World} {rb : Nat} {c : Array Value} {e : TypeId} {fr : Nat × Nat} (h : w.heap[rb]? = some (.cells c e fr)) (i : Nat) (x : Value) :
    (w.setCell ⟨rb, i, none⟩ x).heap[rb]? = some (.cells (c.setIfInBounds i x) e fr) := by
  simp [World.setCell, Array.getElem?_modify, h]

/-- A store of one cell. -/
theorem RH.set {h : List HB} (H : RH ρ I w h) {b o rb base : Nat} {cs : List V} (hb : h[b]? = some (.live cs)) (hp : ρ[b]? = some (rb, base)) (ho : o < cs.length)
    {v : V} {x : Value} (hv : RV ρ I w v x) (h1 : v.one = true) :
    (∃ u, w.cell? ⟨rb, base + o, none⟩ = some u) ∧ w.frozen? ⟨rb, base + o, none⟩ = false ∧
    RH ρ I (w.setCell ⟨rb, base + o, none⟩ x) (h.set b (.live (cs.set o v))) ∧
      Keep h ρ I w (h.set b (.live (cs.set o v))) ρ I (w.setCell ⟨rb, base + o, none⟩ x) := by
  obtain ⟨rb', base', c, e, fr, g1, g2, g3, g4, g5, g6⟩ := H.row b cs hb
  rw [hp] at g1; cases g1
  have hbl : b < h.length := (List.getElem?_eq_some_iff.1 hb).1
  have other : ∀ k, k ≠ rb → (w.setCell ⟨rb, base + o, none⟩ x).heap[k]? = w.heap[k]? := fun k hk => Below.heap_setCell _ _ _ _ hk
  have row := setCell_row g2 (base + o) x
  have X : Ext ρ I w ρ I (w.setCell ⟨rb, base + o, none⟩ x) :=
    ⟨fun _ _ h => h, fun _ h => h, fun k hk => other k (fun e => g6 (e ▸ hk)), fun k c' e' fr' hk => by
      by_cases e1 : k = rb
      · subst e1; rw [g2] at hk; cases hk; exact ⟨_, _, _, row, by simp⟩
      · exact ⟨c', e', fr', (other k e1).trans hk, rfl⟩⟩
  have inv : ∀ (i : Nat) (q : List V), (h.set b (.live (cs.set o v)))[i]? = some (.live q) → (i ≠ b ∧ h[i]? = some (.live q)) ∨ (i = b ∧ q = cs.set o v) := by
    intro i q hi
    by_cases e1 : i = b
    · subst e1; rw [List.getElem?_set_self hbl] at hi; cases hi; exact .inr ⟨rfl, rfl⟩
    · rw [List.getElem?_set_ne (fun e => e1 e.symm)] at hi; exact .inl ⟨e1, hi⟩
  have lv : ∀ (i : Nat) (q : HB), (h.set b (.live (cs.set o v)))[i]? = some q → q.on → ∃ q', h[i]? = some q' ∧ q'.on := by
    intro i q hi hq
    rcases on_set hi hq with ⟨_, hi⟩ | ⟨rfl, _, _⟩
    · exact ⟨q, hi, hq⟩
    · exact ⟨_, hb, trivial⟩
  refine ⟨⟨c[base + o]'(by omega), by rw [cell_of g2, Array.getElem?_eq_getElem (by omega)]⟩, ?_, ?_, ?_⟩
  · have := g5 (base + o) (by omega) (by omega)
    cases hd : w.frozen? ⟨rb, base + o, none⟩ with
    | false => rfl
    | true => simp [World.frozen?, g2] at hd; exact absurd hd this
  · refine ⟨by rw [H.len, List.length_set], ?_, ?_, fun k hk => by rw [World.size_setCell]; exact H.imlt k hk, H.lp.ext X (fun l rec h1 hi => ⟨other l (fun e => by subst e; rw [g2] at h1; cases h1), hi⟩) (lp_set (by intro L e; cases e))⟩
    · intro i q hi
      rcases inv i q hi with ⟨hne, hi⟩ | ⟨rfl, rfl⟩
      · obtain ⟨rb2, base2, c2, e2, fr2, k1, k2, k3, k4, k5, k6⟩ := H.row i q hi
        have hne2 : rb2 ≠ rb := fun e => by subst e; exact hne (H.inj i b _ _ rb2 base2 base hi trivial hb trivial k1 hp)
        refine ⟨rb2, base2, c2, e2, fr2, k1, (other rb2 hne2).trans k2, k3, fun j u hj => ?_, k5, k6⟩
        obtain ⟨y, hy, hr⟩ := k4 j u hj
        exact ⟨y, hy, hr.ext X⟩
      · refine ⟨rb, base, _, e, fr, hp, row, by simp; omega, fun j u hj => ?_, fun j k1 k2 => g5 j k1 (by simpa using k2), g6⟩
        by_cases e1 : j = o
        · subst e1
          rw [List.getElem?_set_self ho] at hj; cases hj
          exact ⟨x, by rw [Array.getElem?_setIfInBounds_self_of_lt (by omega)], hv.ext X⟩
        · rw [List.getElem?_set_ne (fun e => e1 e.symm)] at hj
          obtain ⟨y, hy, hr⟩ := g4 j u hj
          exact ⟨y, by rw [Array.getElem?_setIfInBounds_ne (by omega)]; exact hy, hr.ext X⟩
    · intro i j q1 q2 rb2 b1 b2 hi o1 hj o2 k1 k2
      obtain ⟨q1', hi', o1'⟩ := lv i q1 hi o1
      obtain ⟨q2', hj', o2'⟩ := lv j q2 hj o2
      exact H.inj i j q1' q2' rb2 b1 b2 hi' o1' hj' o2' k1 k2
  · refine ⟨rfl, rfl, rfl, by rw [World.size_setCell]; exact Nat.le_refl _, fun _ _ h => h, fun _ h => h, fun k hk hl => other k (fun e => hl (by subst e; exact live_row hb hp)), X.sz, fun k _ hk => .inl hk, ?_⟩
    rintro k hk ⟨i, q, base2, hi, o, k1⟩
    obtain ⟨q', hi', o'⟩ := lv i q hi o
    exact ⟨i, q', base2, hi', o', k1⟩

/-- Cells laid over cells. -/
def splice (cs : List V) (o : Nat) : List V → List V
  | [] => cs
  | v :: vs => splice (cs.set o v) (o + 1) vs

theorem splice_length (vs : List V) : ∀ (cs : List V) (o : Nat), (splice cs o vs).length = cs.length := by
  induction vs with
  | nil => intro cs o; rfl
  | cons v vs ih => intro cs o; simp [splice, ih]

theorem addr_add (b o i : Nat) : (⟨b, o, none⟩ : Addr).add i = ⟨b, o + i, none⟩ := by
  unfold Addr.add; split <;> simp_all

/-- A store of several cells. -/
theorem RH.sets {P : Program} (vs : List V) : ∀ (xs : List Value) {h : List HB} {w : World} (H : RH ρ I w h) {b o rb base : Nat} {cs : List V} (hb : h[b]? = some (.live cs)) (hp : ρ[b]? = some (rb, base))
    (ho : o + vs.length ≤ cs.length) (hl : xs.length = vs.length) (hv : ∀ (i : Nat) (v : V) (x : Value), vs[i]? = some v → xs[i]? = some x → RV ρ I w v x) (h1 : ∀ v ∈ vs, v.one = true) (d i : Nat) (hd : base + o = d + i),
    ∃ w', (storeCells ⟨rb, d, none⟩ xs i).run P w = .ok () w' ∧ RH ρ I w' (h.set b (.live (splice cs o vs))) ∧ Keep h ρ I w (h.set b (.live (splice cs o vs))) ρ I w' := by
  induction vs with
  | nil =>
    intro xs h w H b o rb base cs hb hp ho hl hv h1 d i hd
    have : xs = [] := List.length_eq_zero_iff.1 (by simpa using hl)
    subst this
    have e : h.set b (.live cs) = h := by
      apply List.ext_getElem?; intro j
      by_cases e1 : b = j
      · subst e1; rw [List.getElem?_set_self (List.getElem?_eq_some_iff.1 hb).1, hb]
      · rw [List.getElem?_set_ne e1]
    refine ⟨w, rfl, ?_⟩
    simp only [splice, e]
    exact ⟨H, Keep.refl _ _ _ _⟩
  | cons v vs ih =>
    intro xs h w H b o rb base cs hb hp ho hl hv h1 d i hd
    obtain ⟨x, xs, rfl⟩ : ∃ x xs', xs = x :: xs' := by
      cases xs with
      | nil => simp at hl
      | cons x xs => exact ⟨x, xs, rfl⟩
    have hb' : b < h.length := (List.getElem?_eq_some_iff.1 hb).1
    obtain ⟨⟨u, hu⟩, hf, H2, K2⟩ := H.set hb hp (o := o) (by simp at ho; omega) (hv 0 v x rfl rfl) (h1 v (by simp))
    obtain ⟨w', hr, H3, K3⟩ := ih xs H2 (b := b) (o := o + 1) (rb := rb) (base := base) (cs := cs.set o v) (by rw [List.getElem?_set_self hb']) hp (by simp at ho ⊢; omega) (by simpa using hl)
      (fun j u y hj hy => (hv (j + 1) u y (by simpa using hj) (by simpa using hy)).ext (K2.ext H)) (fun u hu => h1 u (by simp [hu])) d (i + 1) (by omega)
    refine ⟨w', ?_, ?_, ?_⟩
    · have e1 : (⟨rb, d, none⟩ : Addr).add i = ⟨rb, base + o, none⟩ := by rw [addr_add]; congr 1; omega
      simp only [storeCells, e1, Sem.run_bind]
      rw [run_store _ _ _ _ _ (rv_one (hv 0 v x rfl rfl) (h1 v (by simp)))]
      simp only [hu, hf, Bool.false_eq_true, if_false, Result.andThen_ok]
      exact hr
    · simpa [splice, List.set_set] using H3
    · have := K2.trans K3
      simpa [splice, List.set_set] using this
end
end Go.Abs
