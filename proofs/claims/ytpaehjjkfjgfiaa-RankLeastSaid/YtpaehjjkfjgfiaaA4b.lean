/- The abstract machine, part 4b: slices, strings, aggregates are the model's. -/
import Derived.Test.YtpaehjjkfjgfiaaA4
set_option linter.unusedVariables false
set_option linter.unusedSimpArgs false
namespace Go.Abs
open Go Go.RowKit

section
variable {P : Program} {ty : Tab} {ρ : Rho} {I : Nat → Prop} {w : World}

theorem run_lenOf {x : V} {y : Value} (hx : RV ρ I w x y) {n : Nat} (h : lenOfV x = some n) (w' : World) : (Builtin.lenOf y).run P w' = .ok n w' := by
  cases hx <;> simp [lenOfV] at h <;> subst h <;> rfl

/-- The cells that a slice shows are in memory. -/
theorem read_slice {h : List HB} (H : RH ρ I w h) {x : V} {y : Value} (hx : RV ρ I w x y) {cs : List V} (hc : cellsOf h x = some cs) {n size : Nat} (hn : lenOfV x = some n) (hl : cs.length = n * size) :
    ∃ arr : Array Value, (∀ w' : World, w'.heap = w.heap → (Builtin.firstCells size n y).run P w' = .ok arr w') ∧ arr.size = cs.length ∧ ∀ (i : Nat) (v : V), cs[i]? = some v → ∃ z, arr[i]? = some z ∧ RV ρ I w v z := by
  have mk : ∀ (a : Addr) (len cap : Nat), y = .slice (some a) len cap → (∀ (j : Nat) (v : V), cs[j]? = some v → ∃ z, w.cell? (a.add j) = some z ∧ RV ρ I w v z) →
      ∃ arr : Array Value, (∀ w' : World, w'.heap = w.heap → (Builtin.firstCells size n y).run P w' = .ok arr w') ∧ arr.size = cs.length ∧ ∀ (i : Nat) (v : V), cs[i]? = some v → ∃ z, arr[i]? = some z ∧ RV ρ I w v z := by
    rintro a len cap rfl hcell
    classical
    let f : Nat → Value := fun j => if h : j < cs.length then Classical.choose (hcell j cs[j] (by simp [h])) else undef
    have hf : ∀ j (h : j < cs.length), w.cell? (a.add j) = some (f j) ∧ RV ρ I w cs[j] (f j) := by
      intro j h; simp only [f, h, dif_pos]; exact Classical.choose_spec (hcell j cs[j] (by simp [h]))
    refine ⟨((List.range (n * size)).map f).toArray, fun w' hw => ?_, by simp [hl], fun i v hv => ?_⟩
    · simp only [Builtin.firstCells]
      refine run_loadCells w' a (n * size) f (fun j hj => ?_)
      rw [show w'.cell? (a.add j) = w.cell? (a.add j) from World.cell?_of_block (by rw [hw])]
      exact (hf j (by omega)).1
    · have hi := (List.getElem?_eq_some_iff.1 hv).1
      have hv' : cs[i] = v := by rw [List.getElem?_eq_getElem hi] at hv; exact Option.some.inj hv
      exact ⟨f i, by rw [← hl, List.getElem?_toArray, List.getElem?_map, List.getElem?_range hi]; rfl, by rw [← hv']; exact (hf i hi).2⟩
  cases hx with
  | nils =>
    simp only [cellsOf, Option.some.injEq] at hc; subst hc
    exact ⟨#[], fun w' _ => rfl, rfl, by simp⟩
  | str s =>
    simp only [cellsOf, Option.some.injEq] at hc; subst hc
    simp only [lenOfV, Option.some.injEq] at hn; subst hn
    refine ⟨(s.extract 0 s.size).data.map fun b => .int .u8 b.toNat, fun w' _ => rfl, by simp [strCells], fun i v hv => ?_⟩
    have : (s.extract 0 s.size).data = s.data := by rw [ByteArray.data_extract]; exact Array.extract_size
    rw [this]
    simp only [strCells, List.getElem?_map] at hv
    cases hq : s.data.toList[i]? with
    | none => simp [hq] at hv
    | some b =>
      simp [hq] at hv; subst hv
      have : s.data[i]? = some b := by simpa using hq
      exact ⟨.int .u8 b.toNat, by simp [this], .int _ _⟩
  | slc hb h1 h2 hb2 hs =>
    rename_i b o z len cap rb base rcap c e fr
    simp only [lenOfV, Option.some.injEq] at hn; subst hn
    simp only [cellsOf] at hc
    split at hc
    · rename_i ds hd
      simp only [Option.some.injEq] at hc
      obtain ⟨rb', base', c', e', fr', g1, g2, g3, g4, _⟩ := H.row b ds hd
      rw [hb] at g1; cases g1
      refine mk _ _ _ rfl (fun j v hv => ?_)
      rw [addr_add, Nat.add_assoc, cell_of g2]
      refine g4 (o + j) v ?_
      rw [← hc] at hv
      rw [List.getElem?_take] at hv
      split at hv
      · rw [List.getElem?_drop] at hv; exact hv
      · cases hv
    · cases hc
  | vecn x =>
    simp only [cellsOf, Option.some.injEq] at hc; subst hc
    refine ⟨#[], fun w' _ => ?_, rfl, by simp⟩
    simp only [lenOfV, Option.some.injEq] at hn; subst hn
    cases x
    · rfl
    · simp only [Builtin.firstCells, Nat.zero_mul]; rfl
  | vec f hI hcell hv h1 hx =>
    simp only [cellsOf, Option.some.injEq] at hc; subst hc
    refine mk _ _ _ rfl (fun j v hj => ?_)
    rw [addr_add]
    exact ⟨f j, hcell j (List.getElem?_eq_some_iff.1 hj).1, hv j v hj⟩
  | _ => simp [cellsOf] at hc

/-- New cells behind old ones. -/
def behind (base : Option Addr) (k : Nat) (l : List Value) : Sem Unit :=
  match base with
  | some a => storeCells (a.add k) l
  | none => pure ()

theorem append_core {argTypes : Array TypeId} {tyid t0 t1 e : TypeId} {d1 : TypeDesc} {ti : TypeInfo} {z : Value} (h0 : argTypes[0]? = some t0) (h1 : argTypes[1]? = some t1) (hu0 : P.underlying t0 = some (.slice e)) (hu1 : P.underlying t1 = some d1)
    (hd1 : (∃ q, d1 = .slice q) ∨ d1 = .string) (hi : P.info? e = some ti) (hz : ti.zero = some z) (base : Option Addr) (len cap n : Nat) (xv : Value) (hlen : ∀ w, (Builtin.lenOf xv).run P w = .ok n w) (news olds : Array Value)
    (hnew : ∀ w' : World, w'.heap = w.heap → (Builtin.firstCells ti.size n xv).run P w' = .ok news w') (hold : ∀ w' : World, w'.heap = w.heap → (Builtin.firstCells ti.size len (.slice base len cap)).run P w' = .ok olds w')
    (hb : 0 < ti.bytes) (hbytes : (len + n) * ti.bytes ≤ 140737488355328) :
    (len + n ≤ cap → (Builtin.append_ argTypes tyid #[.slice base len cap, xv]).run P w =
      ((behind base (len * ti.size) news.toList).run P w).andThen fun _ w' => .ok (.slice base (len + n) cap) w') ∧
    (cap < len + n → ∃ nc, len + n ≤ nc ∧ (Builtin.append_ argTypes tyid #[.slice base len cap, xv]).run P w =
      .ok (.slice (some ⟨w.heap.size, 0, none⟩) (len + n) nc) (w.drew.alloc (.cells (olds ++ news ++ Builtin.zeroCells z.cells (nc - (len + n))) e))) := by
  have hz1 : (#[Value.slice base len cap, xv] : Array Value)[0]? = some (.slice base len cap) := rfl
  have hz2 : (#[Value.slice base len cap, xv] : Array Value)[1]? = some xv := rfl
  have hs : ∀ w, (sizeOf e).run P w = .ok ti.size w := fun w => by simp [sizeOf, typeInfo, hi]
  have hti : ∀ w, (typeInfo e).run P w = .ok ti w := fun w => by simp [typeInfo, hi]
  have hzv : ∀ w, (zeroValue e).run P w = .ok z w := fun w => by simp [zeroValue, typeInfo, hi, hz]
  have hn0 : ti.bytes ≠ 0 := by omega
  constructor
  · intro hle
    unfold Builtin.append_
    rcases hd1 with ⟨q, rfl⟩ | rfl
    all_goals
      simp only [h0, h1, hz1, hz2, Sem.run_bind, run_underlying hu0, run_underlying hu1, Result.andThen_ok, hs, Sem.run_pure, Sem.run_ite, Bool.false_eq_true, if_false, hlen, Bool.not_false, if_true]
      rw [if_pos hle, hnew w rfl, Result.andThen_ok]
      cases base with
      | none => simp [behind]
      | some a => simp [behind, Sem.run_bind]
  · intro hgt
    have hfit : ¬ (Builtin.nextslicecap (len + n) cap * ti.bytes > 2 ^ 48) := by
      have := growslice_fits hgt hbytes; omega
    refine ⟨grownCap w (len + n) cap e, ?_, ?_⟩
    · unfold grownCap Question.cut; simp
    · unfold Builtin.append_
      rcases hd1 with ⟨q, rfl⟩ | rfl
      all_goals
        simp only [h0, h1, hz1, hz2, Sem.run_bind, run_underlying hu0, run_underlying hu1, Result.andThen_ok, hs, Sem.run_pure, Sem.run_ite, Bool.false_eq_true, if_false, hlen, Bool.not_false, if_true]
        rw [if_neg (by omega)]
        simp only [hti, Result.andThen_ok, hn0, hfit, Bool.false_eq_true, false_or, and_false, if_false, run_choose, Question.forced, World.drew_eq, run_askRoom, hzv, hold w.drew rfl, hnew w.drew rfl, newRow, Sem.run_bind, Sem.run_pure, run_newObj]
        rfl

/-- Cells and values, one by one. -/
def RVs (ρ : Rho) (I : Nat → Prop) (w : World) (cs : List V) (arr : Array Value) : Prop := ∀ (i : Nat) (v : V), cs[i]? = some v → ∃ z, arr[i]? = some z ∧ RV ρ I w v z

theorem RVs.append {cs ds : List V} {a b : Array Value} (h : RVs ρ I w cs a) (hl : a.size = cs.length) (k : RVs ρ I w ds b) : RVs ρ I w (cs ++ ds) (a ++ b) := by
  intro i v hv
  rcases Nat.lt_or_ge i cs.length with hi | hi
  · rw [List.getElem?_append_left hi] at hv
    obtain ⟨z, hz, hr⟩ := h i v hv
    exact ⟨z, by rw [Array.getElem?_append_left (by omega)]; exact hz, hr⟩
  · rw [List.getElem?_append_right hi] at hv
    obtain ⟨z, hz, hr⟩ := k _ v hv
    exact ⟨z, by rw [Array.getElem?_append_right (by omega), hl]; exact hz, hr⟩

theorem RVs.left {cs : List V} {a b : Array Value} (h : RVs ρ I w cs a) : RVs ρ I w cs (a ++ b) := by
  intro i v hv
  obtain ⟨z, hz, hr⟩ := h i v hv
  exact ⟨z, by rw [Array.getElem?_append_left (Array.getElem?_eq_some_iff.1 hz).1]; exact hz, hr⟩

theorem RVs.ext {ρ' : Rho} {I' : Nat → Prop} {w' : World} {cs : List V} {a : Array Value} (x : Ext ρ I w ρ' I' w') (h : RVs ρ I w cs a) : RVs ρ' I' w' cs a := by
  intro i v hv
  obtain ⟨z, hz, hr⟩ := h i v hv
  exact ⟨z, hz, hr.ext x⟩

/-- A block dies. -/
theorem RH.die {h : List HB} (H : RH ρ I w h) (b : Nat) : RH ρ I w (h.set b .dead) ∧ Keep h ρ I w (h.set b .dead) ρ I w := by
  have inv : ∀ (i : Nat) (q : List V), (h.set b .dead)[i]? = some (.live q) → h[i]? = some (.live q) := by
    intro i q hi
    by_cases e : b = i
    · subst e
      rcases Nat.lt_or_ge b h.length with hb | hb
      · rw [List.getElem?_set_self hb] at hi; cases hi
      · rw [List.getElem?_eq_none (by simpa using hb)] at hi; cases hi
    · rw [List.getElem?_set_ne e] at hi; exact hi
  have on : ∀ (i : Nat) (x : HB), (h.set b .dead)[i]? = some x → x.on → h[i]? = some x := by
    intro i x hi hx
    rcases on_set hi hx with ⟨_, h⟩ | ⟨_, rfl, _⟩
    · exact h
    · exact hx.elim
  refine ⟨⟨by rw [H.len, List.length_set], fun i cs hi => H.row i cs (inv i cs hi), fun i j x y rb b1 b2 hi o1 hj o2 => H.inj i j x y rb b1 b2 (on i x hi o1) o1 (on j y hj o2) o2, H.imlt, H.lp.ext (Ext.refl _ _ _) (fun l rec _ hi => ⟨rfl, hi⟩) (lp_set (by intro L e; cases e))⟩, ?_⟩
  refine ⟨rfl, rfl, rfl, Nat.le_refl _, fun _ _ h => h, fun _ h => h, fun _ _ _ => rfl, fun _ c e fr h => ⟨c, e, fr, h, rfl⟩, fun _ _ h => .inl h, ?_⟩
  rintro k hk ⟨i, x, base, h1, o, h2⟩
  exact ⟨i, x, base, on i x h1 o, o, h2⟩

/-- A new block of cells that were read. -/
theorem RH.alloc_cells {h : List HB} (H : RH ρ I w h) {e : TypeId} {cs : List V} {arr rest : Array Value} (hl : arr.size = cs.length) (hv : RVs ρ I w cs arr) :
    RH (ρ ++ [(w.heap.size, 0)]) I (w.alloc (.cells (arr ++ rest) e)) (h ++ [.live cs]) ∧ Keep h ρ I w (h ++ [.live cs]) (ρ ++ [(w.heap.size, 0)]) I (w.alloc (.cells (arr ++ rest) e)) :=
  H.alloc (by simp; omega) fun j v hj => by
    obtain ⟨z, hz, hr⟩ := hv.left (b := rest) j v hj
    exact ⟨z, hz, hr⟩

theorem rv_new {h : List HB} (H : RH ρ I w h) {arr : Array Value} {e : TypeId} {len cap rcap z : Nat} (h1 : len ≤ cap) (h2 : cap ≤ rcap) (h3 : rcap * z ≤ arr.size) :
    RV (ρ ++ [(w.heap.size, 0)]) I (w.alloc (.cells arr e)) (.slc h.length 0 z len cap) (.slice (some ⟨w.heap.size, 0, none⟩) len rcap) :=
  .slc (rb := w.heap.size) (base := 0) (c := arr) (e := e) (fr := (0, 0)) (by rw [← H.len]; simp) h1 h2 (show (w.heap.push _)[w.heap.size]? = _ from by simp) (by omega)

theorem splice_cons (vs : List V) : ∀ (c : V) (cs : List V) (o : Nat), splice (c :: cs) (o + 1) vs = c :: splice cs o vs := by
  induction vs with
  | nil => intro c cs o; rfl
  | cons v vs ih => intro c cs o; simp only [splice, List.set_cons_succ]; exact ih _ _ _
theorem splice_zero (vs : List V) : ∀ (bs : List V), bs.length = vs.length → splice bs 0 vs = vs := by
  induction vs with
  | nil => intro bs h; exact (List.length_eq_zero_iff.1 (by simpa using h) : bs = [])
  | cons v vs ih =>
    intro bs h
    cases bs with
    | nil => simp at h
    | cons b bs => simp only [splice, List.set_cons_zero]; rw [splice_cons, ih _ (by simpa using h)]
theorem splice_append (as bs vs : List V) (h : bs.length = vs.length) : splice (as ++ bs) as.length vs = as ++ vs := by
  induction as with
  | nil => exact splice_zero vs bs h
  | cons a as ih => simp only [List.cons_append, List.length_cons]; rw [splice_cons, ih]

theorem size_zero (z : Array Value) (n : Nat) : (Builtin.zeroCells z n).size = n * z.size := by simp [Builtin.zeroCells]

theorem run_append (T : TyOK P ty) {h : List HB} (H : RH ρ I w h) {argTypes : Array TypeId} {tyid t0 t1 e : TypeId} {i0 i1 : Ty} (h0 : argTypes[0]? = some t0) (h1 : argTypes[1]? = some t1) (ht0 : ty t0 = some i0) (ht1 : ty t1 = some i1)
    (hd0 : i0.desc = .slice e) (hd1 : (∃ q, i1.desc = .slice q) ∨ i1.desc = .string) {s x : V} {sv xv : Value} (hs : RV ρ I w s sv) (hx : RV ρ I w x xv) {p : Prop} {v : V} {h' : List HB} (hr : aAppend ty e s x h = some (p, v, h')) (hp : p) :
    ∃ z w' ρ' I', (Builtin.append_ argTypes tyid #[sv, xv]).run P w = .ok z w' ∧ RV ρ' I' w' v z ∧ RH ρ' I' w' h' ∧ Keep h ρ I w h' ρ' I' w' := by
  unfold aAppend at hr
  split at hr
  · rename_i i n xs hi hn hxs
    obtain ⟨_, ti, z, q1, q2, q3, q4, q5, q6, _⟩ := T e i hi
    have hu0 := (T t0 i0 ht0).1
    have hu1 := (T t1 i1 ht1).1
    rw [hd0] at hu0
    have hzs : z.cells.size = i.size := by
      have := congrArg List.length q5
      rw [q6] at this; simpa using this.symm
    -- what a new block holds
    have fresh : ∀ {w1 : World} {cs : List V} {arr news : Array Value} {nc len : Nat}, w1.heap = w.heap → RVs ρ I w1 cs arr → arr.size = cs.length → RVs ρ I w1 xs news → news.size = xs.length → True := fun _ _ _ _ _ => trivial
    clear fresh
    split at hr
    · -- a nil slice
      simp only [Option.some.injEq, Prod.mk.injEq] at hr
      obtain ⟨rfl, rfl, rfl⟩ := hr
      obtain ⟨⟨hl, hone⟩, hb, hby⟩ := hp
      cases hs
      obtain ⟨news, hnew, hns, hnv⟩ := read_slice (P := P) H hx hxs hn (size := ti.size) (by rw [q2]; exact hl)
      obtain ⟨k1, k2⟩ := append_core (P := P) (w := w) (tyid := tyid) h0 h1 hu0 hu1 hd1 q1 q4 none 0 0 n xv (fun w => run_lenOf hx hn w) news #[] hnew (fun w' _ => rfl) (by rw [q3]; exact hb) (by rw [q3]; simpa using hby)
      by_cases hn0 : n = 0
      · subst hn0
        refine ⟨_, w, ρ, I, by rw [k1 (by omega)]; rfl, ?_, by simpa using H, by simpa using Keep.refl _ _ _ _⟩
        exact .nils
      · obtain ⟨nc, hnc, hrun⟩ := k2 (by omega)
        rw [if_neg hn0, if_neg hn0]
        obtain ⟨H2, K2⟩ := H.drew.alloc_cells (e := e) (arr := news) (rest := Builtin.zeroCells z.cells (nc - (0 + n))) hns (RVs.ext ((Keep.drew h ρ I w).ext H) hnv)
        have he : #[] ++ news = news := by simp
        rw [he] at hrun
        refine ⟨_, w.drew.alloc (.cells (news ++ Builtin.zeroCells z.cells (nc - (0 + n))) e), ρ ++ [(w.heap.size, 0)], I, hrun, ?_, H2, (Keep.drew h ρ I w).trans K2⟩
        rw [Nat.zero_add] at hnc ⊢
        refine rv_new (w := w.drew) H.drew (Nat.le_refl _) hnc ?_
        simp only [Nat.zero_add, Array.size_append, size_zero, hzs, hns, hl]
        rw [← Nat.add_mul]; exact Nat.mul_le_mul_right _ (by omega)
    · -- a slice of the call's own
      rename_i b o zz len cap
      split at hr
      · rename_i cs hbk
        simp only [Option.some.injEq, Prod.mk.injEq] at hr
        obtain ⟨rfl, rfl, rfl⟩ := hr
        obtain ⟨⟨hl, hone⟩, rfl, hcov, hb, hby⟩ := hp
        obtain ⟨news, hnew, hns, hnv⟩ := read_slice (P := P) H hx hxs hn (size := ti.size) (by rw [q2]; exact hl)
        have hlo : (cs.drop o).length = len * i.size := by simp; omega
        have hcs : cellsOf h (.slc b o i.size len cap) = some (cs.drop o) := by
          simp only [cellsOf, hbk]; rw [List.take_of_length_le (by omega)]
        obtain ⟨olds, hold, hos, hov⟩ := read_slice (P := P) H hs hcs rfl (size := ti.size) (by rw [q2]; exact hlo)
        obtain ⟨rb, base, c, e', fr, g1, g2, g3, g4, g5, g6⟩ := H.row b cs hbk
        cases hs with
        | slc hp1 hp2 hp3 hp4 hp5 =>
          rename_i rb' base' rcap c' e'' fr'
          rw [g1] at hp1; cases hp1
          rw [g2] at hp4; cases hp4
          obtain ⟨k1, k2⟩ := append_core (P := P) (w := w) (tyid := tyid) h0 h1 hu0 hu1 hd1 q1 q4 (some ⟨rb, base + o, none⟩) len rcap n xv (fun w => run_lenOf hx hn w) news olds hnew hold (by rw [q3]; exact hb) (by rw [q3]; exact hby)
          obtain ⟨HD, KD⟩ := H.die b
          have hbl : b < h.length := (List.getElem?_eq_some_iff.1 hbk).1
          by_cases hle : len + n ≤ rcap
          · -- in place: the block lives on under a new number
            have hneed : base + o + (len + n) * i.size ≤ c.size := by
              have := Nat.mul_le_mul_right i.size hle; omega
            have hH3 : RH (ρ ++ [(rb, base + o)]) I w ((h.set b .dead) ++ [.live (cs.drop o ++ List.replicate (n * i.size) V.any)]) ∧ Keep h ρ I w ((h.set b .dead) ++ [.live (cs.drop o ++ List.replicate (n * i.size) V.any)]) (ρ ++ [(rb, base + o)]) I w := by
              have X : Ext ρ I w (ρ ++ [(rb, base + o)]) I w := ⟨fun i p hp => getElem?_append_some hp, fun _ h => h, fun _ _ => rfl, fun _ c e fr h => ⟨c, e, fr, h, rfl⟩⟩
              have inv : ∀ (j : Nat) (q : List V), ((h.set b .dead) ++ [HB.live (cs.drop o ++ List.replicate (n * i.size) V.any)])[j]? = some (.live q) → (j ≠ b ∧ j < h.length ∧ h[j]? = some (.live q)) ∨ (j = h.length ∧ q = (cs.drop o ++ List.replicate (n * i.size) V.any)) := by
                intro j q hj
                rcases Nat.lt_trichotomy j h.length with hlt | rfl | hgt
                · rw [List.getElem?_append_left (by simpa using hlt)] at hj
                  by_cases e : b = j
                  · subst e; rw [List.getElem?_set_self hbl] at hj; cases hj
                  · rw [List.getElem?_set_ne e] at hj; exact .inl ⟨fun h => e h.symm, hlt, hj⟩
                · rw [List.getElem?_append_right (by simp)] at hj; simp at hj; exact .inr ⟨rfl, hj.symm⟩
                · rw [List.getElem?_eq_none (by simp; omega)] at hj; cases hj
              have invo : ∀ (j : Nat) (q : HB), ((h.set b .dead) ++ [HB.live (cs.drop o ++ List.replicate (n * i.size) V.any)])[j]? = some q → q.on → (j ≠ b ∧ j < h.length ∧ h[j]? = some q) ∨ j = h.length := by
                intro j q hj hq
                rcases on_app hj with ⟨hj, hlt⟩ | ⟨e, _⟩
                · rcases on_set hj hq with ⟨e, hj⟩ | ⟨_, rfl, _⟩
                  · exact .inl ⟨e, by simpa using hlt, hj⟩
                  · exact hq.elim
                · exact .inr (by simpa using e)
              have rinv : ∀ (j : Nat) (p : Nat × Nat), (ρ ++ [(rb, base + o)])[j]? = some p → j < h.length → ρ[j]? = some p := by
                intro j p hp hj; rwa [List.getElem?_append_left (by rw [H.len]; exact hj)] at hp
              have rnew : ∀ (p : Nat × Nat), (ρ ++ [(rb, base + o)])[h.length]? = some p → p = (rb, base + o) := by
                intro p hp; rw [← H.len] at hp; simp at hp; exact hp.symm
              constructor
              · refine ⟨by simp [H.len], ?_, ?_, H.imlt, H.lp.ext X (fun _ _ _ hi => ⟨rfl, hi⟩) (fun i L hi => lp_set (by intro L e; cases e) i L (lp_app (by intro L e; cases e) i L hi))⟩
                · intro j q hj
                  rcases inv j q hj with ⟨hne, hlt, hj'⟩ | ⟨rfl, rfl⟩
                  · obtain ⟨rb2, base2, c2, e2, fr2, m1, m2, m3, m4, m5, m6⟩ := H.row j q hj'
                    exact ⟨rb2, base2, c2, e2, fr2, X.rho _ _ m1, m2, m3, fun k u hu => by obtain ⟨y, hy, hr⟩ := m4 k u hu; exact ⟨y, hy, hr.ext X⟩, m5, m6⟩
                  · have hlen : (cs.drop o ++ List.replicate (n * i.size) V.any).length = (len + n) * i.size := by
                      rw [List.length_append, hlo, List.length_replicate, Nat.add_mul]
                    refine ⟨rb, base + o, c, e', fr, by rw [← H.len]; simp, g2, by rw [hlen]; exact hneed, fun k u hu => ?_, fun k k1 k2 => g5 k (by omega) k2, g6⟩
                    rcases Nat.lt_or_ge k (cs.drop o).length with hk | hk
                    · rw [List.getElem?_append_left hk, List.getElem?_drop] at hu
                      obtain ⟨y, hy, hr⟩ := g4 _ u hu
                      exact ⟨y, by rw [Nat.add_assoc]; exact hy, hr.ext X⟩
                    · have hkl : k < (len + n) * i.size := by rw [← hlen]; exact (List.getElem?_eq_some_iff.1 hu).1
                      rw [List.getElem?_append_right hk] at hu
                      have hu' : u = .any := by
                        rw [List.getElem?_replicate] at hu
                        split at hu
                        · exact (Option.some.inj hu).symm
                        · cases hu
                      subst hu'
                      exact ⟨_, Array.getElem?_eq_getElem (by omega), .any _⟩
                · intro j1 j2 q1 q2 rb2 b1 b2 hj1 o1 hj2 o2 m1 m2
                  rcases invo j1 q1 hj1 o1 with ⟨n1, l1, hj1'⟩ | e1
                  · rcases invo j2 q2 hj2 o2 with ⟨n2, l2, hj2'⟩ | e2
                    · exact H.inj j1 j2 q1 q2 rb2 b1 b2 hj1' o1 hj2' o2 (rinv _ _ m1 l1) (rinv _ _ m2 l2)
                    · subst e2
                      have := rnew _ m2; cases this
                      exact absurd (H.inj j1 b q1 _ rb b1 base hj1' o1 hbk trivial (rinv _ _ m1 l1) g1) n1
                  · rcases invo j2 q2 hj2 o2 with ⟨n2, l2, hj2'⟩ | e2
                    · subst e1
                      have := rnew _ m1; cases this
                      exact absurd (H.inj j2 b q2 _ rb b2 base hj2' o2 hbk trivial (rinv _ _ m2 l2) g1) n2
                    · rw [e1, e2]
              · refine ⟨rfl, rfl, rfl, Nat.le_refl _, X.rho, fun _ h => h, fun _ _ _ => rfl, X.sz, fun _ _ h => .inl h, ?_⟩
                rintro k hk ⟨j, q, base2, hj, o, m1⟩
                rcases invo j q hj o with ⟨_, l1, hj'⟩ | e1
                · exact ⟨j, q, base2, hj', o, rinv _ _ m1 l1⟩
                · subst e1
                  have := rnew _ m1; cases this
                  exact live_row hbk g1
            obtain ⟨H3, K3⟩ := hH3
            have X3 := K3.ext H
            have hlb : ((h.set b .dead) ++ [HB.live (cs.drop o ++ List.replicate (n * i.size) V.any)])[h.length]? = some (.live (cs.drop o ++ List.replicate (n * i.size) V.any)) := by
              rw [List.getElem?_append_right (by simp)]; simp
            have hrho : (ρ ++ [(rb, base + o)])[h.length]? = some (rb, base + o) := by rw [← H.len]; simp
            obtain ⟨w', hr, H4, K4⟩ := RH.sets (P := P) xs news.toList H3 hlb hrho (o := len * i.size) (by rw [List.length_append, hlo, List.length_replicate, hl]; omega) (by simpa using hns)
              (fun j u x hu hx => by
                obtain ⟨y, hy, hr⟩ := hnv j u hu
                have : y = x := by rw [Array.getElem?_toList] at hx; rw [hy] at hx; exact Option.some.inj hx
                subst this; exact hr.ext X3) hone (base + o + len * i.size) 0 (by omega)
            rw [show len * i.size = (cs.drop o).length from hlo.symm, splice_append _ _ _ (by rw [List.length_replicate, hl]),
              show h.length = (h.set b HB.dead).length from by simp, List.set_append_right _ _ (Nat.le_refl _), Nat.sub_self, List.set_cons_zero] at H4 K4
            have hrun := k1 hle
            rw [q2] at hrun
            simp only [behind, addr_add] at hrun
            rw [hr] at hrun
            refine ⟨_, w', _, _, hrun, ?_, H4, K3.trans K4⟩
            obtain ⟨c', e2, fr', hc', hcs'⟩ := K4.sz _ _ _ _ g2
            exact .slc (base := base + o) hrho (Nat.le_refl _) hle hc' (by rw [hcs']; omega)
          · obtain ⟨nc, hnc, hrun⟩ := k2 (by omega)
            have X1 := (Keep.drew h ρ I w).ext H
            have HD1 : RH ρ I w.drew (h.set b .dead) := HD.drew
            obtain ⟨H2, K2⟩ := HD1.alloc_cells (e := e) (arr := olds ++ news) (rest := Builtin.zeroCells z.cells (nc - (len + n))) (cs := cs.drop o ++ xs) (by simp only [Array.size_append, List.length_append]; omega) (RVs.append (RVs.ext X1 hov) hos (RVs.ext X1 hnv))
            refine ⟨_, w.drew.alloc (.cells (olds ++ news ++ Builtin.zeroCells z.cells (nc - (len + n))) e), ρ ++ [(w.heap.size, 0)], I, hrun, ?_, H2, (KD.trans (Keep.drew _ ρ I w)).trans K2⟩
            refine rv_new (w := w.drew) H.drew (Nat.le_refl _) hnc ?_
            simp only [Nat.zero_add, Array.size_append, size_zero, hzs, hns, hos, hlo, hl]
            rw [← Nat.add_mul, ← Nat.add_mul]; exact Nat.mul_le_mul_right _ (by omega)
      · cases hr
    · -- a slice that came in, with no room
      rename_i cs len
      simp only [Option.some.injEq, Prod.mk.injEq] at hr
      obtain ⟨rfl, rfl, rfl⟩ := hr
      obtain ⟨⟨hl, hone⟩, hcl, hb, hby⟩ := hp
      obtain ⟨news, hnew, hns, hnv⟩ := read_slice (P := P) H hx hxs hn (size := ti.size) (by rw [q2]; exact hl)
      obtain ⟨olds, hold, hos, hov⟩ := read_slice (P := P) H hs (cs := cs) rfl rfl (size := ti.size) (by rw [q2]; exact hcl)
      cases hs with
      | vecn oa =>
        obtain ⟨k1, k2⟩ := append_core (P := P) (w := w) (tyid := tyid) h0 h1 hu0 hu1 hd1 q1 q4 oa 0 0 n xv (fun w => run_lenOf hx hn w) news #[] hnew (fun w' _ => by cases oa <;> simp only [Builtin.firstCells, Nat.zero_mul] <;> rfl) (by rw [q3]; exact hb) (by rw [q3]; simpa using hby)
        by_cases hn0 : n = 0
        · subst hn0
          have hn0 : news = #[] := Array.eq_empty_of_size_eq_zero (by rw [hns, hl]; simp)
          refine ⟨.slice oa 0 0, w, ρ, I, by rw [k1 (by omega), hn0]; cases oa <;> rfl, ?_, by simpa using H, by simpa using Keep.refl _ _ _ _⟩
          exact .vecn _ _
        · obtain ⟨nc, hnc, hrun⟩ := k2 (by omega)
          rw [if_neg hn0, if_neg hn0]
          obtain ⟨H2, K2⟩ := H.drew.alloc_cells (e := e) (arr := news) (rest := Builtin.zeroCells z.cells (nc - (0 + n))) hns (RVs.ext ((Keep.drew h ρ I w).ext H) hnv)
          have he : #[] ++ news = news := by simp
          rw [he] at hrun
          refine ⟨_, w.drew.alloc (.cells (news ++ Builtin.zeroCells z.cells (nc - (0 + n))) e), ρ ++ [(w.heap.size, 0)], I, hrun, ?_, H2, (Keep.drew h ρ I w).trans K2⟩
          refine rv_new (w := w.drew) H.drew (Nat.le_refl _) hnc ?_
          simp only [Array.size_append, size_zero, hzs, hns, hl]
          rw [← Nat.add_mul]; exact Nat.mul_le_mul_right _ (by omega)
      | vec f hI hcell hv hp1 hp2 =>
        rename_i rb off rcap
        have := hp2 rfl
        subst this
        obtain ⟨k1, k2⟩ := append_core (P := P) (w := w) (tyid := tyid) h0 h1 hu0 hu1 hd1 q1 q4 (some ⟨rb, off, none⟩) rcap rcap n xv (fun w => run_lenOf hx hn w) news olds hnew hold (by rw [q3]; exact hb) (by rw [q3]; exact hby)
        by_cases hn0 : n = 0
        · subst hn0
          have hn0 : news = #[] := Array.eq_empty_of_size_eq_zero (by rw [hns, hl]; simp)
          refine ⟨_, w, ρ, I, by rw [k1 (by omega), hn0]; rfl, ?_, by simpa using H, by simpa using Keep.refl _ _ _ _⟩
          simp only [if_true, Nat.add_zero]
          exact .vec f hI hcell hv hp1 hp2
        · obtain ⟨nc, hnc, hrun⟩ := k2 (by omega)
          rw [if_neg hn0, if_neg hn0]
          have X1 := (Keep.drew h ρ I w).ext H
          obtain ⟨H2, K2⟩ := H.drew.alloc_cells (e := e) (arr := olds ++ news) (rest := Builtin.zeroCells z.cells (nc - (rcap + n))) (cs := cs ++ xs) (by simp only [Array.size_append, List.length_append]; omega) (RVs.append (RVs.ext X1 hov) hos (RVs.ext X1 hnv))
          refine ⟨_, w.drew.alloc (.cells (olds ++ news ++ Builtin.zeroCells z.cells (nc - (rcap + n))) e), ρ ++ [(w.heap.size, 0)], I, hrun, ?_, H2, (Keep.drew _ ρ I w).trans K2⟩
          refine rv_new (w := w.drew) H.drew (Nat.le_refl _) hnc ?_
          simp only [Nat.zero_add, Array.size_append, size_zero, hzs, hns, hos, hcl, hl]
          rw [← Nat.add_mul, ← Nat.add_mul]; exact Nat.mul_le_mul_right _ (by omega)
    · cases hr
  · cases hr
end
end Go.Abs
