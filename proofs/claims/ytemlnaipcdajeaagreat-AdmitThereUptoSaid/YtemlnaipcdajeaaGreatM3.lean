/- The abstract machine, part 4c: slicing, making, building, lengths are the model's. -/
import Derived.Test.YtemlnaipcdajeaaGreatM2
import Derived.RangeFuncRecord
set_option linter.unusedVariables false
set_option linter.unusedSimpArgs false
namespace Go.Abs
open Go Go.RowKit

section
variable {P : Program} {ty : Tab} {ρ : Rho} {I : Nat → Prop} {w : World}

/-! ### Lengths -/

theorem run_len {ats : Array TypeId} {tid at0 : TypeId} {i : Ty} (T : TyOK P ty) (ha : ats[0]? = some at0) (hi : ty at0 = some i) {x v : V} (hr : aLen i.desc x = some v) {y : Value} (hx : RV ρ I w x y) :
    ∃ z, (Builtin.len_ ats tid #[y]).run P w = .ok z w ∧ RV ρ I w v z := by
  have h1 : (#[y] : Array Value)[0]? = some y := rfl
  unfold aLen at hr
  simp only [Builtin.len_, ha, h1, Sem.run_bind, run_und T hi, Result.andThen_ok]
  split at hr
  · rename_i hd
    simp only [Option.some.injEq] at hr; subst hr
    cases hx
    exact ⟨_, by simp [hd, goInt], .int _ _⟩
  · rename_i hd
    split at hr
    · simp only [Option.some.injEq] at hr; subst hr
      cases hx <;> exact ⟨_, by simp [hd, goInt], .int _ _⟩
    · simp only [Option.some.injEq] at hr; subst hr
      cases hx <;> exact ⟨_, by simp [hd, goInt], .int _ _⟩
    · simp only [Option.some.injEq] at hr; subst hr
      cases hx <;> exact ⟨_, by simp [hd, goInt], .int _ _⟩
    · cases hr
  · rename_i hd
    simp only [Option.some.injEq] at hr; subst hr
    exact ⟨_, by simp [hd, goInt], .int _ _⟩
  · cases hr

/-! ### Bytes -/

theorem bytesOf_rel {cs : List V} : ∀ {bs : List UInt8} {l : List Value}, bytesOf cs = some bs → l.length = cs.length → (∀ (i : Nat) (v : V) (x : Value), cs[i]? = some v → l[i]? = some x → RV ρ I w v x) →
    ∃ bs' : List Int, l = bs'.map (fun n => Value.int .u8 n) ∧ bs = bs'.map fun n => UInt8.ofNat n.toNat := by
  induction cs with
  | nil =>
    intro bs l h hl _
    simp only [bytesOf, Option.some.injEq] at h; subst h
    exact ⟨[], by simpa using hl, rfl⟩
  | cons c cs ih =>
    intro bs l h hl hv
    cases l with
    | nil => simp at hl
    | cons x l =>
      have h0 := hv 0 c x rfl rfl
      cases c with
      | int k n =>
        cases k with
        | u8 =>
          simp only [bytesOf] at h
          cases hb : bytesOf cs with
          | none => simp [hb] at h
          | some bs2 =>
            simp [hb] at h; subst h
            cases h0
            obtain ⟨bs', rfl, rfl⟩ := ih hb (by simpa using hl) (fun i v x h1 h2 => hv (i + 1) v x (by simpa using h1) (by simpa using h2))
            exact ⟨n :: bs', rfl, rfl⟩
        | _ => simp [bytesOf] at h
      | _ => simp [bytesOf] at h

theorem ints_loop {P : Program} {w : World} : ∀ (bs : List Int) (acc : ByteArray) (f : Value → ByteArray → Sem (ForInStep ByteArray)),
    (∀ (n : Int) (s : ByteArray) (w : World), (f (.int .u8 n) s).run P w = .ok (.yield (s.push (UInt8.ofNat n.toNat))) w) →
    (forIn (m := Sem) (bs.map fun n => Value.int .u8 n) acc f).run P w = .ok (acc ++ ⟨(bs.map fun n => UInt8.ofNat n.toNat).toArray⟩) w := by
  intro bs
  induction bs with
  | nil =>
    intro acc f hf
    have : acc ++ ⟨#[]⟩ = acc := by apply ByteArray.ext; simp
    simp [this]
  | cons b bs ih =>
    intro acc f hf
    simp only [List.map_cons, List.forIn_cons, Sem.run_bind, hf, Result.andThen_ok]
    rw [ih _ f hf]
    congr 1
    apply ByteArray.ext
    simp

theorem run_toStr {h : List HB} (H : RH ρ I w h) {x : V} {p : Prop} {v : V} {h' : List HB} (hr : aToStr x h = some (p, v, h')) (hp : p) {y : Value} (hx : RV ρ I w x y) :
    h' = h ∧ ∃ z, (Conv.bytesToString y).run P w = .ok z w ∧ RV ρ I w v z := by
  unfold aToStr at hr
  split at hr
  · cases hr
  · rename_i n cs hns hn hc
    split at hr
    · rename_i bs hbs
      simp only [Option.some.injEq, Prod.mk.injEq] at hr
      obtain ⟨rfl, rfl, rfl⟩ := hr
      refine ⟨rfl, .string ⟨bs.toArray⟩, ?_, .str _⟩
      obtain ⟨arr, ha, hs, hv⟩ := read_slice (P := P) H hx hc hn (size := 1) (by omega)
      have key : ∀ a cap, y = .slice (some a) n cap → (Conv.bytesToString y).run P w = .ok (.string ⟨bs.toArray⟩) w := by
        rintro a cap rfl
        have ha := ha w rfl
        simp only [Builtin.firstCells, Nat.mul_one] at ha
        obtain ⟨bs', e1, e2⟩ := bytesOf_rel hbs (l := arr.toList) (by simp; omega) (fun i v x h1 h2 => by
          obtain ⟨z, hz, hr⟩ := hv i v h1
          rw [Array.getElem?_toList, hz] at h2; cases h2; exact hr)
        simp only [Conv.bytesToString, Sem.run_bind, ha, Result.andThen_ok]
        rw [← Array.forIn_toList, e1, ints_loop bs' _ _ (fun n s w => rfl), e2]
        simp
      cases hx with
      | nils =>
        simp only [cellsOf, Option.some.injEq] at hc; subst hc
        simp only [bytesOf, Option.some.injEq] at hbs; subst hbs
        rfl
      | vecn x =>
        simp only [cellsOf, Option.some.injEq] at hc; subst hc
        simp only [bytesOf, Option.some.injEq] at hbs; subst hbs
        cases x <;> rfl
      | str s => exact absurd rfl (hns s)
      | slc =>
        simp only [lenOfV, Option.some.injEq] at hn; subst hn
        exact key _ _ rfl
      | vec =>
        simp only [lenOfV, Option.some.injEq] at hn; subst hn
        exact key _ _ rfl
      | _ => simp [lenOfV] at hn
    · cases hr
  · cases hr

/-! ### Parts of slices -/

theorem optInt_rv {lo : Option V} {d n : Int} (h : optInt lo d = some n) {y : Option Value} (hy : ∀ v, lo = some v → ∃ x, y = some x ∧ RV ρ I w v x) (hn : lo = none → y = none) :
    (lo = none ∧ y = none ∧ n = d) ∨ ∃ k, y = some (.int k n) := by
  cases lo with
  | none => simp only [optInt, Option.some.injEq] at h; exact .inl ⟨rfl, hn rfl, h.symm⟩
  | some v =>
    obtain ⟨x, rfl, hr⟩ := hy v rfl
    cases v with
    | int k m =>
      simp only [optInt, Option.some.injEq] at h; subst h
      cases hr
      exact .inr ⟨k, rfl⟩
    | _ => simp [optInt] at h

/-- A bound that is read. -/
def OB (y : Option Value) (d n : Int) : Prop := (y = none ∧ n = d) ∨ ∃ k, y = some (.int k n)

theorem ob {lo : Option V} {d n : Int} (h : optInt lo d = some n) {y : Option Value} (hy : ∀ v, lo = some v → ∃ x, y = some x ∧ RV ρ I w v x) (hn : lo = none → y = none) : OB y d n := by
  rcases optInt_rv h hy hn with ⟨_, h1, h2⟩ | h
  · exact .inl ⟨h1, h2⟩
  · exact .inr h

theorem bounds2 {isS : Bool} {len cap : Nat} {lo hi : Option Value} {l r : Int} (hl : OB lo 0 l) (hr : OB hi len r) (h0 : 0 ≤ l) (h1 : l ≤ r) (h2 : r ≤ cap) (w : World) :
    (Instr.sliceBounds isS len cap lo hi none).run P w = .ok (l.toNat, r.toNat, cap) w := by
  have e1 : (0 : Int) ≤ r := by omega
  rcases hl with ⟨rfl, rfl⟩ | ⟨k, rfl⟩ <;> rcases hr with ⟨rfl, rfl⟩ | ⟨k', rfl⟩
  · simp [Instr.sliceBounds]
  · simp [Instr.sliceBounds, Instr.sliceBound, asIntOf, e1, h2]
  · have e2 : l ≤ len := h1
    simp [Instr.sliceBounds, Instr.sliceBound, asIntOf, h0, e2]
  · have e2 : l ≤ max r 0 := by omega
    simp [Instr.sliceBounds, Instr.sliceBound, asIntOf, e1, h2, h0, e2]

theorem bounds3 {isS : Bool} {len cap : Nat} {lo hi : Option Value} {l r m : Int} {k : IntKind} (hl : OB lo 0 l) (hr : ∃ k, hi = some (.int k r)) (h0 : 0 ≤ l) (h1 : l ≤ r) (h2 : r ≤ m) (h3 : m ≤ cap) (w : World) :
    (Instr.sliceBounds isS len cap lo hi (some (.int k m))).run P w = .ok (l.toNat, r.toNat, m.toNat) w := by
  have e0 : (0 : Int) ≤ m := by omega
  have e1 : (0 : Int) ≤ r := by omega
  have e2 : l ≤ max r 0 := by omega
  have e3 : r ≤ max m 0 := by omega
  obtain ⟨k', rfl⟩ := hr
  rcases hl with ⟨rfl, rfl⟩ | ⟨k2, rfl⟩
  · simp [Instr.sliceBounds, Instr.sliceBound, asIntOf, e0, e1, h3, e3]
  · simp [Instr.sliceBounds, Instr.sliceBound, asIntOf, e0, e1, h3, e3, h0, e2]

theorem run_slice (T : TyOK P ty) {xt : TypeId} {d : Ty} (hd : ty xt = some d) {x : V} {lo hi mx : Option V} {h : List HB} (H : RH ρ I w h) {p : Prop} {v : V} {h' : List HB} (hr : aSlice ty d.desc x lo hi mx h = some (p, v, h')) (hp : p)
    {y : Value} {lo' hi' mx' : Option Value} (hx : RV ρ I w x y) (hlo : ∀ v, lo = some v → ∃ x, lo' = some x ∧ RV ρ I w v x) (nlo : lo = none → lo' = none)
    (hhi : ∀ v, hi = some v → ∃ x, hi' = some x ∧ RV ρ I w v x) (nhi : hi = none → hi' = none) (hmx : ∀ v, mx = some v → ∃ x, mx' = some x ∧ RV ρ I w v x) (nmx : mx = none → mx' = none) :
    h' = h ∧ ∃ z, (Instr.sliceAt xt y lo' hi' mx').run P w = .ok z w ∧ RV ρ I w v z := by
  have und := run_und T hd w
  simp only [Instr.sliceAt, Sem.run_bind, und, Result.andThen_ok]
  unfold aSlice at hr
  split at hr
  · -- a string
    rename_i s hde
    split at hr
    · rename_i l r hl hr'
      simp only [Option.some.injEq, Prod.mk.injEq] at hr
      obtain ⟨rfl, rfl, rfl⟩ := hr
      cases hx
      rw [nmx rfl]
      refine ⟨rfl, _, ?_, .str _⟩
      simp only [hde, Instr.slice, Sem.run_bind, und, Result.andThen_ok, Option.isSome_none, Bool.false_eq_true, if_false, Sem.run_pure, bounds2 (P := P) (ob hl hlo nlo) (ob hr' hhi nhi) hp.1 hp.2.1 hp.2.2]
    · cases hr
  · -- a slice of the call's own
    rename_i e b o z len cap hde
    split at hr
    · rename_i i l r he hl hr'
      simp only [Option.some.injEq, Prod.mk.injEq] at hr
      obtain ⟨rfl, rfl, rfl⟩ := hr
      obtain ⟨⟨q0, q1, q2⟩, rfl, q3⟩ := hp
      rw [nmx rfl]
      cases hx with
      | slc hb h1 h2 hbk hs =>
        rename_i rb base rcap c e2 fr
        refine ⟨rfl, .slice (some ⟨rb, base + (o + l.toNat * i.size), none⟩) (r.toNat - l.toNat) (rcap - l.toNat), ?_, ?_⟩
        · simp only [hde, Instr.slice, Sem.run_bind, und, Result.andThen_ok, Sem.run_pure, bounds2 (P := P) (cap := rcap) (ob hl hlo nlo) (ob hr' hhi nhi) q0 q1 (by omega), run_size T he]
          congr 2
          split
          · rename_i e3
            rcases q3 with rfl | q3
            · simp
            · omega
          · simp [addr_add, Nat.add_assoc]
        · refine .slc hb (by omega) (by omega) hbk ?_
          have : (rcap - l.toNat) * i.size + l.toNat * i.size = rcap * i.size := by rw [← Nat.add_mul]; congr 1; omega
          omega
    · cases hr
  · -- a slice that came in
    rename_i e cs len q hde
    split at hr
    · rename_i i l r he hl hr'
      simp only [Option.some.injEq, Prod.mk.injEq] at hr
      obtain ⟨rfl, rfl, rfl⟩ := hr
      obtain ⟨⟨q0, q1, q2⟩, q3⟩ := hp
      rw [nmx rfl]
      cases hx with
      | vecn q =>
        have hl0 : l = 0 := by omega
        have hr0 : r = 0 := by omega
        subst hl0; subst hr0
        refine ⟨rfl, .slice q 0 0, ?_, ?_⟩
        · simp [hde, Instr.slice, Sem.run_bind, und, Result.andThen_ok, Sem.run_pure, bounds2 (P := P) (cap := 0) (len := 0) (ob hl hlo nlo) (ob hr' hhi nhi) (Int.le_refl _) (Int.le_refl _) (by simp), run_size T he]
        · simpa using RV.vecn (ρ := ρ) (I := I) (w := w) q false
      | vec f hI hc hv h1 h2 =>
        rename_i rb off rcap
        refine ⟨rfl, .slice (some (if rcap = l.toNat then ⟨rb, off, none⟩ else ⟨rb, off + l.toNat * i.size, none⟩)) (r.toNat - l.toNat) (rcap - l.toNat), ?_, ?_⟩
        · simp only [hde, Instr.slice, Sem.run_bind, und, Result.andThen_ok, Sem.run_pure, bounds2 (P := P) (cap := rcap) (ob hl hlo nlo) (ob hr' hhi nhi) q0 q1 (by omega), run_size T he]
          congr 2
          split <;> simp [addr_add]
        · have hlen : ((cs.drop (l.toNat * i.size)).take ((r.toNat - l.toNat) * i.size)).length ≤ (r.toNat - l.toNat) * i.size := by simp; omega
          split
          · have hz : r.toNat - l.toNat = 0 := by omega
            rw [hz] at hlen
            have : ((cs.drop (l.toNat * i.size)).take ((r.toNat - l.toNat) * i.size)) = [] := by rw [hz]; simp
            rw [this]
            exact .vec f hI (by simp) (by simp) (by omega) (by simp)
          · refine .vec (fun j => f (l.toNat * i.size + j)) hI (fun j hj => ?_) (fun j u hu => ?_) (by omega) (by simp)
            · rw [Nat.add_assoc]
              refine hc _ ?_
              simp only [List.length_take, List.length_drop] at hj; omega
            · refine hv _ u ?_
              rw [List.getElem?_take] at hu
              split at hu
              · rw [List.getElem?_drop] at hu; exact hu
              · cases hu
    · rename_i i l r m he hl hr'
      split at hr
      · rename_i m' hm
        simp only [Option.some.injEq, Prod.mk.injEq] at hr
        obtain ⟨rfl, rfl, rfl⟩ := hr
        obtain ⟨⟨q0, q1, q2, q4⟩, q3, q5⟩ := hp
        obtain ⟨hv', rfl⟩ := Option.isSome_iff_exists.1 q5
        rcases ob hm hmx nmx with ⟨_, _⟩ | ⟨k, hk⟩
        · obtain ⟨x', hx', _⟩ := hmx _ rfl; simp_all
        · rcases ob hr' hhi nhi with ⟨h3, _⟩ | hk2
          · obtain ⟨x', hx', _⟩ := hhi _ rfl; simp_all
          rw [hk]
          cases hx with
          | vecn q =>
            have hl0 : l = 0 := by omega
            have hr0 : r = 0 := by omega
            have hm0 : m' = 0 := by omega
            subst hl0; subst hr0; subst hm0
            refine ⟨rfl, .slice q 0 0, ?_, ?_⟩
            · simp [hde, Instr.slice, Sem.run_bind, und, Result.andThen_ok, Sem.run_pure, bounds3 (P := P) (cap := 0) (len := 0) (ob hl hlo nlo) hk2 (Int.le_refl _) (Int.le_refl _) (Int.le_refl _) (by simp), run_size T he]
            · simpa using RV.vecn (ρ := ρ) (I := I) (w := w) q true
          | vec f hI hc hv h1 h2 =>
            rename_i rb off rcap
            refine ⟨rfl, .slice (some (if m'.toNat = l.toNat then ⟨rb, off, none⟩ else ⟨rb, off + l.toNat * i.size, none⟩)) (r.toNat - l.toNat) (m'.toNat - l.toNat), ?_, ?_⟩
            · simp only [hde, Instr.slice, Sem.run_bind, und, Result.andThen_ok, Sem.run_pure, bounds3 (P := P) (cap := rcap) (ob hl hlo nlo) hk2 q0 q1 q2 (by omega), run_size T he]
              congr 2
              split <;> simp [addr_add]
            · split
              · have hz : r.toNat - l.toNat = 0 := by omega
                have : ((cs.drop (l.toNat * i.size)).take ((r.toNat - l.toNat) * i.size)) = [] := by rw [hz]; simp
                rw [this]
                exact .vec f hI (by simp) (by simp) (by omega) (by simp; omega)
              · refine .vec (fun j => f (l.toNat * i.size + j)) hI (fun j hj => ?_) (fun j u hu => ?_) (by omega) (by simp; omega)
                · rw [Nat.add_assoc]
                  refine hc _ ?_
                  simp only [List.length_take, List.length_drop] at hj; omega
                · refine hv _ u ?_
                  rw [List.getElem?_take] at hu
                  split at hu
                  · rw [List.getElem?_drop] at hu; exact hu
                  · cases hu
      · cases hr
    · cases hr
  · -- a nil slice
    rename_i e hde
    split at hr
    · rename_i i l r he hl hr'
      simp only [Option.some.injEq, Prod.mk.injEq] at hr
      obtain ⟨rfl, rfl, rfl⟩ := hr
      obtain ⟨rfl, rfl⟩ := hp
      rw [nmx rfl]
      cases hx
      refine ⟨rfl, .slice none 0 0, ?_, .nils⟩
      simp [hde, Instr.slice, Sem.run_bind, und, Result.andThen_ok, Sem.run_pure, bounds2 (P := P) (cap := 0) (len := 0) (ob hl hlo nlo) (ob hr' hhi nhi) (Int.le_refl _) (Int.le_refl _) (by simp), run_size T he]
    · rename_i i l r m he hl hr'
      split at hr
      · rename_i m' hm
        simp only [Option.some.injEq, Prod.mk.injEq] at hr
        obtain ⟨rfl, rfl, rfl⟩ := hr
        obtain ⟨rfl, rfl, rfl, q5⟩ := hp
        obtain ⟨hv', rfl⟩ := Option.isSome_iff_exists.1 q5
        rcases ob hm hmx nmx with ⟨_, _⟩ | ⟨k, hk⟩
        · obtain ⟨x', hx', _⟩ := hmx _ rfl; simp_all
        · rcases ob hr' hhi nhi with ⟨h3, _⟩ | hk2
          · obtain ⟨x', hx', _⟩ := hhi _ rfl; simp_all
          rw [hk]
          cases hx
          refine ⟨rfl, .slice none 0 0, ?_, .nils⟩
          simp [hde, Instr.slice, Sem.run_bind, und, Result.andThen_ok, Sem.run_pure, bounds3 (P := P) (cap := 0) (len := 0) (ob hl hlo nlo) hk2 (Int.le_refl _) (Int.le_refl _) (Int.le_refl _) (by simp), run_size T he]
      · cases hr
    · cases hr
  · -- an array
    rename_i n e b o hde
    split at hr
    · rename_i i l r he hl hr'
      split at hr
      · rename_i cs hbk
        simp only [Option.some.injEq, Prod.mk.injEq] at hr
        obtain ⟨rfl, rfl, rfl⟩ := hr
        obtain ⟨⟨q0, q1, q2⟩, q4, q3⟩ := hp
        rw [nmx rfl]
        obtain ⟨rb, base, c, e', fr, g1, g2, g3, g4, g5, g6⟩ := H.row b cs hbk
        cases hx with
        | ptr hb =>
          rw [g1] at hb; cases hb
          refine ⟨rfl, .slice (some ⟨rb, base + (o + l.toNat * i.size), none⟩) (r.toNat - l.toNat) (n - l.toNat), ?_, ?_⟩
          · simp only [hde, Instr.sureAddr, Sem.run_bind, Result.andThen_ok, Sem.run_pure, bounds2 (P := P) (cap := n) (len := n) (ob hl hlo nlo) (ob hr' hhi nhi) q0 q1 q2, run_size T he]
            congr 2
            split
            · rename_i e3
              rcases q3 with rfl | q3
              · simp
              · omega
            · simp [addr_add, Nat.add_assoc]
          · refine .slc g1 (by omega) (Nat.le_refl _) g2 ?_
            have : (n - l.toNat) * i.size + l.toNat * i.size = n * i.size := by rw [← Nat.add_mul]; congr 1; omega
            omega
      · cases hr
    · cases hr
  · cases hr

/-! ### Making -/

theorem flat_get {α : Type} (z : List α) : ∀ (n j : Nat), j < n * z.length → (List.replicate n z).flatten[j]? = z[j % z.length]? := by
  intro n
  induction n with
  | zero => intro j h; simp at h
  | succ n ih =>
    intro j h
    rw [List.replicate_succ, List.flatten_cons]
    rcases Nat.lt_or_ge j z.length with hj | hj
    · rw [List.getElem?_append_left hj, Nat.mod_eq_of_lt hj]
    · rw [List.getElem?_append_right hj, ih _ (by rw [Nat.add_mul] at h; omega), ← Nat.mod_eq_sub_mod hj]

/-- Zero cells, laid out. -/
theorem zeros {z : Value} {zs : List V} (h : zs = z.cells.toList.map ofS) (n : Nat) :
    RVs ρ I w (List.replicate n zs).flatten ((Array.range (n * zs.length)).map (z.cells[· % z.cells.size]!)) ∧ ((Array.range (n * zs.length)).map (z.cells[· % z.cells.size]!)).size = (List.replicate n zs).flatten.length := by
  have hl : zs.length = z.cells.size := by rw [h]; simp
  have hlen : (List.replicate n zs).flatten.length = n * zs.length := by
    rw [List.length_flatten, List.map_replicate, List.sum_replicate_nat]
  refine ⟨fun j v hj => ?_, by rw [hlen]; simp⟩
  have hlt : j < n * zs.length := by rw [← hlen]; exact (List.getElem?_eq_some_iff.1 hj).1
  rw [flat_get zs n j hlt] at hj
  have hz : 0 < zs.length := by
    rcases Nat.eq_zero_or_pos zs.length with e | e
    · rw [e] at hlt; simp at hlt
    · exact e
  have hm : j % zs.length < z.cells.size := by rw [← hl]; exact Nat.mod_lt _ hz
  refine ⟨z.cells[j % z.cells.size]!, by simp [hlt], ?_⟩
  rw [h, List.getElem?_map] at hj
  have : z.cells.toList[j % (List.map ofS z.cells.toList).length]? = some (z.cells[j % z.cells.size]!) := by
    rw [← h, hl]
    rw [Array.getElem?_toList, getElem!_pos z.cells _ (by rw [← hl] at hm ⊢; exact hm)]
    exact Array.getElem?_eq_getElem _
  rw [this] at hj
  simp at hj; subst hj
  exact rv_ofS _

theorem wrap64 {n : Int} (h0 : 0 ≤ n) (h1 : n ≤ 281474976710656) : IntKind.i64.wrap n = n := by
  have : IntKind.i64.wrap n = n := by unfold IntKind.wrap; simp [IntKind.signed, IntKind.bits]; omega
  exact this

theorem run_make (T : TyOK P ty) {t e : TypeId} {d : Ty} (hd : ty t = some d) (hde : d.desc = .slice e) {l c : V} {h : List HB} (H : RH ρ I w h) {p : Prop} {v : V} {h' : List HB} (hr : aMake ty e l c h = some (p, v, h')) (hp : p)
    {y z : Value} (hl : RV ρ I w l y) (hc : RV ρ I w c z) : ∃ x w' ρ' I', (Instr.makeSlice t y z).run P w = .ok x w' ∧ RV ρ' I' w' v x ∧ RH ρ' I' w' h' ∧ Keep h ρ I w h' ρ' I' w' := by
  unfold aMake at hr
  split at hr
  · rename_i i k l k' c he
    simp only [Option.some.injEq, Prod.mk.injEq] at hr
    obtain ⟨rfl, rfl, rfl⟩ := hr
    obtain ⟨⟨h0, h1⟩, h2, h3⟩ := hp
    obtain ⟨_, ti, zv, q1, q2, q3, q4, q5, q6, _⟩ := T e i he
    cases hl; cases hc
    have hcl : c ≤ 281474976710656 := by
      have : (1 : Int) * c ≤ i.bytes * c := Int.mul_le_mul_of_nonneg_right (by omega) (by omega)
      omega
    have e1 := wrap64 (n := l) h0 (by omega)
    have e2 := wrap64 (n := c) (by omega) hcl
    obtain ⟨r1, r2⟩ := zeros (ρ := ρ) (I := I) (w := w) q5 c.toNat
    obtain ⟨H2, K2⟩ := H.alloc_cells (e := e) (rest := #[]) r2 r1
    refine ⟨_, w.alloc (.cells ((Array.range (c.toNat * i.zero.length)).map (zv.cells[· % zv.cells.size]!) ++ #[]) e), _, _, ?_, rv_new H (len := l.toNat) (cap := c.toNat) (rcap := c.toNat) (by omega) (Nat.le_refl _) (by simp [q6]), H2, K2⟩
    have hti : ∀ w, (typeInfo e).run P w = .ok ti w := fun w => by simp [typeInfo, q1]
    have hz : ∀ w, (zeroValue e).run P w = .ok zv w := fun w => by simp [zeroValue, typeInfo, q1, q4]
    have hs : ∀ w, (sizeOf e).run P w = .ok ti.size w := fun w => by simp [sizeOf, typeInfo, q1]
    have g1 : ¬ c < 0 := by omega
    have g2 : ¬ l < 0 := by omega
    have g3 : ¬ l > c := by omega
    have g4 : ¬ ((ti.bytes : Int) * c > 2 ^ 48) := by rw [q3]; omega
    simp only [Instr.makeSlice, Sem.run_bind, run_underlying (by rw [← hde]; exact (T t d hd).1 : P.underlying t = some (.slice e)), Result.andThen_ok, asInt, asIntOf, Sem.run_pure, Sem.run_ite, hti, e1, e2, g1, g2, g3, g4, decide_false, Bool.false_or, Bool.or_false, or_self, Bool.false_eq_true, if_false, run_askRoom, hs]
    by_cases hn : c.toNat * ti.size = 0
    · have hn2 : c.toNat * i.zero.length = 0 := by rw [q6, ← q2]; exact hn
      simp only [hn, hn2, if_true, Sem.run_pure, Result.andThen_ok, newRow, Sem.run_bind, run_newObj]
      have e1 : (Array.range 0).map (fun x => (#[] : Array Value)[x % (#[] : Array Value).size]!) = (Array.range 0).map (fun x => zv.cells[x % zv.cells.size]!) ++ #[] := by simp
      rw [e1]; rfl
    · have hn2 : c.toNat * i.zero.length = c.toNat * ti.size := by rw [q6, ← q2]
      simp only [hn, hn2, if_false, Sem.run_pure, Sem.run_bind, hz, Result.andThen_ok, newRow, run_newObj]
      rfl
  · cases hr

/-! ### Building -/

theorem fold_splice : ∀ (vs : List V) (xs : List Value) (cs : List V) (arr : Array Value) (off k : Nat), xs.length = vs.length → (∀ (i : Nat) (v : V) (x : Value), vs[i]? = some v → xs[i]? = some x → RV ρ I w v x) → RVs ρ I w cs arr → arr.size = cs.length → off + k + vs.length ≤ cs.length →
    RVs ρ I w (splice cs (off + k) vs) ((xs.zipIdx k).foldl (fun cs (c, j) => cs.setIfInBounds (off + j) c) arr) ∧ ((xs.zipIdx k).foldl (fun cs (c, j) => cs.setIfInBounds (off + j) c) arr).size = cs.length := by
  intro vs
  induction vs with
  | nil =>
    intro xs cs arr off k hl hv hr hs _
    have : xs = [] := List.length_eq_zero_iff.1 (by simpa using hl)
    subst this
    exact ⟨hr, hs⟩
  | cons v vs ih =>
    intro xs cs arr off k hl hv hr hs hlen
    cases xs with
    | nil => simp at hl
    | cons x xs =>
      simp only [List.zipIdx_cons, List.foldl_cons, splice]
      simp only [List.length_cons] at hlen
      have := ih xs (cs.set (off + k) v) (arr.setIfInBounds (off + k) x) off (k + 1) (by simpa using hl) (fun i u y h1 h2 => hv (i + 1) u y (by simpa using h1) (by simpa using h2)) (fun j u hj => ?_) (by simpa using hs) (by simp; omega)
      · rw [List.length_set] at this
        exact this
      · by_cases e : off + k = j
        · subst e
          rw [List.getElem?_set_self (by omega)] at hj
          cases hj
          exact ⟨x, by rw [Array.getElem?_setIfInBounds_self_of_lt (by omega)], hv 0 _ _ rfl rfl⟩
        · rw [List.getElem?_set_ne e] at hj
          obtain ⟨y, hy, hry⟩ := hr j u hj
          exact ⟨y, by rw [Array.getElem?_setIfInBounds_ne e]; exact hy, hry⟩

theorem run_fill {s : St} {a : Act} (S : RS ρ I w s a) {place place' : Nat → Option (Nat × Nat)} (hpl : ∀ i p, place' i = some p → place i = some p) : ∀ (parts : List (Nat × Operand)) (cs : List V) (arr : Array Value) (p : Prop) (r : List V), aFill place' s.t parts cs = some (p, r) → p → RVs ρ I w cs arr → arr.size = cs.length →
    ∃ arr', Instr.fill place arr (parts.map fun q => (q.1, a.eval q.2)) = some arr' ∧ RVs ρ I w r arr' ∧ arr'.size = r.length := by
  intro parts
  induction parts with
  | nil =>
    intro cs arr p r h _ hr hs
    simp only [aFill, Option.some.injEq, Prod.mk.injEq] at h
    obtain ⟨_, rfl⟩ := h
    exact ⟨arr, rfl, hr, hs⟩
  | cons q parts ih =>
    intro cs arr p r h hp hr hs
    obtain ⟨i, x⟩ := q
    simp only [aFill] at h
    split at h
    · rename_i off sz vs hi hcs
      cases hf : aFill place' s.t parts (splice cs off vs) with
      | none => simp [hf] at h
      | some q =>
        obtain ⟨p', r'⟩ := q
        simp only [hf, Option.map_some, Option.some.injEq, Prod.mk.injEq] at h
        obtain ⟨rfl, rfl⟩ := h
        obtain ⟨⟨k1, k2⟩, k3⟩ := hp
        obtain ⟨m1, m2⟩ := rv_cells (rv_ev S x) hcs
        obtain ⟨n1, n2⟩ := fold_splice vs (a.eval x).cells.toList cs arr off 0 (by simpa using m1) (fun j v y h1 h2 => by
          obtain ⟨z, hz, hr⟩ := m2 j v h1
          rw [Array.getElem?_toList, hz] at h2; cases h2; exact hr) hr hs (by omega)
        obtain ⟨arr', f1, f2, f3⟩ := ih (splice cs off vs) _ _ _ hf k3 n1 (by rw [n2, splice_length])
        refine ⟨arr', ?_, f2, f3⟩
        simp only [List.map_cons, Instr.fill, hpl _ _ hi]
        rw [if_neg (by simp only [Bool.or_eq_true, decide_eq_true_eq, not_or]; omega), ← Array.foldl_toList, Array.toList_zipIdx]
        exact f1
    · cases h

theorem Sem.bind_assoc' {α β γ : Type} (x : Sem α) (f : α → Sem β) (g : β → Sem γ) : (x.bind f).bind g = x.bind fun a => (f a).bind g := by
  induction x with
  | pure a => rfl
  | halt h => rfl
  | _ => simp only [Sem.bind]; congr 1; first | done | assumption | (funext y; rename_i ih; exact ih y)

theorem Sem.bind_pure' {α : Type} (x : Sem α) : x.bind Sem.pure = x := by
  induction x with
  | pure a => rfl
  | halt h => rfl
  | _ => simp only [Sem.bind]; congr 1; first | done | assumption | (funext y; rename_i ih; exact ih y)

instance : LawfulMonad Sem := LawfulMonad.mk' Sem (id_map := fun x => Sem.bind_pure' x) (pure_bind := fun _ _ => rfl) (bind_assoc := fun x f g => Sem.bind_assoc' x f g)

theorem run_mapM {α β : Type} {f : α → Sem β} {g : α → β} {w : World} (as : Array α) (h : ∀ x ∈ as, (f x).run P w = .ok (g x) w) : (as.mapM f).run P w = .ok (as.map g) w := by
  have key : ∀ (l : List α) (bs : Array β), (∀ x ∈ l, (f x).run P w = .ok (g x) w) → (l.foldlM (fun bs a => bs.push <$> f a) bs).run P w = .ok (bs ++ (l.map g).toArray) w := by
    intro l
    induction l with
    | nil => intro bs _; simp
    | cons x l ih =>
      intro bs hx
      rw [List.foldlM_cons, Sem.run_bind, map_eq_pure_bind, Sem.run_bind, hx x (by simp), Result.andThen_ok, Sem.run_pure, Result.andThen_ok, ih _ (fun y hy => hx y (by simp [hy]))]
      congr 1
      apply Array.ext'
      simp
  rw [Array.mapM_eq_foldlM, ← Array.foldlM_toList, key as.toList #[] (fun x hx => h x (by simpa using hx))]
  congr 1
  apply Array.ext'
  simp

theorem zero_rel (z : Value) {zs : List V} (h : zs = z.cells.toList.map ofS) : RVs ρ I w zs z.cells := by
  intro i v hv
  rw [h, List.getElem?_map] at hv
  cases hq : z.cells.toList[i]? with
  | none => simp [hq] at hv
  | some q => simp [hq] at hv; subst hv; exact ⟨q, by simpa using hq, rv_ofS q⟩

theorem rv_aggs {cs : List V} {arr : Array Value} (h : RVs ρ I w cs arr) (hs : arr.size = cs.length) : RV ρ I w (.agg cs) (.agg arr) :=
  .agg hs.symm fun i v x h1 h2 => by obtain ⟨z, hz, hr⟩ := h i v h1; rw [hz] at h2; cases h2; exact hr

theorem run_build (T : TyOK P ty) {s : St} {a : Act} (S : RS ρ I w s a) {t' : TypeId} {parts : Array (Nat × Operand)} {h : List HB} {p : Prop} {v : V} {h' : List HB} (hr : aBuild ty t' s.t parts.toList h = some (p, v, h')) (hp : p) :
    h' = h ∧ ∃ x, (Instr.build t' (parts.map fun (i, x) => (i, a.eval x))).run P w = .ok x w ∧ RV ρ I w v x := by
  unfold aBuild at hr
  split at hr
  · cases hr
  · rename_i i hi
    obtain ⟨hu, ti, zv, q1, q2, q3, q4, q5, q6, _⟩ := T t' i hi
    have hz : (zeroValue t').run P w = .ok zv w := by simp [zeroValue, typeInfo, q1, q4]
    have hsz : zv.cells.size = i.zero.length := by rw [q5]; simp
    split at hr
    · rename_i fs hd
      rw [hd] at hu
      split at hr
      · rename_i hk
        cases hf : aFill (placeS ty fs) s.t parts.toList i.zero with
        | none => simp [hf] at hr
        | some q =>
          simp only [hf, Option.map_some, Option.some.injEq, Prod.mk.injEq] at hr
          obtain ⟨rfl, rfl, rfl⟩ := hr
          have hm : (fs.mapM fun f => (do pure (f.offset, ← sizeOf f.type) : Sem (Nat × Nat))).run P w = .ok (fs.map fun f => (f.offset, ((ty f.type).map Ty.size).getD 0)) w := by
            refine run_mapM fs fun f hf => ?_
            have : (ty f.type).isSome = true := by
              simp only [knownF, List.all_eq_true] at hk
              exact hk f (by simpa using hf)
            obtain ⟨fi, hfi⟩ := Option.isSome_iff_exists.1 this
            simp only [Sem.run_bind, run_size T hfi, Result.andThen_ok, Sem.run_pure, hfi]
            rfl
          obtain ⟨arr', f1, f2, f3⟩ := run_fill (place := fun i => (fs.map fun f => (f.offset, ((ty f.type).map Ty.size).getD 0))[i]?) S (fun j q hq => by
            unfold placeS at hq
            split at hq
            · rename_i f hfj
              cases hft : ty f.type with
              | none => simp [hft] at hq
              | some fi => simp [hft] at hq; simp [hfj, hft, hq]
            · cases hq) parts.toList i.zero zv.cells q.1 q.2 hf hp (zero_rel zv q5) hsz
          refine ⟨rfl, .agg arr', ?_, rv_aggs f2 f3⟩
          simp only [Instr.build, Sem.run_bind, hz, Result.andThen_ok, run_underlying hu, hm]
          rw [show (parts.map fun (i, x) => (i, a.eval x)).toList = parts.toList.map fun q => (q.1, a.eval q.2) from by simp]
          rw [f1]
          rfl
      · cases hr
    · rename_i n e hd
      rw [hd] at hu
      split at hr
      · rename_i ei he
        cases hf : aFill (fun j => some (j * ei.size, ei.size)) s.t parts.toList i.zero with
        | none => simp [hf] at hr
        | some q =>
          simp only [hf, Option.map_some, Option.some.injEq, Prod.mk.injEq] at hr
          obtain ⟨rfl, rfl, rfl⟩ := hr
          obtain ⟨arr', f1, f2, f3⟩ := run_fill (place := fun j => some (j * ei.size, ei.size)) S (fun j q hq => hq) parts.toList i.zero zv.cells q.1 q.2 hf hp (zero_rel zv q5) hsz
          refine ⟨rfl, .agg arr', ?_, rv_aggs f2 f3⟩
          simp only [Instr.build, Sem.run_bind, hz, Result.andThen_ok, run_underlying hu, run_size T he]
          rw [show (parts.map fun (i, x) => (i, a.eval x)).toList = parts.toList.map fun q => (q.1, a.eval q.2) from by simp]
          rw [f1]
          rfl
      · cases hr
    · cases hr

theorem run_buildSlice (T : TyOK P ty) {s : St} {a : Act} (S : RS ρ I w s a) {t' e : TypeId} {d : Ty} (hd : ty t' = some d) (hde : d.desc = .slice e) {len : Nat} {parts : Array (Nat × Operand)} {p : Prop} {v : V} {h' : List HB} (hr : aBuildSlice ty e len s.t parts.toList s.h = some (p, v, h')) (hp : p) :
    ∃ x w' ρ' I', (Instr.buildSlice t' len (parts.map fun (i, x) => (i, a.eval x))).run P w = .ok x w' ∧ RV ρ' I' w' v x ∧ RH ρ' I' w' h' ∧ Keep s.h ρ I w h' ρ' I' w' := by
  unfold aBuildSlice at hr
  split at hr
  · cases hr
  · rename_i i hi
    obtain ⟨_, ti, zv, q1, q2, q3, q4, q5, q6, _⟩ := T e i hi
    have hz : (zeroValue e).run P w = .ok zv w := by simp [zeroValue, typeInfo, q1, q4]
    cases hf : aFill (fun j => some (j * i.size, i.size)) s.t parts.toList (List.replicate len i.zero).flatten with
    | none => simp [hf] at hr
    | some q =>
      simp only [hf, Option.map_some, Option.some.injEq, Prod.mk.injEq] at hr
      obtain ⟨rfl, rfl, rfl⟩ := hr
      obtain ⟨k1, k2, k3⟩ := hp
      obtain ⟨r1, r2⟩ := zeros (ρ := ρ) (I := I) (w := w) q5 len
      rw [q6] at r1 r2
      obtain ⟨arr', f1, f2, f3⟩ := run_fill (place := fun j => some (j * i.size, i.size)) S (fun j q hq => hq) parts.toList _ _ q.1 q.2 hf k1 r1 r2
      obtain ⟨H2, K2⟩ := S.heap.alloc_cells (e := e) (rest := #[]) f3 f2
      have hql : arr'.size = len * i.size := by
        rw [f3]
        have : ∀ (parts : List (Nat × Operand)) (cs : List V) (p : Prop) (r : List V), aFill (fun j => some (j * i.size, i.size)) s.t parts cs = some (p, r) → r.length = cs.length := by
          intro parts
          induction parts with
          | nil => intro cs p r h; simp only [aFill, Option.some.injEq, Prod.mk.injEq] at h; rw [h.2]
          | cons q parts ih =>
            intro cs p r h
            obtain ⟨j, x⟩ := q
            simp only [aFill] at h
            split at h
            · rename_i off sz vs _ _
              cases hf2 : aFill (fun j => some (j * i.size, i.size)) s.t parts (splice cs off vs) with
              | none => simp [hf2] at h
              | some q2 =>
                simp only [hf2, Option.map_some, Option.some.injEq, Prod.mk.injEq] at h
                rw [← h.2, ih _ _ _ hf2, splice_length]
            · cases h
        rw [this _ _ _ _ hf, List.length_flatten, List.map_replicate, List.sum_replicate_nat, q6]
      refine ⟨_, w.alloc (.cells (arr' ++ #[]) e), _, _, ?_, rv_new S.heap (len := len) (cap := len) (rcap := len) (Nat.le_refl _) (Nat.le_refl _) (by simp [hql]), H2, K2⟩
      have hnot : ¬ (len * i.size > 2 ^ 24) := by omega
      have hu : P.underlying t' = some (.slice e) := by rw [← hde]; exact (T t' d hd).1
      have hfill := f1
      simp only [Instr.buildSlice, Sem.run_bind, run_underlying hu, Result.andThen_ok, run_size T hi, Sem.run_ite, hnot, if_false, Sem.run_pure]
      rw [show (parts.map fun (i, x) => (i, a.eval x)).toList = parts.toList.map fun q => (q.1, a.eval q.2) from by simp]
      by_cases hn : len * i.size = 0
      · simp only [hn, if_true, Sem.run_pure, Result.andThen_ok]
        rw [hn] at hfill
        have e1 : (Array.range 0).map (fun x => (#[] : Array Value)[x % (#[] : Array Value).size]!) = (Array.range 0).map (fun x => zv.cells[x % zv.cells.size]!) := by simp
        rw [e1, hfill]
        simp only [Sem.run_bind, Sem.run_pure, newRow, run_newObj, Result.andThen_ok]
        simp
      · simp only [hn, if_false, hz, Sem.run_bind, Sem.run_pure, Result.andThen_ok]
        rw [hfill]
        simp only [Sem.run_bind, Sem.run_pure, newRow, run_newObj, Result.andThen_ok]
        simp
end
end Go.Abs
/- The abstract machine, part 5: operations are sound; sequences of operations; orders. -/
namespace Go.Abs
open Go Go.RowKit

section
variable {P : Program} {ty : Tab} {ρ : Rho} {I : Nat → Prop} {w : World}

theorem run_loadAt {T : TyOK P ty} {t : TypeId} {x : V} {h : List HB} (H : RH ρ I w h) {p : Prop} {v : V} {h' : List HB} (hr : aLoad ty t x h = some (p, v, h')) (hp : p)
    {y : Value} (hx : RV ρ I w x y) : h' = h ∧ ∃ z, (Instr.loadAt t y).run P w = .ok z w ∧ RV ρ I w v z := by
  unfold aLoad at hr
  split at hr
  · rename_i i cs o hi hro
    simp only [Option.some.injEq, Prod.mk.injEq] at hr
    obtain ⟨rfl, rfl, rfl⟩ := hr
    obtain ⟨rb, off, rfl, hc⟩ := row_read H hx hro
    obtain ⟨z, hz, hrz⟩ := part_load (P := P) T hi hc hp
    exact ⟨rfl, z, by simp only [Instr.loadAt, Instr.sureAddr, Sem.run_bind, Sem.run_pure, Result.andThen_ok]; exact hz, hrz⟩
  · cases hr

theorem run_storeAt {T : TyOK P ty} {t : TypeId} {x y : V} {h : List HB} (H : RH ρ I w h) {p : Prop} {v : V} {h' : List HB} (hr : aStore ty t x y h = some (p, v, h')) (hp : p)
    {xx yy : Value} (hx : RV ρ I w x xx) (hy : RV ρ I w y yy) :
    ∃ w', (Instr.storeAt t xx yy).run P w = .ok () w' ∧ RH ρ I w' h' ∧ Keep h ρ I w h' ρ I w' ∧ v = .any := by
  unfold aStore at hr
  split at hr
  · rename_i i b o vs hi hcs
    split at hr
    · rename_i cs hb
      simp only [Option.some.injEq, Prod.mk.injEq] at hr
      obtain ⟨rfl, rfl, rfl⟩ := hr
      obtain ⟨hl, hfit, hone⟩ := hp
      obtain ⟨hsz, hc⟩ := rv_cells hy hcs
      cases hx with
      | ptr hp' =>
        rename_i rb base
        obtain ⟨w', hw, H', K'⟩ := RH.sets (P := P) vs yy.cells.toList H hb hp' hfit (by simp [hsz]) (fun j u z hu hz => by
          obtain ⟨z', hz', hr'⟩ := hc j u hu
          rw [Array.getElem?_toList] at hz
          rw [hz] at hz'; cases hz'; exact hr') hone (base + o) 0 (by omega)
        refine ⟨w', ?_, H', K', rfl⟩
        simp only [Instr.storeAt, Instr.sureAddr, Sem.run_bind, Sem.run_pure, Result.andThen_ok, storeVar, run_size T hi]
        rw [Sem.run_ite, if_neg (by omega)]
        simpa using hw
    · cases hr
  · cases hr

theorem aop_sound (T : TyOK P ty) {s : St} {a : Act} (S : RS ρ I w s a) {o : Oper} {p : Prop} {v : V} {h' : List HB} (hr : aop ty s.t s.h o.op = some (p, v, h')) (hp : p) :
    OpOK P o a w ρ I s.h v h' := by
  have E := rv_ev (ρ := ρ) (I := I) (w := w) S
  cases ho : o.op with
  | move x =>
    rw [ho] at hr; simp only [aop, Option.some.injEq, Prod.mk.injEq] at hr
    obtain ⟨rfl, rfl, rfl⟩ := hr
    exact ok_val S (by simp only [execOp, ho]; rfl) (E x)
  | assign x =>
    rw [ho] at hr; simp only [aop, Option.some.injEq, Prod.mk.injEq] at hr
    obtain ⟨rfl, rfl, rfl⟩ := hr
    exact ok_val S (by simp only [execOp, ho]; rfl) (E x)
  | nilCheck x =>
    rw [ho] at hr; simp only [aop] at hr
    have hx := E x
    split at hr
    · rename_i b q hb
      simp only [Option.some.injEq, Prod.mk.injEq] at hr
      obtain ⟨rfl, rfl, rfl⟩ := hr
      rw [hb] at hx
      generalize hac : a.eval x = z at hx
      cases hx with
      | ptr hp => exact ok_val S (by simp only [execOp, ho, hac, Sem.run_pure]) (.ptr hp)
    · cases hr
  | pick c x y =>
    rw [ho] at hr; simp only [aop] at hr
    have hc := E c
    split at hr
    · rename_i b hb
      simp only [Option.some.injEq, Prod.mk.injEq] at hr
      obtain ⟨rfl, rfl, rfl⟩ := hr
      rw [hb] at hc
      generalize hac : a.eval c = z at hc
      cases hc
      refine ok_val S (x := if b = true then a.eval x else a.eval y) (by simp only [execOp, ho, hac, asBool, Sem.run_bind, Sem.run_pure, Result.andThen_ok]) ?_
      cases b
      · exact E y
      · exact E x
    · cases hr
  | alloc e =>
    rw [ho] at hr; simp only [aop] at hr
    cases he : ty e with
    | none => simp [he] at hr
    | some i =>
      simp only [he, Option.map_some, Option.some.injEq, Prod.mk.injEq] at hr
      obtain ⟨rfl, rfl, rfl⟩ := hr
      obtain ⟨z, hz, hz1, hz2⟩ := run_zero (P := P) T he w
      obtain ⟨H, K⟩ := S.heap.alloc (c := z.cells) (e := e) (cs := i.zero) (by rw [hz1]; simp) (fun j v hj => by
        rw [hz1, List.getElem?_map] at hj
        cases hq : z.cells.toList[j]? with
        | none => simp [hq] at hj
        | some q => simp [hq] at hj; subst hj; exact ⟨q, by simpa using hq, rv_ofS q⟩)
      refine ⟨_, _, _, _, .inl ?_, .ptr (b := s.h.length) (rb := w.heap.size) (base := 0) (by rw [← S.heap.len]; simp), H, K⟩
      simp only [execOp, ho, Instr.alloc, Sem.run_bind, hz, Result.andThen_ok, newVar, newRow, run_newObj, Sem.run_pure]
      rfl
  | box e x =>
    rw [ho] at hr; simp only [aop] at hr
    cases hc : (ev s.t x).cells? with
    | none => simp [hc] at hr
    | some cs =>
      simp only [hc, Option.map_some, Option.some.injEq, Prod.mk.injEq] at hr
      obtain ⟨rfl, rfl, rfl⟩ := hr
      obtain ⟨h1, h2⟩ := rv_cells (E x) hc
      obtain ⟨H, K⟩ := S.heap.alloc (c := (a.eval x).cells) (e := e) (cs := cs) (by omega) h2
      refine ⟨_, _, _, _, .inl ?_, .ptr (b := s.h.length) (rb := w.heap.size) (base := 0) (by rw [← S.heap.len]; simp), H, K⟩
      simp only [execOp, ho, Instr.box, Sem.run_bind, Result.andThen_ok, newVar, newRow, run_newObj, Sem.run_pure]
      rfl
  | load t x =>
    rw [ho] at hr
    obtain ⟨rfl, z, hz, hrz⟩ := run_loadAt (P := P) (T := T) S.heap hr hp (E x)
    exact ok_val S (by simp only [execOp, ho, Sem.run_bind, hz, Result.andThen_ok]; rfl) hrz
  | store t x y =>
    rw [ho] at hr
    obtain ⟨w', hw, H', K', rfl⟩ := run_storeAt (P := P) (T := T) S.heap hr hp (E x) (E y)
    exact ⟨undef, w', ρ, I, .inr ⟨by simp only [execOp, ho, Sem.run_bind, hw, Result.andThen_ok]; rfl, rfl⟩, .any _, H', K'⟩
  | unOp op t x =>
    rw [ho] at hr; simp only [aop] at hr
    cases hu : aUn op (ev s.t x) with
    | none => simp [hu] at hr
    | some u =>
      simp only [hu, Option.map_some, Option.some.injEq, Prod.mk.injEq] at hr
      obtain ⟨rfl, rfl, rfl⟩ := hr
      obtain ⟨z, hz, hrz⟩ := run_un (P := P) hu (E x)
      exact ok_val S (by simp only [execOp, ho, Sem.run_bind, hz, Result.andThen_ok]; rfl) hrz
  | binOp op t x y t' =>
    rw [ho] at hr
    obtain ⟨rfl, z, hz, hrz⟩ := run_bin (P := P) T (ox := x) (oy := y) hr hp (E x) (E y)
    refine ok_val S ?_ hrz
    simp only [execOp, ho]
    rw [Sem.run_bind, hz]; rfl
  | indexAddr t x i =>
    rw [ho] at hr; simp only [aop] at hr
    cases hd : ty t with
    | none => simp [hd] at hr
    | some d =>
      simp only [hd, Option.bind_some] at hr
      obtain ⟨rfl, z, hz, hrz⟩ := run_indexAt (P := P) (T := T) hd hr hp (E x) (E i)
      exact ok_val S (by simp only [execOp, ho, Sem.run_bind, hz, Result.andThen_ok]; rfl) hrz
  | index t x i =>
    rw [ho] at hr; simp only [aop] at hr
    cases hd : ty t with
    | none => simp [hd] at hr
    | some d =>
      simp only [hd, Option.bind_some] at hr
      obtain ⟨rfl, z, hz, hrz⟩ := run_index (P := P) (T := T) hd hr hp (E x) (E i)
      exact ok_val S (by simp only [execOp, ho, Sem.run_bind, hz, Result.andThen_ok]; rfl) hrz
  | fieldAddr t x f =>
    rw [ho] at hr; simp only [aop] at hr
    cases hd : ty t with
    | none => simp [hd] at hr
    | some d =>
      simp only [hd, Option.bind_some] at hr
      obtain ⟨rfl, z, hz, hrz⟩ := run_fieldAt (P := P) (T := T) hd hr hp (E x)
      exact ok_val S (by simp only [execOp, ho, Sem.run_bind, hz, Result.andThen_ok]; rfl) hrz
  | field t x f =>
    rw [ho] at hr; simp only [aop] at hr
    cases hd : ty t with
    | none => simp [hd] at hr
    | some d =>
      simp only [hd, Option.bind_some] at hr
      obtain ⟨rfl, z, hz, hrz⟩ := run_field (P := P) (T := T) hd hr hp (E x)
      exact ok_val S (by simp only [execOp, ho, Sem.run_bind, hz, Result.andThen_ok]; rfl) hrz
  | extract x i =>
    rw [ho] at hr; simp only [aop] at hr
    have hx := E x
    split at hr
    · rename_i vs hv
      cases hi : vs[i]? with
      | none => simp [hi] at hr
      | some u =>
        simp only [hi, Option.map_some, Option.some.injEq, Prod.mk.injEq] at hr
        obtain ⟨rfl, rfl, rfl⟩ := hr
        rw [hv] at hx
        generalize hac : a.eval x = z at hx
        cases hx with
        | tup hl hvs =>
          rename_i xs
          have hlt := (List.getElem?_eq_some_iff.1 hi).1
          have hx : xs[i]? = some (xs[i]'(by omega)) := Array.getElem?_eq_getElem _
          exact ok_val S (by simp only [execOp, ho, hac, Instr.extract, hx, Sem.run_bind, Sem.run_pure, Result.andThen_ok]) (hvs i u _ hi hx)
    · cases hr
  | makeFunc fn first captured =>
    rw [ho] at hr
    cases fn with
    | func f =>
      simp only [aop] at hr
      split at hr
      · rename_i h0
        simp only [Option.some.injEq, Prod.mk.injEq] at hr
        obtain ⟨rfl, rfl, rfl⟩ := hr
        have h1 : first = #[] := Array.eq_empty_of_size_eq_zero h0
        subst h1
        refine ok_val S (x := .func (.func f) #[] (captured.map a.eval)) (by simp only [execOp, ho, Instr.makeFunc, Sem.run_bind, Sem.run_pure, Result.andThen_ok]; simp) (.fn (by simp) ?_)
        intro i v x hv hx
        rw [List.getElem?_map] at hv
        cases hq : captured.toList[i]? with
        | none => simp [hq] at hv
        | some q =>
          have hq' : captured[i]? = some q := by simpa using hq
          simp [hq] at hv; simp [hq'] at hx
          subst hv; subst hx; exact E q
      · cases hr
    | _ => simp [aop] at hr
  | convert src dst x =>
    rw [ho] at hr; simp only [aop] at hr
    have hx := E x
    split at hr
    · rename_i si d h1 h2
      split at hr
      · rename_i k0 k hk0 hk
        split at hr
        · rename_i k' n h3
          simp only [Option.some.injEq, Prod.mk.injEq] at hr
          obtain ⟨rfl, rfl, rfl⟩ := hr
          rw [h3] at hx
          generalize hac : a.eval x = z at hx
          cases hx
          refine ok_val S ?_ (.int _ _)
          simp only [execOp, ho, hac, convert, Sem.run_bind, run_und T h1, run_und T h2, Result.andThen_ok, hk0, hk, Conv.intToInt, Sem.run_pure]
        · cases hr
      · rename_i e hk0 hk
        split at hr
        · rename_i ei he
          split at hr
          · rename_i hu8
            obtain ⟨rfl, z, hz, hrz⟩ := run_toStr (P := P) S.heap hr hp hx
            refine ok_val S ?_ hrz
            simp only [execOp, ho, convert, Sem.run_bind, run_und T h1, run_und T h2, Result.andThen_ok, hk0, hk]
            have hsl : (∃ p l c, a.eval x = .slice p l c) := by
              generalize ev s.t x = u at hr hx
              generalize a.eval x = q at hx
              unfold aToStr at hr
              cases hx with
              | nils => exact ⟨_, _, _, rfl⟩
              | vecn => exact ⟨_, _, _, rfl⟩
              | slc => exact ⟨_, _, _, rfl⟩
              | vec => exact ⟨_, _, _, rfl⟩
              | str => simp [lenOfV, cellsOf] at hr
              | _ => simp [lenOfV] at hr
            obtain ⟨p', l', c', hq⟩ := hsl
            rw [hq] at hz ⊢
            simp only [Sem.run_bind, run_und T he, Result.andThen_ok, hu8, hz, Sem.run_pure]
          · cases hr
        · cases hr
      · rename_i hk0 hk
        split at hr
        · rename_i q hq
          simp only [Option.some.injEq, Prod.mk.injEq] at hr
          obtain ⟨rfl, rfl, rfl⟩ := hr
          rw [hq] at hx
          generalize hac : a.eval x = z at hx
          cases hx
          refine ok_val S ?_ (.str _)
          simp only [execOp, ho, hac, convert, Sem.run_bind, run_und T h1, run_und T h2, Result.andThen_ok, hk0, hk, Sem.run_pure]
        · cases hr
      · cases hr
    · cases hr
  | build t' parts =>
    rw [ho] at hr; simp only [aop] at hr
    obtain ⟨rfl, z, hz, hrz⟩ := run_build (P := P) T S hr hp
    exact ok_val S (by simp only [execOp, ho, Sem.run_bind, hz, Result.andThen_ok]; rfl) hrz
  | buildSlice t' len parts =>
    rw [ho] at hr; simp only [aop] at hr
    split at hr
    · rename_i d hd
      split at hr
      · rename_i e hde
        obtain ⟨x, w', ρ', I', hw, hv, H, K⟩ := run_buildSlice (P := P) T S hd hde hr hp
        exact ⟨x, w', ρ', I', .inl (by simp only [execOp, ho, Sem.run_bind, hw, Result.andThen_ok]; rfl), hv, H, K⟩
      · cases hr
    · cases hr
  | makeSlice t' l c =>
    rw [ho] at hr; simp only [aop] at hr
    split at hr
    · rename_i d hd
      split at hr
      · rename_i e hde
        obtain ⟨x, w', ρ', I', hw, hv, H, K⟩ := run_make (P := P) T hd hde S.heap hr hp (E l) (E c)
        exact ⟨x, w', ρ', I', .inl (by simp only [execOp, ho, Sem.run_bind, hw, Result.andThen_ok]; rfl), hv, H, K⟩
      · cases hr
    · cases hr
  | slice t x lo hi mx =>
    rw [ho] at hr; simp only [aop] at hr
    cases hd : ty t with
    | none => simp [hd] at hr
    | some d =>
      simp only [hd, Option.bind_some] at hr
      have opt : ∀ (o : Option Operand), (∀ v, o.map (ev s.t) = some v → ∃ x, o.map a.eval = some x ∧ RV ρ I w v x) ∧ (o.map (ev s.t) = none → o.map a.eval = none) := by
        intro o; cases o with
        | none => simp
        | some q => simp only [Option.map_some, Option.some.injEq]; exact ⟨fun v hv => ⟨_, rfl, hv ▸ E q⟩, fun h => by cases h⟩
      obtain ⟨rfl, z, hz, hrz⟩ := run_slice (P := P) T hd S.heap hr hp (E x) (opt lo).1 (opt lo).2 (opt hi).1 (opt hi).2 (opt mx).1 (opt mx).2
      exact ok_val S (by simp only [execOp, ho, Sem.run_bind, hz, Result.andThen_ok]; rfl) hrz
  | call c =>
    rw [ho] at hr; simp only [aop] at hr
    split at hr
    · rename_i b hb
      have hre : (resolve a.eval c o.type).run P w = .ok { target := .builtin b c.argTypes o.type (c.args.map fun | .const _ => true | _ => false), args := c.args.map a.eval } w := by
        simp only [resolve, hb]; rfl
      unfold aBuiltin at hr
      split at hr
      · split at hr
        · rename_i at0 x ha hargs
          cases hi : ty at0 with
          | none => simp [hi] at hr
          | some i =>
            simp only [hi, Option.bind_some, Option.map_eq_some_iff, Prod.mk.injEq] at hr
            obtain ⟨u, hu, rfl, rfl, rfl⟩ := hr
            obtain ⟨q, hq⟩ : ∃ q, c.args.toList = [q] := by
              match hl : c.args.toList, hargs with
              | [q], _ => exact ⟨q, rfl⟩
              | [], h => rw [hl] at hargs; cases hargs
              | _ :: _ :: _, h => rw [hl] at hargs; cases hargs
            have hq2 : c.args = #[q] := by apply Array.ext'; rw [hq]
            rw [hq] at hargs
            simp only [List.map_cons, List.map_nil, List.cons.injEq, and_true] at hargs
            subst hargs
            obtain ⟨z, hz, hrz⟩ := run_len (P := P) (w := w) (ρ := ρ) (I := I) (tid := o.type) T ha hi hu (E q)
            refine ok_val S ?_ hrz
            simp only [execOp, ho, Sem.run_bind, hre, Result.andThen_ok, invoke, builtin, hq2, List.map_toArray, List.map_cons, List.map_nil, hz, Sem.run_pure]
        · cases hr
      · split at hr
        · rename_i a0 a1 x y ha0 ha1 hargs
          split at hr
          · rename_i i0 i1 hi0 hi1
            obtain ⟨q1, q2, hq⟩ : ∃ q1 q2, c.args.toList = [q1, q2] := by
              match hl : c.args.toList, hargs with
              | [q1, q2], _ => exact ⟨q1, q2, rfl⟩
              | [], h => rw [hl] at hargs; cases hargs
              | [_], h => rw [hl] at hargs; cases hargs
              | _ :: _ :: _ :: _, h => rw [hl] at hargs; cases hargs
            have hq2 : c.args = #[q1, q2] := by apply Array.ext'; rw [hq]
            rw [hq] at hargs
            simp only [List.map_cons, List.map_nil, List.cons.injEq, and_true] at hargs
            obtain ⟨rfl, rfl⟩ := hargs
            have fin : ∀ e, i0.desc = .slice e → ((∃ q, i1.desc = .slice q) ∨ i1.desc = .string) → aAppend ty e (ev s.t q1) (ev s.t q2) s.h = some (p, v, h') → OpOK P o a w ρ I s.h v h' := by
              intro e hd0 hd1 hr
              obtain ⟨z, w', ρ', I', hz, hv, H, K⟩ := run_append (P := P) (tyid := o.type) T S.heap ha0 ha1 hi0 hi1 hd0 hd1 (E q1) (E q2) hr hp
              refine ⟨z, w', ρ', I', .inl ?_, hv, H, K⟩
              simp only [execOp, ho, Sem.run_bind, hre, Result.andThen_ok, invoke, builtin, hq2, List.map_toArray, List.map_cons, List.map_nil, hz, Sem.run_pure]
            split at hr
            · rename_i e e1 hd0 hd1; exact fin e hd0 (.inl ⟨_, hd1⟩) hr
            · rename_i e hd0 hd1; exact fin e hd0 (.inr hd1) hr
            · cases hr
          · cases hr
        · cases hr
      · split at hr
        · rename_i k x k2 y hargs
          obtain ⟨q1, q2, hq⟩ : ∃ q1 q2, c.args.toList = [q1, q2] := by
            have hl := congrArg List.length hargs
            simp only [List.length_map, List.length_cons, List.length_nil] at hl
            match hc : c.args.toList with
            | [q1, q2] => exact ⟨q1, q2, rfl⟩
            | [] => rw [hc] at hl; simp at hl
            | [_] => rw [hc] at hl; simp at hl
            | _ :: _ :: _ :: _ => rw [hc] at hl; simp at hl
          have hq2 : c.args = #[q1, q2] := by apply Array.ext'; rw [hq]
          rw [hq] at hargs
          simp only [List.map_cons, List.map_nil, List.cons.injEq, and_true] at hargs
          have r1 := E q1
          have r2 := E q2
          rw [hargs.1] at r1
          rw [hargs.2] at r2
          generalize h1 : a.eval q1 = z1 at r1
          generalize h2 : a.eval q2 = z2 at r2
          cases r1; cases r2
          simp only [Option.some.injEq, Prod.mk.injEq] at hr
          obtain ⟨rfl, rfl, rfl⟩ := hr
          refine ok_val (x := .int k (if y > x then y else x)) S ?_ (.int _ _)
          simp only [execOp, ho, Sem.run_bind, hre, Result.andThen_ok, invoke, builtin, hq2, List.map_toArray, List.map_cons, List.map_nil, h1, h2, Sem.run_pure, Builtin.max_, List.foldlM_cons, List.foldlM_nil, Builtin.max2]
        · cases hr
      · split at hr
        · rename_i k x k2 y hargs
          obtain ⟨q1, q2, hq⟩ : ∃ q1 q2, c.args.toList = [q1, q2] := by
            have hl := congrArg List.length hargs
            simp only [List.length_map, List.length_cons, List.length_nil] at hl
            match hc : c.args.toList with
            | [q1, q2] => exact ⟨q1, q2, rfl⟩
            | [] => rw [hc] at hl; simp at hl
            | [_] => rw [hc] at hl; simp at hl
            | _ :: _ :: _ :: _ => rw [hc] at hl; simp at hl
          have hq2 : c.args = #[q1, q2] := by apply Array.ext'; rw [hq]
          rw [hq] at hargs
          simp only [List.map_cons, List.map_nil, List.cons.injEq, and_true] at hargs
          have r1 := E q1
          have r2 := E q2
          rw [hargs.1] at r1
          rw [hargs.2] at r2
          generalize h1 : a.eval q1 = z1 at r1
          generalize h2 : a.eval q2 = z2 at r2
          cases r1; cases r2
          simp only [Option.some.injEq, Prod.mk.injEq] at hr
          obtain ⟨rfl, rfl, rfl⟩ := hr
          refine ok_val (x := .int k (if y < x then y else x)) S ?_ (.int _ _)
          simp only [execOp, ho, Sem.run_bind, hre, Result.andThen_ok, invoke, builtin, hq2, List.map_toArray, List.map_cons, List.map_nil, h1, h2, Sem.run_pure, Builtin.min_, List.foldlM_cons, List.foldlM_nil, Builtin.min2]
        · rename_i k x k2 y k3 z hargs
          obtain ⟨q1, q2, q3, hq⟩ : ∃ q1 q2 q3, c.args.toList = [q1, q2, q3] := by
            have hl := congrArg List.length hargs
            simp only [List.length_map, List.length_cons, List.length_nil] at hl
            match hc : c.args.toList with
            | [q1, q2, q3] => exact ⟨q1, q2, q3, rfl⟩
            | [] => rw [hc] at hl; simp at hl
            | [_] => rw [hc] at hl; simp at hl
            | [_, _] => rw [hc] at hl; simp at hl
            | _ :: _ :: _ :: _ :: _ => rw [hc] at hl; simp at hl
          have hq2 : c.args = #[q1, q2, q3] := by apply Array.ext'; rw [hq]
          rw [hq] at hargs
          simp only [List.map_cons, List.map_nil, List.cons.injEq, and_true] at hargs
          have r1 := E q1
          have r2 := E q2
          have r3 := E q3
          rw [hargs.1] at r1
          rw [hargs.2.1] at r2
          rw [hargs.2.2] at r3
          generalize h1 : a.eval q1 = z1 at r1
          generalize h2 : a.eval q2 = z2 at r2
          generalize h3 : a.eval q3 = z3 at r3
          cases r1; cases r2; cases r3
          simp only [Option.some.injEq, Prod.mk.injEq] at hr
          obtain ⟨rfl, rfl, rfl⟩ := hr
          refine ok_val (x := .int k (if z < (if y < x then y else x) then z else (if y < x then y else x))) S ?_ (.int _ _)
          simp only [execOp, ho, Sem.run_bind, hre, Result.andThen_ok, invoke, builtin, hq2, List.map_toArray, List.map_cons, List.map_nil, h1, h2, h3, Sem.run_pure, Builtin.min_, List.foldlM_cons, List.foldlM_nil, Builtin.min2]
        · cases hr
      · split at hr
        · rename_i a0 b q z len cap ha0 hargs
          obtain ⟨q1, hq⟩ : ∃ q1, c.args.toList = [q1] := by
            have hl := congrArg List.length hargs
            simp only [List.length_map, List.length_cons, List.length_nil] at hl
            match hc : c.args.toList with
            | [q1] => exact ⟨q1, rfl⟩
            | [] => rw [hc] at hl; simp at hl
            | _ :: _ :: _ => rw [hc] at hl; simp at hl
          have hq2 : c.args = #[q1] := by apply Array.ext'; rw [hq]
          rw [hq] at hargs
          simp only [List.map_cons, List.map_nil, List.cons.injEq, and_true] at hargs
          have r1 := E q1
          rw [hargs] at r1
          generalize h1 : a.eval q1 = z1 at r1
          split at hr
          · rename_i i0 hi0
            split at hr
            · rename_i e hd
              split at hr
              · rename_i i cs hi hb2
                simp only [Option.some.injEq, Prod.mk.injEq] at hr
                obtain ⟨rfl, rfl, rfl⟩ := hr
                obtain ⟨hz, hlen, hfit, hall⟩ := hp
                cases r1 with
                | slc hrho hle hcap hcell hsz =>
                  rename_i rb base rcap cc ce fr
                  obtain ⟨zv, hzv, hze, hzl⟩ := run_zero (P := P) T hi w
                  have hzs : zv.cells.size = i.size := by
                    have := hzl
                    rw [hze, List.length_map] at this
                    simpa using this
                  have hn0 : ∃ m, len = m + 1 := ⟨len - 1, by omega⟩
                  obtain ⟨m, rfl⟩ := hn0
                  obtain ⟨hz1, hz2⟩ := zeros (ρ := ρ) (I := I) (w := w) hze (m + 1)
                  have hzc : (Array.range ((m + 1) * i.zero.length)).map (zv.cells[· % zv.cells.size]!) = Builtin.zeroCells zv.cells (m + 1) := by
                    unfold Builtin.zeroCells
                    rw [hzl, hzs]
                  rw [hzc] at hz1 hz2
                  have hrl : (List.replicate (m + 1) i.zero).flatten.length = (m + 1) * z := by
                    rw [List.length_flatten, List.map_replicate, List.sum_replicate_nat, hzl, hz]
                  obtain ⟨w', hw, H', K'⟩ := RH.sets (P := P) (List.replicate (m + 1) i.zero).flatten (Builtin.zeroCells zv.cells (m + 1)).toList S.heap hb2 hrho (o := q) (by rw [hrl]; exact hfit) (by
                    rw [Array.length_toList, hz2]) (fun j u x hu hx => by
                    obtain ⟨y, hy, hr⟩ := hz1 j u hu
                    rw [Array.getElem?_toList] at hx
                    rw [hx] at hy; cases hy; exact hr) (fun u hu => by
                    obtain ⟨l, hl1, hl2⟩ := List.mem_flatten.1 hu
                    rw [List.eq_of_mem_replicate hl1] at hl2
                    exact List.all_eq_true.1 hall u hl2) (base + q) 0 (by omega)
                  refine ⟨.tuple #[], w', ρ, I, .inl ?_, .tup rfl (fun i v x hv hx => by simp at hv), H', K'⟩
                  have hund : (underlying a0).run P w = .ok (.slice e) w := by rw [run_und T hi0 w, hd]
                  have hcl : (Builtin.clear_ c.argTypes o.type #[a.eval q1]).run P w = .ok (.tuple #[]) w' := by
                    simp only [Builtin.clear_, ha0, h1, List.getElem?_toArray, List.getElem?_cons_zero, Sem.run_bind, hund, Result.andThen_ok, hzv, hw, Sem.run_pure]
                  simp only [execOp, ho, Sem.run_bind, hre, Result.andThen_ok, invoke, builtin, hq2, List.map_toArray, List.map_cons, List.map_nil, hcl, Sem.run_pure]
              · cases hr
            · cases hr
          · cases hr
        · cases hr
      · cases hr
    · cases hr
  | _ => rw [ho] at hr; simp [aop] at hr
end

/-! ### Sequences of operations -/

def put (t : List V) (d : Option Tmp) (v : V) : List V :=
  match d with
  | some d => t.set d v
  | none => t

/-- Is an operation wanted? -/
def guardOf (ops : Array Oper) (o : Oper) (t : List V) : Option Bool :=
  match o.guard with
  | none => some true
  | some (j, want) => match (ops[j]?).bind (·.dst) with
    | none => none
    | some d => match t[d]? with
      | some (.bool b) => some (b == want)
      | some (.tup _) => some false
      | _ => none

/-- A call of a Go function, at this heap. -/
def CallD (P : Program) (f : FuncId) (args : List V) (h : List HB) (r : V) (h' : List HB) : Prop := AC P f args h fun v h'' => v = r ∧ h'' = h'

/-- A call that neither reads nor writes the heap. -/
def Pure (P : Program) (f : FuncId) (args : List V) (r : V) : Prop := ∀ h, CallD P f args h r h

/-- The callee and the arguments of a call. -/
def callOf (t : List V) (op : Op) : Option (FuncId × List V) :=
  match op with
  | .call c => match c.callee with
    | .value f => match ev t f with
      | .fn g caps => some (g, c.args.toList.map (ev t) ++ caps)
      | _ => none
    | _ => none
  | _ => none

/-- Is it a call of one of these functions by name? -/
def namedIn (L : List FuncId) (op : Op) : Bool :=
  match op with
  | .call c => match c.callee with
    | .value (.func f) => L.contains f
    | _ => false
  | _ => false

/-- A call of the yield of a loop, and its arguments. -/
def yieldOf (t : List V) (op : Op) : Option (Nat × List V) :=
  match op with
  | .call c => match c.callee with
    | .value f => match ev t f with
      | .yld b => some (b, c.args.toList.map (ev t))
      | _ => none
    | _ => none
  | _ => none

/-- A round's temporaries. -/
def roundT (L : LoopB) (args : List V) : List V := (L.ps.toList.zip args).foldl (fun t q => t.set q.1 q.2) L.t
/-- How a round is left: at its end, or by a jump. -/
def Jumps (c : Option Code) : Exit → Prop
  | .normal => c = none
  | .ret => c = some .ret
  | .exit i => c = some (.exit i)
  | .goto i => c = some (.goto i)
  | _ => False
/-- One round of a range over a function; how it is left. -/
def RoundD (P : Program) (L : LoopB) (args : List V) (h h' : List HB) (c : Option Code := none) : Prop :=
  L.ps.size = args.length ∧ noRange L.assign = true ∧ noRange L.body = true ∧ L.pend = none ∧
  AW P h.length L.assign (fun e s1 => e = .normal ∧ AW P h.length L.body (fun e s2 => Jumps c e ∧ ∃ t', Wk h.length s2 ⟨t', h'⟩) s1) ⟨roundT L args, h⟩

/-- What an operation that is wanted may do: its value, the heap behind it. -/
inductive Did (P : Program) (ty : Tab) (L : List FuncId) (o : Oper) (s : St) : V → List HB → Prop
  | op {p : Prop} {v : V} {h' : List HB} (h : aop ty s.t s.h o.op = some (p, v, h')) (hp : p) : Did P ty L o s v h'
  | pure {f : FuncId} {args : List V} {r : V} (hc : callOf s.t o.op = some (f, args)) (hL : namedIn L o.op = true) (h : Pure P f args r) : Did P ty L o s r s.h
  | call {f : FuncId} {args : List V} {r : V} {h' : List HB} (hc : callOf s.t o.op = some (f, args)) (hL : namedIn L o.op = false) (h : CallD P f args s.h r h') : Did P ty L o s r h'
  | yield {b : Nat} {args : List V} {lb : LoopB} {h' : List HB} {c : Option Code} (hc : yieldOf s.t o.op = some (b, args)) (hb : s.h[b]? = some (.loop lb)) (h : RoundD P lb args (s.h.set b .dead) h' c) : Did P ty L o s (.bool c.isNone) (h'.set b (.loop { lb with pend := c }))

inductive Out (P : Program) (ty : Tab) (L : List FuncId) (ops : Array Oper) (o : Oper) (s : St) : V → List HB → Prop
  | did {v : V} {h' : List HB} (hg : guardOf ops o s.t = some true) (h : Did P ty L o s v h') : Out P ty L ops o s v h'
  | not (hg : guardOf ops o s.t = some false) : Out P ty L ops o s udf s.h

/-- A run through some of a region's operations. -/
inductive Run (P : Program) (ty : Tab) (L : List FuncId) (ops : Array Oper) : List Nat → St → St → Prop
  | nil (s : St) : Run P ty L ops [] s s
  | cons {i : Nat} {l : List Nat} {o : Oper} {s s'' : St} {v : V} {h' : List HB} (ho : ops[i]? = some o) (h : Out P ty L ops o s v h') (r : Run P ty L ops l ⟨put s.t o.dst v, h'⟩ s'') : Run P ty L ops (i :: l) s s''

section
variable {P : Program} {ty : Tab} {L : List FuncId} {ρ : Rho} {I : Nat → Prop} {w : World}

theorem RS.put {s : St} {a : Act} (S : RS ρ I w s a) {ρ' : Rho} {I' : Nat → Prop} {w' : World} {h' : List HB} (H : RH ρ' I' w' h') (K : Keep s.h ρ I w h' ρ' I' w') (d : Option Tmp) {v : V} {x : Value}
    (hv : RV ρ' I' w' v x) : RS ρ' I' w' ⟨Abs.put s.t d v, h'⟩ (a.put d x) := by
  have X := K.ext S.heap
  have old : ∀ (i : Nat) (u : V), s.t[i]? = some u → ∃ y, a.tmps[i]? = some y ∧ RV ρ' I' w' u y := fun i u hu => by
    obtain ⟨y, hy, hr⟩ := S.tv i u hu; exact ⟨y, hy, hr.ext X⟩
  have mk := marks_keep (K.toN 0) S.marks
  cases d with
  | none => exact ⟨S.tlen, old, H, mk⟩
  | some d =>
    refine ⟨by simp [Act.put, Abs.put, S.tlen], ?_, H, mk⟩
    intro i u hu
    simp only [Abs.put] at hu
    simp only [Act.put]
    by_cases e : d = i
    · subst e
      have hlt : d < s.t.length := by
        have := (List.getElem?_eq_some_iff.1 hu).1; simpa using this
      rw [List.getElem?_set_self hlt] at hu; cases hu
      exact ⟨x, by rw [Array.getElem?_setIfInBounds_self_of_lt (by rw [S.tlen]; exact hlt)], hv⟩
    · rw [List.getElem?_set_ne e] at hu
      obtain ⟨y, hy, hr⟩ := old i u hu
      exact ⟨y, by rw [Array.getElem?_setIfInBounds_ne e]; exact hy, hr⟩

theorem guard_real {ops : Array Oper} {o : Oper} {s : St} {a : Act} (S : RS ρ I w s a) {b : Bool} (h : guardOf ops o s.t = some b) : Region.wanted o (yielded ops a.tmps) = b := by
  unfold guardOf at h
  unfold Region.wanted
  split at h
  · rename_i hg; rw [hg]; simpa using h
  · rename_i j want hg
    rw [hg]
    split at h
    · cases h
    · rename_i d hd
      split at h
      · rename_i c hc
        obtain ⟨y, hy, hr⟩ := S.tv d _ hc
        cases hr
        simp only [Option.some.injEq] at h
        have : yielded ops a.tmps j = some c := by
          unfold yielded; rw [hd]; simp [hy]
        simp only [this, ← h]
        simp
      · rename_i l hc
        obtain ⟨y, hy, hr⟩ := S.tv d _ hc
        cases hr
        simp only [Option.some.injEq] at h
        have : yielded ops a.tmps j = none := by
          unfold yielded; rw [hd]; simp [hy]
        show (yielded ops a.tmps j == some want) = b
        rw [this, ← h]; rfl
      · cases h

/-- An operation that is no 'defer'. -/
def noDefer : Op → Bool
  | .defer _ => false
  | _ => true

theorem semAt_plain {o : Oper} (h : noDefer o.op = true) (r : Option Nat) (e : Operand → Value) : o.semAt r e = execOp e o := by
  unfold Oper.semAt
  split
  · rename_i h2; rw [h2] at h; cases h
  · rfl

theorem rv_args {s : St} {a : Act} (S : RS ρ I w s a) (args : Array Operand) {caps : List V} {vs : Array Value} (hl : caps.length = vs.size)
    (hv : ∀ (i : Nat) (v : V) (x : Value), caps[i]? = some v → vs[i]? = some x → RV ρ I w v x) :
    (args.toList.map (ev s.t) ++ caps).length = (args.map a.eval ++ vs).size ∧
    ∀ (i : Nat) (v : V) (x : Value), (args.toList.map (ev s.t) ++ caps)[i]? = some v → (args.map a.eval ++ vs)[i]? = some x → RV ρ I w v x := by
  refine ⟨by simp [hl], fun i v x h1 h2 => ?_⟩
  rcases Nat.lt_or_ge i args.size with hi | hi
  · rw [List.getElem?_append_left (by simpa using hi)] at h1
    rw [Array.getElem?_append_left (by simpa using hi)] at h2
    rw [List.getElem?_map] at h1
    rw [Array.getElem?_map] at h2
    have : args[i]? = some args[i] := Array.getElem?_eq_getElem hi
    simp [this] at h1 h2
    subst h1; subst h2
    exact rv_ev S _
  · rw [List.getElem?_append_right (by simpa using hi)] at h1
    rw [Array.getElem?_append_right (by simpa using hi)] at h2
    simp only [List.length_map, Array.length_toList] at h1
    simp only [Array.size_map] at h2
    exact hv _ v x h1 h2
end
end Go.Abs
