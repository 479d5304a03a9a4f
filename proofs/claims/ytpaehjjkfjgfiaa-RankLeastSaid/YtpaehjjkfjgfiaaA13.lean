/- The abstract machine, part 13: blocks get new numbers; a block is sealed. -/
import Derived.Test.YtpaehjjkfjgfiaaA12
set_option linter.unusedVariables false
set_option linter.unusedSimpArgs false
namespace Go.Abs
open Go Go.RowKit

/-! ### New numbers for blocks -/

mutual
/-- A value under new numbers (σ: the old number of each new one). -/
def renV (σ : List Nat) : V → V
  | .ptr b o => match σ.idxOf? b with
    | some j => .ptr j o
    | none => .any
  | .slc b o z len cap => match σ.idxOf? b with
    | some j => .slc j o z len cap
    | none => .any
  | .yld b => match σ.idxOf? b with
    | some j => .yld j
    | none => .any
  | .vptr cs o => .vptr (renL σ cs) o
  | .vec cs len x => .vec (renL σ cs) len x
  | .fn f caps => .fn f (renL σ caps)
  | .agg cs => .agg (renL σ cs)
  | .tup vs => .tup (renL σ vs)
  | v => v
def renL (σ : List Nat) : List V → List V
  | [] => []
  | v :: vs => renV σ v :: renL σ vs
end

def renB (σ : List Nat) : HB → HB
  | .dead => .dead
  | .live cs => .live (renL σ cs)
  | .loop lb => .loop ⟨renL σ lb.t, lb.ps, lb.assign, lb.body⟩

def hbAt (h : List HB) (b : Nat) : HB := match h[b]? with
  | some x => x
  | none => .dead

def renH (σ : List Nat) (h : List HB) : List Nat → List HB
  | [] => []
  | b :: bs => renB σ (hbAt h b) :: renH σ h bs
theorem renH_eq (σ : List Nat) (h : List HB) : ∀ l, renH σ h l = l.map fun b => renB σ (hbAt h b)
  | [] => rfl
  | b :: bs => by simp [renH, renH_eq σ h bs]

def renS (σ : List Nat) (s : St) : St := ⟨renL σ s.t, renH σ s.h σ⟩

theorem renL_get (σ : List Nat) : ∀ (l : List V) (i : Nat), (renL σ l)[i]? = (l[i]?).map (renV σ)
  | [], i => by simp [renL]
  | v :: l, 0 => by simp [renL]
  | v :: l, i + 1 => by simp [renL, renL_get σ l i]
theorem renL_length (σ : List Nat) : ∀ (l : List V), (renL σ l).length = l.length
  | [] => rfl
  | v :: l => by simp [renL, renL_length σ l]

theorem renL_append (σ : List Nat) : ∀ (a b : List V), renL σ (a ++ b) = renL σ a ++ renL σ b
  | [], b => rfl
  | v :: a, b => by simp only [List.cons_append, renL, renL_append σ a b]

def renRho (σ : List Nat) (ρ : Rho) : Rho := σ.map fun b => ρ.getD b (0, 0)

theorem idxOf_get {σ : List Nat} {b j : Nat} (h : σ.idxOf? b = some j) : σ[j]? = some b := by
  induction σ generalizing j with
  | nil => simp at h
  | cons a σ ih =>
    rw [List.idxOf?_cons] at h
    split at h
    · rename_i e; simp at e h; subst h; subst e; rfl
    · cases hq : σ.idxOf? b with
      | none => simp [hq] at h
      | some k => simp [hq] at h; subst h; simpa using ih hq

theorem RV.ren {ρ : Rho} {I : Nat → Prop} {w : World} {v : V} {x : Value} (σ : List Nat) (h : RV ρ I w v x) : RV (renRho σ ρ) I w (renV σ v) x := by
  have rho : ∀ {b j : Nat} {p : Nat × Nat}, σ.idxOf? b = some j → ρ[b]? = some p → (renRho σ ρ)[j]? = some p := by
    intro b j p hj hp
    have := idxOf_get hj
    simp [renRho, this, List.getD_eq_getElem?_getD, hp]
  have lst : ∀ {cs : List V} {f : Nat → Value}, (∀ (i : Nat) (v : V), cs[i]? = some v → RV (renRho σ ρ) I w (renV σ v) (f i)) → ∀ (i : Nat) (v : V), (renL σ cs)[i]? = some v → RV (renRho σ ρ) I w v (f i) := by
    intro cs f ih i v hv
    rw [renL_get] at hv
    cases hq : cs[i]? with
    | none => simp [hq] at hv
    | some u => simp [hq] at hv; subst hv; exact ih i u hq
  have lst2 : ∀ {cs : List V} {vs : Array Value}, (∀ (i : Nat) (v : V) (x : Value), cs[i]? = some v → vs[i]? = some x → RV (renRho σ ρ) I w (renV σ v) x) → ∀ (i : Nat) (v : V) (x : Value), (renL σ cs)[i]? = some v → vs[i]? = some x → RV (renRho σ ρ) I w v x := by
    intro cs vs ih i v x hv hx
    rw [renL_get] at hv
    cases hq : cs[i]? with
    | none => simp [hq] at hv
    | some u => simp [hq] at hv; subst hv; exact ih i u x hq hx
  induction h with
  | any x => simp only [renV]; exact .any _
  | bool b => simp only [renV]; exact .bool _
  | int k n => simp only [renV]; exact .int _ _
  | str s => simp only [renV]; exact .str _
  | nilp => simp only [renV]; exact .nilp
  | ptr hp =>
    simp only [renV]; split
    · rename_i j hj; exact .ptr (rho hj hp)
    · exact .any _
  | yld hp =>
    simp only [renV]; split
    · rename_i j hj; exact .yld (rho hj hp)
    · exact .any _
  | vptr f hI hc hv ih => simp only [renV]; exact .vptr f hI (fun i hi => hc i (by rwa [renL_length] at hi)) (lst ih)
  | nils => simp only [renV]; exact .nils
  | slc hp h1 h2 hb hs =>
    simp only [renV]; split
    · rename_i j hj; exact .slc (rho hj hp) h1 h2 hb hs
    · exact .any _
  | vec f hI hc hv h1 hx ih => simp only [renV]; exact .vec f hI (fun i hi => hc i (by rwa [renL_length] at hi)) (lst ih) h1 hx
  | vecn x => simp only [renV, renL]; exact .vecn _ _
  | nilf => simp only [renV]; exact .nilf
  | fn hl hv ih => simp only [renV]; exact .fn (by rw [renL_length]; exact hl) (lst2 ih)
  | agg hl hv ih => simp only [renV]; exact .agg (by rw [renL_length]; exact hl) (lst2 ih)
  | tup hl hv ih => simp only [renV]; exact .tup (by rw [renL_length]; exact hl) (lst2 ih)

theorem ren_row {σ : List Nat} {h : List HB} {j : Nat} {cs : List V} (hj : (renH σ h σ)[j]? = some (.live cs)) : ∃ b ds, σ[j]? = some b ∧ h[b]? = some (.live ds) ∧ cs = renL σ ds := by
  rw [renH_eq, List.getElem?_map] at hj
  cases hb : σ[j]? with
  | none => simp [hb] at hj
  | some b =>
    simp only [hb, Option.map_some, Option.some.injEq] at hj
    unfold hbAt at hj
    cases hq : h[b]? with
    | none => simp [hq, renB] at hj
    | some x =>
      simp only [hq] at hj
      cases x with
      | dead => simp [renB] at hj
      | live ds => simp only [renB, HB.live.injEq] at hj; exact ⟨b, ds, rfl, hq, hj.symm⟩
      | loop L => simp [renB] at hj
theorem ren_on {σ : List Nat} {h : List HB} {j : Nat} {x : HB} (hj : (renH σ h σ)[j]? = some x) (hx : x.on) : ∃ b y, σ[j]? = some b ∧ h[b]? = some y ∧ y.on ∧ x = renB σ y := by
  rw [renH_eq, List.getElem?_map] at hj
  cases hb : σ[j]? with
  | none => simp [hb] at hj
  | some b =>
    simp only [hb, Option.map_some, Option.some.injEq] at hj
    unfold hbAt at hj
    cases hq : h[b]? with
    | none => simp only [hq, renB] at hj; subst hj; exact hx.elim
    | some y =>
      simp only [hq] at hj
      refine ⟨b, y, rfl, hq, ?_, hj.symm⟩
      cases y with
      | dead => simp only [renB] at hj; subst hj; exact hx
      | live _ => trivial
      | loop _ => trivial
theorem RH.place {ρ : Rho} {I : Nat → Prop} {w : World} {h : List HB} (H : RH ρ I w h) {i : Nat} {x : HB} (hi : h[i]? = some x) : ∃ rb base, ρ[i]? = some (rb, base) := by
  have hlt : i < ρ.length := by rw [H.len]; exact (List.getElem?_eq_some_iff.1 hi).1
  exact ⟨(ρ[i]).1, (ρ[i]).2, by rw [List.getElem?_eq_getElem hlt]⟩
theorem LoopsOK.ren {ρ : Rho} {I : Nat → Prop} {w : World} {h : List HB} (a : LoopsOK ρ I w h) (σ : List Nat) (rget : ∀ {j b : Nat} {p : Nat × Nat}, σ[j]? = some b → ρ[b]? = some p → (renRho σ ρ)[j]? = some p) : LoopsOK (renRho σ ρ) I w (renH σ h σ) := by
  intro j L hj
  obtain ⟨b, y, g1, g2, _, e⟩ := ren_on hj trivial
  cases y with
  | dead => simp [renB] at e
  | live _ => simp [renB] at e
  | loop M =>
    simp only [renB, HB.loop.injEq] at e
    subst e
    obtain ⟨l, base, rec, k1, A⟩ := a b M g2
    refine ⟨l, base, rec, rget g1 k1, A.at_, A.ready, A.pend, A.ps, A.assign, A.body, by rw [renL_length]; exact A.tlen, fun i v hv => ?_, A.im⟩
    simp only [renL_get] at hv
    cases hq : M.t[i]? with
    | none => simp [hq] at hv
    | some u =>
      simp [hq] at hv; subst hv
      obtain ⟨y, hy, hr⟩ := A.tv i u hq
      exact ⟨y, hy, hr.ren σ⟩

/-- **Blocks get new numbers; those that are left out are forgotten.** -/
theorem wk_ren {N : Nat} (σ : List Nat) {s : St} (hN : σ.take N = List.range N) (hn : σ.Nodup) : Wk N s (renS σ s) := by
  intro ρ I w a S
  have H := S.heap
  have rget : ∀ {j b : Nat} {p : Nat × Nat}, σ[j]? = some b → ρ[b]? = some p → (renRho σ ρ)[j]? = some p := by
    intro j b p hj hp; simp [renRho, hj, List.getD_eq_getElem?_getD, hp]
  have lv : ∀ b, Live (renS σ s).h (renRho σ ρ) b → Live s.h ρ b := by
    rintro b ⟨j, cs, base, h1, o, h2⟩
    obtain ⟨i, ds, g1, g2, o', _⟩ := ren_on h1 o
    obtain ⟨rb, base', g3⟩ := H.place g2
    have := rget g1 g3
    rw [h2] at this; cases this
    exact ⟨i, ds, _, g2, o', g3⟩
  refine ⟨renRho σ ρ, I, ⟨?_, ?_, ?_, ?_⟩, ?_⟩
  · simp [renS, renL_length, S.tlen]
  · intro i v hv
    simp only [renS, renL_get] at hv
    cases hq : s.t[i]? with
    | none => simp [hq] at hv
    | some u =>
      simp [hq] at hv; subst hv
      obtain ⟨x, hx, hr⟩ := S.tv i u hq
      exact ⟨x, hx, hr.ren σ⟩
  · refine ⟨by simp [renRho, renS, renH_eq], ?_, ?_, H.imlt, H.lp.ren σ rget⟩
    · intro j cs hj
      obtain ⟨b, ds, g1, g2, rfl⟩ := ren_row hj
      obtain ⟨rb, base, c, e, fr, k1, k2, k3, k4, k5, k6⟩ := H.row b ds g2
      refine ⟨rb, base, c, e, fr, rget g1 k1, k2, by rw [renL_length]; exact k3, fun i v hv => ?_, k5, k6⟩
      rw [renL_get] at hv
      cases hq : ds[i]? with
      | none => simp [hq] at hv
      | some u =>
        simp [hq] at hv; subst hv
        obtain ⟨y, hy, hr⟩ := k4 i u hq
        exact ⟨y, hy, hr.ren σ⟩
    · intro j1 j2 c1 c2 rb b1 b2 h1 o1 h2 o2 p1 p2
      obtain ⟨i1, d1, g1, g2, go, _⟩ := ren_on h1 o1
      obtain ⟨i2, d2, m1, m2, mo, _⟩ := ren_on h2 o2
      obtain ⟨rb1, base1, k1⟩ := H.place g2
      obtain ⟨rb2, base2, n1⟩ := H.place m2
      have e1 := rget g1 k1
      have e2 := rget m1 n1
      rw [p1] at e1; cases e1
      rw [p2] at e2; cases e2
      have := H.inj i1 i2 d1 d2 rb b1 b2 g2 go m2 mo k1 n1
      subst this
      have l1 := (List.getElem?_eq_some_iff.1 g1)
      have l2 := (List.getElem?_eq_some_iff.1 m1)
      exact (List.getElem_inj hn).1 (l1.2.trans l2.2.symm)
  · obtain ⟨Ds, e, hD, k⟩ := S.marks
    exact ⟨Ds, e, hD, fun D hd => ⟨(k D hd).1, fun h => (k D hd).2.1 (lv D h), (k D hd).2.2⟩⟩
  · refine ⟨rfl, rfl, rfl, Nat.le_refl _, fun i p hi hp => ?_, fun _ h => h, fun _ _ _ => rfl, fun _ c e fr h => ⟨c, e, fr, h, rfl⟩, fun _ _ h => .inl h, fun b _ h => lv b h⟩
    refine rget (b := i) ?_ hp
    have : (σ.take N)[i]? = some i := by rw [hN, List.getElem?_range hi]
    rwa [List.getElem?_take_of_lt hi] at this

/-- New numbers, and then less is said. -/
theorem wk_to {N : Nat} (σ : List Nat) {s : St} {t' : List V} {h' : List HB} (hN : σ.take N = List.range N) (hn : σ.Nodup) (hh : (renS σ s).h = h') (ht : LeL t' (renS σ s).t) : Wk N s ⟨t', h'⟩ := by
  subst hh
  exact (wk_ren σ hN hn).trans (wk_le ht)

theorem renV_clean (σ : List Nat) : ∀ {v : V}, Clean v → renV σ v = v := by
  have lst : ∀ {cs : List V}, (∀ v ∈ cs, renV σ v = v) → renL σ cs = cs := by
    intro cs
    induction cs with
    | nil => intro _; rfl
    | cons c cs ih => intro h; simp only [renL]; rw [h c (by simp), ih fun v hv => h v (by simp [hv])]
  intro v h
  induction h with
  | vptr cs o _ ih => simp only [renV]; rw [lst ih]
  | vec cs l x _ ih => simp only [renV]; rw [lst ih]
  | fn f caps _ ih => simp only [renV]; rw [lst ih]
  | agg cs _ ih => simp only [renV]; rw [lst ih]
  | tup cs _ ih => simp only [renV]; rw [lst ih]
  | _ => rfl
theorem renL_clean (σ : List Nat) {cs : List V} (h : Cleans cs) : renL σ cs = cs := by
  induction cs with
  | nil => rfl
  | cons c cs ih => simp only [renL]; rw [renV_clean σ (h c (by simp)), ih fun v hv => h v (by simp [hv])]

/-- A loop with what is known of each round. -/
theorem aw_loopI {P : Program} {N : Nat} {Q : Exit → St → Prop} {s : St} {c : Code} {X : Type} (J : X → St) (Inv : X → Prop) (μ : X → Nat) (x0 : X) (i0 : Inv x0) (h0 : Wk N s (J x0))
    (hb : ∀ x, Inv x → ∀ K : St → Prop, (∀ s' x', Inv x' → Wk N s' (J x') → μ x' < μ x → K s') → AW P N c (thenK K Q) (J x)) : AW P N (.loop c) Q s := by
  refine aw_loop (X := { x // Inv x }) (fun x => J x.1) (fun x => μ x.1) ⟨x0, i0⟩ h0 fun x => ?_
  exact hb x.1 x.2 _ fun s' x' h1 h2 h3 => ⟨⟨x', h1⟩, h2, h3⟩

/-! ### Sealing -/

mutual
/-- A value whose blocks nobody writes any more. -/
def sealV (h : List HB) : Nat → V → V
  | 0, v => match v with
    | .ptr _ _ | .slc _ _ _ _ _ | .vptr _ _ | .vec _ _ _ | .fn _ _ | .agg _ | .tup _ | .yld _ => .any
    | v => v
  | d + 1, v => match v with
    | .ptr b o => match h[b]? with
      | some (.live cs) => .vptr (sealL h d cs) o
      | _ => .any
    | .slc b o z len _ => match h[b]? with
      | some (.live cs) => .vec (sealL h d ((cs.drop o).take (len * z))) len false
      | _ => .any
    | .vptr cs o => .vptr (sealL h d cs) o
    | .vec cs len x => .vec (sealL h d cs) len x
    | .fn f caps => .fn f (sealL h d caps)
    | .agg cs => .agg (sealL h d cs)
    | .tup vs => .tup (sealL h d vs)
    | .yld _ => .any
    | v => v
def sealL (h : List HB) : Nat → List V → List V
  | _, [] => []
  | d, v :: vs => sealV h d v :: sealL h d vs
end

theorem sealL_get (h : List HB) (d : Nat) : ∀ (l : List V) (i : Nat), (sealL h d l)[i]? = (l[i]?).map (sealV h d)
  | [], i => by simp [sealL]
  | v :: l, 0 => by simp [sealL]
  | v :: l, i + 1 => by simp [sealL, sealL_get h d l i]
theorem sealL_length (h : List HB) (d : Nat) : ∀ (l : List V), (sealL h d l).length = l.length
  | [] => by simp [sealL]
  | v :: l => by simp [sealL, sealL_length h d l]

/-- A sealed value stands for the same. -/
theorem RV.sealed {ρ : Rho} {I : Nat → Prop} {w : World} {h : List HB} (H : RH ρ I w h) : ∀ (d : Nat) {v : V} {x : Value}, RV ρ I w v x → RV [] (fun b => I b ∨ Live h ρ b) w (sealV h d v) x := by
  intro d
  induction d with
  | zero =>
    intro v x hv
    cases hv <;> simp only [sealV] <;> first | exact .any _ | exact .bool _ | exact .int _ _ | exact .str _ | exact .nilp | exact .nils | exact .nilf
  | succ d ih =>
    intro v x hv
    have lst : ∀ {cs : List V} {f : Nat → Value}, (∀ (i : Nat) (v : V), cs[i]? = some v → RV ρ I w v (f i)) → ∀ (i : Nat) (v : V), (sealL h d cs)[i]? = some v → RV [] (fun b => I b ∨ Live h ρ b) w v (f i) := by
      intro cs f ih' i v hv
      rw [sealL_get] at hv
      cases hq : cs[i]? with
      | none => simp [hq] at hv
      | some u => simp [hq] at hv; subst hv; exact ih (ih' i u hq)
    have lst2 : ∀ {cs : List V} {vs : Array Value}, (∀ (i : Nat) (v : V) (x : Value), cs[i]? = some v → vs[i]? = some x → RV ρ I w v x) → ∀ (i : Nat) (v : V) (x : Value), (sealL h d cs)[i]? = some v → vs[i]? = some x → RV [] (fun b => I b ∨ Live h ρ b) w v x := by
      intro cs vs ih' i v x hv hx
      rw [sealL_get] at hv
      cases hq : cs[i]? with
      | none => simp [hq] at hv
      | some u => simp [hq] at hv; subst hv; exact ih (ih' i u x hq hx)
    have blk : ∀ {b : Nat} {cs : List V} {rb base : Nat}, h[b]? = some (.live cs) → ρ[b]? = some (rb, base) → Live h ρ rb ∧ ∃ f : Nat → Value, (∀ i, i < cs.length → w.cell? ⟨rb, base + i, none⟩ = some (f i)) ∧ ∀ (i : Nat) (v : V), cs[i]? = some v → RV ρ I w v (f i) := by
      intro b cs rb base hb hp
      obtain ⟨rb', base', c, e, fr, g1, g2, g3, g4, g5, g6⟩ := H.row b cs hb
      rw [hp] at g1; cases g1
      refine ⟨live_row hb hp, fun i => (c[base + i]?).getD undef, fun i hi => ?_, fun i v hi => ?_⟩
      · have : base + i < c.size := by omega
        rw [cell_of g2]; simp [this]
      · obtain ⟨y, hy, hr⟩ := g4 i v hi
        show RV ρ I w v ((c[base + i]?).getD undef)
        rw [hy]; exact hr
    cases hv with
    | any x => simp only [sealV]; exact .any _
    | bool b => simp only [sealV]; exact .bool _
    | int k n => simp only [sealV]; exact .int _ _
    | str s => simp only [sealV]; exact .str _
    | nilp => simp only [sealV]; exact .nilp
    | nils => simp only [sealV]; exact .nils
    | vecn x => simp only [sealV, sealL]; exact .vecn _ _
    | nilf => simp only [sealV]; exact .nilf
    | yld hp => simp only [sealV]; exact .any _
    | ptr hp =>
      simp only [sealV]; split
      · rename_i cs hb
        obtain ⟨hl, f, f1, f2⟩ := blk hb hp
        exact .vptr f (.inr hl) (fun i hi => f1 i (by rwa [sealL_length] at hi)) (lst f2)
      · exact .any _
    | slc hp h1 h2 hb2 hs =>
      rename_i b o z len cap rb base rcap c e fr
      simp only [sealV]; split
      · rename_i cs hb
        obtain ⟨hl, f, f1, f2⟩ := blk hb hp
        refine .vec (fun i => f (o + i)) (.inr hl) (fun i hi => ?_) (lst fun i v hv => ?_) (Nat.le_trans h1 h2) (by simp)
        · rw [sealL_length] at hi
          rw [Nat.add_assoc]
          refine f1 _ ?_
          simp only [List.length_take, List.length_drop] at hi; omega
        · refine f2 _ v ?_
          rw [List.getElem?_take] at hv
          split at hv
          · rw [List.getElem?_drop] at hv; exact hv
          · cases hv
      · exact .any _
    | vptr f hI hc hv => simp only [sealV]; exact .vptr f (.inl hI) (fun i hi => hc i (by rwa [sealL_length] at hi)) (lst hv)
    | vec f hI hc hv h1 hx => simp only [sealV]; exact .vec f (.inl hI) (fun i hi => hc i (by rwa [sealL_length] at hi)) (lst hv) h1 hx
    | fn hl hv => simp only [sealV]; exact .fn (by rw [sealL_length]; exact hl) (lst2 hv)
    | agg hl hv => simp only [sealV]; exact .agg (by rw [sealL_length]; exact hl) (lst2 hv)
    | tup hl hv => simp only [sealV]; exact .tup (by rw [sealL_length]; exact hl) (lst2 hv)

/-- **What a call makes, and hands back, is nobody else's: it may be taken as sealed.** -/
theorem ac_seal {P : Program} {f : FuncId} {args : List V} {R : V → List HB → Prop} (d : Nat) {r : V} (h : AC P f args [] R) (hr : ∀ v h', R v h' → sealV h' d v = r) : AC P f args [] fun v _ => v = r := by
  intro ρ I w vs hl hv H
  refine (h ρ I w vs hl hv H).mono ?_
  rintro x w' ⟨v, h', ρ', I', hR, hrv, H', K⟩
  have nl : ∀ b, ¬ Live [] ρ b := by rintro b ⟨i, cs, base, h, _⟩; simp at h
  have nl' : ∀ {b}, b < w.heap.size → ¬ Live h' ρ' b := fun hb hL => nl _ (K.live' _ hb hL)
  have hρ : ρ = [] := List.length_eq_zero_iff.1 H.len
  subst hρ
  refine ⟨r, [], [], fun b => I' b ∨ Live h' ρ' b, rfl, hr v h' hR ▸ hrv.sealed H' d, ⟨rfl, by intro i cs h; simp at h, by intro i j cs ds rb b1 b2 h; simp at h, fun b hb => hb.elim (H'.imlt b) fun h => (H'.lt h).1, LoopsOK.nil _ _ _⟩, ?_⟩
  exact ⟨K.os, K.tape, K.output, K.size, by intro i p h; simp at h, fun b hb => .inl (K.im b hb), fun b hb _ => K.same b hb (nl b), K.sz,
    fun b hb h => h.elim (fun h => (K.im' b hb h).imp id fun h => (nl _ h).elim) (fun h => (nl' hb h).elim), fun b _ h => (nl _ h).elim⟩

theorem pure_seal {P : Program} {f : FuncId} {args : List V} {R : V → List HB → Prop} (d : Nat) {r : V} (h : AC P f args [] R) (ha : Cleans args) (hr : ∀ v h', R v h' → sealV h' d v = r) (hc : Clean r) : Pure P f args r := pure_ac (ac_seal d h hr) ha hc
end Go.Abs
