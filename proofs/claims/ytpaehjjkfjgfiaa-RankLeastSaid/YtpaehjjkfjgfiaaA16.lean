/- The abstract machine, part 16: a call that is handed some of the heap's blocks leaves the others. -/
import Derived.Test.YtpaehjjkfjgfiaaA13
set_option linter.unusedVariables false
set_option linter.unusedSimpArgs false
namespace Go.Abs
open Go Go.RowKit

theorem RH.ren {ρ : Rho} {I : Nat → Prop} {w : World} {H : List HB} (R : RH ρ I w H) (σ : List Nat) (hn : σ.Nodup) : RH (renRho σ ρ) I w (renH σ H σ) := by
  have rget : ∀ {j b : Nat} {p : Nat × Nat}, σ[j]? = some b → ρ[b]? = some p → (renRho σ ρ)[j]? = some p := by
    intro j b p hj hp; simp [renRho, hj, List.getD_eq_getElem?_getD, hp]
  refine ⟨by simp [renRho, renH_eq], ?_, ?_, R.imlt, R.lp.ren σ rget⟩
  · intro j cs hj
    obtain ⟨b, ds, g1, g2, rfl⟩ := ren_row hj
    obtain ⟨rb, base, c, e, fr, k1, k2, k3, k4, k5, k6⟩ := R.row b ds g2
    refine ⟨rb, base, c, e, fr, rget g1 k1, k2, by rw [renL_length]; exact k3, fun i v hv => ?_, k5, k6⟩
    rw [renL_get] at hv
    cases hq : ds[i]? with
    | none => simp [hq] at hv
    | some u =>
      simp [hq] at hv; subst hv
      obtain ⟨y, hy, hr⟩ := k4 i u hq
      exact ⟨y, hy, hr.ren σ⟩
  · intro j1 j2 c1 c2 rb b1 b2 h1 o1 h2 o2 p1 p2
    obtain ⟨i1, d1, g1, g2, go, _⟩ := ren_on h1 o1
    obtain ⟨i2, d2, m1, m2, mo, _⟩ := ren_on h2 o2
    obtain ⟨rb1, base1, k1⟩ := R.place g2
    obtain ⟨rb2, base2, n1⟩ := R.place m2
    have e1 := rget g1 k1
    have e2 := rget m1 n1
    rw [p1] at e1; cases e1
    rw [p2] at e2; cases e2
    have := R.inj i1 i2 d1 d2 rb b1 b2 g2 go m2 mo k1 n1
    subst this
    have l1 := (List.getElem?_eq_some_iff.1 g1)
    have l2 := (List.getElem?_eq_some_iff.1 m1)
    exact (List.getElem_inj hn).1 (l1.2.trans l2.2.symm)

def HClean : HB → Prop
  | .dead => True
  | .live cs => Cleans cs
  | .loop _ => False

/-- **The frame of a call.** -/
theorem calld_frame {P : Program} {f : FuncId} {args : List V} {H H' h1 : List HB} (σ : List Nat) {r : V} (hn : σ.Nodup) (hl : h1.length = σ.length) (hc1 : ∀ x ∈ h1, HClean x) (hr : Clean r)
    (g1 : ∀ (j b : Nat), σ[j]? = some b → H'[b]? = h1[j]?) (g2 : ∀ i, i ∉ σ → H'[i]? = H[i]?) (g3 : H'.length = H.length)
    (h : AC P f (renL σ args) (renH σ H σ) fun v h' => v = r ∧ h' = h1) : CallD P f args H r H' := by
  intro ρ I w vs hlen hv R
  have rs := R.ren σ hn
  have rget : ∀ {j b : Nat} {p : Nat × Nat}, σ[j]? = some b → ρ[b]? = some p → (renRho σ ρ)[j]? = some p := by
    intro j b p hj hp; simp [renRho, hj, List.getD_eq_getElem?_getD, hp]
  have lv : ∀ {b : Nat}, Live (renH σ H σ) (renRho σ ρ) b → ∃ (j i : Nat) (ds : HB) (base : Nat), σ[j]? = some i ∧ H[i]? = some ds ∧ ds.on ∧ ρ[i]? = some (b, base) := by
    rintro b ⟨j, cs, base, h1, o, h2⟩
    obtain ⟨i, ds, q1, q2, o', _⟩ := ren_on h1 o
    obtain ⟨rb, base', q3⟩ := R.place q2
    have := rget q1 q3
    rw [h2] at this; cases this
    exact ⟨j, i, ds, _, q1, q2, o', q3⟩
  have lvH : ∀ {b : Nat}, Live (renH σ H σ) (renRho σ ρ) b → Live H ρ b := fun h => by
    obtain ⟨j, i, ds, base, _, q2, o, q3⟩ := lv h; exact ⟨i, ds, base, q2, o, q3⟩
  refine (h (renRho σ ρ) I w vs (by rw [renL_length]; exact hlen) (fun i v x h1 h2 => ?_) rs).mono ?_
  · rw [renL_get] at h1
    cases hq : args[i]? with
    | none => simp [hq] at h1
    | some u => simp [hq] at h1; subst h1; exact (hv i u x hq h2).ren σ
  rintro x w' ⟨v, h', ρ', I', ⟨rfl, rfl⟩, hrv, R', K⟩
  have X : Ext ρ I w ρ I' w' := ⟨fun _ _ h => h, K.im, fun b hb => K.same b (R.imlt b hb) (fun hl => (R.lt (lvH hl)).2 hb), K.sz⟩
  have back : ∀ {j b : Nat} {p : Nat × Nat}, σ[j]? = some b → ρ'[j]? = some p → b < H.length → ρ[b]? = some p := by
    intro j b p hj hp hb
    have hρ : b < ρ.length := by rw [R.len]; exact hb
    have := K.rho j _ (rget hj (List.getElem?_eq_getElem hρ))
    rw [hp] at this
    rw [List.getElem?_eq_getElem hρ]; exact this.symm
  have cell : ∀ {i : Nat} {cs : HB}, H'[i]? = some cs → (∃ j : Nat, σ[j]? = some i ∧ h'[j]? = some cs) ∨ (i ∉ σ ∧ H[i]? = some cs) := by
    intro i cs hi
    by_cases hm : i ∈ σ
    · obtain ⟨j, hj⟩ := List.getElem?_of_mem hm
      exact .inl ⟨j, hj, by rw [← g1 j i hj]; exact hi⟩
    · exact .inr ⟨hm, by rw [← g2 i hm]; exact hi⟩
  have lt' : ∀ {i : Nat} {cs : HB}, H'[i]? = some cs → i < H.length := fun h => by rw [← g3]; exact (List.getElem?_eq_some_iff.1 h).1
  -- blocks of the call's own do not meet others
  have apart : ∀ {j i k : Nat} {cs ds : HB} {rb b1 b2 : Nat}, σ[j]? = some i → h'[j]? = some cs → cs.on → ρ'[j]? = some (rb, b1) → k ∉ σ → H[k]? = some ds → ds.on → ρ[k]? = some (rb, b2) → False := by
    intro j i k cs ds rb b1 b2 hj hc oc hp hk hd od hq
    have hlt := (R.lt ⟨k, ds, b2, hd, od, hq⟩).1
    obtain ⟨j', i', ds', base', q1, q2, q3o, q3⟩ := lv (K.live' rb hlt ⟨j, cs, b1, hc, oc, hp⟩)
    have := R.inj k i' ds ds' rb b2 base' hd od q2 q3o hq q3
    exact hk (this ▸ List.mem_of_getElem? q1)
  refine ⟨v, H', ρ, I', ⟨rfl, rfl⟩, hr.rv hrv, ⟨by rw [g3]; exact R.len, ?_, ?_, R'.imlt, ?_⟩, ?_⟩
  · intro i cs hi
    rcases cell hi with ⟨j, hj, hc⟩ | ⟨hm, hc⟩
    · obtain ⟨rb, base, c, e, fr, k1, k2, k3, k4, k5, k6⟩ := R'.row j cs hc
      refine ⟨rb, base, c, e, fr, back hj k1 (lt' hi), k2, k3, fun q u hu => ?_, k5, k6⟩
      obtain ⟨y, hy, hr'⟩ := k4 q u hu
      have hcl : HClean (.live cs) := hc1 _ (List.mem_of_getElem? hc)
      exact ⟨y, hy, (hcl u (List.mem_of_getElem? hu)).rv hr'⟩
    · obtain ⟨rb, base, c, e, fr, k1, k2, k3, k4, k5, k6⟩ := R.row i cs hc
      have hb := (R.lt (live_row hc k1)).1
      have nl : ¬ Live (renH σ H σ) (renRho σ ρ) rb := fun hl => by
        obtain ⟨j', i', ds', base', q1, q2, q3o, q3⟩ := lv hl
        have := R.inj i i' _ ds' rb base base' hc trivial q2 q3o k1 q3
        exact hm (this ▸ List.mem_of_getElem? q1)
      refine ⟨rb, base, c, e, fr, k1, (K.same rb hb nl).trans k2, k3, fun q u hu => ?_, k5, fun hI => ?_⟩
      · obtain ⟨y, hy, hr'⟩ := k4 q u hu; exact ⟨y, hy, hr'.ext X⟩
      · exact (K.im' rb hb hI).elim k6 nl
  · intro i1 i2 c1 c2 rb b1 b2 h1 o1 h2 o2 p1 p2
    rcases cell h1 with ⟨j1, hj1, hc1'⟩ | ⟨hm1, hc1'⟩
    · obtain ⟨rb1, base1, k1⟩ := R'.place hc1'
      have e1 := back hj1 k1 (lt' h1)
      rw [p1] at e1; cases e1
      rcases cell h2 with ⟨j2, hj2, hc2'⟩ | ⟨hm2, hc2'⟩
      · obtain ⟨rb2, base2, k2⟩ := R'.place hc2'
        have e2 := back hj2 k2 (lt' h2)
        rw [p2] at e2; cases e2
        have := R'.inj j1 j2 c1 c2 rb b1 b2 hc1' o1 hc2' o2 k1 k2
        subst this
        rw [hj1] at hj2; exact Option.some.inj hj2
      · exact (apart hj1 hc1' o1 k1 hm2 hc2' o2 p2).elim
    · rcases cell h2 with ⟨j2, hj2, hc2'⟩ | ⟨hm2, hc2'⟩
      · obtain ⟨rb2, base2, k2⟩ := R'.place hc2'
        have e2 := back hj2 k2 (lt' h2)
        rw [p2] at e2; cases e2
        exact (apart hj2 hc2' o2 k2 hm1 hc1' o1 p1).elim
      · exact R.inj i1 i2 c1 c2 rb b1 b2 hc1' o1 hc2' o2 p1 p2
  · intro i L hi
    rcases cell hi with ⟨j, hj, hc⟩ | ⟨hm, hc⟩
    · exact (hc1 _ (List.mem_of_getElem? hc)).elim
    · obtain ⟨l, base, rec, k1, A⟩ := R.lp i L hc
      have hb := (R.lt ⟨i, _, base, hc, trivial, k1⟩).1
      have nl : ¬ Live (renH σ H σ) (renRho σ ρ) l := fun hl => by
        obtain ⟨j', i', ds', base', q1, q2, q3o, q3⟩ := lv hl
        have := R.inj i i' _ ds' l base base' hc trivial q2 q3o k1 q3
        exact hm (this ▸ List.mem_of_getElem? q1)
      exact ⟨l, base, rec, k1, A.ext X (K.same l hb nl) (fun hI => (K.im' l hb hI).elim A.im nl)⟩
  · refine ⟨K.os, K.tape, K.output, K.size, fun _ _ h => h, K.im, fun b hb hl => K.same b hb (fun h => hl (lvH h)), K.sz, fun b hb hI => (K.im' b hb hI).imp id lvH, ?_⟩
    rintro b hb ⟨i, cs, base, hi, o, hp⟩
    rcases cell hi with ⟨j, hj, hc⟩ | ⟨hm, hc⟩
    · obtain ⟨rb, base', k1⟩ := R'.place hc
      have e := back hj k1 (lt' hi)
      rw [hp] at e; cases e
      exact lvH (K.live' b hb ⟨j, cs, base, hc, o, k1⟩)
    · exact ⟨i, cs, base, hc, o, hp⟩
end Go.Abs
