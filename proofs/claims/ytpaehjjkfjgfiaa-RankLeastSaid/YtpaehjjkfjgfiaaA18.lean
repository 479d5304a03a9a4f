/- The abstract machine, part 18: a range over a function: the statement; a call of its yield. -/
import Derived.Test.YtpaehjjkfjgfiaaA17
import Derived.RangeFuncCalls
set_option linter.unusedVariables false
set_option linter.unusedSimpArgs false
namespace Go.Abs
open Go Go.RowKit

section
variable {ρ : Rho} {I : Nat → Prop} {w : World} {h : List HB}

/-- A new object that nobody names. -/
theorem RH.grow (H : RH ρ I w h) (o : Obj) : RH ρ I (w.alloc o) h ∧ Keep h ρ I w h ρ I (w.alloc o) := by
  have old : ∀ b, b < w.heap.size → (w.alloc o).heap[b]? = w.heap[b]? := fun b hb => Below.heap_alloc _ _ _ hb
  have lt : ∀ {b : Nat} {o : Obj}, w.heap[b]? = some o → b < w.heap.size := fun h => (Array.getElem?_eq_some_iff.1 h).1
  have x : Ext ρ I w ρ I (w.alloc o) := ⟨fun i p hp => hp, fun _ h => h, fun b hb => old b (H.imlt b hb), fun b c e fr hb => ⟨c, e, fr, (old b (lt hb)).trans hb, rfl⟩⟩
  constructor
  · refine ⟨H.len, ?_, H.inj, fun b hb => by simp; exact Nat.lt_succ_of_lt (H.imlt b hb), H.lp.ext x (fun l rec h1 hi => ⟨old l (lt h1), hi⟩) (fun _ _ h => h)⟩
    intro i q hi
    obtain ⟨rb, base, c', e', fr, h1, h2, h3, h4, h5, h6⟩ := H.row i q hi
    refine ⟨rb, base, c', e', fr, h1, (old rb (lt h2)).trans h2, h3, fun j v hv => ?_, h5, h6⟩
    obtain ⟨y, hy, hr⟩ := h4 j v hv
    exact ⟨y, hy, hr.ext x⟩
  · exact ⟨rfl, rfl, rfl, by simp, fun _ _ h => h, fun _ h => h, fun b hb _ => old b hb, x.sz, fun b _ hb => .inl hb, fun b _ h => h⟩

/-- A record becomes a block. -/
theorem RH.addLoop (H : RH ρ I w h) {l : Nat} {L : LoopB} {rec : Loop} (hl : ¬ Live h ρ l) (A : LoopAt ρ I w L l rec) : RH (ρ ++ [(l, 0)]) I w (h ++ [.loop L]) ∧ Keep h ρ I w h ρ I w := by
  have x : Ext ρ I w (ρ ++ [(l, 0)]) I w := ⟨fun i p hp => getElem?_append_some hp, fun _ h => h, fun _ _ => rfl, fun b c e fr hb => ⟨c, e, fr, hb, rfl⟩⟩
  have rinv : ∀ (i : Nat) (p : Nat × Nat), (ρ ++ [(l, 0)])[i]? = some p → i < h.length → ρ[i]? = some p := by
    intro i p hp hi
    rwa [List.getElem?_append_left (by rw [H.len]; exact hi)] at hp
  have rnew : ∀ (p : Nat × Nat), (ρ ++ [(l, 0)])[h.length]? = some p → p = (l, 0) := by
    intro p hp; rw [← H.len] at hp; simp at hp; exact hp.symm
  refine ⟨⟨by simp [H.len], ?_, ?_, H.imlt, ?_⟩, Keep.refl _ _ _ _⟩
  · intro i q hi
    rcases on_app hi with ⟨hi, hlt⟩ | ⟨_, e⟩
    · obtain ⟨rb, base, c', e', fr, h1, h2, h3, h4, h5, h6⟩ := H.row i q hi
      refine ⟨rb, base, c', e', fr, x.rho _ _ h1, h2, h3, fun j v hv => ?_, h5, h6⟩
      obtain ⟨y, hy, hr⟩ := h4 j v hv
      exact ⟨y, hy, hr.ext x⟩
    · cases e
  · intro i j q1 q2 rb b1 b2 hi o1 hj o2 hp1 hp2
    rcases on_app hi with ⟨hi', hlt⟩ | ⟨hi', _⟩
    · rcases on_app hj with ⟨hj', hlt'⟩ | ⟨hj', _⟩
      · exact H.inj i j q1 q2 rb b1 b2 hi' o1 hj' o2 (rinv _ _ hp1 hlt) (rinv _ _ hp2 hlt')
      · subst hj'
        have := rnew _ hp2; cases this
        exact absurd ⟨i, q1, b1, hi', o1, rinv _ _ hp1 hlt⟩ hl
    · rcases on_app hj with ⟨hj', hlt'⟩ | ⟨hj', _⟩
      · subst hi'
        have := rnew _ hp1; cases this
        exact absurd ⟨j, q2, b2, hj', o2, rinv _ _ hp2 hlt'⟩ hl
      · rw [hi', hj']
  · intro i M hi
    rcases on_app hi with ⟨hi, hlt⟩ | ⟨e1, e⟩
    · obtain ⟨l', base, rec', g1, A'⟩ := H.lp i M hi
      exact ⟨l', base, rec', x.rho _ _ g1, A'.ext x rfl A'.im⟩
    · cases e
      subst e1
      exact ⟨l, 0, rec, by rw [← H.len]; simp, A.ext x rfl A.im⟩
end

section
variable {P : Program} {N : Nat} {Q : Exit → St → Prop} {s : St}

/-- **A range over a function**, all of whose rounds end at their end. -/
theorem aw_range {g : Operand} {ps : Array Tmp} {assign body : Code} {f : FuncId} {caps : List V} (hg : ev s.t g = .fn f caps) (he : Enters P f)
    (hc : AC P f (.yld s.h.length :: caps) (s.h ++ [.loop ⟨s.t, ps, assign, body⟩]) fun _ h' => h'[s.h.length]? = some (.loop ⟨s.t, ps, assign, body⟩) ∧ Q .normal ⟨s.t, h'.set s.h.length .dead⟩) :
    AW P N (.rangeFunc g ps assign body) Q s := by
  intro r hr ρ I w a S
  obtain rfl : r = none := by
    cases r with
    | none => rfl
    | some l => have := hr rfl; simp [noRange] at this
  have hv := rv_ev (ρ := ρ) (I := I) (w := w) S g
  rw [hg] at hv
  generalize hac : a.eval g = z at hv
  cases hv with
  | fn hl hvs =>
  rename_i vs
  refine wpIn_rangeFunc fun fn _ => ?_
  obtain ⟨rec, hrec⟩ : ∃ rec : Loop, rec = { state := .ready, pending := none, fn, tmps := a.tmps, params := ps, assign, body, defers := w.heap.size } := ⟨_, rfl⟩
  have hent := run_enterLoop_outer (P := P) (w := w) fn a.tmps ps assign body
  rw [← hrec] at hent
  obtain ⟨HA, KA⟩ := S.heap.grow (.deferred (some []))
  obtain ⟨HB', KB⟩ := HA.grow (.loop rec)
  have KAB := KA.trans KB
  obtain ⟨w0, hw0⟩ : ∃ w0, w.alloc (.deferred (some [])) = w0 := ⟨_, rfl⟩
  rw [hw0] at hent HA KA HB' KB KAB
  have sz0 : w0.heap.size = w.heap.size + 1 := by rw [← hw0]; simp
  have at0 : w0.heap[w.heap.size]? = some (.deferred (some [])) := by rw [← hw0]; exact World.alloc_heap_new _ _
  obtain ⟨w1, hw1⟩ : ∃ w1, w0.alloc (.loop rec) = w1 := ⟨_, rfl⟩
  rw [hw1] at hent HB' KB KAB
  have at1 : w1.heap[w.heap.size + 1]? = some (.loop rec) := by rw [← hw1, ← sz0]; exact World.alloc_heap_new _ _
  have at1d : w1.heap[w.heap.size]? = some (.deferred (some [])) := by rw [← hw1]; exact (Below.heap_alloc _ _ _ (by omega)).trans at0
  have sz1 : w1.heap.size = w.heap.size + 2 := by rw [← hw1]; simp [sz0]
  have lvlt : ∀ {b : Nat}, Live s.h ρ b → b < w.heap.size := fun h => (S.heap.lt h).1
  have nl : ¬ Live s.h ρ (w.heap.size + 1) := fun h => by have := lvlt h; omega
  have ni : ¬ I (w.heap.size + 1) := fun h => by have := S.heap.imlt _ h; omega
  have A : LoopAt ρ I w1 ⟨s.t, ps, assign, body⟩ (w.heap.size + 1) rec := by
    subst hrec
    exact ⟨at1, rfl, rfl, rfl, rfl, rfl, S.tlen, fun i v hv => by
      obtain ⟨y, hy, hr⟩ := S.tv i v hv; exact ⟨y, hy, hr.ext (KAB.ext S.heap)⟩, ni⟩
  obtain ⟨HL, _⟩ := HB'.addLoop nl A
  have K0 : Keep s.h ρ I w (s.h ++ [.loop ⟨s.t, ps, assign, body⟩]) (ρ ++ [(w.heap.size + 1, 0)]) I w1 :=
    ⟨KAB.os, KAB.tape, KAB.output, KAB.size, fun i p hp => getElem?_append_some hp, KAB.im, KAB.same, KAB.sz, KAB.im', fun b hb hL => by
      obtain ⟨i, x, base, hi, o, hp⟩ := hL
      rcases on_app hi with ⟨hi, hlt⟩ | ⟨e1, _⟩
      · rw [List.getElem?_append_left (by rw [S.heap.len]; exact hlt)] at hp
        exact ⟨i, x, base, hi, o, hp⟩
      · subst e1
        rw [← S.heap.len] at hp; simp at hp
        omega⟩
  have hargs : ∀ (i : Nat) (v : V) (x : Value), (V.yld s.h.length :: caps)[i]? = some v → (#[Value.func (.yield (w.heap.size + 1)) #[] #[]] ++ vs)[i]? = some x → RV (ρ ++ [(w.heap.size + 1, 0)]) I w1 v x := by
    intro i v x q1 q2
    cases i with
    | zero =>
      rw [Array.getElem?_append_left (by simp)] at q2
      simp at q1 q2
      subst q1; subst q2
      exact .yld (base := 0) (by rw [← S.heap.len]; simp)
    | succ i =>
      simp at q1
      rw [Array.getElem?_append_right (by simp)] at q2
      simp at q2
      exact (hvs i v x q1 q2).ext (K0.ext S.heap)
  refine ⟨w.heap.size + 1, _, w1, { target := .fn (.func f) vs, args := #[Value.func (.yield (w.heap.size + 1)) #[] #[]] }, w1, f, #[Value.func (.yield (w.heap.size + 1)) #[] #[]] ++ vs, w1, hent, ?_, fun _ _ => trivial, ?_, fun h => by simp [Fw, Fence.wide] at h, ?_⟩
  · simp only [rangeCall, resolve, hac, Deferred.ofValue, Sem.run_pure]
    simp [Act.eval]
  · simp only [invoke]
    exact he _ w1
  rcases hc (ρ ++ [(w.heap.size + 1, 0)]) I w1 (#[Value.func (.yield (w.heap.size + 1)) #[] #[]] ++ vs) (by simp [hl]; omega) hargs HL with ⟨_, hcall⟩ | ⟨x, w', hx, _⟩
  rotate_left 1
  · rw [he _ w1] at hx; cases hx
  refine CallsIn.mono (F := Fw none) hcall ?_
  rintro e w' ⟨x, rfl, v, h', ρ', I', ⟨hb, hq⟩, hrv, H', K⟩
  have hp' : ρ'[s.h.length]? = some (w.heap.size + 1, 0) := K.rho _ _ (by rw [← S.heap.len]; simp)
  obtain ⟨l', base', rec', e1, A'⟩ := H'.lp _ _ hb
  rw [hp'] at e1; cases e1
  have nl' := not_live_loop H' hb hp'
  have nc' : ∀ c e fr, w'.heap[w.heap.size + 1]? ≠ some (.cells c e fr) := by intro c e fr h; rw [A'.at_] at h; cases h
  obtain ⟨w4, hw4⟩ : ∃ w4, w'.putObj (w.heap.size + 1) (.loop { rec' with state := .exhausted }) = w4 := ⟨_, rfl⟩
  have hend := run_endLoop (P := P) A'.at_ (by rw [A'.ready]; intro h; cases h)
  rw [hw4, A'.pend] at hend
  refine ⟨none, w4, hend, ?_⟩
  obtain ⟨HD, KD⟩ := H'.die s.h.length
  have H4 := HD.putObj (.loop { rec' with state := .exhausted }) nl' A'.im nc'
  have K4 : Keep s.h ρ I w (h'.set s.h.length .dead) ρ' I' w4 := by rw [← hw4]; exact ((K0.trans K).trans KD).putObj _ (by omega) nc'
  rw [hw4] at H4
  have X := K4.ext S.heap
  refine ⟨⟨s.t, h'.set s.h.length .dead⟩, ρ', I', hq, ⟨S.tlen, fun i v hv => ?_, H4, ?_⟩, K4.toN N, ⟨[w.heap.size], rfl, by simp⟩⟩
  · obtain ⟨y, hy, hr⟩ := S.tv i v hv; exact ⟨y, hy, hr.ext X⟩
  · obtain ⟨Ds, e, hn, hD⟩ := marks_keep (K4.toN 0) S.marks
    obtain ⟨Ds0, e0, _, hD0⟩ := S.marks
    have hD1 : w.heap.size < w1.heap.size := by omega
    have nlD : ¬ Live (s.h ++ [.loop ⟨s.t, ps, assign, body⟩]) (ρ ++ [(w.heap.size + 1, 0)]) w.heap.size := by
      rintro ⟨i, x, base, hi, o, hp⟩
      rcases on_app hi with ⟨hi, hlt⟩ | ⟨e1, _⟩
      · rw [List.getElem?_append_left (by rw [S.heap.len]; exact hlt)] at hp
        have := lvlt ⟨i, x, base, hi, o, hp⟩; omega
      · subst e1
        rw [← S.heap.len] at hp; simp at hp
    have nID : ¬ I w.heap.size := fun h => by have := S.heap.imlt _ h; omega
    refine ⟨w.heap.size :: Ds, by show _ :: a.defers = _; rw [e]; rfl, ?_, ?_⟩
    · refine List.nodup_cons.2 ⟨fun hm => ?_, hn⟩
      have hinj : ∀ (l1 l2 : List Nat), l1.map markD = l2.map markD → l1 = l2 := by
        intro l1
        induction l1 with
        | nil => intro l2 h; cases l2 with
          | nil => rfl
          | cons => cases h
        | cons x l1 ih => intro l2 h; cases l2 with
          | nil => cases h
          | cons y l2 =>
            simp only [List.map_cons, List.cons.injEq] at h
            have : x = y := by have := h.1; unfold markD at this; simp at this; exact this
            rw [this, ih l2 h.2]
      have := hinj Ds Ds0 (by rw [← e, e0])
      rw [this] at hm
      have := (hD0 _ hm).1
      omega
    · intro D hd
      rcases List.mem_cons.1 hd with rfl | hd
      · refine ⟨?_, fun h => ?_, fun h => ?_, ?_⟩
        · exact Nat.lt_of_lt_of_le hD1 (by rw [← hw4, World.putObj_size]; exact K.size)
        · exact nlD (K.live' _ hD1 (KD.live' _ (Nat.lt_of_lt_of_le hD1 K.size) h))
        · exact (K.im' _ hD1 h).elim nID nlD
        · rw [← hw4, World.putObj_heap_other (by omega)]
          exact (K.same _ hD1 nlD).trans at1d
      · exact hD D hd

/-- Both ways of a branch lead to one state. -/
theorem aw_joinR {X : Type} (J : X → St) (Inv : X → Prop) {c rest : Code} {Q Q2 : Exit → St → Prop} (h : ∀ K : Exit → St → Prop, (∀ s x, Inv x → Wk N s (J x) → K .normal s) → AW P N c K s)
    (k : ∀ x, Inv x → AW P N rest Q (J x)) : AW P N c (thenK (AW P N rest Q) Q2) s := by
  refine AW.mono (h (fun e s => e = .normal ∧ ∃ x, Inv x ∧ Wk N s (J x)) fun s x hx hw => ⟨rfl, x, hx, hw⟩) ?_
  rintro e s ⟨rfl, x, hx, hw⟩
  exact aw_wk hw (k x hx)

variable {ty : Tab} {Ls : List FuncId} {ops : Array Oper} {os : List Oper} {t : List V} {h : List HB} {K : St → Prop}
/-- A call of the yield of a loop: one round. -/
theorem st_yield {op : Op} {d : Option Tmp} {a : TypeId} {b : String} {c : Array Edge} {n : Nat} {args : List V} {lb : LoopB} {h' : List HB} (e0 : callOf t op = none) (e : yieldOf t op = some (n, args)) (ha : aop ty t h op = none) (hb : h[n]? = some (.loop lb)) (hr : RoundD P lb args (h.set n .dead) h')
    (k : ASeq P ty Ls ops os ⟨put t d (.bool true), h'.set n (.loop lb)⟩ K) : ASeq P ty Ls ops (⟨d, op, a, b, c, none⟩ :: os) ⟨t, h⟩ K := by
  simp only [ASeq, AStep, guardOf, ADo, ha, e0, e]
  exact ⟨fun _ => ⟨lb, h', hb, hr, k⟩, fun h => by cases h⟩
end
end Go.Abs
