/- The abstract machine, part 6: a run through a region is the model's; frames; orders. -/
import Derived.Test.YtemlnaipcdajeaaGreatM3
set_option linter.unusedVariables false
set_option linter.unusedSimpArgs false
namespace Go.Abs
open Go Go.RowKit

section
variable {ρ : Rho} {I : Nat → Prop} {w : World}
/-- A block that is no cells, and that nobody names, is turned. -/
theorem RH.putObj {ρ : Rho} {I : Nat → Prop} {w : World} {h : List HB} (H : RH ρ I w h) {D : Nat} (o : Obj) (hl : ¬ Live h ρ D) (hI : ¬ I D) (hc : ∀ c e fr, w.heap[D]? ≠ some (.cells c e fr)) :
    RH ρ I (w.putObj D o) h := by
  have other : ∀ k, k ≠ D → (w.putObj D o).heap[k]? = w.heap[k]? := fun k hk => World.putObj_heap_other hk
  have X : Ext ρ I w ρ I (w.putObj D o) := ⟨fun _ _ h => h, fun _ h => h, fun b hb => other b (fun e => hI (e ▸ hb)), fun b c e fr hb =>
    ⟨c, e, fr, (other b (fun e' => hc c e fr (e' ▸ hb))).trans hb, rfl⟩⟩
  refine ⟨H.len, ?_, H.inj, fun b hb => by rw [World.putObj_size]; exact H.imlt b hb, ?_⟩
  rotate_left 1
  · intro i L hi
    obtain ⟨l, base, rec, g1, A⟩ := H.lp i L hi
    have hne : l ≠ D := fun e' => hl ⟨i, _, base, hi, trivial, e' ▸ g1⟩
    exact ⟨l, base, rec, g1, A.ext X (other l hne) A.im⟩
  intro i cs hi
  obtain ⟨rb, base, c, e, fr, g1, g2, g3, g4, g5, g6⟩ := H.row i cs hi
  have hne : rb ≠ D := fun e' => hl ⟨i, _, base, hi, trivial, e' ▸ g1⟩
  refine ⟨rb, base, c, e, fr, g1, (other rb hne).trans g2, g3, fun j v hv => ?_, g5, g6⟩
  obtain ⟨y, hy, hr⟩ := g4 j v hv
  exact ⟨y, hy, hr.ext X⟩

theorem Keep.putObj {h h' : List HB} {ρ ρ' : Rho} {I I' : Nat → Prop} {w w' : World} (k : Keep h ρ I w h' ρ' I' w') {D : Nat} (o : Obj) (hD : w.heap.size ≤ D) (hc : ∀ c e fr, w'.heap[D]? ≠ some (.cells c e fr)) :
    Keep h ρ I w h' ρ' I' (w'.putObj D o) where
  os := k.os
  tape := k.tape
  output := k.output
  size := by rw [World.putObj_size]; exact k.size
  rho := k.rho
  im := k.im
  same := fun b hb hl => (World.putObj_heap_other (by omega)).trans (k.same b hb hl)
  sz := fun b c e fr hb => by
    obtain ⟨c', e', fr', h1, h2⟩ := k.sz b c e fr hb
    exact ⟨c', e', fr', (World.putObj_heap_other (fun (e'' : b = D) => hc c' e' fr' (by rw [← e'']; exact h1))).trans h1, h2⟩
  im' := k.im'
  live' := k.live'


/-- The record of a loop comes back. -/
theorem RH.setLoop {h : List HB} (H : RH ρ I w h) {b l base : Nat} {L : LoopB} {rec : Loop} (hp : ρ[b]? = some (l, base)) (A : LoopAt ρ I w L l rec) (hl : ¬ Live h ρ l) : RH ρ I w (h.set b (.loop L)) := by
  refine ⟨by rw [H.len, List.length_set], ?_, ?_, H.imlt, ?_⟩
  · intro i cs hi
    rcases on_set hi trivial with ⟨_, hi⟩ | ⟨_, e, _⟩
    · exact H.row i cs hi
    · cases e
  · intro i j x y rb b1 b2 hi o1 hj o2 p1 p2
    rcases on_set hi o1 with ⟨_, hi'⟩ | ⟨e1, _, _⟩ <;> rcases on_set hj o2 with ⟨_, hj'⟩ | ⟨e2, _, _⟩
    · exact H.inj i j x y rb b1 b2 hi' o1 hj' o2 p1 p2
    · subst e2; rw [hp] at p2; cases p2
      exact absurd ⟨i, x, b1, hi', o1, p1⟩ hl
    · subst e1; rw [hp] at p1; cases p1
      exact absurd ⟨j, y, b2, hj', o2, p2⟩ hl
    · rw [e1, e2]
  · intro i M hi
    rcases on_set hi trivial with ⟨_, hi⟩ | ⟨e1, e, _⟩
    · exact H.lp i M hi
    · cases e; subst e1; exact ⟨l, base, rec, hp, A⟩

/-- Temporaries that stand for abstract ones. -/
def TV (ρ : Rho) (I : Nat → Prop) (w : World) (t : List V) (a : Array Value) : Prop := a.size = t.length ∧ ∀ (i : Nat) (v : V), t[i]? = some v → ∃ x, a[i]? = some x ∧ RV ρ I w v x
theorem TV.set {t : List V} {a : Array Value} (h : TV ρ I w t a) {v : V} {x : Value} (hv : RV ρ I w v x) (p : Tmp) : TV ρ I w (t.set p v) (a.setIfInBounds p x) := by
  refine ⟨by simp [h.1], fun i u hu => ?_⟩
  by_cases e : p = i
  · subst e
    rw [List.getElem?_set] at hu
    simp only [if_true] at hu
    split at hu
    · rename_i hlt
      simp only [Option.some.injEq] at hu; subst hu
      exact ⟨x, by rw [Array.getElem?_setIfInBounds_self_of_lt (by rw [h.1]; exact hlt)], hv⟩
    · cases hu
  · rw [List.getElem?_set_ne e] at hu
    obtain ⟨y, hy, hr⟩ := h.2 i u hu
    exact ⟨y, by rw [Array.getElem?_setIfInBounds_ne e]; exact hy, hr⟩
theorem TV.fold : ∀ (ps : List Tmp) (vs : List V) (xs : List Value) {t : List V} {a : Array Value}, TV ρ I w t a → vs.length = xs.length → (∀ (i : Nat) (v : V) (x : Value), vs[i]? = some v → xs[i]? = some x → RV ρ I w v x) →
    TV ρ I w ((ps.zip vs).foldl (fun t q => t.set q.1 q.2) t) ((ps.zip xs).foldl (fun a q => a.setIfInBounds q.1 q.2) a)
  | [], vs, xs, t, a, h, _, _ => by simpa using h
  | p :: ps, [], [], t, a, h, _, _ => by simpa using h
  | p :: ps, [], x :: xs, t, a, h, e, _ => by simp at e
  | p :: ps, v :: vs, [], t, a, h, e, _ => by simp at e
  | p :: ps, v :: vs, x :: xs, t, a, h, e, hv => by
    simp only [List.zip_cons_cons, List.foldl_cons]
    exact TV.fold ps vs xs (h.set (hv 0 v x rfl rfl) p) (by simpa using e) (fun i u y h1 h2 => hv (i + 1) u y (by simpa using h1) (by simpa using h2))
end

section
variable {P : Program} {ty : Tab} {L : List FuncId}

theorem callOf_real {ρ : Rho} {I : Nat → Prop} {w : World} {s : St} {a : Act} (S : RS ρ I w s a) {o : Oper} {f : FuncId} {args : List V} (hc : callOf s.t o.op = some (f, args)) :
    ∃ vs, args.length = vs.size ∧ (∀ (i : Nat) (v : V) (x : Value), args[i]? = some v → vs[i]? = some x → RV ρ I w v x) ∧ (execOp a.eval o).run P w = (callFunc f vs).run P w ∧ noDefer o.op = true := by
  unfold callOf at hc
  split at hc
  · rename_i c ho
    split at hc
    · rename_i fo hf
      have hv := rv_ev (ρ := ρ) (I := I) (w := w) S fo
      split at hc
      · rename_i g caps hg
        simp only [Option.some.injEq, Prod.mk.injEq] at hc
        obtain ⟨rfl, rfl⟩ := hc
        rw [hg] at hv
        generalize hac : a.eval fo = z at hv
        cases hv with
        | fn hl hvs =>
          obtain ⟨h1, h2⟩ := rv_args S c.args hl hvs
          refine ⟨_, h1, h2, ?_, by rw [ho]; rfl⟩
          simp only [execOp, ho, resolve, hf, hac, Deferred.ofValue, Sem.run_bind, Sem.run_pure, Result.andThen_ok, invoke]
          simp
      · cases hc
    · cases hc
  · cases hc

theorem not_live_loop {ρ : Rho} {I : Nat → Prop} {w : World} {h : List HB} {b l base : Nat} {L : LoopB} (H : RH ρ I w h) (hb : h[b]? = some (.loop L)) (hp : ρ[b]? = some (l, base)) : ¬ Live (h.set b .dead) ρ l := by
  rintro ⟨i, x, b1, hi, o, p1⟩
  rcases on_set hi o with ⟨hne, hi⟩ | ⟨_, rfl, _⟩
  · exact hne (H.inj i b x _ l b1 base hi o hb trivial p1 hp)
  · exact o.elim

/-- **One round.** -/
theorem round_sound {s : St} {ρ : Rho} {I : Nat → Prop} {w : World} (H : RH ρ I w s.h) {b l base : Nat} {lb : LoopB} {rec : Loop} (hb : s.h[b]? = some (.loop lb)) (hp : ρ[b]? = some (l, base)) (A : LoopAt ρ I w lb l rec)
    {args : List V} {vs : Array Value} (h1 : args.length = vs.size) (h2 : ∀ (i : Nat) (v : V) (x : Value), args[i]? = some v → vs[i]? = some x → RV ρ I w v x) {h' : List HB} {c : Option Code} (hr : RoundD P lb args (s.h.set b .dead) h' c) (r : Option Nat) :
    RoundIn (Fw r) 0 P l rec.fn ((rec.params.zip vs).foldl (fun tmps (t, a) => tmps.setIfInBounds t a) rec.tmps) rec.assign rec.body w
      fun e w' => e = .returned (.bool c.isNone) ∧ ∃ ρ' I', RH ρ' I' w' (h'.set b (.loop { lb with pend := c })) ∧ Keep s.h ρ I w (h'.set b (.loop { lb with pend := c })) ρ' I' w' := by
  obtain ⟨hn, na, nb, hpn, haw⟩ := hr
  have hll : l < w.heap.size := (Array.getElem?_eq_some_iff.1 A.at_).1
  have nl0 := not_live_loop H hb hp
  have HD := (H.die b).1
  have lD : ∀ k, Live (s.h.set b .dead) ρ k → Live s.h ρ k := by
    rintro k ⟨i, x, b1, hi, o, p1⟩
    rcases on_set hi o with ⟨_, hi⟩ | ⟨_, rfl, _⟩
    · exact ⟨i, x, b1, hi, o, p1⟩
    · exact o.elim
  have hTV : TV ρ I w (roundT lb args) ((rec.params.zip vs).foldl (fun tmps (t, a) => tmps.setIfInBounds t a) rec.tmps) := by
    have h0 := TV.fold lb.ps.toList args vs.toList (t := lb.t) (a := rec.tmps) ⟨A.tlen, A.tv⟩ (by simpa using h1) (fun i v x q1 q2 => h2 i v x q1 (by simpa using q2))
    have e : (rec.params.zip vs).foldl (fun tmps (t, a) => tmps.setIfInBounds t a) rec.tmps = (lb.ps.toList.zip vs.toList).foldl (fun a q => a.setIfInBounds q.1 q.2) rec.tmps := by
      rw [A.ps, ← Array.foldl_toList, Array.toList_zip]
    rw [e]; exact h0
  have S0 : RS ρ I w ⟨roundT lb args, s.h.set b .dead⟩ { tmps := (rec.params.zip vs).foldl (fun tmps (t, a) => tmps.setIfInBounds t a) rec.tmps, defers := [] } :=
    ⟨hTV.1, hTV.2, HD, ⟨[], rfl, List.nodup_nil, by simp⟩⟩
  have hN : (s.h.set b .dead).length = ρ.length := by rw [List.length_set, H.len]
  refine roundIn_of_wpIn (F := Fw r) trivial ?_
  rw [A.assign, A.body]
  refine wpIn_mono (haw (some l) (fun _ => na) ρ I w _ S0) ?_
  intro e a1 w1 p1
  cases e with
  | panic c => exact p1.elim
  | outgrown => exact p1.elim
  | ret => obtain ⟨s1, ρ1, I1, ⟨q, _⟩, _⟩ := p1; cases q
  | exit i => obtain ⟨s1, ρ1, I1, ⟨q, _⟩, _⟩ := p1; cases q
  | goto i => obtain ⟨s1, ρ1, I1, ⟨q, _⟩, _⟩ := p1; cases q
  | normal =>
    obtain ⟨s1, ρ1, I1, ⟨_, hbody⟩, S1, K1, M1⟩ := p1
    have nl1 : ¬ Live s1.h ρ1 l := fun h => nl0 (K1.live' l hll h)
    have ni1 : ¬ I1 l := fun h => (K1.im' l hll h).elim A.im nl0
    have a1t : w1.heap[l]? = some (.loop rec) := (K1.same l hll nl0).trans A.at_
    have nc1 : ∀ c e fr, w1.heap[l]? ≠ some (.cells c e fr) := by intro c e fr h; rw [a1t] at h; cases h
    refine ⟨_, run_beginRound a1t (by rw [A.ready, hpn]; rfl), ?_⟩
    obtain ⟨w2, hw2⟩ : ∃ w2, w1.putObj l (.loop { rec with state := .busy }) = w2 := ⟨_, rfl⟩
    rw [hw2]
    have o2 : ∀ k, k ≠ l → w2.heap[k]? = w1.heap[k]? := fun k hk => by rw [← hw2]; exact World.putObj_heap_other hk
    have hl1 : l < w1.heap.size := (Array.getElem?_eq_some_iff.1 a1t).1
    have sz2 : w2.heap.size = w1.heap.size := by rw [← hw2]; exact World.putObj_size
    have at2 : w2.heap[l]? = some (.loop { rec with state := .busy }) := by rw [← hw2]; exact World.putObj_heap_same hl1
    have X12 : Ext ρ1 I1 w1 ρ1 I1 w2 := ⟨fun _ _ h => h, fun _ h => h, fun k hk => o2 k (fun e => ni1 (e ▸ hk)), fun k c e fr hk => ⟨c, e, fr, (o2 k (fun e' => nc1 c e fr (e' ▸ hk))).trans hk, rfl⟩⟩
    have S2 : RS ρ1 I1 w2 s1 a1 := by
      refine ⟨S1.tlen, fun i v hv => ?_, by rw [← hw2]; exact S1.heap.putObj _ nl1 ni1 nc1, ?_⟩
      · obtain ⟨y, hy, hr⟩ := S1.tv i v hv; exact ⟨y, hy, hr.ext X12⟩
      · obtain ⟨Ds, e, hnd, hD⟩ := S1.marks
        refine ⟨Ds, e, hnd, fun D hd => ?_⟩
        obtain ⟨d1, d2, d3, d4⟩ := hD D hd
        exact ⟨by rw [sz2]; exact d1, d2, d3, (o2 D (fun e => by subst e; rw [a1t] at d4; cases d4)).trans d4⟩
    refine wpIn_mono (hbody (some l) (fun _ => nb) ρ1 I1 w2 a1 S2) ?_
    have fin : ∀ (a3 : Act) (w3 : World) (s3 : St) (ρ3 : Rho) (I3 : Nat → Prop) (t' : List V), Wk (s.h.set b .dead).length s3 ⟨t', h'⟩ → RS ρ3 I3 w3 s3 a3 → KeepN (s.h.set b .dead).length s1.h ρ1 I1 w2 s3.h ρ3 I3 w3 →
        ∃ v w', (Instr.endRound l c).run P w3 = .ok v w' ∧ (Ending.returned v = .returned (.bool c.isNone) ∧ ∃ ρ' I', RH ρ' I' w' (h'.set b (.loop { lb with pend := c })) ∧ Keep s.h ρ I w (h'.set b (.loop { lb with pend := c })) ρ' I' w') := by
      intro a3 w3 s3 ρ3 I3 t' hwk S3 K3
      obtain ⟨ρ4, I4, S4, K4⟩ := hwk ρ3 I3 w3 a3 S3
      have hl2 : l < w2.heap.size := by rw [sz2]; exact hl1
      have hl3 : l < w3.heap.size := Nat.lt_of_lt_of_le hl2 K3.size
      have at3 : w3.heap[l]? = some (.loop { rec with state := .busy }) := (K3.same l hl2 nl1).trans at2
      have nl3 : ¬ Live s3.h ρ3 l := fun h => nl1 (K3.live' l hl2 h)
      have nl4 : ¬ Live h' ρ4 l := fun h => nl3 (K4.live' l hl3 h)
      have ni3 : ¬ I3 l := fun h => (K3.im' l hl2 h).elim ni1 nl1
      have ni4 : ¬ I4 l := fun h => (K4.im' l hl3 h).elim ni3 nl3
      have nc3 : ∀ c e fr, w3.heap[l]? ≠ some (.cells c e fr) := by intro c e fr h; rw [at3] at h; cases h
      refine ⟨_, _, run_endRound c at3, rfl, ρ4, I4, ?_⟩
      obtain ⟨rec', hrec'⟩ : ∃ rec' : Loop, ({ ({ rec with state := .busy } : Loop) with state := if c.isNone then .ready else .done, pending := c } : Loop) = rec' := ⟨_, rfl⟩
      rw [hrec']
      obtain ⟨w5, hw5⟩ : ∃ w5, w3.putObj l (.loop rec') = w5 := ⟨_, rfl⟩
      rw [hw5]
      have o5 : ∀ k, k ≠ l → w5.heap[k]? = w3.heap[k]? := fun k hk => by rw [← hw5]; exact World.putObj_heap_other hk
      have sz5 : w5.heap.size = w3.heap.size := by rw [← hw5]; exact World.putObj_size
      have at5 : w5.heap[l]? = some (.loop rec') := by rw [← hw5]; exact World.putObj_heap_same hl3
      have H5 : RH ρ4 I4 w5 h' := by rw [← hw5]; exact S4.heap.putObj _ nl4 ni4 nc3
      have hblt : b < s.h.length := (List.getElem?_eq_some_iff.1 hb).1
      have hp4 : ρ4[b]? = some (l, base) := K4.rho b _ (by simpa using hblt) (K3.rho b _ (by simpa using hblt) (K1.rho b _ (by simpa using hblt) hp))
      have back : ∀ k, k < w.heap.size → Live h' ρ4 k → Live s.h ρ k := fun k hk hL =>
        lD k (K1.live' k hk (K3.live' k (by rw [sz2]; exact Nat.lt_of_lt_of_le hk K1.size) (K4.live' k (Nat.lt_of_lt_of_le (by rw [sz2]; exact Nat.lt_of_lt_of_le hk K1.size) K3.size) hL)))
      have K : Keep s.h ρ I w (h'.set b (.loop { lb with pend := c })) ρ4 I4 w5 := by
        refine ⟨?_, ?_, ?_, ?_, ?_, ?_, ?_, ?_, ?_, ?_⟩
        · rw [← hw5]; show w3.os = w.os; rw [K3.os, ← hw2]; exact K1.os
        · rw [← hw5]; show w3.tape = w.tape; rw [K3.tape, ← hw2]; exact K1.tape
        · rw [← hw5]; show w3.output = w.output; rw [K3.output, ← hw2]; exact K1.output
        · rw [sz5]; exact Nat.le_trans K1.size (by rw [← sz2]; exact K3.size)
        · intro i p hi
          have hlt : i < (s.h.set b HB.dead).length := by rw [hN]; exact (List.getElem?_eq_some_iff.1 hi).1
          exact K4.rho i p hlt (K3.rho i p hlt (K1.rho i p hlt hi))
        · exact fun k hk => K4.im k (K3.im k (K1.im k hk))
        · intro k hk hL
          have hne : k ≠ l := fun e => hL (e ▸ ⟨b, _, base, hb, trivial, hp⟩)
          have n0 : ¬ Live (s.h.set b .dead) ρ k := fun h => hL (lD k h)
          have n1 : ¬ Live s1.h ρ1 k := fun h => n0 (K1.live' k hk h)
          have hk2 : k < w2.heap.size := by rw [sz2]; exact Nat.lt_of_lt_of_le hk K1.size
          exact (o5 k hne).trans ((K3.same k hk2 n1).trans ((o2 k hne).trans (K1.same k hk n0)))
        · intro k c e fr hk
          obtain ⟨c1, e1, f1, g1, z1⟩ := K1.sz k c e fr hk
          have hne : k ≠ l := fun e' => nc1 c1 e1 f1 (e' ▸ g1)
          obtain ⟨c2, e2, f2, g2, z2⟩ := K3.sz k c1 e1 f1 ((o2 k hne).trans g1)
          exact ⟨c2, e2, f2, (o5 k hne).trans g2, z2.trans z1⟩
        · intro k hk hI
          have hk2 : k < w2.heap.size := by rw [sz2]; exact Nat.lt_of_lt_of_le hk K1.size
          rcases K4.im' k (Nat.lt_of_lt_of_le hk2 K3.size) hI with h | h
          · rcases K3.im' k hk2 h with h | h
            · exact (K1.im' k hk h).imp id (lD k)
            · exact .inr (lD k (K1.live' k hk h))
          · exact .inr (lD k (K1.live' k hk (K3.live' k hk2 h)))
        · rintro k hk ⟨i, x, b1, hi, o, p1⟩
          rcases on_set hi o with ⟨_, hi⟩ | ⟨e1, _, _⟩
          · exact back k hk ⟨i, x, b1, hi, o, p1⟩
          · rw [e1, hp4] at p1; cases p1
            exact ⟨b, _, base, hb, trivial, hp⟩
      exact ⟨H5.setLoop (L := { lb with pend := c }) hp4 ⟨at5, by rw [← hrec'], by rw [← hrec'], by rw [← hrec']; exact A.ps, by rw [← hrec']; exact A.assign, by rw [← hrec']; exact A.body, by rw [← hrec']; exact A.tlen, fun i v hv => by
        obtain ⟨y, hy, hr⟩ := A.tv i v hv; exact ⟨y, by rw [← hrec']; exact hy, hr.ext (K.ext H)⟩, ni4⟩ nl4, K⟩
    intro e a3 w3 p3
    cases e with
    | panic c => exact p3.elim
    | outgrown => exact p3.elim
    | ret => obtain ⟨s3, ρ3, I3, ⟨hj, t', hwk⟩, S3, K3, M3⟩ := p3; cases hj; exact fin a3 w3 s3 ρ3 I3 t' hwk S3 K3
    | exit i => obtain ⟨s3, ρ3, I3, ⟨hj, t', hwk⟩, S3, K3, M3⟩ := p3; cases hj; exact fin a3 w3 s3 ρ3 I3 t' hwk S3 K3
    | goto i => obtain ⟨s3, ρ3, I3, ⟨hj, t', hwk⟩, S3, K3, M3⟩ := p3; cases hj; exact fin a3 w3 s3 ρ3 I3 t' hwk S3 K3
    | normal => obtain ⟨s3, ρ3, I3, ⟨hj, t', hwk⟩, S3, K3, M3⟩ := p3; cases hj; exact fin a3 w3 s3 ρ3 I3 t' hwk S3 K3

theorem yield_real {ρ : Rho} {I : Nat → Prop} {w : World} {s : St} {a : Act} (S : RS ρ I w s a) {o : Oper} {b : Nat} {args : List V} (hc : yieldOf s.t o.op = some (b, args)) :
    ∃ l base vs, ρ[b]? = some (l, base) ∧ args.length = vs.size ∧ (∀ (i : Nat) (v : V) (x : Value), args[i]? = some v → vs[i]? = some x → RV ρ I w v x) ∧ (execOp a.eval o).run P w = (Instr.yield l vs).run P w ∧ noDefer o.op = true := by
  unfold yieldOf at hc
  split at hc
  · rename_i c ho
    split at hc
    · rename_i fo hf
      have hv := rv_ev (ρ := ρ) (I := I) (w := w) S fo
      split at hc
      · rename_i g hg
        simp only [Option.some.injEq, Prod.mk.injEq] at hc
        obtain ⟨rfl, rfl⟩ := hc
        rw [hg] at hv
        generalize hac : a.eval fo = z at hv
        cases hv with
        | yld hρ =>
          rename_i l base
          obtain ⟨h1, h2⟩ := rv_args (caps := []) (vs := #[]) S c.args rfl (by simp)
          refine ⟨l, base, c.args.map a.eval, hρ, by simp, fun i v x q1 q2 => h2 i v x (by simpa using q1) (by simpa using q2), ?_, by rw [ho]; rfl⟩
          simp only [execOp, ho, resolve, hf, hac, Deferred.ofValue, Sem.run_bind, Sem.run_pure, Result.andThen_ok, invoke]
          simp
      · cases hc
    · cases hc
  · cases hc

theorem run_sound {ops : Array Oper} (T : TyOK P ty) {l : List Nat} {s s' : St} (hr : Run P ty L ops l s s') : ∀ {r : Option Nat} {ρ : Rho} {I : Nat → Prop} {w : World} {a : Act} {Q : Exit → Act → World → Prop}, RS ρ I w s a →
    (∀ ρ' I' w' a', RS ρ' I' w' s' a' → Keep s.h ρ I w s'.h ρ' I' w' → a'.defers = a.defers → Q .normal a' w') → wpOpsIn (Fw r) 0 P ops Q l a w := by
  induction hr with
  | nil s => intro r ρ I w a Q S k; exact k ρ I w a S (Keep.refl _ _ _ _) rfl
  | @cons i l o s s2 v1 h1' ho hout hrun ih =>
    intro r ρ I w a Q S k
    simp only [wpOpsIn, ho]
    have cont : ∀ {ρ' : Rho} {I' : Nat → Prop} {w' : World} {x : Value}, RV ρ' I' w' v1 x → RH ρ' I' w' h1' → Keep s.h ρ I w h1' ρ' I' w' →
        wpOpsIn (Fw r) 0 P ops Q l (a.put o.dst x) w' := by
      intro ρ' I' w' x hv H K
      exact ih (S.put H K o.dst hv) fun ρ2 I2 w2 a2 S2 K2 e2 => k ρ2 I2 w2 a2 S2 (K.trans K2) (e2.trans (by unfold Act.put; split <;> rfl))
    cases hout with
    | not hg =>
      rw [guard_real S hg, if_neg (by simp)]
      exact ⟨fun _ _ => trivial, cont (.tup rfl (by simp)) S.heap (Keep.refl _ _ _ _)⟩
    | did hg hd =>
      rw [guard_real S hg, if_pos rfl]
      refine ⟨fun _ _ => trivial, ?_⟩
      have call : ∀ {f : FuncId} {args : List V}, callOf s.t o.op = some (f, args) → CallD P f args s.h v1 h1' → o.uponIn (Fw r) 0 P a (wpOpsIn (Fw r) 0 P ops Q l) Q ((o.semAt (Fw r).round a.eval).run P w) := by
        intro f args hc hcd
        obtain ⟨vs, h1, h2, h3, h4⟩ := callOf_real S hc
        rw [semAt_plain h4, h3]
        rcases hcd ρ I w vs h1 h2 S.heap with ⟨he, hcall⟩ | ⟨x, w', he, v, h'', ρ', I', ⟨rfl, rfl⟩, hv, H, K⟩
        · rw [he]
          refine ⟨fun h => by simp [Fw, Fence.wide] at h, ?_⟩
          refine CallsIn.mono (F := Fw r) hcall ?_
          rintro e w' ⟨x, rfl, v, h'', ρ', I', ⟨rfl, rfl⟩, hv, H, K⟩
          exact cont hv H K
        · rw [he]; exact cont hv H K
      cases hd with
      | op h hp =>
        obtain ⟨x, w', ρ', I', hx, hv, H, K⟩ := aop_sound (P := P) T S h hp
        have hn : noDefer o.op = true := by
          cases hop : o.op <;> first | rfl | (rw [hop] at h; simp [aop] at h)
        rw [semAt_plain hn]
        rcases hx with hx | ⟨hx, rfl⟩
        · rw [hx]; exact cont hv H K
        · rw [hx]; exact cont hv H K
      | pure hc _ h => exact call hc (h s.h)
      | call hc _ h => exact call hc h
      | yield hc hb h =>
        obtain ⟨l, base, vs, g1, g2, g3, g4, g5⟩ := yield_real (P := P) S hc
        obtain ⟨l', base', rec, e, A⟩ := S.heap.lp _ _ hb
        rw [g1] at e; cases e
        have hsz : vs.size = rec.params.size := by rw [A.ps, ← g2]; exact h.1.symm
        rw [semAt_plain g5, g4, run_yield A.at_ hsz]
        refine ⟨fun h => by simp [Fw, Fence.wide] at h, ?_⟩
        refine (round_sound S.heap hb g1 A g2 g3 h r).mono ?_
        rintro e w' ⟨rfl, ρ', I', H, K⟩
        exact cont (.bool _) H K

/-! ### The frame -/

/-- Values that name no block of the call's own. -/
inductive Clean : V → Prop
  | any : Clean .any
  | bool (b) : Clean (.bool b)
  | int (k n) : Clean (.int k n)
  | str (s) : Clean (.str s)
  | nilp : Clean .nilp
  | vptr (cs o) : (∀ v ∈ cs, Clean v) → Clean (.vptr cs o)
  | nils : Clean .nils
  | vec (cs l x) : (∀ v ∈ cs, Clean v) → Clean (.vec cs l x)
  | nilf : Clean .nilf
  | fn (f caps) : (∀ v ∈ caps, Clean v) → Clean (.fn f caps)
  | agg (cs) : (∀ v ∈ cs, Clean v) → Clean (.agg cs)
  | tup (cs) : (∀ v ∈ cs, Clean v) → Clean (.tup cs)

theorem Clean.rv {v : V} (hc : Clean v) : ∀ {ρ ρ' : Rho} {I : Nat → Prop} {w : World} {x : Value}, RV ρ I w v x → RV ρ' I w v x := by
  intro ρ ρ' I w x h
  induction h with
  | any x => exact .any _
  | bool b => exact .bool _
  | int k n => exact .int _ _
  | str s => exact .str _
  | nilp => exact .nilp
  | ptr h => cases hc
  | yld h => cases hc
  | vptr f hI hcc hv ih =>
    cases hc with | vptr _ _ h => exact .vptr f hI hcc (fun i v hi => ih i v hi (h v (List.mem_of_getElem? hi)))
  | nils => exact .nils
  | slc h h1 h2 hb hs => cases hc
  | vec f hI hcc hv h1 hx ih =>
    cases hc with | vec _ _ _ h => exact .vec f hI hcc (fun i v hi => ih i v hi (h v (List.mem_of_getElem? hi))) h1 hx
  | vecn x => exact .vecn _ _
  | nilf => exact .nilf
  | fn hl hv ih => cases hc with | fn _ _ h => exact .fn hl (fun i v x hi hx => ih i v x hi hx (h v (List.mem_of_getElem? hi)))
  | agg hl hv ih => cases hc with | agg _ h => exact .agg hl (fun i v x hi hx => ih i v x hi hx (h v (List.mem_of_getElem? hi)))
  | tup hl hv ih => cases hc with | tup _ h => exact .tup hl (fun i v x hi hx => ih i v x hi hx (h v (List.mem_of_getElem? hi)))

/-- **The frame, for a call that is handed no block.** -/
theorem pure_of_ac {f : FuncId} {args : List V} {r : V} (h : AC P f args [] fun v h' => v = r) (hca : ∀ v ∈ args, Clean v) (hcr : Clean r) : Pure P f args r := by
  intro hp ρ I w vs hl hv H
  have H0 : RH [] I w [] := ⟨rfl, by intro i cs h; simp at h, by intro i j cs ds rb b1 b2 h; simp at h, H.imlt, LoopsOK.nil _ _ _⟩
  refine (h [] I w vs hl (fun i v x h1 h2 => (hca v (List.mem_of_getElem? h1)).rv (hv i v x h1 h2)) H0).mono ?_
  rintro x w' ⟨v, h', ρ', I', rfl, hrv, H', K⟩
  have nl : ∀ b, ¬ Live [] ([] : Rho) b := by rintro b ⟨i, cs, base, h, _⟩; simp at h
  have X : Ext ρ I w ρ I' w' := ⟨fun _ _ h => h, K.im, fun b hb => K.same b (H.imlt b hb) (nl b), K.sz⟩
  have lt : ∀ {b : Nat}, Live hp ρ b → b < w.heap.size := fun hl => (H.lt hl).1
  refine ⟨v, hp, ρ, I', ⟨rfl, rfl⟩, hcr.rv hrv, ?_, ?_⟩
  · refine ⟨H.len, ?_, H.inj, H'.imlt, H.lp.ext X (fun l rec h1 hi => ⟨K.same l (Array.getElem?_eq_some_iff.1 h1).1 (nl l), fun hI => (K.im' l (Array.getElem?_eq_some_iff.1 h1).1 hI).elim hi (nl l)⟩) (fun _ _ h => h)⟩
    intro i cs hi
    obtain ⟨rb, base, c, e, fr, g1, g2, g3, g4, g5, g6⟩ := H.row i cs hi
    have hb := lt (live_row hi g1)
    refine ⟨rb, base, c, e, fr, g1, (K.same rb hb (nl rb)).trans g2, g3, fun j v hj => ?_, g5, ?_⟩
    · obtain ⟨y, hy, hr⟩ := g4 j v hj; exact ⟨y, hy, hr.ext X⟩
    · intro hI; rcases K.im' rb hb hI with h | h
      · exact g6 h
      · exact nl _ h
  · exact ⟨K.os, K.tape, K.output, K.size, fun _ _ h => h, K.im, fun b hb _ => K.same b hb (nl b), K.sz, fun b hb hI => (K.im' b hb hI).imp id (fun h => (nl _ h).elim), fun _ _ h => h⟩
end
end Go.Abs
/- The abstract machine, part 7: orders of a region's operations. -/
namespace Go.Abs
open Go Go.RowKit

/-- What an operation has to do with the heap: 0 nothing, 1 it reads, 2 it writes, makes, calls. -/
def heapK (ty : Tab) (L : List FuncId) (op : Op) : Nat :=
  match op with
  | .load _ _ | .slice _ _ _ _ _ => 1
  | .store _ _ _ | .alloc _ | .box _ _ => 2
  | .call c => match c.callee with
    | .builtin .len => 0
    | .builtin .max => 0
    | .builtin .min => 0
    | _ => if namedIn L op then 0 else 2
  | .convert src _ _ => match ty src with
    | some i => match i.desc with
      | .slice _ => 1
      | _ => 0
    | none => 0
  | .move _ | .assign _ | .pick _ _ _ | .unOp _ _ _ | .binOp _ _ _ _ _ | .indexAddr _ _ _ | .index _ _ _ | .fieldAddr _ _ _ | .field _ _ _ | .extract _ _ | .makeFunc _ _ _ | .build _ _ | .nilCheck _ => 0
  | _ => 2

/-- Does it lay a new block behind the others, and nothing else? -/
def grows (op : Op) : Bool :=
  match op with
  | .alloc _ | .box _ _ | .makeSlice _ _ _ | .buildSlice _ _ _ => true
  | _ => false

def tmpsOf (xs : List Operand) : List Tmp := xs.filterMap fun
  | .tmp t => some t
  | _ => none

/-- The temporaries that an operation reads. -/
def reads (ops : Array Oper) (o : Oper) : List Tmp :=
  (match o.guard with
    | none => []
    | some (j, _) => (((ops[j]?).bind (·.dst)).map fun d => [d]).getD []) ++ tmpsOf o.op.operands.toList

def dstIn (d : Option Tmp) (l : List Tmp) : Bool :=
  match d with
  | none => false
  | some d => l.contains d

/-- The temporary by which memory is read or written. -/
def addrOf : Op → Option Tmp
  | .load _ (.tmp a) => some a
  | .store _ (.tmp a) _ => some a
  | _ => none
def noDst (ops : Array Oper) (a : Tmp) : Bool := ops.toList.all fun o => !(o.dst == some a)
/-- Do they read or write by temporaries that are known to name different blocks, and that stay? -/
def apart (kn : Tmp → Option Nat) (ops : Array Oper) (o1 o2 : Oper) : Bool :=
  match addrOf o1.op, addrOf o2.op with
  | some a, some c => match kn a, kn c with
    | some b1, some b2 => !(b1 == b2) && (noDst ops a && noDst ops c)
    | _, _ => false
  | _, _ => false

def indep (ty : Tab) (L : List FuncId) (kn : Tmp → Option Nat) (ops : Array Oper) (o1 o2 : Oper) : Bool :=
  !dstIn o1.dst (reads ops o2) && !dstIn o2.dst (reads ops o1) && !dstIn o1.dst o2.dst.toList &&
    (heapK ty L o1.op == 0 || heapK ty L o2.op == 0 || (heapK ty L o1.op == 1 && heapK ty L o2.op == 1) || (heapK ty L o1.op == 1 && grows o2.op) || apart kn ops o1 o2)

section
variable {P : Program} {ty : Tab} {L : List FuncId} {ops : Array Oper}

theorem aFill_agree {t t' : List V} (place : Nat → Option (Nat × Nat)) : ∀ (parts : List (Nat × Operand)) (e : ∀ x ∈ (parts.map (·.2)).toArray.toList, ev t x = ev t' x) (cs : List V), aFill place t parts cs = aFill place t' parts cs
  | [], _, cs => rfl
  | (i, x) :: parts, e, cs => by
    simp only [aFill]
    rw [e x (by simp)]
    split
    · rename_i off sz vs h1 h2
      rw [aFill_agree place parts (fun y hy => e y (by simp at hy ⊢; exact .inr hy))]
    · rfl

theorem aop_agree {t t' : List V} (h : List HB) {op : Op} (e : ∀ x ∈ op.operands.toList, ev t x = ev t' x) : aop ty t h op = aop ty t' h op := by
  cases op <;> simp only [aop] <;> simp only [Op.operands] at e <;> (try rfl)
  case move x => rw [e x (by simp)]
  case assign x => rw [e x (by simp)]
  case pick c a b => rw [e c (by simp), e a (by simp), e b (by simp)]
  case nilCheck x => rw [e x (by simp)]
  case box _ x => rw [e x (by simp)]
  case load _ x => rw [e x (by simp)]
  case store _ x y => rw [e x (by simp), e y (by simp)]
  case unOp _ _ x => rw [e x (by simp)]
  case binOp _ _ x y _ => rw [e x (by simp), e y (by simp)]
  case indexAddr _ x y => rw [e x (by simp), e y (by simp)]
  case index _ x y => rw [e x (by simp), e y (by simp)]
  case fieldAddr _ x _ => rw [e x (by simp)]
  case field _ x _ => rw [e x (by simp)]
  case extract x _ => rw [e x (by simp)]
  case convert _ _ x => rw [e x (by simp)]
  case build t0 parts => rw [show parts.toList = parts.toList from rfl]; unfold aBuild; simp only [aFill_agree _ parts.toList e]
  case buildSlice t0 n parts => unfold aBuildSlice; simp only [aFill_agree _ parts.toList e]
  case makeSlice _ l c => rw [e l (by simp), e c (by simp)]
  case slice _ x lo hi mx =>
    have o : ∀ (q : Option Operand), (∀ y ∈ q.toList, ev t y = ev t' y) → q.map (ev t) = q.map (ev t') := by
      intro q hq; cases q with
      | none => rfl
      | some y => simp [hq y (by simp)]
    rw [e x (by simp), o lo fun y hy => e y (by simp at hy ⊢; simp [hy]), o hi fun y hy => e y (by simp at hy ⊢; simp [hy]), o mx fun y hy => e y (by simp at hy ⊢; simp [hy])]
  case call c =>
    have : c.args.toList.map (ev t) = c.args.toList.map (ev t') := List.map_congr_left fun x hx => e x (by simp only [Call.operands]; cases c.callee <;> simp <;> first | exact .inr (by simpa using hx) | simpa using hx)
    rw [this]
  case makeFunc fn first captured =>
    cases fn <;> simp only [aop]
    have : captured.toList.map (ev t) = captured.toList.map (ev t') := List.map_congr_left fun x hx => e x (by simp; exact .inr (by simpa using hx))
    rw [this]

theorem callOf_agree {t t' : List V} {op : Op} (e : ∀ x ∈ op.operands.toList, ev t x = ev t' x) : callOf t op = callOf t' op := by
  unfold callOf
  split
  · rename_i c
    simp only [Op.operands, Call.operands] at e
    split
    · rename_i f hf
      rw [hf] at e
      rw [e f (by simp)]
      have : c.args.toList.map (ev t) = c.args.toList.map (ev t') := List.map_congr_left fun x hx => e x (by simp; exact .inr (by simpa using hx))
      rw [this]
    · rfl
  · rfl

theorem yieldOf_agree {t t' : List V} {op : Op} (e : ∀ x ∈ op.operands.toList, ev t x = ev t' x) : yieldOf t op = yieldOf t' op := by
  unfold yieldOf
  split
  · rename_i c
    simp only [Op.operands, Call.operands] at e
    split
    · rename_i f hf
      rw [hf] at e
      rw [e f (by simp)]
      have : c.args.toList.map (ev t) = c.args.toList.map (ev t') := List.map_congr_left fun x hx => e x (by simp; exact .inr (by simpa using hx))
      rw [this]
    · rfl
  · rfl
theorem yield_call {t : List V} {op : Op} {x : Nat × List V} (h : yieldOf t op = some x) : ∃ c f, op = .call c ∧ c.callee = .value f ∧ namedIn L op = false := by
  unfold yieldOf at h
  split at h
  · rename_i c
    split at h
    · rename_i f hf
      refine ⟨c, f, rfl, hf, ?_⟩
      split at h
      · rename_i b hb
        unfold namedIn
        simp only [hf]
        cases f with
        | func g => simp only [ev] at hb; cases hb
        | _ => rfl
      · cases h
    · cases h
  · cases h
theorem yield_heapK {t : List V} {op : Op} {x : Nat × List V} (h : yieldOf t op = some x) : heapK ty L op = 2 := by
  obtain ⟨c, f, rfl, hf, hn⟩ := yield_call (L := L) h
  simp [heapK, hf, hn]
theorem ev_agree {t t' : List V} {xs : List Operand} (h : ∀ i ∈ tmpsOf xs, t[i]? = t'[i]?) : ∀ x ∈ xs, ev t x = ev t' x := by
  intro x hx
  cases x with
  | tmp i =>
    have := h i (List.mem_filterMap.2 ⟨.tmp i, hx, rfl⟩)
    simp only [ev, nth_eq, List.getD_eq_getElem?_getD, this]
  | const v => rfl
  | global g => rfl
  | func f => rfl

theorem guard_agree {t t' : List V} {o : Oper} (h : ∀ i ∈ reads ops o, t[i]? = t'[i]?) : guardOf ops o t = guardOf ops o t' := by
  unfold guardOf
  split
  · rfl
  · rename_i j want hg
    split
    · rfl
    · rename_i d hd
      rw [h d (by unfold reads; rw [hg]; simp [hd])]

theorem did_move {o : Oper} {t t' : List V} {h : List HB} {v : V} {h' : List HB} (hd : Did P ty L o ⟨t, h⟩ v h') (e : ∀ i ∈ reads ops o, t[i]? = t'[i]?) : Did P ty L o ⟨t', h⟩ v h' := by
  have e' : ∀ x ∈ o.op.operands.toList, ev t x = ev t' x := ev_agree fun i hi => e i (List.mem_append_right _ hi)
  cases hd with
  | op h1 hp => rw [aop_agree _ e'] at h1; exact .op h1 hp
  | pure hc hL h1 => rw [callOf_agree e'] at hc; exact .pure hc hL h1
  | call hc hL h1 => rw [callOf_agree e'] at hc; exact .call hc hL h1
  | yield hc hb h1 => rw [yieldOf_agree e'] at hc; exact .yield hc hb h1

theorem out_move {o : Oper} {t t' : List V} {h : List HB} {v : V} {h' : List HB} (hd : Out P ty L ops o ⟨t, h⟩ v h') (e : ∀ i ∈ reads ops o, t[i]? = t'[i]?) : Out P ty L ops o ⟨t', h⟩ v h' := by
  have eg := guard_agree e
  cases hd with
  | did hg h1 => exact .did (by rw [← eg]; exact hg) (did_move h1 e)
  | not hg => exact .not (by rw [← eg]; exact hg)

theorem aop_free {t : List V} {h h' : List HB} {op : Op} {p : Prop} {v : V} (hk : heapK ty L op = 0) (hr : aop ty t h op = some (p, v, h')) : h' = h ∧ ∀ h2, aop ty t h2 op = some (p, v, h2) := by
  have ix : ∀ {d : TypeDesc} {x y : V}, aIndexAddr ty d x y h = some (p, v, h') → h' = h ∧ ∀ h2, aIndexAddr ty d x y h2 = some (p, v, h2) := by
    intro d x y hr
    unfold aIndexAddr at hr ⊢
    split at hr <;> try (cases hr; done)
    split at hr <;> try (cases hr; done)
    all_goals (simp only [Option.map_eq_some_iff, Prod.mk.injEq] at hr; obtain ⟨a, ha, rfl, rfl, rfl⟩ := hr; simp [ha])
  have bn : ∀ {op : BinOp} {t : TypeId} {x y : V}, aBin ty op t x y h = some (p, v, h') → h' = h ∧ ∀ h2, aBin ty op t x y h2 = some (p, v, h2) := by
    intro op t x y hr
    have eq : ∀ {b : Bool}, eqV op b h = some (p, v, h') → h' = h ∧ ∀ h2, eqV op b h2 = some (p, v, h2) := by
      intro b hr; unfold eqV at hr ⊢; split at hr <;> simp_all
    unfold aBin at hr ⊢
    split at hr
    · simp_all
    · split at hr
      · split at hr
        · exact eq hr
        · cases hr
      · cases hr
    · split at hr <;> simp_all
    · split at hr
      · split at hr
        · split at hr
          · rename_i hc; simp only [hc, and_self, if_true]; exact eq hr
          · cases hr
        · cases hr
      · cases hr
    · cases hr
  cases op <;> simp only [aop] at hr ⊢ <;> try (cases hr; done)
  case move x => simp_all
  case assign x => simp_all
  case pick c a b => split at hr <;> simp_all
  case nilCheck x => split at hr <;> simp_all
  case alloc e => simp [heapK] at hk
  case box e x => simp [heapK] at hk
  case load e x => simp [heapK] at hk
  case store e x y => simp [heapK] at hk
  case unOp op _ x => cases hu : aUn op (ev t x) <;> simp_all
  case binOp op _ x y _ => exact bn hr
  case indexAddr e x y =>
    cases hd : ty e with
    | none => simp [hd] at hr
    | some d => simp only [hd, Option.bind_some] at hr ⊢; exact ix hr
  case index e x y =>
    cases hd : ty e with
    | none => simp [hd] at hr
    | some d =>
      simp only [hd, Option.bind_some] at hr ⊢
      unfold aIndex at hr ⊢
      split at hr <;> try (cases hr; done)
      split at hr <;> try (cases hr; done)
      · (simp only [Option.map_eq_some_iff, Prod.mk.injEq] at hr; obtain ⟨a, ha, rfl, rfl, rfl⟩ := hr; simp [ha])
      · simp_all
  case fieldAddr e x f =>
    cases hd : ty e with
    | none => simp [hd] at hr
    | some d =>
      simp only [hd, Option.bind_some] at hr ⊢
      unfold aFieldAddr at hr ⊢
      split at hr <;> try (cases hr; done)
      all_goals (simp only [Option.map_eq_some_iff, Prod.mk.injEq] at hr; obtain ⟨a, ha, rfl, rfl, rfl⟩ := hr; simp [ha])
  case field e x f =>
    cases hd : ty e with
    | none => simp [hd] at hr
    | some d =>
      simp only [hd, Option.bind_some] at hr ⊢
      unfold aField at hr ⊢
      split at hr <;> try (cases hr; done)
      (simp only [Option.map_eq_some_iff, Prod.mk.injEq] at hr; obtain ⟨a, ha, rfl, rfl, rfl⟩ := hr; simp [ha])
  case extract x i =>
    split at hr
    · rename_i vs hv
      cases hi : vs[i]? <;> simp_all
    · cases hr
  case makeFunc fn first captured => cases fn <;> simp only [aop] at hr ⊢ <;> first | (cases hr; done) | (split at hr <;> simp_all)
  case convert a b x =>
    split at hr
    · rename_i si d h1 h2
      split at hr
      · split at hr <;> simp_all
      · rename_i e hk0 hk1
        simp [heapK, h1, hk0] at hk
      · split at hr <;> simp_all
      · cases hr
    · cases hr
  case build t0 parts =>
    unfold aBuild at hr ⊢
    split at hr
    · cases hr
    · rename_i i hi
      split at hr
      · split at hr
        · rename_i fs hd hkn
          cases hf : aFill (placeS ty fs) t parts.toList i.zero with
          | none => simp [hf] at hr
          | some q => simp only [hf, Option.map_some, Option.some.injEq, Prod.mk.injEq] at hr; obtain ⟨rfl, rfl, rfl⟩ := hr; simp [hi, hd, hkn, hf]
        · cases hr
      · rename_i n e hd
        split at hr
        · rename_i ei he
          cases hf : aFill (fun j => some (j * ei.size, ei.size)) t parts.toList i.zero with
          | none => simp [hf] at hr
          | some q => simp only [hf, Option.map_some, Option.some.injEq, Prod.mk.injEq] at hr; obtain ⟨rfl, rfl, rfl⟩ := hr; simp [hi, hd, he, hf]
        · cases hr
      · cases hr
  case slice => simp [heapK] at hk
  case makeSlice => simp [heapK] at hk
  case buildSlice => simp [heapK] at hk
  case call c =>
    split at hr
    · rename_i b hb
      cases b with
      | len =>
        unfold aBuiltin at hr ⊢
        simp only at hr ⊢
        split at hr
        · rename_i at0 x ha hargs
          cases hi : ty at0 with
          | none => simp [hi] at hr
          | some i =>
            simp only [hi, Option.bind_some, Option.map_eq_some_iff, Prod.mk.injEq] at hr
            obtain ⟨u, hu, rfl, rfl, rfl⟩ := hr
            simp [hu]
        · cases hr
      | append => simp [heapK, hb, namedIn] at hk
      | clear => simp [heapK, hb, namedIn] at hk
      | max =>
        unfold aBuiltin at hr ⊢
        simp only at hr ⊢
        split at hr
        · simp only [Option.some.injEq, Prod.mk.injEq] at hr
          obtain ⟨rfl, rfl, rfl⟩ := hr
          simp
        · cases hr
      | min =>
        unfold aBuiltin at hr ⊢
        simp only at hr ⊢
        split at hr
        · simp only [Option.some.injEq, Prod.mk.injEq] at hr
          obtain ⟨rfl, rfl, rfl⟩ := hr
          simp
        · simp only [Option.some.injEq, Prod.mk.injEq] at hr
          obtain ⟨rfl, rfl, rfl⟩ := hr
          simp
        · cases hr
      | _ => simp [aBuiltin] at hr
    · cases hr

theorem aop_call {t : List V} {h : List HB} {op : Op} {x : FuncId × List V} (hc : callOf t op = some x) : aop ty t h op = none := by
  unfold callOf at hc
  split at hc
  · rename_i c
    split at hc
    · rename_i f hf; simp [aop, hf]
    · cases hc
  · cases hc

theorem out_free {o : Oper} {t : List V} {h : List HB} {v : V} {h' : List HB} (hk : heapK ty L o.op = 0) (hd : Out P ty L ops o ⟨t, h⟩ v h') : h' = h ∧ ∀ h2, Out P ty L ops o ⟨t, h2⟩ v h2 := by
  cases hd with
  | not hg => exact ⟨rfl, fun h2 => .not hg⟩
  | did hg h1 =>
    cases h1 with
    | op hr hp =>
      obtain ⟨e, k⟩ := aop_free hk hr
      exact ⟨e, fun h2 => .did hg (.op (k h2) hp)⟩
    | pure hc hL h1 => exact ⟨rfl, fun h2 => .did hg (.pure hc hL h1)⟩
    | call hc hL h1 =>
      exfalso
      unfold callOf at hc
      split at hc
      · rename_i c ho
        split at hc
        · rename_i f hf
          rw [ho] at hk hL
          simp [heapK, hf, hL] at hk
        · cases hc
      · cases hc
    | yield hc _ _ => exfalso; rw [yield_heapK hc] at hk; cases hk

theorem out_read {o : Oper} {t : List V} {h : List HB} {v : V} {h' : List HB} (hk : heapK ty L o.op = 1) (hd : Out P ty L ops o ⟨t, h⟩ v h') : h' = h := by
  cases hd with
  | not hg => rfl
  | did hg h1 =>
    cases h1 with
    | op hr hp =>
      have str : ∀ {x : V} {pp : Prop}, aToStr x h = some (pp, v, h') → h' = h := by
        intro x pp hr; unfold aToStr at hr
        split at hr
        · cases hr
        · split at hr <;> simp_all
        · cases hr
      cases hop : o.op with
      | load a b =>
        rw [hop] at hr
        simp only [aop, aLoad] at hr
        split at hr <;> simp_all
      | slice a x lo hi mx =>
        rw [hop] at hr
        simp only [aop] at hr
        cases hd : ty a with
        | none => simp [hd] at hr
        | some d =>
          simp only [hd, Option.bind_some] at hr
          unfold aSlice at hr
          (repeat' split at hr) <;> simp_all
      | convert a b x =>
        rw [hop] at hr hk
        simp only [aop] at hr
        (repeat' split at hr) <;> first | (cases hr; done) | exact str hr | simp_all
      | call c =>
        rw [hop] at hk
        simp only [heapK] at hk
        split at hk
        · cases hk
        · cases hk
        · cases hk
        · split at hk <;> cases hk
      | _ => rw [hop] at hk; simp [heapK] at hk
    | pure hc hL h1 => rfl
    | call hc hL h1 =>
      exfalso
      unfold callOf at hc
      split at hc
      · rename_i c ho
        split at hc
        · rename_i f hf
          rw [ho] at hk hL
          simp [heapK, hf, hL] at hk
        · cases hc
      · cases hc
    | yield hc _ _ => exfalso; rw [yield_heapK hc] at hk; cases hk

theorem aop_grows {t : List V} {h h' : List HB} {op : Op} {p : Prop} {v : V} (hg : grows op = true) (hr : aop ty t h op = some (p, v, h')) : ∃ x, h' = h ++ [x] := by
  cases op with
  | alloc e =>
    simp only [aop] at hr
    cases he : ty e with
    | none => simp [he] at hr
    | some i => simp only [he, Option.map_some, Option.some.injEq, Prod.mk.injEq] at hr; exact ⟨_, hr.2.2.symm⟩
  | box e x =>
    simp only [aop] at hr
    cases he : (ev t x).cells? with
    | none => simp [he] at hr
    | some i => simp only [he, Option.map_some, Option.some.injEq, Prod.mk.injEq] at hr; exact ⟨_, hr.2.2.symm⟩
  | makeSlice a l c =>
    simp only [aop] at hr
    split at hr
    · split at hr
      · unfold aMake at hr
        split at hr
        · simp only [Option.some.injEq, Prod.mk.injEq] at hr; exact ⟨_, hr.2.2.symm⟩
        · cases hr
      · cases hr
    · cases hr
  | buildSlice a n parts =>
    simp only [aop] at hr
    split at hr
    · split at hr
      · unfold aBuildSlice at hr
        split at hr
        · cases hr
        · rename_i ei _
          simp only [Option.map_eq_some_iff, Prod.mk.injEq] at hr
          obtain ⟨q, _, _, _, rfl⟩ := hr
          exact ⟨_, rfl⟩
      · cases hr
    · cases hr
  | _ => simp [grows] at hg

theorem callOf_grows {t : List V} {op : Op} (hg : grows op = true) : callOf t op = none := by
  cases op <;> simp [grows] at hg <;> rfl

theorem out_grows {o : Oper} {t : List V} {h : List HB} {v : V} {h' : List HB} (hg : grows o.op = true) (hd : Out P ty L ops o ⟨t, h⟩ v h') : h' = h ∨ ∃ x, h' = h ++ [x] := by
  cases hd with
  | not _ => exact .inl rfl
  | did _ h1 =>
    cases h1 with
    | op hr _ => exact .inr (aop_grows hg hr)
    | pure hc _ _ => rw [callOf_grows hg] at hc; cases hc
    | call hc _ _ => rw [callOf_grows hg] at hc; cases hc
    | yield hc _ _ => obtain ⟨c, f, e, _⟩ := yield_call (L := L) hc; rw [e] at hg; cases hg

theorem blk_more {h : List HB} {x : HB} {b : Nat} {cs : List V} (e : h[b]? = some (.live cs)) : (h ++ [x])[b]? = some (.live cs) := getElem?_append_some e

theorem rowOf_more {h : List HB} {x : HB} {v : V} {r : List V × Nat} (e : rowOf h v = some r) : rowOf (h ++ [x]) v = some r := by
  unfold rowOf at e ⊢
  split at e
  · split at e
    · rename_i hb; rw [blk_more hb]; exact e
    · cases e
  · exact e
  · cases e

theorem cellsOf_more {h : List HB} {x : HB} {v : V} {r : List V} (e : cellsOf h v = some r) : cellsOf (h ++ [x]) v = some r := by
  unfold cellsOf at e ⊢
  split at e
  · exact e
  · split at e
    · rename_i hb; rw [blk_more hb]; exact e
    · cases e
  · exact e
  · exact e
  · cases e

theorem aop_more {t : List V} {h : List HB} {op : Op} {p : Prop} {v : V} {h' : List HB} (hk : heapK ty L op = 1) (hr : aop ty t h op = some (p, v, h')) (x : HB) : aop ty t (h ++ [x]) op = some (p, v, h ++ [x]) := by
  cases hop : op with
  | load a b =>
    subst hop
    simp only [aop, aLoad] at hr ⊢
    split at hr
    · rename_i i cs o hi hro
      rw [hi, rowOf_more hro]
      simp only [Option.some.injEq, Prod.mk.injEq] at hr ⊢
      exact ⟨hr.1, hr.2.1, trivial⟩
    · cases hr
  | slice a y lo hi mx =>
    subst hop
    simp only [aop] at hr ⊢
    cases hd : ty a with
    | none => simp [hd] at hr
    | some d =>
      simp only [hd, Option.bind_some] at hr ⊢
      unfold aSlice at hr ⊢
      (repeat' split at hr) <;> first
        | (cases hr; done)
        | (rename_i hb; have hb' := blk_more (x := x) hb; simp_all; done)
        | (simp_all; done)
  | convert a b y =>
    subst hop
    have str : ∀ {z : V}, aToStr z h = some (p, v, h') → aToStr z (h ++ [x]) = some (p, v, h ++ [x]) := by
      intro z hr
      unfold aToStr at hr ⊢
      cases hn : lenOfV z with
      | none => simp [hn] at hr
      | some n =>
        cases hc : cellsOf h z with
        | none => simp [hn, hc] at hr
        | some cs =>
          rw [cellsOf_more hc]
          rw [hn, hc] at hr
          cases hb : bytesOf cs with
          | none => cases z <;> simp [hb] at hr
          | some bs => cases z <;> simp_all
    simp only [aop] at hr ⊢
    split at hr
    · rename_i si d h1 h2
      split at hr
      · rename_i hk0 _; simp [heapK, h1, hk0] at hk
      · split at hr
        · split at hr
          · exact str hr
          · cases hr
        · cases hr
      · rename_i hk0 _; simp [heapK, h1, hk0] at hk
      · cases hr
    · cases hr
  | call c =>
    subst hop
    simp only [heapK] at hk
    split at hk
    · cases hk
    · cases hk
    · cases hk
    · split at hk <;> cases hk
  | _ => subst hop; simp [heapK] at hk

theorem out_more {o : Oper} {t : List V} {h : List HB} {v : V} {h' : List HB} (hk : heapK ty L o.op = 1) (hd : Out P ty L ops o ⟨t, h⟩ v h') (x : HB) : Out P ty L ops o ⟨t, h ++ [x]⟩ v (h ++ [x]) := by
  cases hd with
  | not hg => exact .not hg
  | did hg h1 =>
    cases h1 with
    | op hr hp => exact .did hg (.op (aop_more hk hr x) hp)
    | pure hc hL h1 => exact .did hg (.pure hc hL h1)
    | call hc hL h1 =>
      exfalso
      unfold callOf at hc
      split at hc
      · rename_i c ho
        split at hc
        · rename_i f hf
          rw [ho] at hk hL
          simp [heapK, hf, hL] at hk
        · cases hc
      · cases hc
    | yield hc _ _ => exfalso; rw [yield_heapK hc] at hk; cases hk

theorem put_other {t : List V} {d : Option Tmp} {v : V} {l : List Tmp} (h : dstIn d l = false) : ∀ i ∈ l, (put t d v)[i]? = t[i]? := by
  intro i hi
  cases d with
  | none => rfl
  | some d =>
    simp only [put]
    by_cases e : d = i
    · subst e; simp [dstIn] at h; exact absurd hi h
    · rw [List.getElem?_set_ne e]

theorem put_comm {t : List V} {d1 d2 : Option Tmp} {v1 v2 : V} (h : dstIn d1 d2.toList = false) : put (put t d1 v1) d2 v2 = put (put t d2 v2) d1 v1 := by
  cases d1 with
  | none => rfl
  | some d1 =>
    cases d2 with
    | none => rfl
    | some d2 =>
      simp only [put]
      have : d1 ≠ d2 := by intro e; subst e; simp [dstIn] at h
      exact List.set_comm _ _ this

/-- The block that a temporary names. -/
def ptrs (t : List V) (a : Tmp) : Option Nat := match t[a]? with
  | some (.ptr b _) => some b
  | _ => none
/-- What is known of temporaries that stay. -/
def Kn (kn : Tmp → Option Nat) (ops : Array Oper) (t : List V) : Prop := ∀ a b, kn a = some b → noDst ops a = true → ∃ o, t[a]? = some (V.ptr b o)
theorem kn_ptrs (t : List V) : Kn (ptrs t) ops t := by
  intro a b h _
  unfold ptrs at h
  split at h
  · rename_i b' o e; cases h; exact ⟨o, e⟩
  · cases h
theorem Kn.put {kn : Tmp → Option Nat} {t : List V} (h : Kn kn ops t) {i : Nat} {o : Oper} (hi : ops[i]? = some o) (v : V) : Kn kn ops (put t o.dst v) := by
  intro a b hl hn
  obtain ⟨x, hx⟩ := h a b hl hn
  have hne : o.dst ≠ some a := by
    have hm : o ∈ ops.toList := by
      have := (Array.getElem?_eq_some_iff.1 hi)
      obtain ⟨q, rfl⟩ := this
      exact Array.getElem_mem_toList q
    have := List.all_eq_true.1 hn o hm
    simpa using this
  refine ⟨x, ?_⟩
  cases hd : o.dst with
  | none => simpa [Abs.put] using hx
  | some d =>
    have : d ≠ a := fun e => hne (by rw [hd, e])
    simp only [Abs.put]
    rw [List.getElem?_set_ne this]; exact hx

theorem nth_get {t : List V} {a : Nat} {v : V} (h : t[a]? = some v) : nth t a = v := by
  rw [nth_eq, List.getD_eq_getElem?_getD, h]; rfl

theorem out_at {o : Oper} {t : List V} {h : List HB} {v : V} {h' : List HB} {a b q : Nat} (ha : addrOf o.op = some a) (ht : t[a]? = some (V.ptr b q)) (hd : Out P ty L ops o ⟨t, h⟩ v h') :
    ∃ f : List HB → List HB, (f = id ∨ ∃ x, f = fun g => g.set b x) ∧ h' = f h ∧ ∀ h2 : List HB, h2[b]? = h[b]? → Out P ty L ops o ⟨t, h2⟩ v (f h2) := by
  cases hd with
  | not hg => exact ⟨id, .inl rfl, rfl, fun h2 _ => .not hg⟩
  | did hg hd =>
    have hc : callOf t o.op = none := by
      cases ho : o.op <;> rw [ho] at ha <;> first | rfl | (simp [addrOf] at ha)
    cases hd with
    | pure hc' => rw [hc] at hc'; cases hc'
    | call hc' => rw [hc] at hc'; cases hc'
    | yield hc' => obtain ⟨c, f, e, _⟩ := yield_call (L := L) hc'; rw [e] at ha; cases ha
    | op hr hp =>
      simp only at hr
      unfold addrOf at ha
      split at ha
      · rename_i t' a' ho
        cases ha
        rw [ho] at hr
        simp only [aop, ev, nth_get ht, aLoad] at hr
        split at hr
        · rename_i i cs o' hi hro
          simp only [Option.some.injEq, Prod.mk.injEq] at hr
          obtain ⟨rfl, rfl, rfl⟩ := hr
          refine ⟨id, .inl rfl, rfl, fun h2 e2 => .did hg (.op (p := (partOf i cs o').1) ?_ hp)⟩
          have hro' : rowOf h2 (.ptr b q) = some (cs, o') := by simp only [rowOf] at hro ⊢; rw [e2]; exact hro
          simp only [ho, aop, ev, nth_get ht, aLoad, hi, hro']; rfl
        · cases hr
      · rename_i t' a' y ho
        cases ha
        rw [ho] at hr
        simp only [aop, ev, nth_get ht, aStore] at hr
        split at hr
        · rename_i i b' o' vs hi hx hcs
          cases hx
          split at hr
          · rename_i cs hb
            simp only [Option.some.injEq, Prod.mk.injEq] at hr
            obtain ⟨rfl, rfl, rfl⟩ := hr
            refine ⟨fun g => g.set b (.live (splice cs q vs)), .inr ⟨_, rfl⟩, rfl, fun h2 e2 => .did hg (.op (p := vs.length = i.size ∧ q + vs.length ≤ cs.length ∧ ∀ v ∈ vs, v.one = true) ?_ hp)⟩
            rw [← e2] at hb
            have hcs' : (ev t y).cells? = some vs := hcs
            simp only [ho, aop, ev, nth_get ht, aStore, hi, hb]
            simp only [hcs, hb]
          · cases hr
        · cases hr
      · cases ha

theorem run_swap {kn : Tmp → Option Nat} {i j : Nat} {oi oj : Oper} {l : List Nat} {s s' : St} (hi : ops[i]? = some oi) (hj : ops[j]? = some oj) (hin : indep ty L kn ops oi oj = true) (hK : Kn kn ops s.t) (h : Run P ty L ops (i :: j :: l) s s') : Run P ty L ops (j :: i :: l) s s' := by
  simp only [indep, Bool.and_eq_true, Bool.not_eq_true', Bool.or_eq_true, beq_iff_eq] at hin
  obtain ⟨⟨⟨h1, h2⟩, h3⟩, h4⟩ := hin
  cases h with
  | cons ho1 out1 r1 =>
    rw [hi] at ho1; cases ho1
    cases r1 with
    | cons ho2 out2 r2 =>
      rw [hj] at ho2; cases ho2
      rename_i v1 g1 v2 g2
      obtain ⟨t, h⟩ := s
      simp only at out1 out2 r2
      have out2' := out_move out2 (put_other (t := t) (v := v1) h1)
      have fin : ∀ {g1' : List HB}, Out P ty L ops oj ⟨t, h⟩ v2 g1' → Out P ty L ops oi ⟨t, g1'⟩ v1 g2 → Run P ty L ops (j :: i :: l) ⟨t, h⟩ s' := by
        intro g1' a b
        refine .cons hj a (.cons hi (out_move b (fun i hi => (put_other (t := t) (v := v2) h2 i hi).symm)) ?_)
        rw [← put_comm h3]
        exact r2
      rcases h4 with (((h4 | h4) | ⟨h4, h5⟩) | ⟨h4, h5⟩) | h4
      · obtain ⟨rfl, k⟩ := out_free h4 out1
        exact fin out2' (k _)
      · obtain ⟨rfl, k⟩ := out_free h4 out2'
        exact fin (k h) out1
      · have e1 := out_read h4 out1
        have e2 := out_read h5 out2'
        subst e1; subst e2
        exact fin out2' out1
      · have e1 := out_read h4 out1
        subst e1
        rcases out_grows h5 out2' with e2 | ⟨x, e2⟩
        · subst e2; exact fin out2' out1
        · subst e2; exact fin out2' (out_more h4 out1 x)
      · unfold apart at h4
        split at h4
        · rename_i a c ha hc
          split at h4
          · rename_i b1 b2 hb1 hb2
            simp only [Bool.and_eq_true, Bool.not_eq_true', beq_eq_false_iff_ne] at h4
            obtain ⟨hne, n1, n2⟩ := h4
            obtain ⟨q1, t1⟩ := hK a b1 hb1 n1
            obtain ⟨q2, t2⟩ := hK c b2 hb2 n2
            obtain ⟨f1, k1, rfl, r1'⟩ := out_at ha t1 out1
            obtain ⟨f2, k2, rfl, r2'⟩ := out_at hc t2 out2'
            have get : ∀ {f : List HB → List HB} {b c : Nat}, b ≠ c → (f = id ∨ ∃ x, f = fun g => g.set b x) → ∀ g : List HB, (f g)[c]? = g[c]? := by
              rintro f b c hbc (rfl | ⟨x, rfl⟩) g
              · rfl
              · exact List.getElem?_set_ne hbc
            have comm : f2 (f1 h) = f1 (f2 h) := by
              rcases k1 with rfl | ⟨x, rfl⟩ <;> rcases k2 with rfl | ⟨y, rfl⟩ <;> first | rfl | exact List.set_comm _ _ hne
            have a1 := r2' h (get hne k1 h).symm
            have a2 := r1' (f2 h) (get (Ne.symm hne) k2 h)
            rw [← comm] at a2
            exact fin a1 a2
          · cases h4
        · cases h4

theorem Run.tailK {kn : Tmp → Option Nat} {i : Nat} {l l' : List Nat} {s s' : St} (hK : Kn kn ops s.t) (h : Run P ty L ops (i :: l) s s') (k : ∀ {s : St}, Kn kn ops s.t → Run P ty L ops l s s' → Run P ty L ops l' s s') : Run P ty L ops (i :: l') s s' := by
  cases h with
  | cons ho out r => exact .cons ho out (k (hK.put ho _) r)

theorem Run.tail {i : Nat} {l l' : List Nat} {s s' : St} (h : Run P ty L ops (i :: l) s s') (k : ∀ {s}, Run P ty L ops l s s' → Run P ty L ops l' s s') : Run P ty L ops (i :: l') s s' := by
  cases h with
  | cons ho out r => exact .cons ho out (k r)

def InD (ty : Tab) (L : List FuncId) (kn : Tmp → Option Nat) (ops : Array Oper) (i j : Nat) : Prop := ∃ oi oj, ops[i]? = some oi ∧ ops[j]? = some oj ∧ indep ty L kn ops oi oj = true

theorem run_front {kn : Tmp → Option Nat} {i : Nat} {post : List Nat} {s' : St} : ∀ (pre : List Nat) {s : St}, (∀ x ∈ pre, InD ty L kn ops x i) → Kn kn ops s.t → Run P ty L ops (pre ++ i :: post) s s' → Run P ty L ops (i :: (pre ++ post)) s s'
  | [], s, _, _, h => h
  | x :: pre, s, hp, hK, h => by
    obtain ⟨ox, oi, g1, g2, g3⟩ := hp x (by simp)
    have : Run P ty L ops (x :: i :: (pre ++ post)) s s' := h.tailK hK fun hK r => run_front pre (fun y hy => hp y (by simp [hy])) hK r
    exact run_swap g1 g2 g3 hK this

theorem run_perm {kn : Tmp → Option Nat} {s' : St} : ∀ (l l0 : List Nat) {s : St}, l.Nodup → l0.Pairwise (· < ·) → l.Perm l0 → (∀ a y b, l = a ++ y :: b → ∀ x, x < y → x ∈ l → x ∉ a → InD ty L kn ops x y) → Kn kn ops s.t →
    Run P ty L ops l0 s s' → Run P ty L ops l s s'
  | [], l0, s, _, _, hp, _, _, h => by
    obtain rfl : l0 = [] := hp.symm.eq_nil
    exact h
  | i :: l, l0, s, hn, hs, hp, hc, hK, h => by
    have hi : i ∈ l0 := hp.subset (by simp)
    obtain ⟨pre, post, rfl⟩ := List.append_of_mem hi
    have hpw := List.pairwise_append.1 hs
    have hpre : ∀ x ∈ pre, InD ty L kn ops x i := by
      intro x hx
      refine hc [] i l rfl x (hpw.2.2 x hx i (by simp)) (hp.symm.subset (by simp [hx])) (by simp)
    have hp' : l.Perm (pre ++ post) := List.Perm.cons_inv (hp.trans List.perm_middle)
    have hn' := List.nodup_cons.1 hn
    refine (run_front pre hpre hK h).tailK hK fun hK r => run_perm l (pre ++ post) hn'.2 ?_ hp' ?_ hK r
    · have := List.pairwise_cons.1 hpw.2.1
      exact List.pairwise_append.2 ⟨hpw.1, this.2, fun a ha b hb => hpw.2.2 a ha b (by simp [hb])⟩
    · intro a y b he x hxy hx hxa
      refine hc (i :: a) y b (by rw [he]; rfl) x hxy (by simp [hx]) ?_
      simp only [List.mem_cons, not_or]
      exact ⟨fun e => hn'.1 (e ▸ hx), hxa⟩
end

/-! ### What an order that the model draws keeps -/

/-- A list of operations that abides by the edges. -/
structure Good (m : Region.Mode) (ops : Array Oper) (l : List Nat) : Prop where
  nodup : l.Nodup
  lt : ∀ i ∈ l, i < ops.size
  deps : ∀ a y b, l = a ++ y :: b → ∀ o, ops[y]? = some o → ∀ e ∈ o.after.toList, Region.binds m e = true → e.on ∈ a

theorem Good.snoc {m : Region.Mode} {ops : Array Oper} {l : List Nat} (h : Good m ops l) {i : Nat} (hi : i < ops.size) (hn : i ∉ l)
    (hd : ∀ o, ops[i]? = some o → ∀ e ∈ o.after.toList, Region.binds m e = true → e.on ∈ l) : Good m ops (l ++ [i]) := by
  refine ⟨?_, ?_, ?_⟩
  · rw [List.nodup_append]
    exact ⟨h.nodup, by simp, fun a ha b hb => by simp at hb; subst hb; intro e; subst e; exact hn ha⟩
  · intro j hj; rcases List.mem_append.1 hj with hj | hj
    · exact h.lt j hj
    · simp at hj; subst hj; exact hi
  · intro a y b he o ho e hem hb
    rcases List.eq_nil_or_concat b with rfl | ⟨b', z, rfl⟩
    · have := List.append_inj' he rfl
      simp at this
      obtain ⟨rfl, rfl⟩ := this
      exact hd o ho e hem hb
    · have : l ++ [i] = (a ++ y :: b') ++ [z] := by rw [he]; simp
      have := List.append_inj' this rfl
      exact h.deps a y b' this.1 o ho e hem hb

theorem nodup_len : ∀ (l m : List Nat), l.Nodup → (∀ x ∈ l, x ∈ m) → l.length ≤ m.length
  | [], m, _, _ => by simp
  | x :: l, m, hn, hs => by
    have hn' := List.nodup_cons.1 hn
    have hx := hs x (by simp)
    have := nodup_len l (m.erase x) hn'.2 (fun y hy => (List.mem_erase_of_ne (fun (e : y = x) => hn'.1 (by rw [← e]; exact hy))).2 (hs y (by simp [hy])))
    rw [List.length_erase_of_mem hx] at this
    have := List.length_pos_of_mem hx
    simp; omega

def Inv (ops : Array Oper) (listed : Array Bool) (l : List Nat) : Prop := listed.size = ops.size ∧ ∀ i, i < ops.size → (listed[i]? = some true ↔ i ∈ l) ∧ listed[i]?.isSome = true

theorem go_good {m : Region.Mode} {ops : Array Oper} {σ : List Nat} (hσ : Good m ops σ) (hlen : σ.length = ops.size) : ∀ (fuel t : Nat) (listed : Array Bool) (acc : List Nat),
    Inv ops listed acc → Good m ops acc.reverse → acc.length + fuel = ops.size →
    Good m ops (Region.linearise.go m ops fuel t listed acc) ∧ (Region.linearise.go m ops fuel t listed acc).length = ops.size
  | 0, t, listed, acc, hI, hG, hl => by
    simp only [Region.linearise.go]
    exact ⟨hG, by simp; omega⟩
  | fuel + 1, t, listed, acc, hI, hG, hl => by
    simp only [Region.linearise.go]
    generalize hrs : (List.range ops.size).filter (fun i => !listed.getD i true && ((ops[i]?).map (·.after.all fun e => !Region.binds m e || listed.getD e.on false)).getD false) = rs
    have hmem : ∀ i, i ∈ rs ↔ i < ops.size ∧ i ∉ acc ∧ ∀ o, ops[i]? = some o → ∀ e ∈ o.after.toList, Region.binds m e = true → e.on ∈ acc := by
      intro i
      rw [← hrs, List.mem_filter, List.mem_range]
      refine and_congr_right fun hi => ?_
      obtain ⟨h1, h2⟩ := hI.2 i hi
      have ho : ops[i]? = some ops[i] := Array.getElem?_eq_getElem hi
      obtain ⟨b, hb⟩ := Option.isSome_iff_exists.1 h2
      rw [Bool.and_eq_true]
      refine and_congr ?_ ?_
      · rw [Array.getD_eq_getD_getElem?, hb]
        rw [hb] at h1
        cases b
        · simp at h1 ⊢; exact h1
        · simp at h1 ⊢; exact h1
      · rw [ho]
        simp only [Option.map_some, Option.getD_some, Array.all_eq_true_iff_forall_mem]
        constructor
        · intro h o he e hem hbn
          cases he
          have := h e (by simpa using hem)
          rw [hbn] at this
          simp only [Bool.not_true, Bool.false_or] at this
          rcases Nat.lt_or_ge e.on ops.size with hlt | hge
          · refine (hI.2 e.on hlt).1.1 ?_
            obtain ⟨c, hc⟩ := Option.isSome_iff_exists.1 (hI.2 e.on hlt).2
            rw [Array.getD_eq_getD_getElem?, hc] at this
            rw [hc]; simpa using this
          · rw [Array.getD_eq_getD_getElem?, Array.getElem?_eq_none (by rw [hI.1]; exact hge)] at this
            cases this
        · intro h e hem
          by_cases hbn : Region.binds m e = true
          · have h3 := h ops[i] rfl e (by simpa using hem) hbn
            have hlt : e.on < ops.size := hG.lt e.on (by simpa using h3)
            rw [Array.getD_eq_getD_getElem?, (hI.2 e.on hlt).1.2 h3]
            simp
          · simp [hbn]
    have hne : rs ≠ [] := by
      -- the first of σ that is not listed
      have hex : ∃ y ∈ σ, y ∉ acc := by
        apply Classical.byContradiction
        intro hno
        have hsub : ∀ y ∈ σ, y ∈ acc := fun y hy => Classical.byContradiction fun h => hno ⟨y, hy, h⟩
        have := nodup_len _ _ hσ.nodup hsub
        omega
      have hfirst : ∀ (l : List Nat), (∃ y ∈ l, y ∉ acc) → ∃ a y b, l = a ++ y :: b ∧ y ∉ acc ∧ ∀ z ∈ a, z ∈ acc := by
        intro l
        induction l with
        | nil => rintro ⟨y, hy, _⟩; cases hy
        | cons z l ih =>
          rintro ⟨y, hy, hya⟩
          by_cases hz : z ∈ acc
          · have : y ∈ l := by
              rcases List.mem_cons.1 hy with rfl | h
              · exact absurd hz hya
              · exact h
            obtain ⟨a, y', b, e, h1, h2⟩ := ih ⟨y, this, hya⟩
            exact ⟨z :: a, y', b, by rw [e]; rfl, h1, by intro x hx; rcases List.mem_cons.1 hx with rfl | h; exact hz; exact h2 x h⟩
          · exact ⟨[], z, l, rfl, hz, by simp⟩
      obtain ⟨a, y, b, he, h1, h2⟩ := hfirst σ hex
      have hy : y ∈ rs := (hmem y).2 ⟨hσ.lt y (by rw [he]; simp), h1, fun o ho e hem hb => h2 _ (hσ.deps a y b he o ho e hem hb)⟩
      intro e; rw [e] at hy; cases hy
    have hpos : 0 < rs.length := List.length_pos_iff.2 hne
    have hget : rs[t % rs.length]? = some (rs[t % rs.length]'(Nat.mod_lt _ hpos)) := List.getElem?_eq_getElem _
    rw [hget]
    generalize hi : rs[t % rs.length]'(Nat.mod_lt _ hpos) = i
    have him : i ∈ rs := by rw [← hi]; exact List.getElem_mem _
    obtain ⟨hlt, hna, hdp⟩ := (hmem i).1 him
    refine go_good hσ hlen fuel _ _ (i :: acc) ?_ ?_ (by simp; omega)
    · refine ⟨by simp [hI.1], fun j hj => ?_⟩
      by_cases e : j = i
      · subst e
        rw [Array.getElem?_setIfInBounds_self_of_lt (by rw [hI.1]; exact hlt)]
        simp
      · rw [Array.getElem?_setIfInBounds_ne (fun h => e h.symm)]
        refine ⟨?_, (hI.2 j hj).2⟩
        rw [(hI.2 j hj).1]; simp [e]
    · rw [List.reverse_cons]
      exact hG.snoc hlt (by simpa using hna) (fun o ho e hem hb => by simpa using hdp o ho e hem hb)

theorem Inv.start (ops : Array Oper) : Inv ops (Array.replicate ops.size false) [] := by
  refine ⟨by simp, fun i hi => ?_⟩
  rw [Array.getElem?_replicate, if_pos hi]; simp

theorem good_nil (m : Region.Mode) (ops : Array Oper) : Good m ops [].reverse := ⟨by simp, by simp, by intro a y b h; simp at h⟩

/-! ### The check of a region that draws its order -/

def depsOf (ops : Array Oper) (j : Nat) : List Nat := ((ops[j]?).map fun o => (o.after.toList.filter (Region.binds .any)).map (·.on)).getD []

inductive Anc (ops : Array Oper) : Nat → Nat → Prop
  | one {i j : Nat} (h : i ∈ depsOf ops j) : Anc ops i j
  | more {i d j : Nat} (h : Anc ops i d) (k : d ∈ depsOf ops j) : Anc ops i j

def maskOf (c : List Nat) : List Nat → Nat
  | [] => 0
  | d :: ds => maskOf c ds ||| 2 ^ d ||| c.getD d 0

def masks (ops : Array Oper) : Nat → List Nat
  | 0 => []
  | k + 1 => masks ops k ++ [maskOf (masks ops k) (depsOf ops k)]

theorem masks_length (ops : Array Oper) : ∀ k, (masks ops k).length = k
  | 0 => rfl
  | k + 1 => by simp [masks, masks_length ops k]

theorem maskOf_bit {c : List Nat} {i : Nat} : ∀ {ds : List Nat}, (maskOf c ds).testBit i = true → ∃ d ∈ ds, i = d ∨ (c.getD d 0).testBit i = true
  | [], h => by simp [maskOf] at h
  | d :: ds, h => by
    simp only [maskOf, Nat.testBit_or, Bool.or_eq_true] at h
    rcases h with (h | h) | h
    · obtain ⟨d', hd, hi⟩ := maskOf_bit h; exact ⟨d', by simp [hd], hi⟩
    · rw [Nat.testBit_two_pow] at h; exact ⟨d, by simp, .inl (by simpa using (of_decide_eq_true h).symm)⟩
    · exact ⟨d, by simp, .inr h⟩

theorem masks_anc (ops : Array Oper) : ∀ (k j i : Nat), ((masks ops k).getD j 0).testBit i = true → Anc ops i j
  | 0, j, i, h => by simp [masks] at h
  | k + 1, j, i, h => by
    simp only [masks] at h
    rcases Nat.lt_trichotomy j k with hj | rfl | hj
    · rw [List.getD_eq_getElem?_getD, List.getElem?_append_left (by rw [masks_length]; exact hj), ← List.getD_eq_getElem?_getD] at h
      exact masks_anc ops k j i h
    · rw [List.getD_eq_getElem?_getD, List.getElem?_append_right (by rw [masks_length]; exact Nat.le_refl _), masks_length] at h
      simp at h
      obtain ⟨d, hd, hi⟩ := maskOf_bit h
      rcases hi with rfl | hi
      · exact .one hd
      · exact .more (masks_anc ops j d i hi) hd
    · rw [List.getD_eq_getElem?_getD, List.getElem?_eq_none (by simp [masks_length]; omega)] at h
      simp at h

theorem binds_any {m : Region.Mode} {e : Edge} (h : Region.binds .any e = true) : Region.binds m e = true := by
  unfold Region.binds at h ⊢
  split at h
  · simp at h
  · simp at h
  · rfl

theorem Good.anc {m : Region.Mode} {ops : Array Oper} {l : List Nat} (h : Good m ops l) {i j : Nat} (ha : Anc ops i j) : ∀ {a b : List Nat}, l = a ++ j :: b → i ∈ a := by
  have one : ∀ {i j : Nat} {a b : List Nat}, i ∈ depsOf ops j → l = a ++ j :: b → i ∈ a := by
    intro i j a b hi he
    unfold depsOf at hi
    cases ho : ops[j]? with
    | none => simp [ho] at hi
    | some o =>
      simp only [ho, Option.map_some, Option.getD_some, List.mem_map, List.mem_filter] at hi
      obtain ⟨e, ⟨h1, h2⟩, rfl⟩ := hi
      exact h.deps a j b he o ho e h1 (binds_any h2)
  induction ha with
  | one hi => intro a b he; exact one hi he
  | more hh hk ih =>
    intro a b he
    have := one hk he
    obtain ⟨a1, a2, rfl⟩ := List.append_of_mem this
    have := ih (a := a1) (b := a2 ++ _ :: b) (by rw [he]; simp; rfl)
    simp [this]

/-- The check: unordered pairs do not interfere; each mode's edges have no circle. -/
def okDraw (ty : Tab) (L : List FuncId) (kn : Tmp → Option Nat) (ops : Array Oper) : Bool :=
  ((Region.linearise .any ops 0).length == ops.size && (Region.linearise .text ops 0).length == ops.size && (Region.linearise .gc ops 0).length == ops.size) &&
  ((masks ops ops.size).zipIdx.all fun (mk, j) => (List.range j).all fun i => mk.testBit i || (match ops[i]?, ops[j]? with
    | some oi, some oj => indep ty L kn ops oi oj
    | _, _ => false))

theorem linearise_good {m : Region.Mode} {ops : Array Oper} (h : (Region.linearise m ops 0).length = ops.size) (t : Nat) :
    Good m ops (Region.linearise m ops t) ∧ (Region.linearise m ops t).length = ops.size := by
  have h0 : Good m ops (Region.linearise m ops 0) := by
    -- without completeness first
    have part : ∀ (fuel t : Nat) (listed : Array Bool) (acc : List Nat), Inv ops listed acc → Good m ops acc.reverse → Good m ops (Region.linearise.go m ops fuel t listed acc) := by
      intro fuel
      induction fuel with
      | zero => intro t listed acc _ hG; exact hG
      | succ fuel ih =>
        intro t listed acc hI hG
        simp only [Region.linearise.go]
        split
        · rename_i i hi
          have him := List.mem_of_getElem? hi
          rw [List.mem_filter, List.mem_range, Bool.and_eq_true] at him
          obtain ⟨hlt, h1, h2⟩ := him
          obtain ⟨q1, q2⟩ := hI.2 i hlt
          obtain ⟨b, hb⟩ := Option.isSome_iff_exists.1 q2
          have hna : i ∉ acc := by
            intro hc
            have := q1.2 hc
            rw [Array.getD_eq_getD_getElem?, this] at h1; simp at h1
          refine ih _ _ _ ?_ ?_
          · refine ⟨by simp [hI.1], fun j hj => ?_⟩
            by_cases e : j = i
            · subst e
              rw [Array.getElem?_setIfInBounds_self_of_lt (by rw [hI.1]; exact hlt)]
              simp
            · rw [Array.getElem?_setIfInBounds_ne (fun h => e h.symm)]
              refine ⟨?_, (hI.2 j hj).2⟩
              rw [(hI.2 j hj).1]; simp [e]
          · rw [List.reverse_cons]
            refine hG.snoc hlt (by simpa using hna) ?_
            intro o ho e hem hbn
            rw [ho] at h2
            simp only [Option.map_some, Option.getD_some, Array.all_eq_true_iff_forall_mem] at h2
            have := h2 e (by simpa using hem)
            rw [hbn] at this
            simp only [Bool.not_true, Bool.false_or] at this
            rcases Nat.lt_or_ge e.on ops.size with hl | hge
            · obtain ⟨c, hc⟩ := Option.isSome_iff_exists.1 (hI.2 e.on hl).2
              rw [Array.getD_eq_getD_getElem?, hc] at this
              have := (hI.2 e.on hl).1.1 (by rw [hc]; simpa using this)
              simpa using this
            · rw [Array.getD_eq_getD_getElem?, Array.getElem?_eq_none (by rw [hI.1]; exact hge)] at this
              cases this
        · exact hG
    exact part _ _ _ _ (Inv.start ops) (good_nil m ops)
  exact go_good h0 h _ _ _ _ (Inv.start ops) (good_nil m ops) (by simp)

theorem schedule_good {ty : Tab} {L : List FuncId} {kn : Tmp → Option Nat} {ops : Array Oper} (h : okDraw ty L kn ops = true) (mixed : Bool) (t : Nat) : ∃ m, Good m ops (Region.schedule mixed ops t) ∧ (Region.schedule mixed ops t).length = ops.size := by
  simp only [okDraw, Bool.and_eq_true, beq_iff_eq] at h
  obtain ⟨⟨⟨h1, h2⟩, h3⟩, _⟩ := h
  unfold Region.schedule
  split
  · exact ⟨_, linearise_good h1 t⟩
  · split
    · exact ⟨_, linearise_good h2 _⟩
    · exact ⟨_, linearise_good h3 _⟩

theorem perm_range {l : List Nat} {n : Nat} (hn : l.Nodup) (hlt : ∀ i ∈ l, i < n) (hl : l.length = n) : l.Perm (List.range n) := by
  have hsub : ∀ x ∈ List.range n, x ∈ l := by
    intro x hx
    apply Classical.byContradiction
    intro hxl
    have := nodup_len (x :: l) (List.range n) (List.nodup_cons.2 ⟨hxl, hn⟩) (fun y hy => by
      rcases List.mem_cons.1 hy with rfl | h
      · exact hx
      · exact List.mem_range.2 (hlt y h))
    simp at this; omega
  exact (List.perm_ext_iff_of_nodup hn List.nodup_range).2 fun a => ⟨fun h => List.mem_range.2 (hlt a h), hsub a⟩

section
variable {P : Program} {ty : Tab} {L : List FuncId} {ops : Array Oper}

/-- **Whatever order is drawn, the run is the run in the text's order.** -/
theorem run_draw {kn : Tmp → Option Nat} {s s' : St} (h : okDraw ty L kn ops = true) (hK : Kn kn ops s.t) (hr : Run P ty L ops (List.range ops.size) s s') (mixed : Bool) (t : Nat) : Run P ty L ops (Region.schedule mixed ops t) s s' := by
  obtain ⟨m, hG, hlen⟩ := schedule_good h mixed t
  refine run_perm _ _ hG.nodup List.pairwise_lt_range (perm_range hG.nodup hG.lt hlen) ?_ hK hr
  intro a y b he x hxy hx hxa
  simp only [okDraw, Bool.and_eq_true] at h
  have hy : y < ops.size := hG.lt y (by rw [he]; simp)
  have hall := List.all_eq_true.1 h.2 ((masks ops ops.size).getD y 0, y) (by
    rw [List.mem_zipIdx_iff_getElem?, List.getD_eq_getElem?_getD, List.getElem?_eq_getElem (by rw [masks_length]; exact hy)]; simp)
  have := List.all_eq_true.1 hall x (List.mem_range.2 hxy)
  simp only [Bool.or_eq_true] at this
  rcases this with hb | hi
  · exact absurd (hG.anc (masks_anc ops _ _ _ hb) he) hxa
  · cases hx' : ops[x]? with
    | none => simp [hx'] at hi
    | some ox =>
      cases hy' : ops[y]? with
      | none => simp [hx', hy'] at hi
      | some oy =>
        simp only [hx', hy'] at hi
        exact ⟨ox, oy, hx', hy', hi⟩
end
end Go.Abs
