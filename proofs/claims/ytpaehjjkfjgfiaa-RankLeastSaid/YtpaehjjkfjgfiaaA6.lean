/- The abstract machine, part 6: a run through a region is the model's; frames; orders. -/
import Derived.Test.YtpaehjjkfjgfiaaA5
set_option linter.unusedVariables false
set_option linter.unusedSimpArgs false
namespace Go.Abs
open Go Go.RowKit

section
variable {ρ : Rho} {I : Nat → Prop} {w : World}
/-- A block that is no cells, and that nobody names, is turned. -/
theorem RH.putObj {ρ : Rho} {I : Nat → Prop} {w : World} {h : List HB} (H : RH ρ I w h) {D : Nat} (o : Obj) (hl : ¬ Live h ρ D) (hI : ¬ I D) (hc : ∀ c e fr, w.heap[D]? ≠ some (.cells c e fr)) :
    RH ρ I (w.putObj D o) h := by
  have other : ∀ k, k ≠ D → (w.putObj D o).heap[k]? = w.heap[k]? := fun k hk => World.putObj_heap_other hk
  have X : Ext ρ I w ρ I (w.putObj D o) := ⟨fun _ _ h => h, fun _ h => h, fun b hb => other b (fun e => hI (e ▸ hb)), fun b c e fr hb =>
    ⟨c, e, fr, (other b (fun e' => hc c e fr (e' ▸ hb))).trans hb, rfl⟩⟩
  refine ⟨H.len, ?_, H.inj, fun b hb => by rw [World.putObj_size]; exact H.imlt b hb, ?_⟩
  rotate_left 1
  · intro i L hi
    obtain ⟨l, base, rec, g1, A⟩ := H.lp i L hi
    have hne : l ≠ D := fun e' => hl ⟨i, _, base, hi, trivial, e' ▸ g1⟩
    exact ⟨l, base, rec, g1, A.ext X (other l hne) A.im⟩
  intro i cs hi
  obtain ⟨rb, base, c, e, fr, g1, g2, g3, g4, g5, g6⟩ := H.row i cs hi
  have hne : rb ≠ D := fun e' => hl ⟨i, _, base, hi, trivial, e' ▸ g1⟩
  refine ⟨rb, base, c, e, fr, g1, (other rb hne).trans g2, g3, fun j v hv => ?_, g5, g6⟩
  obtain ⟨y, hy, hr⟩ := g4 j v hv
  exact ⟨y, hy, hr.ext X⟩

theorem Keep.putObj {h h' : List HB} {ρ ρ' : Rho} {I I' : Nat → Prop} {w w' : World} (k : Keep h ρ I w h' ρ' I' w') {D : Nat} (o : Obj) (hD : w.heap.size ≤ D) (hc : ∀ c e fr, w'.heap[D]? ≠ some (.cells c e fr)) :
    Keep h ρ I w h' ρ' I' (w'.putObj D o) where
  os := k.os
  tape := k.tape
  output := k.output
  size := by rw [World.putObj_size]; exact k.size
  rho := k.rho
  im := k.im
  same := fun b hb hl => (World.putObj_heap_other (by omega)).trans (k.same b hb hl)
  sz := fun b c e fr hb => by
    obtain ⟨c', e', fr', h1, h2⟩ := k.sz b c e fr hb
    exact ⟨c', e', fr', (World.putObj_heap_other (fun (e'' : b = D) => hc c' e' fr' (by rw [← e'']; exact h1))).trans h1, h2⟩
  im' := k.im'
  live' := k.live'


/-- The record of a loop comes back. -/
theorem RH.setLoop {h : List HB} (H : RH ρ I w h) {b l base : Nat} {L : LoopB} {rec : Loop} (hp : ρ[b]? = some (l, base)) (A : LoopAt ρ I w L l rec) (hl : ¬ Live h ρ l) : RH ρ I w (h.set b (.loop L)) := by
  refine ⟨by rw [H.len, List.length_set], ?_, ?_, H.imlt, ?_⟩
  · intro i cs hi
    rcases on_set hi trivial with ⟨_, hi⟩ | ⟨_, e, _⟩
    · exact H.row i cs hi
    · cases e
  · intro i j x y rb b1 b2 hi o1 hj o2 p1 p2
    rcases on_set hi o1 with ⟨_, hi'⟩ | ⟨e1, _, _⟩ <;> rcases on_set hj o2 with ⟨_, hj'⟩ | ⟨e2, _, _⟩
    · exact H.inj i j x y rb b1 b2 hi' o1 hj' o2 p1 p2
    · subst e2; rw [hp] at p2; cases p2
      exact absurd ⟨i, x, b1, hi', o1, p1⟩ hl
    · subst e1; rw [hp] at p1; cases p1
      exact absurd ⟨j, y, b2, hj', o2, p2⟩ hl
    · rw [e1, e2]
  · intro i M hi
    rcases on_set hi trivial with ⟨_, hi⟩ | ⟨e1, e, _⟩
    · exact H.lp i M hi
    · cases e; subst e1; exact ⟨l, base, rec, hp, A⟩

/-- Temporaries that stand for abstract ones. -/
def TV (ρ : Rho) (I : Nat → Prop) (w : World) (t : List V) (a : Array Value) : Prop := a.size = t.length ∧ ∀ (i : Nat) (v : V), t[i]? = some v → ∃ x, a[i]? = some x ∧ RV ρ I w v x
theorem TV.set {t : List V} {a : Array Value} (h : TV ρ I w t a) {v : V} {x : Value} (hv : RV ρ I w v x) (p : Tmp) : TV ρ I w (t.set p v) (a.setIfInBounds p x) := by
  refine ⟨by simp [h.1], fun i u hu => ?_⟩
  by_cases e : p = i
  · subst e
    rw [List.getElem?_set] at hu
    simp only [if_true] at hu
    split at hu
    · rename_i hlt
      simp only [Option.some.injEq] at hu; subst hu
      exact ⟨x, by rw [Array.getElem?_setIfInBounds_self_of_lt (by rw [h.1]; exact hlt)], hv⟩
    · cases hu
  · rw [List.getElem?_set_ne e] at hu
    obtain ⟨y, hy, hr⟩ := h.2 i u hu
    exact ⟨y, by rw [Array.getElem?_setIfInBounds_ne e]; exact hy, hr⟩
theorem TV.fold : ∀ (ps : List Tmp) (vs : List V) (xs : List Value) {t : List V} {a : Array Value}, TV ρ I w t a → vs.length = xs.length → (∀ (i : Nat) (v : V) (x : Value), vs[i]? = some v → xs[i]? = some x → RV ρ I w v x) →
    TV ρ I w ((ps.zip vs).foldl (fun t q => t.set q.1 q.2) t) ((ps.zip xs).foldl (fun a q => a.setIfInBounds q.1 q.2) a)
  | [], vs, xs, t, a, h, _, _ => by simpa using h
  | p :: ps, [], [], t, a, h, _, _ => by simpa using h
  | p :: ps, [], x :: xs, t, a, h, e, _ => by simp at e
  | p :: ps, v :: vs, [], t, a, h, e, _ => by simp at e
  | p :: ps, v :: vs, x :: xs, t, a, h, e, hv => by
    simp only [List.zip_cons_cons, List.foldl_cons]
    exact TV.fold ps vs xs (h.set (hv 0 v x rfl rfl) p) (by simpa using e) (fun i u y h1 h2 => hv (i + 1) u y (by simpa using h1) (by simpa using h2))
end

section
variable {P : Program} {ty : Tab} {L : List FuncId}

theorem callOf_real {ρ : Rho} {I : Nat → Prop} {w : World} {s : St} {a : Act} (S : RS ρ I w s a) {o : Oper} {f : FuncId} {args : List V} (hc : callOf s.t o.op = some (f, args)) :
    ∃ vs, args.length = vs.size ∧ (∀ (i : Nat) (v : V) (x : Value), args[i]? = some v → vs[i]? = some x → RV ρ I w v x) ∧ (execOp a.eval o).run P w = (callFunc f vs).run P w ∧ noDefer o.op = true := by
  unfold callOf at hc
  split at hc
  · rename_i c ho
    split at hc
    · rename_i fo hf
      have hv := rv_ev (ρ := ρ) (I := I) (w := w) S fo
      split at hc
      · rename_i g caps hg
        simp only [Option.some.injEq, Prod.mk.injEq] at hc
        obtain ⟨rfl, rfl⟩ := hc
        rw [hg] at hv
        generalize hac : a.eval fo = z at hv
        cases hv with
        | fn hl hvs =>
          obtain ⟨h1, h2⟩ := rv_args S c.args hl hvs
          refine ⟨_, h1, h2, ?_, by rw [ho]; rfl⟩
          simp only [execOp, ho, resolve, hf, hac, Deferred.ofValue, Sem.run_bind, Sem.run_pure, Result.andThen_ok, invoke]
          simp
      · cases hc
    · cases hc
  · cases hc

theorem not_live_loop {ρ : Rho} {I : Nat → Prop} {w : World} {h : List HB} {b l base : Nat} {L : LoopB} (H : RH ρ I w h) (hb : h[b]? = some (.loop L)) (hp : ρ[b]? = some (l, base)) : ¬ Live (h.set b .dead) ρ l := by
  rintro ⟨i, x, b1, hi, o, p1⟩
  rcases on_set hi o with ⟨hne, hi⟩ | ⟨_, rfl, _⟩
  · exact hne (H.inj i b x _ l b1 base hi o hb trivial p1 hp)
  · exact o.elim

/-- **One round.** -/
theorem round_sound {s : St} {ρ : Rho} {I : Nat → Prop} {w : World} (H : RH ρ I w s.h) {b l base : Nat} {lb : LoopB} {rec : Loop} (hb : s.h[b]? = some (.loop lb)) (hp : ρ[b]? = some (l, base)) (A : LoopAt ρ I w lb l rec)
    {args : List V} {vs : Array Value} (h1 : args.length = vs.size) (h2 : ∀ (i : Nat) (v : V) (x : Value), args[i]? = some v → vs[i]? = some x → RV ρ I w v x) {h' : List HB} (hr : RoundD P lb args (s.h.set b .dead) h') (r : Option Nat) :
    RoundIn (Fw r) 0 P l rec.fn ((rec.params.zip vs).foldl (fun tmps (t, a) => tmps.setIfInBounds t a) rec.tmps) rec.assign rec.body w
      fun e w' => e = .returned (.bool true) ∧ ∃ ρ' I', RH ρ' I' w' (h'.set b (.loop lb)) ∧ Keep s.h ρ I w (h'.set b (.loop lb)) ρ' I' w' := by
  obtain ⟨hn, na, nb, haw⟩ := hr
  have hll : l < w.heap.size := (Array.getElem?_eq_some_iff.1 A.at_).1
  have nl0 := not_live_loop H hb hp
  have HD := (H.die b).1
  have lD : ∀ k, Live (s.h.set b .dead) ρ k → Live s.h ρ k := by
    rintro k ⟨i, x, b1, hi, o, p1⟩
    rcases on_set hi o with ⟨_, hi⟩ | ⟨_, rfl, _⟩
    · exact ⟨i, x, b1, hi, o, p1⟩
    · exact o.elim
  have hTV : TV ρ I w (roundT lb args) ((rec.params.zip vs).foldl (fun tmps (t, a) => tmps.setIfInBounds t a) rec.tmps) := by
    have h0 := TV.fold lb.ps.toList args vs.toList (t := lb.t) (a := rec.tmps) ⟨A.tlen, A.tv⟩ (by simpa using h1) (fun i v x q1 q2 => h2 i v x q1 (by simpa using q2))
    have e : (rec.params.zip vs).foldl (fun tmps (t, a) => tmps.setIfInBounds t a) rec.tmps = (lb.ps.toList.zip vs.toList).foldl (fun a q => a.setIfInBounds q.1 q.2) rec.tmps := by
      rw [A.ps, ← Array.foldl_toList, Array.toList_zip]
    rw [e]; exact h0
  have S0 : RS ρ I w ⟨roundT lb args, s.h.set b .dead⟩ { tmps := (rec.params.zip vs).foldl (fun tmps (t, a) => tmps.setIfInBounds t a) rec.tmps, defers := [] } :=
    ⟨hTV.1, hTV.2, HD, ⟨[], rfl, List.nodup_nil, by simp⟩⟩
  have hN : (s.h.set b .dead).length = ρ.length := by rw [List.length_set, H.len]
  refine roundIn_of_wpIn (F := Fw r) trivial ?_
  rw [A.assign, A.body]
  refine wpIn_mono (haw (some l) (fun _ => na) ρ I w _ S0) ?_
  intro e a1 w1 p1
  cases e with
  | panic c => exact p1.elim
  | outgrown => exact p1.elim
  | ret => obtain ⟨s1, ρ1, I1, ⟨q, _⟩, _⟩ := p1; cases q
  | exit i => obtain ⟨s1, ρ1, I1, ⟨q, _⟩, _⟩ := p1; cases q
  | goto i => obtain ⟨s1, ρ1, I1, ⟨q, _⟩, _⟩ := p1; cases q
  | normal =>
    obtain ⟨s1, ρ1, I1, ⟨_, hbody⟩, S1, K1, M1⟩ := p1
    have nl1 : ¬ Live s1.h ρ1 l := fun h => nl0 (K1.live' l hll h)
    have ni1 : ¬ I1 l := fun h => (K1.im' l hll h).elim A.im nl0
    have a1t : w1.heap[l]? = some (.loop rec) := (K1.same l hll nl0).trans A.at_
    have nc1 : ∀ c e fr, w1.heap[l]? ≠ some (.cells c e fr) := by intro c e fr h; rw [a1t] at h; cases h
    refine ⟨_, run_beginRound a1t A.ready, ?_⟩
    obtain ⟨w2, hw2⟩ : ∃ w2, w1.putObj l (.loop { rec with state := .busy }) = w2 := ⟨_, rfl⟩
    rw [hw2]
    have o2 : ∀ k, k ≠ l → w2.heap[k]? = w1.heap[k]? := fun k hk => by rw [← hw2]; exact World.putObj_heap_other hk
    have hl1 : l < w1.heap.size := (Array.getElem?_eq_some_iff.1 a1t).1
    have sz2 : w2.heap.size = w1.heap.size := by rw [← hw2]; exact World.putObj_size
    have at2 : w2.heap[l]? = some (.loop { rec with state := .busy }) := by rw [← hw2]; exact World.putObj_heap_same hl1
    have X12 : Ext ρ1 I1 w1 ρ1 I1 w2 := ⟨fun _ _ h => h, fun _ h => h, fun k hk => o2 k (fun e => ni1 (e ▸ hk)), fun k c e fr hk => ⟨c, e, fr, (o2 k (fun e' => nc1 c e fr (e' ▸ hk))).trans hk, rfl⟩⟩
    have S2 : RS ρ1 I1 w2 s1 a1 := by
      refine ⟨S1.tlen, fun i v hv => ?_, by rw [← hw2]; exact S1.heap.putObj _ nl1 ni1 nc1, ?_⟩
      · obtain ⟨y, hy, hr⟩ := S1.tv i v hv; exact ⟨y, hy, hr.ext X12⟩
      · obtain ⟨Ds, e, hnd, hD⟩ := S1.marks
        refine ⟨Ds, e, hnd, fun D hd => ?_⟩
        obtain ⟨d1, d2, d3, d4⟩ := hD D hd
        exact ⟨by rw [sz2]; exact d1, d2, d3, (o2 D (fun e => by subst e; rw [a1t] at d4; cases d4)).trans d4⟩
    refine wpIn_mono (hbody (some l) (fun _ => nb) ρ1 I1 w2 a1 S2) ?_
    intro e a3 w3 p3
    cases e with
    | panic c => exact p3.elim
    | outgrown => exact p3.elim
    | ret => obtain ⟨s1, ρ1, I1, ⟨q, _⟩, _⟩ := p3; cases q
    | exit i => obtain ⟨s1, ρ1, I1, ⟨q, _⟩, _⟩ := p3; cases q
    | goto i => obtain ⟨s1, ρ1, I1, ⟨q, _⟩, _⟩ := p3; cases q
    | normal =>
      obtain ⟨s3, ρ3, I3, ⟨_, t', hwk⟩, S3, K3, M3⟩ := p3
      obtain ⟨ρ4, I4, S4, K4⟩ := hwk ρ3 I3 w3 a3 S3
      have hl2 : l < w2.heap.size := by rw [sz2]; exact hl1
      have hl3 : l < w3.heap.size := Nat.lt_of_lt_of_le hl2 K3.size
      have at3 : w3.heap[l]? = some (.loop { rec with state := .busy }) := (K3.same l hl2 nl1).trans at2
      have nl3 : ¬ Live s3.h ρ3 l := fun h => nl1 (K3.live' l hl2 h)
      have nl4 : ¬ Live h' ρ4 l := fun h => nl3 (K4.live' l hl3 h)
      have ni3 : ¬ I3 l := fun h => (K3.im' l hl2 h).elim ni1 nl1
      have ni4 : ¬ I4 l := fun h => (K4.im' l hl3 h).elim ni3 nl3
      have nc3 : ∀ c e fr, w3.heap[l]? ≠ some (.cells c e fr) := by intro c e fr h; rw [at3] at h; cases h
      refine ⟨_, _, run_endRound none at3, rfl, ρ4, I4, ?_⟩
      have erec : ({ ({ rec with state := .busy } : Loop) with state := if (none : Option Code).isNone then .ready else .done, pending := none } : Loop) = rec := by
        have q1 := A.ready
        have q2 := A.pend
        cases rec
        simp only at q1 q2
        subst q1; subst q2
        rfl
      rw [erec]
      obtain ⟨w5, hw5⟩ : ∃ w5, w3.putObj l (.loop rec) = w5 := ⟨_, rfl⟩
      rw [hw5]
      have o5 : ∀ k, k ≠ l → w5.heap[k]? = w3.heap[k]? := fun k hk => by rw [← hw5]; exact World.putObj_heap_other hk
      have sz5 : w5.heap.size = w3.heap.size := by rw [← hw5]; exact World.putObj_size
      have at5 : w5.heap[l]? = some (.loop rec) := by rw [← hw5]; exact World.putObj_heap_same hl3
      have H5 : RH ρ4 I4 w5 h' := by rw [← hw5]; exact S4.heap.putObj _ nl4 ni4 nc3
      have hblt : b < s.h.length := (List.getElem?_eq_some_iff.1 hb).1
      have hp4 : ρ4[b]? = some (l, base) := K4.rho b _ (by simpa using hblt) (K3.rho b _ (by simpa using hblt) (K1.rho b _ (by simpa using hblt) hp))
      have back : ∀ k, k < w.heap.size → Live h' ρ4 k → Live s.h ρ k := fun k hk hL =>
        lD k (K1.live' k hk (K3.live' k (by rw [sz2]; exact Nat.lt_of_lt_of_le hk K1.size) (K4.live' k (Nat.lt_of_lt_of_le (by rw [sz2]; exact Nat.lt_of_lt_of_le hk K1.size) K3.size) hL)))
      have K : Keep s.h ρ I w (h'.set b (.loop lb)) ρ4 I4 w5 := by
        refine ⟨?_, ?_, ?_, ?_, ?_, ?_, ?_, ?_, ?_, ?_⟩
        · rw [← hw5]; show w3.os = w.os; rw [K3.os, ← hw2]; exact K1.os
        · rw [← hw5]; show w3.tape = w.tape; rw [K3.tape, ← hw2]; exact K1.tape
        · rw [← hw5]; show w3.output = w.output; rw [K3.output, ← hw2]; exact K1.output
        · rw [sz5]; exact Nat.le_trans K1.size (by rw [← sz2]; exact K3.size)
        · intro i p hi
          have hlt : i < (s.h.set b HB.dead).length := by rw [hN]; exact (List.getElem?_eq_some_iff.1 hi).1
          exact K4.rho i p hlt (K3.rho i p hlt (K1.rho i p hlt hi))
        · exact fun k hk => K4.im k (K3.im k (K1.im k hk))
        · intro k hk hL
          have hne : k ≠ l := fun e => hL (e ▸ ⟨b, _, base, hb, trivial, hp⟩)
          have n0 : ¬ Live (s.h.set b .dead) ρ k := fun h => hL (lD k h)
          have n1 : ¬ Live s1.h ρ1 k := fun h => n0 (K1.live' k hk h)
          have hk2 : k < w2.heap.size := by rw [sz2]; exact Nat.lt_of_lt_of_le hk K1.size
          exact (o5 k hne).trans ((K3.same k hk2 n1).trans ((o2 k hne).trans (K1.same k hk n0)))
        · intro k c e fr hk
          obtain ⟨c1, e1, f1, g1, z1⟩ := K1.sz k c e fr hk
          have hne : k ≠ l := fun e' => nc1 c1 e1 f1 (e' ▸ g1)
          obtain ⟨c2, e2, f2, g2, z2⟩ := K3.sz k c1 e1 f1 ((o2 k hne).trans g1)
          exact ⟨c2, e2, f2, (o5 k hne).trans g2, z2.trans z1⟩
        · intro k hk hI
          have hk2 : k < w2.heap.size := by rw [sz2]; exact Nat.lt_of_lt_of_le hk K1.size
          rcases K4.im' k (Nat.lt_of_lt_of_le hk2 K3.size) hI with h | h
          · rcases K3.im' k hk2 h with h | h
            · exact (K1.im' k hk h).imp id (lD k)
            · exact .inr (lD k (K1.live' k hk h))
          · exact .inr (lD k (K1.live' k hk (K3.live' k hk2 h)))
        · rintro k hk ⟨i, x, b1, hi, o, p1⟩
          rcases on_set hi o with ⟨_, hi⟩ | ⟨e1, _, _⟩
          · exact back k hk ⟨i, x, b1, hi, o, p1⟩
          · rw [e1, hp4] at p1; cases p1
            exact ⟨b, _, base, hb, trivial, hp⟩
      exact ⟨H5.setLoop hp4 ⟨at5, A.ready, A.pend, A.ps, A.assign, A.body, A.tlen, fun i v hv => by
        obtain ⟨y, hy, hr⟩ := A.tv i v hv; exact ⟨y, hy, hr.ext (K.ext H)⟩, ni4⟩ nl4, K⟩

theorem yield_real {ρ : Rho} {I : Nat → Prop} {w : World} {s : St} {a : Act} (S : RS ρ I w s a) {o : Oper} {b : Nat} {args : List V} (hc : yieldOf s.t o.op = some (b, args)) :
    ∃ l base vs, ρ[b]? = some (l, base) ∧ args.length = vs.size ∧ (∀ (i : Nat) (v : V) (x : Value), args[i]? = some v → vs[i]? = some x → RV ρ I w v x) ∧ (execOp a.eval o).run P w = (Instr.yield l vs).run P w ∧ noDefer o.op = true := by
  unfold yieldOf at hc
  split at hc
  · rename_i c ho
    split at hc
    · rename_i fo hf
      have hv := rv_ev (ρ := ρ) (I := I) (w := w) S fo
      split at hc
      · rename_i g hg
        simp only [Option.some.injEq, Prod.mk.injEq] at hc
        obtain ⟨rfl, rfl⟩ := hc
        rw [hg] at hv
        generalize hac : a.eval fo = z at hv
        cases hv with
        | yld hρ =>
          rename_i l base
          obtain ⟨h1, h2⟩ := rv_args (caps := []) (vs := #[]) S c.args rfl (by simp)
          refine ⟨l, base, c.args.map a.eval, hρ, by simp, fun i v x q1 q2 => h2 i v x (by simpa using q1) (by simpa using q2), ?_, by rw [ho]; rfl⟩
          simp only [execOp, ho, resolve, hf, hac, Deferred.ofValue, Sem.run_bind, Sem.run_pure, Result.andThen_ok, invoke]
          simp
      · cases hc
    · cases hc
  · cases hc

theorem run_sound {ops : Array Oper} (T : TyOK P ty) {l : List Nat} {s s' : St} (hr : Run P ty L ops l s s') : ∀ {r : Option Nat} {ρ : Rho} {I : Nat → Prop} {w : World} {a : Act} {Q : Exit → Act → World → Prop}, RS ρ I w s a →
    (∀ ρ' I' w' a', RS ρ' I' w' s' a' → Keep s.h ρ I w s'.h ρ' I' w' → a'.defers = a.defers → Q .normal a' w') → wpOpsIn (Fw r) 0 P ops Q l a w := by
  induction hr with
  | nil s => intro r ρ I w a Q S k; exact k ρ I w a S (Keep.refl _ _ _ _) rfl
  | @cons i l o s s2 v1 h1' ho hout hrun ih =>
    intro r ρ I w a Q S k
    simp only [wpOpsIn, ho]
    have cont : ∀ {ρ' : Rho} {I' : Nat → Prop} {w' : World} {x : Value}, RV ρ' I' w' v1 x → RH ρ' I' w' h1' → Keep s.h ρ I w h1' ρ' I' w' →
        wpOpsIn (Fw r) 0 P ops Q l (a.put o.dst x) w' := by
      intro ρ' I' w' x hv H K
      exact ih (S.put H K o.dst hv) fun ρ2 I2 w2 a2 S2 K2 e2 => k ρ2 I2 w2 a2 S2 (K.trans K2) (e2.trans (by unfold Act.put; split <;> rfl))
    cases hout with
    | not hg =>
      rw [guard_real S hg, if_neg (by simp)]
      exact ⟨fun _ _ => trivial, cont (.tup rfl (by simp)) S.heap (Keep.refl _ _ _ _)⟩
    | did hg hd =>
      rw [guard_real S hg, if_pos rfl]
      refine ⟨fun _ _ => trivial, ?_⟩
      have call : ∀ {f : FuncId} {args : List V}, callOf s.t o.op = some (f, args) → CallD P f args s.h v1 h1' → o.uponIn (Fw r) 0 P a (wpOpsIn (Fw r) 0 P ops Q l) Q ((o.semAt (Fw r).round a.eval).run P w) := by
        intro f args hc hcd
        obtain ⟨vs, h1, h2, h3, h4⟩ := callOf_real S hc
        rw [semAt_plain h4, h3]
        rcases hcd ρ I w vs h1 h2 S.heap with ⟨he, hcall⟩ | ⟨x, w', he, v, h'', ρ', I', ⟨rfl, rfl⟩, hv, H, K⟩
        · rw [he]
          refine ⟨fun h => by simp [Fw, Fence.wide] at h, ?_⟩
          refine CallsIn.mono (F := Fw r) hcall ?_
          rintro e w' ⟨x, rfl, v, h'', ρ', I', ⟨rfl, rfl⟩, hv, H, K⟩
          exact cont hv H K
        · rw [he]; exact cont hv H K
      cases hd with
      | op h hp =>
        obtain ⟨x, w', ρ', I', hx, hv, H, K⟩ := aop_sound (P := P) T S h hp
        have hn : noDefer o.op = true := by
          cases hop : o.op <;> first | rfl | (rw [hop] at h; simp [aop] at h)
        rw [semAt_plain hn]
        rcases hx with hx | ⟨hx, rfl⟩
        · rw [hx]; exact cont hv H K
        · rw [hx]; exact cont hv H K
      | pure hc _ h => exact call hc (h s.h)
      | call hc _ h => exact call hc h
      | yield hc hb h =>
        obtain ⟨l, base, vs, g1, g2, g3, g4, g5⟩ := yield_real (P := P) S hc
        obtain ⟨l', base', rec, e, A⟩ := S.heap.lp _ _ hb
        rw [g1] at e; cases e
        have hsz : vs.size = rec.params.size := by rw [A.ps, ← g2]; exact h.1.symm
        rw [semAt_plain g5, g4, run_yield A.at_ hsz]
        refine ⟨fun h => by simp [Fw, Fence.wide] at h, ?_⟩
        refine (round_sound S.heap hb g1 A g2 g3 h r).mono ?_
        rintro e w' ⟨rfl, ρ', I', H, K⟩
        exact cont (.bool _) H K

/-! ### The frame -/

/-- Values that name no block of the call's own. -/
inductive Clean : V → Prop
  | any : Clean .any
  | bool (b) : Clean (.bool b)
  | int (k n) : Clean (.int k n)
  | str (s) : Clean (.str s)
  | nilp : Clean .nilp
  | vptr (cs o) : (∀ v ∈ cs, Clean v) → Clean (.vptr cs o)
  | nils : Clean .nils
  | vec (cs l x) : (∀ v ∈ cs, Clean v) → Clean (.vec cs l x)
  | nilf : Clean .nilf
  | fn (f caps) : (∀ v ∈ caps, Clean v) → Clean (.fn f caps)
  | agg (cs) : (∀ v ∈ cs, Clean v) → Clean (.agg cs)
  | tup (cs) : (∀ v ∈ cs, Clean v) → Clean (.tup cs)

theorem Clean.rv {v : V} (hc : Clean v) : ∀ {ρ ρ' : Rho} {I : Nat → Prop} {w : World} {x : Value}, RV ρ I w v x → RV ρ' I w v x := by
  intro ρ ρ' I w x h
  induction h with
  | any x => exact .any _
  | bool b => exact .bool _
  | int k n => exact .int _ _
  | str s => exact .str _
  | nilp => exact .nilp
  | ptr h => cases hc
  | yld h => cases hc
  | vptr f hI hcc hv ih =>
    cases hc with | vptr _ _ h => exact .vptr f hI hcc (fun i v hi => ih i v hi (h v (List.mem_of_getElem? hi)))
  | nils => exact .nils
  | slc h h1 h2 hb hs => cases hc
  | vec f hI hcc hv h1 hx ih =>
    cases hc with | vec _ _ _ h => exact .vec f hI hcc (fun i v hi => ih i v hi (h v (List.mem_of_getElem? hi))) h1 hx
  | vecn x => exact .vecn _ _
  | nilf => exact .nilf
  | fn hl hv ih => cases hc with | fn _ _ h => exact .fn hl (fun i v x hi hx => ih i v x hi hx (h v (List.mem_of_getElem? hi)))
  | agg hl hv ih => cases hc with | agg _ h => exact .agg hl (fun i v x hi hx => ih i v x hi hx (h v (List.mem_of_getElem? hi)))
  | tup hl hv ih => cases hc with | tup _ h => exact .tup hl (fun i v x hi hx => ih i v x hi hx (h v (List.mem_of_getElem? hi)))

/-- **The frame, for a call that is handed no block.** -/
theorem pure_of_ac {f : FuncId} {args : List V} {r : V} (h : AC P f args [] fun v h' => v = r) (hca : ∀ v ∈ args, Clean v) (hcr : Clean r) : Pure P f args r := by
  intro hp ρ I w vs hl hv H
  have H0 : RH [] I w [] := ⟨rfl, by intro i cs h; simp at h, by intro i j cs ds rb b1 b2 h; simp at h, H.imlt, LoopsOK.nil _ _ _⟩
  refine (h [] I w vs hl (fun i v x h1 h2 => (hca v (List.mem_of_getElem? h1)).rv (hv i v x h1 h2)) H0).mono ?_
  rintro x w' ⟨v, h', ρ', I', rfl, hrv, H', K⟩
  have nl : ∀ b, ¬ Live [] ([] : Rho) b := by rintro b ⟨i, cs, base, h, _⟩; simp at h
  have X : Ext ρ I w ρ I' w' := ⟨fun _ _ h => h, K.im, fun b hb => K.same b (H.imlt b hb) (nl b), K.sz⟩
  have lt : ∀ {b : Nat}, Live hp ρ b → b < w.heap.size := fun hl => (H.lt hl).1
  refine ⟨v, hp, ρ, I', ⟨rfl, rfl⟩, hcr.rv hrv, ?_, ?_⟩
  · refine ⟨H.len, ?_, H.inj, H'.imlt, H.lp.ext X (fun l rec h1 hi => ⟨K.same l (Array.getElem?_eq_some_iff.1 h1).1 (nl l), fun hI => (K.im' l (Array.getElem?_eq_some_iff.1 h1).1 hI).elim hi (nl l)⟩) (fun _ _ h => h)⟩
    intro i cs hi
    obtain ⟨rb, base, c, e, fr, g1, g2, g3, g4, g5, g6⟩ := H.row i cs hi
    have hb := lt (live_row hi g1)
    refine ⟨rb, base, c, e, fr, g1, (K.same rb hb (nl rb)).trans g2, g3, fun j v hj => ?_, g5, ?_⟩
    · obtain ⟨y, hy, hr⟩ := g4 j v hj; exact ⟨y, hy, hr.ext X⟩
    · intro hI; rcases K.im' rb hb hI with h | h
      · exact g6 h
      · exact nl _ h
  · exact ⟨K.os, K.tape, K.output, K.size, fun _ _ h => h, K.im, fun b hb _ => K.same b hb (nl b), K.sz, fun b hb hI => (K.im' b hb hI).imp id (fun h => (nl _ h).elim), fun _ _ h => h⟩
end
end Go.Abs
