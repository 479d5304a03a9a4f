/- The abstract machine, part 8: regions, tests, the entry of a function. -/
import Derived.Test.YtemlnaipcdajeaaGreatM4
import Derived.RangeFuncRecord
set_option linter.unusedVariables false
set_option linter.unusedSimpArgs false
namespace Go.Abs
open Go Go.RowKit

/-! ### A region, operation by operation -/

def ADo (P : Program) (ty : Tab) (L : List FuncId) (o : Oper) (s : St) (K : St → Prop) : Prop :=
  match aop ty s.t s.h o.op with
  | some (p, v, h') => p ∧ K ⟨put s.t o.dst v, h'⟩
  | none => match callOf s.t o.op with
    | some (f, args) => if namedIn L o.op = true then ∃ r, Pure P f args r ∧ K ⟨put s.t o.dst r, s.h⟩ else ∃ r h', CallD P f args s.h r h' ∧ K ⟨put s.t o.dst r, h'⟩
    | none => match yieldOf s.t o.op with
      | some (b, args) => ∃ lb h' c, s.h[b]? = some (.loop lb) ∧ RoundD P lb args (s.h.set b .dead) h' c ∧ K ⟨put s.t o.dst (.bool c.isNone), h'.set b (.loop { lb with pend := c })⟩
      | none => False

def AStep (P : Program) (ty : Tab) (L : List FuncId) (ops : Array Oper) (o : Oper) (s : St) (K : St → Prop) : Prop :=
  match guardOf ops o s.t with
  | none => False
  | some g => (g = true → ADo P ty L o s K) ∧ (g = false → K ⟨put s.t o.dst udf, s.h⟩)

def ASeq (P : Program) (ty : Tab) (L : List FuncId) (ops : Array Oper) : List Oper → St → (St → Prop) → Prop
  | [], s, K => K s
  | o :: os, s, K => AStep P ty L ops o s fun s' => ASeq P ty L ops os s' K

section
variable {P : Program} {N : Nat} {ty : Tab} {L : List FuncId} {ops : Array Oper}

theorem ado_did {o : Oper} {s : St} {K : St → Prop} (h : ADo P ty L o s K) : ∃ v h', Did P ty L o s v h' ∧ K ⟨put s.t o.dst v, h'⟩ := by
  unfold ADo at h
  split at h
  · rename_i p v h' hr; exact ⟨v, h', .op hr h.1, h.2⟩
  · split at h
    · rename_i f args hc
      split at h
      · rename_i hL; obtain ⟨r, hp, hk⟩ := h; exact ⟨r, s.h, .pure hc hL hp, hk⟩
      · rename_i hL; obtain ⟨r, h', hp, hk⟩ := h; exact ⟨r, h', .call hc (by simpa using hL) hp, hk⟩
    · split at h
      · rename_i b args hy
        obtain ⟨lb, h', c, hb, hr, hk⟩ := h
        exact ⟨_, _, .yield hy hb hr, hk⟩
      · exact h.elim

theorem astep_out {o : Oper} {s : St} {K : St → Prop} (h : AStep P ty L ops o s K) : ∃ v h', Out P ty L ops o s v h' ∧ K ⟨put s.t o.dst v, h'⟩ := by
  unfold AStep at h
  split at h
  · exact h.elim
  · rename_i g hg
    cases g with
    | true => obtain ⟨v, h', hd, hk⟩ := ado_did (h.1 rfl); exact ⟨v, h', .did hg hd, hk⟩
    | false => exact ⟨udf, s.h, .not hg, h.2 rfl⟩

theorem aseq_run : ∀ (os : List Oper) (k : Nat) {s : St} {K : St → Prop}, (∀ j, os[j]? = ops[k + j]?) → ASeq P ty L ops os s K → ∃ s', Run P ty L ops (List.range' k os.length) s s' ∧ K s'
  | [], k, s, K, _, h => ⟨s, .nil s, h⟩
  | o :: os, k, s, K, he, h => by
    obtain ⟨v, h', ho, hk⟩ := astep_out h
    obtain ⟨s', hr, hks⟩ := aseq_run os (k + 1) (fun j => by have := he (j + 1); rw [List.getElem?_cons_succ] at this; rw [this]; congr 1; omega) hk
    exact ⟨s', .cons (by simpa using (he 0).symm) ho hr, hks⟩

theorem RS.drew {ρ : Rho} {I : Nat → Prop} {w : World} {s : St} {a : Act} (S : RS ρ I w s a) : RS ρ I w.drew s a :=
  ⟨S.tlen, fun i v h => by
    obtain ⟨x, hx, hr⟩ := S.tv i v h
    exact ⟨x, hx, hr.ext ((Keep.drew s.h ρ I w).ext S.heap)⟩, S.heap.drew, marks_keep ((Keep.drew s.h ρ I w).toN 0) S.marks⟩

/-- **A region.** -/
theorem aw_region (T : TyOK P ty) {id : Nat} {l : List Oper} {Q : Exit → St → Prop} {s : St} (h : ASeq P ty L l.toArray l s (Q .normal)) : AW P N (.region id l.toArray false) Q s := by
  obtain ⟨s', hr, hq⟩ := aseq_run (ops := l.toArray) l 0 (fun j => by simp) h
  intro r hr_ ρ I w a S
  refine wpIn_region ?_
  rw [List.range_eq_range', show l.toArray.size = l.length from by simp]
  exact run_sound T hr S fun ρ' I' w' a' S' K' e => ⟨s', ρ', I', hq, S', K'.toN N, by rw [e]; exact Mk.refl _ _⟩

/-- **A region that draws its order.** -/
theorem aw_draw (T : TyOK P ty) (L : List FuncId) {id : Nat} {l : List Oper} {Q : Exit → St → Prop} {s : St} (hd : okDraw ty L (ptrs s.t) l.toArray = true) (h : ASeq P ty L l.toArray l s (Q .normal)) :
    AW P N (.region id l.toArray true) Q s := by
  obtain ⟨s', hr, hq⟩ := aseq_run (ops := l.toArray) l 0 (fun j => by simp) h
  intro r hr_ ρ I w a S
  refine wpIn_region_draw fun t => ?_
  have hr' : Run P ty L l.toArray (List.range l.toArray.size) s s' := by rw [List.range_eq_range', show l.toArray.size = l.length from by simp]; exact hr
  refine run_sound T (run_draw hd (kn_ptrs _) hr' _ t) S.drew fun ρ' I' w' a' S' K' e => ⟨s', ρ', I', hq, S', ((Keep.drew _ _ _ _).trans K').toN N, by rw [e]; exact Mk.refl _ _⟩

theorem aw_cond {c : Operand} {x y : Code} {Q : Exit → St → Prop} {s : St} {b : Bool} (hc : ev s.t c = .bool b) (ht : b = true → AW P N x Q s) (hf : b = false → AW P N y Q s) : AW P N (.cond c x y) Q s := by
  intro r hr_ ρ I w a S
  have hv := rv_ev (ρ := ρ) (I := I) (w := w) S c
  rw [hc] at hv
  generalize hac : a.eval c = z at hv
  cases hv
  refine wpIn_cond hac ?_
  cases b
  · exact hf rfl r hr_.cr ρ I w a S
  · exact ht rfl r hr_.cl ρ I w a S

/-! ### The results of a function -/

def aRes (ty : Tab) (s : St) : ResultVar → Option (Prop × V)
  | .tmp t => some (True, nth s.t t)
  | .cell a t => (aLoad ty t (nth s.t a) s.h).map fun x => (x.1, x.2.1)

def resV (tmps : Array Value) : ResultVar → Sem Value
  | .tmp t => pure (tmps.getD t undef)
  | .cell c t => do loadVar t (← asAddr (tmps.getD c undef))

def aRess (ty : Tab) (s : St) : List ResultVar → Option (Prop × List V)
  | [] => some (True, [])
  | r :: rs => match aRes ty s r, aRess ty s rs with
    | some (p, v), some (q, vs) => some (p ∧ q, v :: vs)
    | _, _ => none

def one (vs : List V) : V :=
  match vs with
  | [v] => v
  | vs => .tup vs

/-- What must hold where a body is left. -/
def RetK (ty : Tab) (rs : List ResultVar) (R : V → List HB → Prop) : Exit → St → Prop
  | .normal, s | .ret, s => match aRess ty s rs with
    | some (p, vs) => p ∧ R (one vs) s.h
    | none => False
  | _, _ => False

theorem ret_normal (rs : List ResultVar) (R : V → List HB → Prop) (s : St) : RetK ty rs R .normal s = match aRess ty s rs with
    | some (p, vs) => p ∧ R (one vs) s.h
    | none => False := rfl
theorem ret_ret (rs : List ResultVar) (R : V → List HB → Prop) (s : St) : RetK ty rs R .ret s = match aRess ty s rs with
    | some (p, vs) => p ∧ R (one vs) s.h
    | none => False := rfl

theorem run_ress (T : TyOK P ty) {ρ : Rho} {I : Nat → Prop} {w : World} {s : St} {a : Act} (S : RS ρ I w s a) : ∀ (rs : List ResultVar) {p : Prop} {vs : List V}, aRess ty s rs = some (p, vs) → p →
    ∃ xs : List Value, (rs.mapM (resV a.tmps)).run P w = .ok xs w ∧ vs.length = xs.length ∧
      ∀ (i : Nat) (v : V) (x : Value), vs[i]? = some v → xs[i]? = some x → RV ρ I w v x
  | [], p, vs, h, hp => by
    simp only [aRess, Option.some.injEq, Prod.mk.injEq] at h
    obtain ⟨rfl, rfl⟩ := h
    exact ⟨[], rfl, rfl, by simp⟩
  | r :: rs, p, vs, h, hp => by
    simp only [aRess] at h
    split at h
    · rename_i p1 v1 q1 vs1 h1 h2
      simp only [Option.some.injEq, Prod.mk.injEq] at h
      obtain ⟨rfl, rfl⟩ := h
      obtain ⟨xs, hx, hl, hv⟩ := run_ress T S rs h2 hp.2
      have hone : ∃ x, (resV a.tmps r).run P w = .ok x w ∧ RV ρ I w v1 x := by
        cases r with
        | tmp t =>
          simp only [aRes, Option.some.injEq, Prod.mk.injEq] at h1
          obtain ⟨rfl, rfl⟩ := h1
          exact ⟨_, rfl, rv_ev S (.tmp t)⟩
        | cell c t =>
          simp only [aRes, Option.map_eq_some_iff, Prod.mk.injEq] at h1
          obtain ⟨⟨pp, vv, hh⟩, hr, rfl, rfl⟩ := h1
          have hc := rv_ev (ρ := ρ) (I := I) (w := w) S (.tmp c)
          obtain ⟨rfl, z, hz, hrz⟩ := run_loadAt (P := P) (T := T) S.heap hr hp.1 hc
          refine ⟨z, ?_, hrz⟩
          unfold aLoad at hr
          split at hr
          · rename_i i cs o hi hro
            obtain ⟨rb, off, hac, _⟩ := row_read S.heap hc hro
            simp only [Act.eval] at hac hz
            simp only [resV, hac, asAddr, Sem.run_bind, Sem.run_pure, Result.andThen_ok]
            simp only [Instr.loadAt, hac, Instr.sureAddr, Sem.run_bind, Sem.run_pure, Result.andThen_ok] at hz
            exact hz
          · cases hr
      obtain ⟨x, hx1, hx2⟩ := hone
      refine ⟨x :: xs, ?_, by simp [hl], ?_⟩
      · rw [List.mapM_cons, Sem.run_bind, hx1, Result.andThen_ok, Sem.run_bind, hx]; rfl
      · intro i v y h1 h2
        cases i with
        | zero => simp at h1 h2; subst h1; subst h2; exact hx2
        | succ i => exact hv i v y (by simpa using h1) (by simpa using h2)
    · cases h

theorem run_results (T : TyOK P ty) {ρ : Rho} {I : Nat → Prop} {w : World} {s : St} {a : Act} (S : RS ρ I w s a) {fn : Func} {rs : List ResultVar} (hrs : fn.results = rs.toArray) {p : Prop} {vs : List V} (h : aRess ty s rs = some (p, vs)) (hp : p) :
    ∃ x, (results fn a.tmps).run P w = .ok x w ∧ RV ρ I w (one vs) x := by
  obtain ⟨xs, hx, hl, hv⟩ := run_ress (P := P) T S rs h hp
  have hm : (fn.results.mapM (resV a.tmps)).run P w = .ok xs.toArray w := by
    rw [hrs, List.mapM_toArray, Sem.run_map, hx]; rfl
  refine ⟨if h : xs.toArray.size = 1 then xs.toArray[0] else .tuple xs.toArray, ?_, ?_⟩
  · have e : results fn a.tmps = (fn.results.mapM (resV a.tmps) >>= fun vs => pure (if h : vs.size = 1 then vs[0] else .tuple vs)) := rfl
    rw [e, Sem.run_bind, hm, Result.andThen_ok]; rfl
  · match vs, xs, hl, hv with
    | [v], [x], _, hv => exact hv 0 v x rfl rfl
    | [], [], _, hv => exact .tup rfl (by simp)
    | v :: v' :: vs, x :: x' :: xs, hl, hv => simp; exact .tup (by simpa using hl) (by intro i a b h k; exact hv i a b h (by simpa using k))
end
end Go.Abs
/- The abstract machine, part 9: the entry of a function; weaker states. -/
namespace Go.Abs
open Go Go.RowKit

section
variable {P : Program} {ty : Tab}

theorem leaves_marks (T : TyOK P ty) {fn : Func} {rs : List ResultVar} (hrs : fn.results = rs.toArray) {R : V → List HB → Prop} {R' : Ending → World → Prop} {h0 : List HB} {ρ0 : Rho} {I0 : Nat → Prop} {w0 : World} {s : St} {tmps : Array Value}
    {p : Prop} {vs : List V} (hres : aRess ty s rs = some (p, vs)) (hp : p) (hR : R (one vs) s.h)
    (hR' : ∀ x v h' ρ' I' w', R v h' → RV ρ' I' w' v x → RH ρ' I' w' h' → Keep h0 ρ0 I0 w0 h' ρ' I' w' → R' (.returned x) w') : ∀ (Ds : List Nat) {ρ : Rho} {I : Nat → Prop} {w : World}, Ds.Nodup →
    (∀ D ∈ Ds, w0.heap.size ≤ D ∧ D < w.heap.size ∧ ¬ Live s.h ρ D ∧ ¬ I D ∧ w.heap[D]? = some (.deferred (some []))) → RS ρ I w s { tmps, defers := [] } → Keep h0 ρ0 I0 w0 s.h ρ I w →
    LeavesInM (Fw none) 0 P fn tmps R' (Ds.map markD) .returning w
  | [], ρ, I, w, _, _, S, K => by
    obtain ⟨x, hx, hv⟩ := run_results (P := P) T S hrs hres hp
    exact ⟨x, hx, hR' x _ s.h ρ I w hR hv S.heap K⟩
  | D :: Ds, ρ, I, w, hn, hD, S, K => by
    obtain ⟨g1, g2, g3, g4, g5⟩ := hD D (by simp)
    have hn' := List.nodup_cons.1 hn
    have hc : ∀ c e fr, w.heap[D]? ≠ some (.cells c e fr) := by intro c e fr h; rw [g5] at h; cases h
    have H := S.heap.putObj (.deferred none) g3 g4 hc
    refine ⟨by simp, .inl ⟨D, w.putObj D (.deferred none), rfl, run_takeDeferred g5, ?_⟩⟩
    have other : ∀ k, k ≠ D → (w.putObj D (.deferred none)).heap[k]? = w.heap[k]? := fun k hk => World.putObj_heap_other hk
    have X : Ext ρ I w ρ I (w.putObj D (.deferred none)) := ⟨fun _ _ h => h, fun _ h => h, fun b hb => other b (fun e => g4 (e ▸ hb)), fun b c e fr hb =>
      ⟨c, e, fr, (other b (fun e' => hc c e fr (e' ▸ hb))).trans hb, rfl⟩⟩
    refine leaves_marks T hrs hres hp hR hR' Ds hn'.2 ?_ ⟨S.tlen, fun i v h => ?_, H, ⟨[], rfl, List.nodup_nil, by simp⟩⟩ (K.putObj _ g1 hc)
    · intro E hE
      obtain ⟨q1, q2, q3, q4, q5⟩ := hD E (by simp [hE])
      exact ⟨q1, by rw [World.putObj_size]; exact q2, q3, q4, (other E (fun e => hn'.1 (e ▸ hE))).trans q5⟩
    · obtain ⟨x, hx, hr⟩ := S.tv i v h
      exact ⟨x, hx, hr.ext X⟩

/-- **A function's contract, out of its body.** -/
theorem ac_enter (T : TyOK P ty) {f : FuncId} {fn : Func} {c : Code} {args : List V} {h : List HB} {R : V → List HB → Prop} {rs : List ResultVar} (hf : P.funcs[f]? = some fn) (hb : fn.body = some c) (hrs : fn.results = rs.toArray)
    (he : Enters P f) (hargs : args.length ≤ fn.ntmps) (hw : AW P h.length c (RetK ty rs R) ⟨args ++ List.replicate (fn.ntmps - args.length) .any, h⟩) : AC P f args h R := by
  intro ρ I w vs hl hv H
  refine .inl ⟨he vs w, ?_⟩
  refine callsIn_of_wp_marks hf hb trivial ?_ rfl
  have S : RS ρ I w ⟨args ++ List.replicate (fn.ntmps - args.length) .any, h⟩ { tmps := vs ++ Array.replicate (fn.ntmps - vs.size) undef, defers := [] } := by
    refine ⟨by simp [hl], ?_, H, ⟨[], rfl, List.nodup_nil, by simp⟩⟩
    intro i v hi
    rcases Nat.lt_or_ge i args.length with hlt | hge
    · rw [List.getElem?_append_left hlt] at hi
      have hx : vs[i]? = some (vs[i]'(by omega)) := Array.getElem?_eq_getElem _
      exact ⟨_, by rw [Array.getElem?_append_left (by omega)]; exact hx, hv i v _ hi hx⟩
    · rw [List.getElem?_append_right hge, List.getElem?_replicate] at hi
      split at hi
      · rename_i hlt
        cases hi
        exact ⟨undef, by rw [Array.getElem?_append_right (by omega), Array.getElem?_replicate, if_pos (by omega)], .any _⟩
      · cases hi
  refine wpIn_mono (hw none (Okr.none _) ρ I w _ S) ?_
  have fin : ∀ {e : Exit} {a' : Act} {w' : World} {s' : St} {ρ' : Rho} {I' : Nat → Prop}, (match aRess ty s' rs with
      | some (p, vs) => p ∧ R (one vs) s'.h
      | none => False) → RS ρ' I' w' s' a' → KeepN h.length h ρ I w s'.h ρ' I' w' → Mk [] w.heap.size a'.defers →
      LeavesInM (Fw none) 0 P fn a'.tmps (fun e w' => ∃ x, e = .returned x ∧ ∃ v h' ρ' I', R v h' ∧ RV ρ' I' w' v x ∧ RH ρ' I' w' h' ∧ Keep h ρ I w h' ρ' I' w') a'.defers .returning w' := by
    intro e a' w' s' ρ' I' hq S' K' m'
    split at hq
    · rename_i p vs' hres
      obtain ⟨Ds, hd, hge⟩ := m'
      obtain ⟨Ds', hd', hn', hD'⟩ := S'.marks
      have : Ds = Ds' := by
        rw [hd, List.append_nil] at hd'
        exact List.map_inj_right (fun a b h => by simpa [markD] using h) |>.1 hd'
      subst this
      rw [hd, List.append_nil]
      refine leaves_marks T hrs hres hq.1 hq.2 (fun x v h' ρ' I' w' hR hv H' K' => ⟨x, rfl, v, h', ρ', I', hR, hv, H', K'⟩) Ds hn' (fun D hD => ⟨hge D hD, hD' D hD⟩) ⟨S'.tlen, S'.tv, S'.heap, ⟨[], rfl, List.nodup_nil, by simp⟩⟩ (K'.full (by rw [H.len]; exact Nat.le_refl _))
    · exact hq.elim
  intro e a' w' p
  cases e with
  | normal => obtain ⟨s', ρ', I', q, S', K', m'⟩ := p; exact fin (e := .normal) q S' K' m'
  | ret => obtain ⟨s', ρ', I', q, S', K', m'⟩ := p; exact fin (e := .ret) q S' K' m'
  | exit i => obtain ⟨s', ρ', I', q, S', K', m'⟩ := p; exact q.elim
  | goto i => obtain ⟨s', ρ', I', q, S', K', m'⟩ := p; exact q.elim
  | panic ch => exact p.elim
  | outgrown => exact p.elim

/-! ### Weaker states -/

/-- One value says less than another. -/
def LeV (v' v : V) : Prop := v' = .any ∨ v' = v

def LeL : List V → List V → Prop
  | [], [] => True
  | v' :: l', v :: l => LeV v' v ∧ LeL l' l
  | _, _ => False

theorem LeL.get : ∀ {l' l : List V}, LeL l' l → l'.length = l.length ∧ ∀ (i : Nat) (v' : V), l'[i]? = some v' → ∃ v, l[i]? = some v ∧ LeV v' v
  | [], [], _ => ⟨rfl, by simp⟩
  | v' :: l', v :: l, h => by
    obtain ⟨h1, h2⟩ := h
    obtain ⟨e, k⟩ := h2.get
    refine ⟨by simp [e], fun i u hu => ?_⟩
    cases i with
    | zero => simp at hu; subst hu; exact ⟨v, rfl, h1⟩
    | succ i => exact k i u (by simpa using hu)
  | [], _ :: _, h => h.elim
  | _ :: _, [], h => h.elim

theorem LeV.rv {ρ : Rho} {I : Nat → Prop} {w : World} {v' v : V} {x : Value} (h : LeV v' v) (hr : RV ρ I w v x) : RV ρ I w v' x := by
  rcases h with rfl | rfl
  · exact .any _
  · exact hr

/-- Less is said of temporaries; the heap is the same. -/
theorem wk_le {N : Nat} {t t' : List V} {h : List HB} (hl : LeL t' t) : Wk N ⟨t, h⟩ ⟨t', h⟩ := by
  intro ρ I w a S
  obtain ⟨e, k⟩ := hl.get
  refine ⟨ρ, I, ⟨by rw [S.tlen]; exact e.symm, fun i v' hv' => ?_, S.heap, S.marks⟩, KeepN.refl _ _ _ _ _⟩
  obtain ⟨v, hv, hle⟩ := k i v' hv'
  obtain ⟨x, hx, hr⟩ := S.tv i v hv
  exact ⟨x, hx, hle.rv hr⟩

/-- Values that name no block from n on. -/
inductive Bel (n : Nat) : V → Prop
  | any : Bel n .any
  | bool (b) : Bel n (.bool b)
  | int (k m) : Bel n (.int k m)
  | str (s) : Bel n (.str s)
  | nilp : Bel n .nilp
  | ptr (b o) : b < n → Bel n (.ptr b o)
  | slc (b o z l c) : b < n → Bel n (.slc b o z l c)
  | vptr (cs o) : (∀ v ∈ cs, Bel n v) → Bel n (.vptr cs o)
  | nils : Bel n .nils
  | vec (cs l x) : (∀ v ∈ cs, Bel n v) → Bel n (.vec cs l x)
  | nilf : Bel n .nilf
  | yld (b) : b < n → Bel n (.yld b)
  | fn (f caps) : (∀ v ∈ caps, Bel n v) → Bel n (.fn f caps)
  | agg (cs) : (∀ v ∈ cs, Bel n v) → Bel n (.agg cs)
  | tup (cs) : (∀ v ∈ cs, Bel n v) → Bel n (.tup cs)

theorem Clean.bel {n : Nat} {v : V} (h : Clean v) : Bel n v := by
  induction h with
  | any => exact .any
  | bool b => exact .bool b
  | int k m => exact .int k m
  | str s => exact .str s
  | nilp => exact .nilp
  | vptr cs o _ ih => exact .vptr cs o ih
  | nils => exact .nils
  | vec cs l x _ ih => exact .vec cs l x ih
  | nilf => exact .nilf
  | fn f caps _ ih => exact .fn f caps ih
  | agg cs _ ih => exact .agg cs ih
  | tup cs _ ih => exact .tup cs ih

theorem Bel.take {n : Nat} {v : V} (hc : Bel n v) : ∀ {ρ : Rho} {I : Nat → Prop} {w : World} {x : Value}, RV ρ I w v x → RV (ρ.take n) I w v x := by
  intro ρ I w x h
  induction h with
  | any x => exact .any _
  | bool b => exact .bool _
  | int k m => exact .int _ _
  | str s => exact .str _
  | nilp => exact .nilp
  | ptr h => cases hc with | ptr _ _ hb => exact .ptr (by rw [List.getElem?_take_of_lt hb]; exact h)
  | yld h => cases hc with | yld _ hb => exact .yld (by rw [List.getElem?_take_of_lt hb]; exact h)
  | vptr f hI hcc hv ih =>
    cases hc with | vptr _ _ h => exact .vptr f hI hcc (fun i v hi => ih i v hi (h v (List.mem_of_getElem? hi)))
  | nils => exact .nils
  | slc h h1 h2 hb hs => cases hc with | slc _ _ _ _ _ hb' => exact .slc (by rw [List.getElem?_take_of_lt hb']; exact h) h1 h2 hb hs
  | vec f hI hcc hv h1 hx ih =>
    cases hc with | vec _ _ _ h => exact .vec f hI hcc (fun i v hi => ih i v hi (h v (List.mem_of_getElem? hi))) h1 hx
  | vecn x => exact .vecn _ _
  | nilf => exact .nilf
  | fn hl hv ih => cases hc with | fn _ _ h => exact .fn hl (fun i v x hi hx => ih i v x hi hx (h v (List.mem_of_getElem? hi)))
  | agg hl hv ih => cases hc with | agg _ h => exact .agg hl (fun i v x hi hx => ih i v x hi hx (h v (List.mem_of_getElem? hi)))
  | tup hl hv ih => cases hc with | tup _ h => exact .tup hl (fun i v x hi hx => ih i v x hi hx (h v (List.mem_of_getElem? hi)))

def HBel (n : Nat) : HB → Prop
  | .dead => True
  | .live cs => ∀ v ∈ cs, Bel n v
  | .loop L => ∀ v ∈ L.t, Bel n v

/-- Blocks at the end that nobody names are forgotten. -/
theorem wk_take {N n : Nat} {t : List V} {h : List HB} (hN : N ≤ n) (ht : ∀ v ∈ t, Bel n v) (hh : ∀ b ∈ h.take n, HBel n b) : Wk N ⟨t, h⟩ ⟨t, h.take n⟩ := by
  intro ρ I w a S
  have lv : ∀ b, Live (h.take n) (ρ.take n) b → Live h ρ b := by
    rintro b ⟨i, cs, base, h1, o, h2⟩
    have hi : i < n := by
      have := (List.getElem?_eq_some_iff.1 h1).1
      rw [List.length_take] at this; omega
    rw [List.getElem?_take_of_lt hi] at h1 h2
    exact ⟨i, cs, base, h1, o, h2⟩
  have K : KeepN N h ρ I w (h.take n) (ρ.take n) I w :=
    ⟨rfl, rfl, rfl, Nat.le_refl _, fun i p hi hp => by rw [List.getElem?_take_of_lt (by omega)]; exact hp, fun _ h => h, fun _ _ _ => rfl, fun _ c e fr h => ⟨c, e, fr, h, rfl⟩, fun _ _ h => .inl h, fun b _ hl => lv b hl⟩
  refine ⟨ρ.take n, I, ⟨S.tlen, fun i v hv => ?_, ?_, marks_keep K S.marks⟩, K⟩
  · obtain ⟨x, hx, hr⟩ := S.tv i v hv
    exact ⟨x, hx, (ht v (List.mem_of_getElem? hv)).take hr⟩
  · have get : ∀ {i : Nat} {cs : HB}, (h.take n)[i]? = some cs → i < n ∧ h[i]? = some cs := by
      intro i cs h1
      have hi : i < n := by
        have := (List.getElem?_eq_some_iff.1 h1).1
        rw [List.length_take] at this; omega
      rw [List.getElem?_take_of_lt hi] at h1
      exact ⟨hi, h1⟩
    refine ⟨by rw [List.length_take, List.length_take, S.heap.len], ?_, ?_, S.heap.imlt, ?_⟩
    · intro i cs h1
      obtain ⟨hi, h2⟩ := get h1
      obtain ⟨rb, base, c, e, fr, g1, g2, g3, g4, g5, g6⟩ := S.heap.row i cs h2
      refine ⟨rb, base, c, e, fr, by rw [List.getElem?_take_of_lt hi]; exact g1, g2, g3, fun j v hj => ?_, g5, g6⟩
      obtain ⟨y, hy, hr⟩ := g4 j v hj
      have hb : HBel n (.live cs) := hh _ (List.mem_of_getElem? h1)
      exact ⟨y, hy, (hb v (List.mem_of_getElem? hj)).take hr⟩
    · intro i j cs ds rb b1 b2 h1 o1 h2 o2 p1 p2
      obtain ⟨hi, h1⟩ := get h1
      obtain ⟨hj, h2⟩ := get h2
      rw [List.getElem?_take_of_lt hi] at p1
      rw [List.getElem?_take_of_lt hj] at p2
      exact S.heap.inj i j cs ds rb b1 b2 h1 o1 h2 o2 p1 p2
    · intro i L h1
      obtain ⟨hi, h2⟩ := get h1
      obtain ⟨l, base, rec, g1, A⟩ := S.heap.lp i L h2
      refine ⟨l, base, rec, by rw [List.getElem?_take_of_lt hi]; exact g1, A.at_, A.ready, A.pend, A.ps, A.assign, A.body, A.tlen, fun j v hj => ?_, A.im⟩
      obtain ⟨y, hy, hr⟩ := A.tv j v hj
      have hb : HBel n (.loop L) := hh _ (List.mem_of_getElem? h1)
      exact ⟨y, hy, (hb v (List.mem_of_getElem? hj)).take hr⟩

/-- Less is said, and the last blocks are forgotten. -/
theorem wk_drop {N : Nat} (n : Nat) {t t' : List V} {h h' : List HB} (hN : N ≤ n) (hl : LeL t' t) (ht : ∀ v ∈ t', Bel n v) (he : h.take n = h') (hh : ∀ b ∈ h', HBel n b) : Wk N ⟨t, h⟩ ⟨t', h'⟩ := by
  subst he
  exact (wk_le hl).trans (wk_take hN ht hh)
end

/-! ### The table of types, row by row -/

def TyRow (P : Program) (t : TypeId) (i : Ty) : Prop := P.underlying t = some i.desc ∧
  ∃ ti z, P.info? t = some ti ∧ ti.size = i.size ∧ ti.bytes = i.bytes ∧ ti.zero = some z ∧ i.zero = z.cells.toList.map ofS ∧ i.zero.length = i.size ∧ (i.eq = true → P.stoodInHeld t = false ∧ P.eqGuardType P.depth t = false)

theorem tyRow {P : Program} {t : TypeId} {i : Ty} {z : Value} (h1 : P.underlying t = some i.desc) (h2 : (P.info? t).map (fun i => (i.size, i.bytes, i.zero)) = some (i.size, i.bytes, some z)) (h3 : i.zero = z.cells.toList.map ofS)
    (h4 : i.zero.length = i.size) (h5 : i.eq = true → P.stoodInHeld t = false ∧ P.eqGuardType P.depth t = false) : TyRow P t i := by
  refine ⟨h1, ?_⟩
  cases hq : P.info? t with
  | none => rw [hq] at h2; cases h2
  | some ti =>
    rw [hq] at h2
    simp only [Option.map_some, Option.some.injEq, Prod.mk.injEq] at h2
    exact ⟨ti, z, rfl, h2.1, h2.2.1, h2.2.2, h3, h4, h5⟩
end Go.Abs
/- The abstract machine, part 10: steps of a walk. -/
namespace Go.Abs
open Go Go.RowKit

section
variable {P : Program} {N : Nat} {ty : Tab} {L : List FuncId} {ops : Array Oper} {os : List Oper} {o : Oper} {t : List V} {h : List HB} {K : St → Prop}

theorem st_nil {s : St} (k : K s) : ASeq P ty L ops [] s K := k

/-- An operation that is no call and has no guard. -/
theorem st_op {op : Op} {d : Option Tmp} {a : TypeId} {b : String} {c : Array Edge} {p : Prop} {v : V} {h' : List HB} (e : aop ty t h op = some (p, v, h')) (hp : p) (k : ASeq P ty L ops os ⟨put t d v, h'⟩ K) :
    ASeq P ty L ops (⟨d, op, a, b, c, none⟩ :: os) ⟨t, h⟩ K := by
  simp only [ASeq, AStep, guardOf, ADo, e]
  exact ⟨fun _ => ⟨hp, k⟩, fun h => by cases h⟩

/-- The same, the rest hidden. -/
theorem st_k {op : Op} {d : Option Tmp} {a : TypeId} {b : String} {c : Array Edge} {p : Prop} {v : V} {h' : List HB} (e : aop ty t h op = some (p, v, h')) (k : ∀ F : St → Prop, (∀ s, ASeq P ty L ops os s K → F s) → p ∧ F ⟨put t d v, h'⟩) :
    ASeq P ty L ops (⟨d, op, a, b, c, none⟩ :: os) ⟨t, h⟩ K :=
  st_op e (k _ fun _ h => h).1 (k _ fun _ h => h).2

/-- The same, where nothing is asked. -/
theorem st_t {op : Op} {d : Option Tmp} {a : TypeId} {b : String} {c : Array Edge} {v : V} {h' : List HB} (e : aop ty t h op = some (True, v, h')) (k : ∀ F : St → Prop, (∀ s, ASeq P ty L ops os s K → F s) → F ⟨put t d v, h'⟩) :
    ASeq P ty L ops (⟨d, op, a, b, c, none⟩ :: os) ⟨t, h⟩ K :=
  st_op e trivial (k _ fun _ h => h)

/-- An operation that has a guard. -/
theorem st_guard {op : Op} {d : Option Tmp} {a : TypeId} {b : String} {c : Array Edge} {j : Nat} {want : Bool} {q : Tmp} {g : Bool} (hj : (ops[j]?).bind (·.dst) = some q) (hq : t[q]? = some (.bool g))
    (hy : g = want → ASeq P ty L ops (⟨d, op, a, b, c, none⟩ :: os) ⟨t, h⟩ K) (hn : g = (!want) → ASeq P ty L ops os ⟨put t d udf, h⟩ K) : ASeq P ty L ops (⟨d, op, a, b, c, some (j, want)⟩ :: os) ⟨t, h⟩ K := by
  simp only [ASeq, AStep, guardOf, hj, hq]
  refine ⟨fun e => ?_, fun e => hn (by cases g <;> cases want <;> first | rfl | cases e)⟩
  have := hy (by cases g <;> cases want <;> first | rfl | cases e)
  simp only [ASeq, AStep, guardOf] at this
  have h2 := by simpa using this
  exact h2

/-- An operation whose guard hangs on one that was not wanted. -/
theorem st_skip {op : Op} {d : Option Tmp} {a : TypeId} {b : String} {c : Array Edge} {j : Nat} {want : Bool} {q : Tmp} {l : List V} (hj : (ops[j]?).bind (·.dst) = some q) (hq : t[q]? = some (.tup l))
    (k : ASeq P ty L ops os ⟨put t d udf, h⟩ K) : ASeq P ty L ops (⟨d, op, a, b, c, some (j, want)⟩ :: os) ⟨t, h⟩ K := by
  simp only [ASeq, AStep, guardOf, hj, hq]
  simpa using k

/-- A call of a function that neither reads nor writes the heap. -/
theorem st_pure {op : Op} {d : Option Tmp} {a : TypeId} {b : String} {c : Array Edge} {f : FuncId} {args : List V} {r : V} (e : callOf t op = some (f, args)) (hc : Pure P f args r) (k : ASeq P ty L ops os ⟨put t d r, h⟩ K) :
    ASeq P ty L ops (⟨d, op, a, b, c, none⟩ :: os) ⟨t, h⟩ K := by
  simp only [ASeq, AStep, guardOf, ADo, aop_call e, e]
  refine ⟨fun _ => ?_, fun h => by cases h⟩
  split
  · exact ⟨r, hc, k⟩
  · exact ⟨r, h, hc h, k⟩

/-- Any call. -/
theorem st_call {op : Op} {d : Option Tmp} {a : TypeId} {b : String} {c : Array Edge} {f : FuncId} {args : List V} {r : V} {h' : List HB} (e : callOf t op = some (f, args)) (hL : namedIn L op = false) (hc : CallD P f args h r h')
    (k : ASeq P ty L ops os ⟨put t d r, h'⟩ K) : ASeq P ty L ops (⟨d, op, a, b, c, none⟩ :: os) ⟨t, h⟩ K := by
  simp only [ASeq, AStep, guardOf, ADo, aop_call e, e]
  refine ⟨fun _ => ?_, fun h => by cases h⟩
  rw [if_neg (by rw [hL]; simp)]
  exact ⟨r, h', hc, k⟩

/-! Single operations -/
theorem op_move (x : Operand) : aop ty t h (.move x) = some (True, ev t x, h) := rfl
theorem op_assign (x : Operand) : aop ty t h (.assign x) = some (True, ev t x, h) := rfl
end
end Go.Abs
/- The abstract machine, part 11: rules that a walk applies. -/
namespace Go.Abs
open Go Go.RowKit

theorem enters_of {P : Program} {f : FuncId} {fn : Func} {c : Code} (hf : P.funcs[f]? = some fn) (hname : (fn.name == "runtime.NumGoroutine") = false) (hb : fn.body = some c) : Enters P f := by
  intro args w
  have h1 : fn.name ≠ "runtime.NumGoroutine" := by simpa using hname
  simp [callFunc, hf, h1, hb, mark]

section
variable {P : Program} {N : Nat} {ty : Tab} {L : List FuncId} {ops : Array Oper} {os : List Oper} {t : List V} {h : List HB} {K : St → Prop} {Q : Exit → St → Prop} {s : St}

/-- **A function's contract, out of its body**: what is asked of the frame hidden. -/
theorem ac_body (T : TyOK P ty) {f : FuncId} {fn : Func} {c : Code} {args : List V} {R : V → List HB → Prop} {rs : List ResultVar} (hf : P.funcs[f]? = some fn) (hb : fn.body = some c) (hrs : fn.results = rs.toArray)
    (hname : (fn.name == "runtime.NumGoroutine") = false) (hargs : args.length ≤ fn.ntmps) (hw : ∀ F : St → Prop, (∀ s, AW P h.length c (RetK ty rs R) s → F s) → F ⟨args ++ List.replicate (fn.ntmps - args.length) .any, h⟩) : AC P f args h R :=
  ac_enter T hf hb hrs (enters_of hf hname hb) hargs (hw _ fun _ h => h)

theorem st_id {l : List Oper} (k : ASeq P ty L ops l s K) : ASeq P ty L ops l s K := k
theorem aw_id {c : Code} (k : AW P N c Q s) : AW P N c Q s := k
theorem thenK_n (k : K s) : thenK K Q .normal s := k
theorem thenK_r (k : Q .ret s) : thenK K Q .ret s := k
theorem thenK_e {i : Nat} (k : Q (.exit i) s) : thenK K Q (.exit i) s := k
theorem blockK_n {id : Nat} (k : Q .normal s) : blockK id Q .normal s := k
theorem blockK_r {id : Nat} (k : Q .ret s) : blockK id Q .ret s := k
theorem blockK_h {id i : Nat} (e : i = id) (k : Q .normal s) : blockK id Q (.exit i) s := by rw [blockK_exit, if_pos e]; exact k
theorem blockK_m {id i : Nat} (e : i ≠ id) (k : Q (.exit i) s) : blockK id Q (.exit i) s := by rw [blockK_exit, if_neg e]; exact k

theorem retK_r {rs : List ResultVar} {R : V → List HB → Prop} {p : Prop} {vs : List V} (e : aRess ty s rs = some (p, vs)) (k : p ∧ R (one vs) s.h) : RetK ty rs R .ret s := by
  rw [ret_ret, e]; exact k
theorem retK_n {rs : List ResultVar} {R : V → List HB → Prop} {p : Prop} {vs : List V} (e : aRess ty s rs = some (p, vs)) (k : p ∧ R (one vs) s.h) : RetK ty rs R .normal s := by
  rw [ret_normal, e]; exact k

theorem aw_condT {c : Operand} {x y : Code} {b : Bool} (hc : ev s.t c = .bool b) (hb : b = true) (k : AW P N x Q s) : AW P N (.cond c x y) Q s :=
  aw_cond hc (fun _ => k) (fun e => by rw [hb] at e; cases e)
theorem aw_condF {c : Operand} {x y : Code} {b : Bool} (hc : ev s.t c = .bool b) (hb : b = false) (k : AW P N y Q s) : AW P N (.cond c x y) Q s :=
  aw_cond hc (fun e => by rw [hb] at e; cases e) (fun _ => k)

theorem st_gy {op : Op} {d : Option Tmp} {a : TypeId} {b : String} {c : Array Edge} {j : Nat} {want : Bool} {q : Tmp} {g : Bool} (hj : (ops[j]?).bind (·.dst) = some q) (hq : t[q]? = some (.bool g)) (hg : g = want)
    (k : ASeq P ty L ops (⟨d, op, a, b, c, none⟩ :: os) ⟨t, h⟩ K) : ASeq P ty L ops (⟨d, op, a, b, c, some (j, want)⟩ :: os) ⟨t, h⟩ K :=
  st_guard hj hq (fun _ => k) (fun e => by rw [hg] at e; cases want <;> cases e)
theorem st_gn {op : Op} {d : Option Tmp} {a : TypeId} {b : String} {c : Array Edge} {j : Nat} {want : Bool} {q : Tmp} {g : Bool} (hj : (ops[j]?).bind (·.dst) = some q) (hq : t[q]? = some (.bool g)) (hg : g = (!want))
    (k : ∀ F : St → Prop, (∀ s, ASeq P ty L ops os s K → F s) → F ⟨put t d udf, h⟩) : ASeq P ty L ops (⟨d, op, a, b, c, some (j, want)⟩ :: os) ⟨t, h⟩ K :=
  st_guard hj hq (fun e => by rw [hg] at e; cases want <;> cases e) (fun _ => k _ fun _ h => h)

/-- A choice, the test known. -/
theorem st_pT {d : Option Tmp} {x y z : Operand} {a : TypeId} {b : String} {c : Array Edge} {g : Bool} (e : ev t x = .bool g) (hg : g = true) (k : ∀ F : St → Prop, (∀ s, ASeq P ty L ops os s K → F s) → F ⟨put t d (ev t y), h⟩) :
    ASeq P ty L ops (⟨d, .pick x y z, a, b, c, none⟩ :: os) ⟨t, h⟩ K :=
  st_op (p := True) (v := ev t y) (h' := h) (by simp only [aop, e, hg, if_true]) trivial (k _ fun _ h => h)
theorem st_pF {d : Option Tmp} {x y z : Operand} {a : TypeId} {b : String} {c : Array Edge} {g : Bool} (e : ev t x = .bool g) (hg : g = false) (k : ∀ F : St → Prop, (∀ s, ASeq P ty L ops os s K → F s) → F ⟨put t d (ev t z), h⟩) :
    ASeq P ty L ops (⟨d, .pick x y z, a, b, c, none⟩ :: os) ⟨t, h⟩ K :=
  st_op (p := True) (v := ev t z) (h' := h) (by simp only [aop, e, hg, Bool.false_eq_true, if_false]) trivial (k _ fun _ h => h)

/-- A call of a function that neither reads nor writes the heap; the rest hidden. -/
theorem st_c {op : Op} {d : Option Tmp} {a : TypeId} {b : String} {c : Array Edge} {f : FuncId} {args : List V} {r : V} (e : callOf t op = some (f, args)) (hc : Pure P f args r)
    (k : ∀ F : St → Prop, (∀ s, ASeq P ty L ops os s K → F s) → F ⟨put t d r, h⟩) : ASeq P ty L ops (⟨d, op, a, b, c, none⟩ :: os) ⟨t, h⟩ K :=
  st_pure e hc (k _ fun _ h => h)

/-- The state may be turned into an equal one. -/
theorem aw_eq {c : Code} {s' : St} (e : s = s') (k : AW P N c Q s') : AW P N c Q s := e ▸ k

/-- So many rounds of a loop at most. -/
def Rounds (P : Program) (N : Nat) (c : Code) (Q : Exit → St → Prop) : Nat → St → Prop
  | 0, _ => False
  | n + 1, s => AW P N c (thenK (Rounds P N c Q n) Q) s

theorem aw_rounds {c : Code} (n : Nat) (h : Rounds P N c Q n s) : AW P N (.loop c) Q s := by
  refine aw_loop (X := { p : Nat × St // Rounds P N c Q p.1 p.2 }) (fun x => x.1.2) (fun x => x.1.1) ⟨(n, s), h⟩ (Wk.refl s) ?_
  rintro ⟨⟨m, s⟩, hm⟩
  cases m with
  | zero => exact hm.elim
  | succ m =>
    refine AW.mono hm ?_
    intro e s' q
    cases e with
    | normal => exact ⟨⟨(m, s'), q⟩, Wk.refl _, Nat.lt_succ_self m⟩
    | _ => exact q

theorem rounds_succ {c : Code} {n : Nat} (h : AW P N c (thenK (Rounds P N c Q n) Q) s) : Rounds P N c Q (n + 1) s := h
end

/-! ### Values that name no block -/
def Cleans (l : List V) : Prop := ∀ v ∈ l, Clean v
theorem cleans_nil : Cleans [] := by intro v h; cases h
theorem cleans_cons {v : V} {l : List V} (h : Clean v) (k : Cleans l) : Cleans (v :: l) := by
  intro u hu; rcases List.mem_cons.1 hu with rfl | h'
  · exact h
  · exact k u h'
theorem clean_agg {l : List V} (h : Cleans l) : Clean (.agg l) := .agg l h
theorem clean_tup {l : List V} (h : Cleans l) : Clean (.tup l) := .tup l h
theorem pure_ac {P : Program} {f : FuncId} {args : List V} {r : V} (h : AC P f args [] fun v _ => v = r) (ha : Cleans args) (hr : Clean r) : Pure P f args r := pure_of_ac h ha hr

/-! ### Numbers that fit their kind -/
theorem wi64 {n : Int} (h : -9223372036854775808 ≤ n ∧ n ≤ 9223372036854775807) : IntKind.wrap .i64 n = n := by
  show (if (true && decide (n % 18446744073709551616 ≥ 9223372036854775808)) = true then n % 18446744073709551616 - 18446744073709551616 else n % 18446744073709551616) = n
  rw [Bool.true_and]
  simp only [decide_eq_true_eq]
  split <;> omega
theorem wu64 {n : Int} (h : 0 ≤ n ∧ n ≤ 18446744073709551615) : IntKind.wrap .u64 n = n := by
  simp only [IntKind.wrap, IntKind.bits, IntKind.signed, Bool.true_and, Bool.false_and, decide_eq_true_eq, Bool.false_eq_true, if_false, Nat.reducePow, Nat.reduceSub, Int.reducePow]
  first | omega | (split <;> omega)
theorem wu8 {n : Int} (h : 0 ≤ n ∧ n ≤ 255) : IntKind.wrap .u8 n = n := by
  simp only [IntKind.wrap, IntKind.bits, IntKind.signed, Bool.true_and, Bool.false_and, decide_eq_true_eq, Bool.false_eq_true, if_false, Nat.reducePow, Nat.reduceSub, Int.reducePow]
  first | omega | (split <;> omega)
attribute [irreducible] Rounds
end Go.Abs
/- The abstract machine, part 12: both ways of a branch at once; lookups at a place that is a number; remainders. -/
namespace Go.Abs
open Go Go.RowKit

/-- One value or the other. -/
def muxV (b : Bool) (x y : V) : V := match b with
  | true => x
  | false => y
def muxL (b : Bool) : List V → List V → List V
  | x :: xs, y :: ys => muxV b x y :: muxL b xs ys
  | _, _ => []
def muxB (b : Bool) : HB → HB → HB
  | .live xs, .live ys => .live (muxL b xs ys)
  | _, _ => .dead
def muxH (b : Bool) : List HB → List HB → List HB
  | x :: xs, y :: ys => muxB b x y :: muxH b xs ys
  | _, _ => []
def sameB : HB → HB → Bool
  | .live xs, .live ys => xs.length == ys.length
  | .dead, .dead => true
  | _, _ => false
def sameH : List HB → List HB → Bool
  | [], [] => true
  | x :: xs, y :: ys => sameB x y && sameH xs ys
  | _, _ => false
def muxS (b : Bool) (s1 s2 : St) : St := ⟨muxL b s1.t s2.t, muxH b s1.h s2.h⟩

theorem muxV_self (b : Bool) (x : V) : muxV b x x = x := by cases b <;> rfl
theorem muxV_int (b : Bool) (k : IntKind) (m n : Int) : muxV b (.int k m) (.int k n) = .int k (if b = true then m else n) := by cases b <;> rfl
theorem muxV_bool (b : Bool) (m n : Bool) : muxV b (.bool m) (.bool n) = .bool (if b = true then m else n) := by cases b <;> rfl
theorem muxL_agg (b : Bool) (x y : List V) (h : x.length = y.length) : muxV b (.agg x) (.agg y) = .agg (muxL b x y) := by
  have : ∀ (x y : List V), x.length = y.length → muxL b x y = (match b with | true => x | false => y) := by
    intro x
    induction x with
    | nil => intro y h; cases y with
      | nil => cases b <;> rfl
      | cons => simp at h
    | cons a x ih =>
      intro y h
      cases y with
      | nil => simp at h
      | cons c y =>
        simp only [muxL, ih y (by simpa using h)]
        cases b <;> rfl
  rw [this x y h]; cases b <;> rfl

theorem muxL_eq (b : Bool) : ∀ (x y : List V), x.length = y.length → muxL b x y = (match b with | true => x | false => y) := by
  intro x
  induction x with
  | nil => intro y h; cases y with
    | nil => cases b <;> rfl
    | cons => simp at h
  | cons a x ih =>
    intro y h
    cases y with
    | nil => simp at h
    | cons c y =>
      simp only [muxL, ih y (by simpa using h)]
      cases b <;> rfl
theorem muxH_eq (b : Bool) : ∀ (x y : List HB), sameH x y = true → muxH b x y = (match b with | true => x | false => y) := by
  intro x
  induction x with
  | nil => intro y h; cases y with
    | nil => cases b <;> rfl
    | cons => simp [sameH] at h
  | cons a x ih =>
    intro y h
    cases y with
    | nil => simp [sameH] at h
    | cons c y =>
      simp only [sameH, Bool.and_eq_true] at h
      simp only [muxH, ih y h.2]
      have : muxB b a c = (match b with | true => a | false => c) := by
        cases a <;> cases c <;> simp only [sameB] at h <;> first
          | (cases b <;> rfl)
          | exact absurd h.1 (by decide)
          | (simp only [muxB]; rw [muxL_eq b _ _ (by simpa using h.1)]; cases b <;> rfl)
      rw [this]; cases b <;> rfl

section
variable {P : Program} {N : Nat} {Q : Exit → St → Prop} {s : St}

/-- Where a piece ends: here. -/
def Here (s1 : St) : Exit → St → Prop := fun e s => e = .normal ∧ s = s1
theorem here_n {s1 : St} : Here s1 .normal s1 := ⟨rfl, rfl⟩

theorem muxS_eq {b : Bool} {s1 s2 : St} (hl : s1.t.length = s2.t.length) (hh : sameH s1.h s2.h = true) : muxS b s1 s2 = (match b with | true => s1 | false => s2) := by
  unfold muxS
  rw [muxL_eq _ _ _ hl, muxH_eq _ _ _ hh]
  cases b <;> rfl

/-- **Both ways of a branch.** -/
theorem aw_mux {c : Operand} {x y : Code} {b : Bool} {s1 s2 : St} (hc : ev s.t c = .bool b) (hx : b = true → AW P N x (Here s1) s) (hy : b = false → AW P N y (Here s2) s) (hl : s1.t.length = s2.t.length) (hh : sameH s1.h s2.h = true)
    (k : ∀ F : St → Prop, (∀ s, Q .normal s → F s) → F (muxS b s1 s2)) : AW P N (.cond c x y) Q s := by
  have k := k _ fun _ h => h
  rw [muxS_eq hl hh] at k
  cases b with
  | true => exact aw_condT hc rfl ((hx rfl).mono fun e s ⟨h1, h2⟩ => by rw [h1, h2]; exact k)
  | false => exact aw_condF hc rfl ((hy rfl).mono fun e s ⟨h1, h2⟩ => by rw [h1, h2]; exact k)
end

section
variable {P : Program} {ty : Tab} {L : List FuncId} {ops : Array Oper} {os : List Oper} {t : List V} {h : List HB} {K : St → Prop}
variable {op : Op} {d : Option Tmp} {a : TypeId} {b : String} {c : Array Edge} {j : Nat} {q : Tmp} {g : Bool}
theorem st_gyT (hj : (ops[j]?).bind (·.dst) = some q) (hq : t[q]? = some (.bool g)) (hg : g = true) (k : ASeq P ty L ops (⟨d, op, a, b, c, none⟩ :: os) ⟨t, h⟩ K) : ASeq P ty L ops (⟨d, op, a, b, c, some (j, true)⟩ :: os) ⟨t, h⟩ K := st_gy hj hq hg k
theorem st_gyF (hj : (ops[j]?).bind (·.dst) = some q) (hq : t[q]? = some (.bool g)) (hg : g = false) (k : ASeq P ty L ops (⟨d, op, a, b, c, none⟩ :: os) ⟨t, h⟩ K) : ASeq P ty L ops (⟨d, op, a, b, c, some (j, false)⟩ :: os) ⟨t, h⟩ K := st_gy hj hq hg k
theorem st_gnT (hj : (ops[j]?).bind (·.dst) = some q) (hq : t[q]? = some (.bool g)) (hg : g = false) (k : ∀ F : St → Prop, (∀ s, ASeq P ty L ops os s K → F s) → F ⟨put t d udf, h⟩) : ASeq P ty L ops (⟨d, op, a, b, c, some (j, true)⟩ :: os) ⟨t, h⟩ K := st_gn hj hq hg k
theorem st_gnF (hj : (ops[j]?).bind (·.dst) = some q) (hq : t[q]? = some (.bool g)) (hg : g = true) (k : ∀ F : St → Prop, (∀ s, ASeq P ty L ops os s K → F s) → F ⟨put t d udf, h⟩) : ASeq P ty L ops (⟨d, op, a, b, c, some (j, false)⟩ :: os) ⟨t, h⟩ K := st_gn hj hq hg k
end

theorem aw_fx {P : Program} {N : Nat} {Q : Exit → St → Prop} {s : St} {c : Code} (k : ∀ F : St → Prop, (∀ s, AW P N c Q s → F s) → F s) : AW P N c Q s := k _ fun _ h => h

/-! ### Numbers -/
theorem shr_min (a : Int) {n m : Nat} (h : n ≤ m) : a.fdiv (2 ^ min n m) = a / 2 ^ n := by
  rw [Nat.min_eq_left h, Int.fdiv_eq_ediv_of_nonneg _ (Int.le_of_lt (Int.pow_pos (by omega)))]
theorem shl_min (a : Int) {n m : Nat} (h : n ≤ m) : a * 2 ^ min n m = a * 2 ^ n := by
  rw [Nat.min_eq_left h]
theorem wu64m (n : Int) : IntKind.wrap .u64 n = n % 18446744073709551616 := by
  simp only [IntKind.wrap, IntKind.bits, IntKind.signed, Bool.false_and, Bool.false_eq_true, if_false, Nat.reducePow, Int.reducePow]
  first | done | rfl
theorem wu8m (n : Int) : IntKind.wrap .u8 n = n % 256 := by
  simp only [IntKind.wrap, IntKind.bits, IntKind.signed, Bool.false_and, Bool.false_eq_true, if_false, Nat.reducePow, Int.reducePow]
  first | done | rfl
end Go.Abs
/- The abstract machine, part 13: blocks get new numbers; a block is sealed. -/
namespace Go.Abs
open Go Go.RowKit

/-! ### New numbers for blocks -/

mutual
/-- A value under new numbers (σ: the old number of each new one). -/
def renV (σ : List Nat) : V → V
  | .ptr b o => match σ.idxOf? b with
    | some j => .ptr j o
    | none => .any
  | .slc b o z len cap => match σ.idxOf? b with
    | some j => .slc j o z len cap
    | none => .any
  | .yld b => match σ.idxOf? b with
    | some j => .yld j
    | none => .any
  | .vptr cs o => .vptr (renL σ cs) o
  | .vec cs len x => .vec (renL σ cs) len x
  | .fn f caps => .fn f (renL σ caps)
  | .agg cs => .agg (renL σ cs)
  | .tup vs => .tup (renL σ vs)
  | v => v
def renL (σ : List Nat) : List V → List V
  | [] => []
  | v :: vs => renV σ v :: renL σ vs
end

def renB (σ : List Nat) : HB → HB
  | .dead => .dead
  | .live cs => .live (renL σ cs)
  | .loop lb => .loop ⟨renL σ lb.t, lb.ps, lb.assign, lb.body, lb.pend⟩

def hbAt (h : List HB) (b : Nat) : HB := match h[b]? with
  | some x => x
  | none => .dead

def renH (σ : List Nat) (h : List HB) : List Nat → List HB
  | [] => []
  | b :: bs => renB σ (hbAt h b) :: renH σ h bs
theorem renH_eq (σ : List Nat) (h : List HB) : ∀ l, renH σ h l = l.map fun b => renB σ (hbAt h b)
  | [] => rfl
  | b :: bs => by simp [renH, renH_eq σ h bs]

def renS (σ : List Nat) (s : St) : St := ⟨renL σ s.t, renH σ s.h σ⟩

theorem renL_get (σ : List Nat) : ∀ (l : List V) (i : Nat), (renL σ l)[i]? = (l[i]?).map (renV σ)
  | [], i => by simp [renL]
  | v :: l, 0 => by simp [renL]
  | v :: l, i + 1 => by simp [renL, renL_get σ l i]
theorem renL_length (σ : List Nat) : ∀ (l : List V), (renL σ l).length = l.length
  | [] => rfl
  | v :: l => by simp [renL, renL_length σ l]

theorem renL_append (σ : List Nat) : ∀ (a b : List V), renL σ (a ++ b) = renL σ a ++ renL σ b
  | [], b => rfl
  | v :: a, b => by simp only [List.cons_append, renL, renL_append σ a b]

def renRho (σ : List Nat) (ρ : Rho) : Rho := σ.map fun b => ρ.getD b (0, 0)

theorem idxOf_get {σ : List Nat} {b j : Nat} (h : σ.idxOf? b = some j) : σ[j]? = some b := by
  induction σ generalizing j with
  | nil => simp at h
  | cons a σ ih =>
    rw [List.idxOf?_cons] at h
    split at h
    · rename_i e; simp at e h; subst h; subst e; rfl
    · cases hq : σ.idxOf? b with
      | none => simp [hq] at h
      | some k => simp [hq] at h; subst h; simpa using ih hq

theorem RV.ren {ρ : Rho} {I : Nat → Prop} {w : World} {v : V} {x : Value} (σ : List Nat) (h : RV ρ I w v x) : RV (renRho σ ρ) I w (renV σ v) x := by
  have rho : ∀ {b j : Nat} {p : Nat × Nat}, σ.idxOf? b = some j → ρ[b]? = some p → (renRho σ ρ)[j]? = some p := by
    intro b j p hj hp
    have := idxOf_get hj
    simp [renRho, this, List.getD_eq_getElem?_getD, hp]
  have lst : ∀ {cs : List V} {f : Nat → Value}, (∀ (i : Nat) (v : V), cs[i]? = some v → RV (renRho σ ρ) I w (renV σ v) (f i)) → ∀ (i : Nat) (v : V), (renL σ cs)[i]? = some v → RV (renRho σ ρ) I w v (f i) := by
    intro cs f ih i v hv
    rw [renL_get] at hv
    cases hq : cs[i]? with
    | none => simp [hq] at hv
    | some u => simp [hq] at hv; subst hv; exact ih i u hq
  have lst2 : ∀ {cs : List V} {vs : Array Value}, (∀ (i : Nat) (v : V) (x : Value), cs[i]? = some v → vs[i]? = some x → RV (renRho σ ρ) I w (renV σ v) x) → ∀ (i : Nat) (v : V) (x : Value), (renL σ cs)[i]? = some v → vs[i]? = some x → RV (renRho σ ρ) I w v x := by
    intro cs vs ih i v x hv hx
    rw [renL_get] at hv
    cases hq : cs[i]? with
    | none => simp [hq] at hv
    | some u => simp [hq] at hv; subst hv; exact ih i u x hq hx
  induction h with
  | any x => simp only [renV]; exact .any _
  | bool b => simp only [renV]; exact .bool _
  | int k n => simp only [renV]; exact .int _ _
  | str s => simp only [renV]; exact .str _
  | nilp => simp only [renV]; exact .nilp
  | ptr hp =>
    simp only [renV]; split
    · rename_i j hj; exact .ptr (rho hj hp)
    · exact .any _
  | yld hp =>
    simp only [renV]; split
    · rename_i j hj; exact .yld (rho hj hp)
    · exact .any _
  | vptr f hI hc hv ih => simp only [renV]; exact .vptr f hI (fun i hi => hc i (by rwa [renL_length] at hi)) (lst ih)
  | nils => simp only [renV]; exact .nils
  | slc hp h1 h2 hb hs =>
    simp only [renV]; split
    · rename_i j hj; exact .slc (rho hj hp) h1 h2 hb hs
    · exact .any _
  | vec f hI hc hv h1 hx ih => simp only [renV]; exact .vec f hI (fun i hi => hc i (by rwa [renL_length] at hi)) (lst ih) h1 hx
  | vecn x => simp only [renV, renL]; exact .vecn _ _
  | nilf => simp only [renV]; exact .nilf
  | fn hl hv ih => simp only [renV]; exact .fn (by rw [renL_length]; exact hl) (lst2 ih)
  | agg hl hv ih => simp only [renV]; exact .agg (by rw [renL_length]; exact hl) (lst2 ih)
  | tup hl hv ih => simp only [renV]; exact .tup (by rw [renL_length]; exact hl) (lst2 ih)

theorem ren_row {σ : List Nat} {h : List HB} {j : Nat} {cs : List V} (hj : (renH σ h σ)[j]? = some (.live cs)) : ∃ b ds, σ[j]? = some b ∧ h[b]? = some (.live ds) ∧ cs = renL σ ds := by
  rw [renH_eq, List.getElem?_map] at hj
  cases hb : σ[j]? with
  | none => simp [hb] at hj
  | some b =>
    simp only [hb, Option.map_some, Option.some.injEq] at hj
    unfold hbAt at hj
    cases hq : h[b]? with
    | none => simp [hq, renB] at hj
    | some x =>
      simp only [hq] at hj
      cases x with
      | dead => simp [renB] at hj
      | live ds => simp only [renB, HB.live.injEq] at hj; exact ⟨b, ds, rfl, hq, hj.symm⟩
      | loop L => simp [renB] at hj
theorem ren_on {σ : List Nat} {h : List HB} {j : Nat} {x : HB} (hj : (renH σ h σ)[j]? = some x) (hx : x.on) : ∃ b y, σ[j]? = some b ∧ h[b]? = some y ∧ y.on ∧ x = renB σ y := by
  rw [renH_eq, List.getElem?_map] at hj
  cases hb : σ[j]? with
  | none => simp [hb] at hj
  | some b =>
    simp only [hb, Option.map_some, Option.some.injEq] at hj
    unfold hbAt at hj
    cases hq : h[b]? with
    | none => simp only [hq, renB] at hj; subst hj; exact hx.elim
    | some y =>
      simp only [hq] at hj
      refine ⟨b, y, rfl, hq, ?_, hj.symm⟩
      cases y with
      | dead => simp only [renB] at hj; subst hj; exact hx
      | live _ => trivial
      | loop _ => trivial
theorem RH.place {ρ : Rho} {I : Nat → Prop} {w : World} {h : List HB} (H : RH ρ I w h) {i : Nat} {x : HB} (hi : h[i]? = some x) : ∃ rb base, ρ[i]? = some (rb, base) := by
  have hlt : i < ρ.length := by rw [H.len]; exact (List.getElem?_eq_some_iff.1 hi).1
  exact ⟨(ρ[i]).1, (ρ[i]).2, by rw [List.getElem?_eq_getElem hlt]⟩
theorem LoopsOK.ren {ρ : Rho} {I : Nat → Prop} {w : World} {h : List HB} (a : LoopsOK ρ I w h) (σ : List Nat) (rget : ∀ {j b : Nat} {p : Nat × Nat}, σ[j]? = some b → ρ[b]? = some p → (renRho σ ρ)[j]? = some p) : LoopsOK (renRho σ ρ) I w (renH σ h σ) := by
  intro j L hj
  obtain ⟨b, y, g1, g2, _, e⟩ := ren_on hj trivial
  cases y with
  | dead => simp [renB] at e
  | live _ => simp [renB] at e
  | loop M =>
    simp only [renB, HB.loop.injEq] at e
    subst e
    obtain ⟨l, base, rec, k1, A⟩ := a b M g2
    refine ⟨l, base, rec, rget g1 k1, A.at_, A.ready, A.pend, A.ps, A.assign, A.body, by rw [renL_length]; exact A.tlen, fun i v hv => ?_, A.im⟩
    simp only [renL_get] at hv
    cases hq : M.t[i]? with
    | none => simp [hq] at hv
    | some u =>
      simp [hq] at hv; subst hv
      obtain ⟨y, hy, hr⟩ := A.tv i u hq
      exact ⟨y, hy, hr.ren σ⟩

/-- **Blocks get new numbers; those that are left out are forgotten.** -/
theorem wk_ren {N : Nat} (σ : List Nat) {s : St} (hN : σ.take N = List.range N) (hn : σ.Nodup) : Wk N s (renS σ s) := by
  intro ρ I w a S
  have H := S.heap
  have rget : ∀ {j b : Nat} {p : Nat × Nat}, σ[j]? = some b → ρ[b]? = some p → (renRho σ ρ)[j]? = some p := by
    intro j b p hj hp; simp [renRho, hj, List.getD_eq_getElem?_getD, hp]
  have lv : ∀ b, Live (renS σ s).h (renRho σ ρ) b → Live s.h ρ b := by
    rintro b ⟨j, cs, base, h1, o, h2⟩
    obtain ⟨i, ds, g1, g2, o', _⟩ := ren_on h1 o
    obtain ⟨rb, base', g3⟩ := H.place g2
    have := rget g1 g3
    rw [h2] at this; cases this
    exact ⟨i, ds, _, g2, o', g3⟩
  refine ⟨renRho σ ρ, I, ⟨?_, ?_, ?_, ?_⟩, ?_⟩
  · simp [renS, renL_length, S.tlen]
  · intro i v hv
    simp only [renS, renL_get] at hv
    cases hq : s.t[i]? with
    | none => simp [hq] at hv
    | some u =>
      simp [hq] at hv; subst hv
      obtain ⟨x, hx, hr⟩ := S.tv i u hq
      exact ⟨x, hx, hr.ren σ⟩
  · refine ⟨by simp [renRho, renS, renH_eq], ?_, ?_, H.imlt, H.lp.ren σ rget⟩
    · intro j cs hj
      obtain ⟨b, ds, g1, g2, rfl⟩ := ren_row hj
      obtain ⟨rb, base, c, e, fr, k1, k2, k3, k4, k5, k6⟩ := H.row b ds g2
      refine ⟨rb, base, c, e, fr, rget g1 k1, k2, by rw [renL_length]; exact k3, fun i v hv => ?_, k5, k6⟩
      rw [renL_get] at hv
      cases hq : ds[i]? with
      | none => simp [hq] at hv
      | some u =>
        simp [hq] at hv; subst hv
        obtain ⟨y, hy, hr⟩ := k4 i u hq
        exact ⟨y, hy, hr.ren σ⟩
    · intro j1 j2 c1 c2 rb b1 b2 h1 o1 h2 o2 p1 p2
      obtain ⟨i1, d1, g1, g2, go, _⟩ := ren_on h1 o1
      obtain ⟨i2, d2, m1, m2, mo, _⟩ := ren_on h2 o2
      obtain ⟨rb1, base1, k1⟩ := H.place g2
      obtain ⟨rb2, base2, n1⟩ := H.place m2
      have e1 := rget g1 k1
      have e2 := rget m1 n1
      rw [p1] at e1; cases e1
      rw [p2] at e2; cases e2
      have := H.inj i1 i2 d1 d2 rb b1 b2 g2 go m2 mo k1 n1
      subst this
      have l1 := (List.getElem?_eq_some_iff.1 g1)
      have l2 := (List.getElem?_eq_some_iff.1 m1)
      exact (List.getElem_inj hn).1 (l1.2.trans l2.2.symm)
  · obtain ⟨Ds, e, hD, k⟩ := S.marks
    exact ⟨Ds, e, hD, fun D hd => ⟨(k D hd).1, fun h => (k D hd).2.1 (lv D h), (k D hd).2.2⟩⟩
  · refine ⟨rfl, rfl, rfl, Nat.le_refl _, fun i p hi hp => ?_, fun _ h => h, fun _ _ _ => rfl, fun _ c e fr h => ⟨c, e, fr, h, rfl⟩, fun _ _ h => .inl h, fun b _ h => lv b h⟩
    refine rget (b := i) ?_ hp
    have : (σ.take N)[i]? = some i := by rw [hN, List.getElem?_range hi]
    rwa [List.getElem?_take_of_lt hi] at this

/-- New numbers, and then less is said. -/
theorem wk_to {N : Nat} (σ : List Nat) {s : St} {t' : List V} {h' : List HB} (hN : σ.take N = List.range N) (hn : σ.Nodup) (hh : (renS σ s).h = h') (ht : LeL t' (renS σ s).t) : Wk N s ⟨t', h'⟩ := by
  subst hh
  exact (wk_ren σ hN hn).trans (wk_le ht)

theorem renV_clean (σ : List Nat) : ∀ {v : V}, Clean v → renV σ v = v := by
  have lst : ∀ {cs : List V}, (∀ v ∈ cs, renV σ v = v) → renL σ cs = cs := by
    intro cs
    induction cs with
    | nil => intro _; rfl
    | cons c cs ih => intro h; simp only [renL]; rw [h c (by simp), ih fun v hv => h v (by simp [hv])]
  intro v h
  induction h with
  | vptr cs o _ ih => simp only [renV]; rw [lst ih]
  | vec cs l x _ ih => simp only [renV]; rw [lst ih]
  | fn f caps _ ih => simp only [renV]; rw [lst ih]
  | agg cs _ ih => simp only [renV]; rw [lst ih]
  | tup cs _ ih => simp only [renV]; rw [lst ih]
  | _ => rfl
theorem renL_clean (σ : List Nat) {cs : List V} (h : Cleans cs) : renL σ cs = cs := by
  induction cs with
  | nil => rfl
  | cons c cs ih => simp only [renL]; rw [renV_clean σ (h c (by simp)), ih fun v hv => h v (by simp [hv])]

/-- A loop with what is known of each round. -/
theorem aw_loopI {P : Program} {N : Nat} {Q : Exit → St → Prop} {s : St} {c : Code} {X : Type} (J : X → St) (Inv : X → Prop) (μ : X → Nat) (x0 : X) (i0 : Inv x0) (h0 : Wk N s (J x0))
    (hb : ∀ x, Inv x → ∀ K : St → Prop, (∀ s' x', Inv x' → Wk N s' (J x') → μ x' < μ x → K s') → AW P N c (thenK K Q) (J x)) : AW P N (.loop c) Q s := by
  refine aw_loop (X := { x // Inv x }) (fun x => J x.1) (fun x => μ x.1) ⟨x0, i0⟩ h0 fun x => ?_
  exact hb x.1 x.2 _ fun s' x' h1 h2 h3 => ⟨⟨x', h1⟩, h2, h3⟩

/-! ### Sealing -/

mutual
/-- A value whose blocks nobody writes any more. -/
def sealV (h : List HB) : Nat → V → V
  | 0, v => match v with
    | .ptr _ _ | .slc _ _ _ _ _ | .vptr _ _ | .vec _ _ _ | .fn _ _ | .agg _ | .tup _ | .yld _ => .any
    | v => v
  | d + 1, v => match v with
    | .ptr b o => match h[b]? with
      | some (.live cs) => .vptr (sealL h d cs) o
      | _ => .any
    | .slc b o z len _ => match h[b]? with
      | some (.live cs) => .vec (sealL h d ((cs.drop o).take (len * z))) len false
      | _ => .any
    | .vptr cs o => .vptr (sealL h d cs) o
    | .vec cs len x => .vec (sealL h d cs) len x
    | .fn f caps => .fn f (sealL h d caps)
    | .agg cs => .agg (sealL h d cs)
    | .tup vs => .tup (sealL h d vs)
    | .yld _ => .any
    | v => v
def sealL (h : List HB) : Nat → List V → List V
  | _, [] => []
  | d, v :: vs => sealV h d v :: sealL h d vs
end

theorem sealL_get (h : List HB) (d : Nat) : ∀ (l : List V) (i : Nat), (sealL h d l)[i]? = (l[i]?).map (sealV h d)
  | [], i => by simp [sealL]
  | v :: l, 0 => by simp [sealL]
  | v :: l, i + 1 => by simp [sealL, sealL_get h d l i]
theorem sealL_length (h : List HB) (d : Nat) : ∀ (l : List V), (sealL h d l).length = l.length
  | [] => by simp [sealL]
  | v :: l => by simp [sealL, sealL_length h d l]

/-- A sealed value stands for the same. -/
theorem RV.sealed {ρ : Rho} {I : Nat → Prop} {w : World} {h : List HB} (H : RH ρ I w h) : ∀ (d : Nat) {v : V} {x : Value}, RV ρ I w v x → RV [] (fun b => I b ∨ Live h ρ b) w (sealV h d v) x := by
  intro d
  induction d with
  | zero =>
    intro v x hv
    cases hv <;> simp only [sealV] <;> first | exact .any _ | exact .bool _ | exact .int _ _ | exact .str _ | exact .nilp | exact .nils | exact .nilf
  | succ d ih =>
    intro v x hv
    have lst : ∀ {cs : List V} {f : Nat → Value}, (∀ (i : Nat) (v : V), cs[i]? = some v → RV ρ I w v (f i)) → ∀ (i : Nat) (v : V), (sealL h d cs)[i]? = some v → RV [] (fun b => I b ∨ Live h ρ b) w v (f i) := by
      intro cs f ih' i v hv
      rw [sealL_get] at hv
      cases hq : cs[i]? with
      | none => simp [hq] at hv
      | some u => simp [hq] at hv; subst hv; exact ih (ih' i u hq)
    have lst2 : ∀ {cs : List V} {vs : Array Value}, (∀ (i : Nat) (v : V) (x : Value), cs[i]? = some v → vs[i]? = some x → RV ρ I w v x) → ∀ (i : Nat) (v : V) (x : Value), (sealL h d cs)[i]? = some v → vs[i]? = some x → RV [] (fun b => I b ∨ Live h ρ b) w v x := by
      intro cs vs ih' i v x hv hx
      rw [sealL_get] at hv
      cases hq : cs[i]? with
      | none => simp [hq] at hv
      | some u => simp [hq] at hv; subst hv; exact ih (ih' i u x hq hx)
    have blk : ∀ {b : Nat} {cs : List V} {rb base : Nat}, h[b]? = some (.live cs) → ρ[b]? = some (rb, base) → Live h ρ rb ∧ ∃ f : Nat → Value, (∀ i, i < cs.length → w.cell? ⟨rb, base + i, none⟩ = some (f i)) ∧ ∀ (i : Nat) (v : V), cs[i]? = some v → RV ρ I w v (f i) := by
      intro b cs rb base hb hp
      obtain ⟨rb', base', c, e, fr, g1, g2, g3, g4, g5, g6⟩ := H.row b cs hb
      rw [hp] at g1; cases g1
      refine ⟨live_row hb hp, fun i => (c[base + i]?).getD undef, fun i hi => ?_, fun i v hi => ?_⟩
      · have : base + i < c.size := by omega
        rw [cell_of g2]; simp [this]
      · obtain ⟨y, hy, hr⟩ := g4 i v hi
        show RV ρ I w v ((c[base + i]?).getD undef)
        rw [hy]; exact hr
    cases hv with
    | any x => simp only [sealV]; exact .any _
    | bool b => simp only [sealV]; exact .bool _
    | int k n => simp only [sealV]; exact .int _ _
    | str s => simp only [sealV]; exact .str _
    | nilp => simp only [sealV]; exact .nilp
    | nils => simp only [sealV]; exact .nils
    | vecn x => simp only [sealV, sealL]; exact .vecn _ _
    | nilf => simp only [sealV]; exact .nilf
    | yld hp => simp only [sealV]; exact .any _
    | ptr hp =>
      simp only [sealV]; split
      · rename_i cs hb
        obtain ⟨hl, f, f1, f2⟩ := blk hb hp
        exact .vptr f (.inr hl) (fun i hi => f1 i (by rwa [sealL_length] at hi)) (lst f2)
      · exact .any _
    | slc hp h1 h2 hb2 hs =>
      rename_i b o z len cap rb base rcap c e fr
      simp only [sealV]; split
      · rename_i cs hb
        obtain ⟨hl, f, f1, f2⟩ := blk hb hp
        refine .vec (fun i => f (o + i)) (.inr hl) (fun i hi => ?_) (lst fun i v hv => ?_) (Nat.le_trans h1 h2) (by simp)
        · rw [sealL_length] at hi
          rw [Nat.add_assoc]
          refine f1 _ ?_
          simp only [List.length_take, List.length_drop] at hi; omega
        · refine f2 _ v ?_
          rw [List.getElem?_take] at hv
          split at hv
          · rw [List.getElem?_drop] at hv; exact hv
          · cases hv
      · exact .any _
    | vptr f hI hc hv => simp only [sealV]; exact .vptr f (.inl hI) (fun i hi => hc i (by rwa [sealL_length] at hi)) (lst hv)
    | vec f hI hc hv h1 hx => simp only [sealV]; exact .vec f (.inl hI) (fun i hi => hc i (by rwa [sealL_length] at hi)) (lst hv) h1 hx
    | fn hl hv => simp only [sealV]; exact .fn (by rw [sealL_length]; exact hl) (lst2 hv)
    | agg hl hv => simp only [sealV]; exact .agg (by rw [sealL_length]; exact hl) (lst2 hv)
    | tup hl hv => simp only [sealV]; exact .tup (by rw [sealL_length]; exact hl) (lst2 hv)

/-- **What a call makes, and hands back, is nobody else's: it may be taken as sealed.** -/
theorem ac_seal {P : Program} {f : FuncId} {args : List V} {R : V → List HB → Prop} (d : Nat) {r : V} (h : AC P f args [] R) (hr : ∀ v h', R v h' → sealV h' d v = r) : AC P f args [] fun v _ => v = r := by
  intro ρ I w vs hl hv H
  refine (h ρ I w vs hl hv H).mono ?_
  rintro x w' ⟨v, h', ρ', I', hR, hrv, H', K⟩
  have nl : ∀ b, ¬ Live [] ρ b := by rintro b ⟨i, cs, base, h, _⟩; simp at h
  have nl' : ∀ {b}, b < w.heap.size → ¬ Live h' ρ' b := fun hb hL => nl _ (K.live' _ hb hL)
  have hρ : ρ = [] := List.length_eq_zero_iff.1 H.len
  subst hρ
  refine ⟨r, [], [], fun b => I' b ∨ Live h' ρ' b, rfl, hr v h' hR ▸ hrv.sealed H' d, ⟨rfl, by intro i cs h; simp at h, by intro i j cs ds rb b1 b2 h; simp at h, fun b hb => hb.elim (H'.imlt b) fun h => (H'.lt h).1, LoopsOK.nil _ _ _⟩, ?_⟩
  exact ⟨K.os, K.tape, K.output, K.size, by intro i p h; simp at h, fun b hb => .inl (K.im b hb), fun b hb _ => K.same b hb (nl b), K.sz,
    fun b hb h => h.elim (fun h => (K.im' b hb h).imp id fun h => (nl _ h).elim) (fun h => (nl' hb h).elim), fun b _ h => (nl _ h).elim⟩

theorem pure_seal {P : Program} {f : FuncId} {args : List V} {R : V → List HB → Prop} (d : Nat) {r : V} (h : AC P f args [] R) (ha : Cleans args) (hr : ∀ v h', R v h' → sealV h' d v = r) (hc : Clean r) : Pure P f args r := pure_ac (ac_seal d h hr) ha hc
end Go.Abs
/- The abstract machine, part 14: single operations whose operands are of unknown length. -/
namespace Go.Abs
open Go Go.RowKit

section
variable {P : Program} {ty : Tab} {L : List FuncId} {ops : Array Oper} {os : List Oper} {t : List V} {h : List HB} {K : St → Prop}
theorem st_pTk {d : Option Tmp} {x y z : Operand} {a : TypeId} {b : String} {c : Array Edge} {g : Bool} (e : ev t x = .bool g) (hg : g = true) (k : ∀ F : St → Prop, (∀ s, ASeq P ty L ops os s K → F s) → True ∧ F ⟨put t d (ev t y), h⟩) :
    ASeq P ty L ops (⟨d, .pick x y z, a, b, c, none⟩ :: os) ⟨t, h⟩ K := st_pT e hg fun F hF => (k F hF).2
theorem st_pFk {d : Option Tmp} {x y z : Operand} {a : TypeId} {b : String} {c : Array Edge} {g : Bool} (e : ev t x = .bool g) (hg : g = false) (k : ∀ F : St → Prop, (∀ s, ASeq P ty L ops os s K → F s) → True ∧ F ⟨put t d (ev t z), h⟩) :
    ASeq P ty L ops (⟨d, .pick x y z, a, b, c, none⟩ :: os) ⟨t, h⟩ K := st_pF e hg fun F hF => (k F hF).2
theorem st_gnTk {op : Op} {d : Option Tmp} {a : TypeId} {b : String} {c : Array Edge} {j : Nat} {q : Tmp} {g : Bool} (hj : (ops[j]?).bind (·.dst) = some q) (hq : t[q]? = some (.bool g)) (hg : g = false) (k : ∀ F : St → Prop, (∀ s, ASeq P ty L ops os s K → F s) → True ∧ F ⟨put t d udf, h⟩) :
    ASeq P ty L ops (⟨d, op, a, b, c, some (j, true)⟩ :: os) ⟨t, h⟩ K := st_gnT hj hq hg fun F hF => (k F hF).2
theorem st_gnFk {op : Op} {d : Option Tmp} {a : TypeId} {b : String} {c : Array Edge} {j : Nat} {q : Tmp} {g : Bool} (hj : (ops[j]?).bind (·.dst) = some q) (hq : t[q]? = some (.bool g)) (hg : g = true) (k : ∀ F : St → Prop, (∀ s, ASeq P ty L ops os s K → F s) → True ∧ F ⟨put t d udf, h⟩) :
    ASeq P ty L ops (⟨d, op, a, b, c, some (j, false)⟩ :: os) ⟨t, h⟩ K := st_gnF hj hq hg fun F hF => (k F hF).2
theorem st_skk {op : Op} {d : Option Tmp} {a : TypeId} {b : String} {c : Array Edge} {j : Nat} {want : Bool} {q : Tmp} {l : List V} (hj : (ops[j]?).bind (·.dst) = some q) (hq : t[q]? = some (.tup l)) (k : ∀ F : St → Prop, (∀ s, ASeq P ty L ops os s K → F s) → True ∧ F ⟨put t d udf, h⟩) :
    ASeq P ty L ops (⟨d, op, a, b, c, some (j, want)⟩ :: os) ⟨t, h⟩ K := st_skip hj hq (k _ fun _ h => h).2
theorem st_ck {op : Op} {d : Option Tmp} {a : TypeId} {b : String} {c : Array Edge} {f : FuncId} {args : List V} {r : V} (e : callOf t op = some (f, args)) (hc : Pure P f args r) (k : ∀ F : St → Prop, (∀ s, ASeq P ty L ops os s K → F s) → True ∧ F ⟨put t d r, h⟩) :
    ASeq P ty L ops (⟨d, op, a, b, c, none⟩ :: os) ⟨t, h⟩ K := st_c e hc fun F hF => (k F hF).2
end

section
variable {ty : Tab} {t : List V} {h : List HB}

/-- Bytes to a string. -/
theorem op_toStr {src dst e : TypeId} {o : Operand} {si d ei : Ty} {n : Nat} {cs : List V} {bs : List UInt8} (h1 : ty src = some si) (h2 : ty dst = some d) (h3 : si.desc = .slice e) (h4 : d.desc = .string) (h5 : ty e = some ei) (h6 : ei.desc = .int .u8)
    (hs : ∀ s, ev t o ≠ .str s) (hn : lenOfV (ev t o) = some n) (hc : cellsOf h (ev t o) = some cs) (hb : bytesOf cs = some bs) : aop ty t h (.convert src dst o) = some (cs.length = n, .str ⟨bs.toArray⟩, h) := by
  simp only [aop, h1, h2, h3, h4, h5, h6]
  unfold aToStr
  rw [hn, hc]
  generalize hv : ev t o = v at hs
  cases v <;> first | (exact absurd rfl (hs _)) | (simp only [hb])
end
end Go.Abs
