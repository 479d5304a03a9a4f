/- The abstract machine, part 8: regions, tests, the entry of a function. -/
import Derived.Test.YtpaehjjkfjgfiaaA7
import Derived.RangeFuncRecord
set_option linter.unusedVariables false
set_option linter.unusedSimpArgs false
namespace Go.Abs
open Go Go.RowKit

/-! ### A region, operation by operation -/

def ADo (P : Program) (ty : Tab) (L : List FuncId) (o : Oper) (s : St) (K : St → Prop) : Prop :=
  match aop ty s.t s.h o.op with
  | some (p, v, h') => p ∧ K ⟨put s.t o.dst v, h'⟩
  | none => match callOf s.t o.op with
    | some (f, args) => if namedIn L o.op = true then ∃ r, Pure P f args r ∧ K ⟨put s.t o.dst r, s.h⟩ else ∃ r h', CallD P f args s.h r h' ∧ K ⟨put s.t o.dst r, h'⟩
    | none => match yieldOf s.t o.op with
      | some (b, args) => ∃ lb h', s.h[b]? = some (.loop lb) ∧ RoundD P lb args (s.h.set b .dead) h' ∧ K ⟨put s.t o.dst (.bool true), h'.set b (.loop lb)⟩
      | none => False

def AStep (P : Program) (ty : Tab) (L : List FuncId) (ops : Array Oper) (o : Oper) (s : St) (K : St → Prop) : Prop :=
  match guardOf ops o s.t with
  | none => False
  | some g => (g = true → ADo P ty L o s K) ∧ (g = false → K ⟨put s.t o.dst udf, s.h⟩)

def ASeq (P : Program) (ty : Tab) (L : List FuncId) (ops : Array Oper) : List Oper → St → (St → Prop) → Prop
  | [], s, K => K s
  | o :: os, s, K => AStep P ty L ops o s fun s' => ASeq P ty L ops os s' K

section
variable {P : Program} {N : Nat} {ty : Tab} {L : List FuncId} {ops : Array Oper}

theorem ado_did {o : Oper} {s : St} {K : St → Prop} (h : ADo P ty L o s K) : ∃ v h', Did P ty L o s v h' ∧ K ⟨put s.t o.dst v, h'⟩ := by
  unfold ADo at h
  split at h
  · rename_i p v h' hr; exact ⟨v, h', .op hr h.1, h.2⟩
  · split at h
    · rename_i f args hc
      split at h
      · rename_i hL; obtain ⟨r, hp, hk⟩ := h; exact ⟨r, s.h, .pure hc hL hp, hk⟩
      · rename_i hL; obtain ⟨r, h', hp, hk⟩ := h; exact ⟨r, h', .call hc (by simpa using hL) hp, hk⟩
    · split at h
      · rename_i b args hy
        obtain ⟨lb, h', hb, hr, hk⟩ := h
        exact ⟨_, _, .yield hy hb hr, hk⟩
      · exact h.elim

theorem astep_out {o : Oper} {s : St} {K : St → Prop} (h : AStep P ty L ops o s K) : ∃ v h', Out P ty L ops o s v h' ∧ K ⟨put s.t o.dst v, h'⟩ := by
  unfold AStep at h
  split at h
  · exact h.elim
  · rename_i g hg
    cases g with
    | true => obtain ⟨v, h', hd, hk⟩ := ado_did (h.1 rfl); exact ⟨v, h', .did hg hd, hk⟩
    | false => exact ⟨udf, s.h, .not hg, h.2 rfl⟩

theorem aseq_run : ∀ (os : List Oper) (k : Nat) {s : St} {K : St → Prop}, (∀ j, os[j]? = ops[k + j]?) → ASeq P ty L ops os s K → ∃ s', Run P ty L ops (List.range' k os.length) s s' ∧ K s'
  | [], k, s, K, _, h => ⟨s, .nil s, h⟩
  | o :: os, k, s, K, he, h => by
    obtain ⟨v, h', ho, hk⟩ := astep_out h
    obtain ⟨s', hr, hks⟩ := aseq_run os (k + 1) (fun j => by have := he (j + 1); rw [List.getElem?_cons_succ] at this; rw [this]; congr 1; omega) hk
    exact ⟨s', .cons (by simpa using (he 0).symm) ho hr, hks⟩

theorem RS.drew {ρ : Rho} {I : Nat → Prop} {w : World} {s : St} {a : Act} (S : RS ρ I w s a) : RS ρ I w.drew s a :=
  ⟨S.tlen, fun i v h => by
    obtain ⟨x, hx, hr⟩ := S.tv i v h
    exact ⟨x, hx, hr.ext ((Keep.drew s.h ρ I w).ext S.heap)⟩, S.heap.drew, marks_keep ((Keep.drew s.h ρ I w).toN 0) S.marks⟩

/-- **A region.** -/
theorem aw_region (T : TyOK P ty) {id : Nat} {l : List Oper} {Q : Exit → St → Prop} {s : St} (h : ASeq P ty L l.toArray l s (Q .normal)) : AW P N (.region id l.toArray false) Q s := by
  obtain ⟨s', hr, hq⟩ := aseq_run (ops := l.toArray) l 0 (fun j => by simp) h
  intro r hr_ ρ I w a S
  refine wpIn_region ?_
  rw [List.range_eq_range', show l.toArray.size = l.length from by simp]
  exact run_sound T hr S fun ρ' I' w' a' S' K' e => ⟨s', ρ', I', hq, S', K'.toN N, by rw [e]; exact Mk.refl _ _⟩

/-- **A region that draws its order.** -/
theorem aw_draw (T : TyOK P ty) (L : List FuncId) {id : Nat} {l : List Oper} {Q : Exit → St → Prop} {s : St} (hd : okDraw ty L (ptrs s.t) l.toArray = true) (h : ASeq P ty L l.toArray l s (Q .normal)) :
    AW P N (.region id l.toArray true) Q s := by
  obtain ⟨s', hr, hq⟩ := aseq_run (ops := l.toArray) l 0 (fun j => by simp) h
  intro r hr_ ρ I w a S
  refine wpIn_region_draw fun t => ?_
  have hr' : Run P ty L l.toArray (List.range l.toArray.size) s s' := by rw [List.range_eq_range', show l.toArray.size = l.length from by simp]; exact hr
  refine run_sound T (run_draw hd (kn_ptrs _) hr' _ t) S.drew fun ρ' I' w' a' S' K' e => ⟨s', ρ', I', hq, S', ((Keep.drew _ _ _ _).trans K').toN N, by rw [e]; exact Mk.refl _ _⟩

theorem aw_cond {c : Operand} {x y : Code} {Q : Exit → St → Prop} {s : St} {b : Bool} (hc : ev s.t c = .bool b) (ht : b = true → AW P N x Q s) (hf : b = false → AW P N y Q s) : AW P N (.cond c x y) Q s := by
  intro r hr_ ρ I w a S
  have hv := rv_ev (ρ := ρ) (I := I) (w := w) S c
  rw [hc] at hv
  generalize hac : a.eval c = z at hv
  cases hv
  refine wpIn_cond hac ?_
  cases b
  · exact hf rfl r hr_.cr ρ I w a S
  · exact ht rfl r hr_.cl ρ I w a S

/-! ### The results of a function -/

def aRes (ty : Tab) (s : St) : ResultVar → Option (Prop × V)
  | .tmp t => some (True, nth s.t t)
  | .cell a t => (aLoad ty t (nth s.t a) s.h).map fun x => (x.1, x.2.1)

def resV (tmps : Array Value) : ResultVar → Sem Value
  | .tmp t => pure (tmps.getD t undef)
  | .cell c t => do loadVar t (← asAddr (tmps.getD c undef))

def aRess (ty : Tab) (s : St) : List ResultVar → Option (Prop × List V)
  | [] => some (True, [])
  | r :: rs => match aRes ty s r, aRess ty s rs with
    | some (p, v), some (q, vs) => some (p ∧ q, v :: vs)
    | _, _ => none

def one (vs : List V) : V :=
  match vs with
  | [v] => v
  | vs => .tup vs

/-- What must hold where a body is left. -/
def RetK (ty : Tab) (rs : List ResultVar) (R : V → List HB → Prop) : Exit → St → Prop
  | .normal, s | .ret, s => match aRess ty s rs with
    | some (p, vs) => p ∧ R (one vs) s.h
    | none => False
  | _, _ => False

theorem ret_normal (rs : List ResultVar) (R : V → List HB → Prop) (s : St) : RetK ty rs R .normal s = match aRess ty s rs with
    | some (p, vs) => p ∧ R (one vs) s.h
    | none => False := rfl
theorem ret_ret (rs : List ResultVar) (R : V → List HB → Prop) (s : St) : RetK ty rs R .ret s = match aRess ty s rs with
    | some (p, vs) => p ∧ R (one vs) s.h
    | none => False := rfl

theorem run_ress (T : TyOK P ty) {ρ : Rho} {I : Nat → Prop} {w : World} {s : St} {a : Act} (S : RS ρ I w s a) : ∀ (rs : List ResultVar) {p : Prop} {vs : List V}, aRess ty s rs = some (p, vs) → p →
    ∃ xs : List Value, (rs.mapM (resV a.tmps)).run P w = .ok xs w ∧ vs.length = xs.length ∧
      ∀ (i : Nat) (v : V) (x : Value), vs[i]? = some v → xs[i]? = some x → RV ρ I w v x
  | [], p, vs, h, hp => by
    simp only [aRess, Option.some.injEq, Prod.mk.injEq] at h
    obtain ⟨rfl, rfl⟩ := h
    exact ⟨[], rfl, rfl, by simp⟩
  | r :: rs, p, vs, h, hp => by
    simp only [aRess] at h
    split at h
    · rename_i p1 v1 q1 vs1 h1 h2
      simp only [Option.some.injEq, Prod.mk.injEq] at h
      obtain ⟨rfl, rfl⟩ := h
      obtain ⟨xs, hx, hl, hv⟩ := run_ress T S rs h2 hp.2
      have hone : ∃ x, (resV a.tmps r).run P w = .ok x w ∧ RV ρ I w v1 x := by
        cases r with
        | tmp t =>
          simp only [aRes, Option.some.injEq, Prod.mk.injEq] at h1
          obtain ⟨rfl, rfl⟩ := h1
          exact ⟨_, rfl, rv_ev S (.tmp t)⟩
        | cell c t =>
          simp only [aRes, Option.map_eq_some_iff, Prod.mk.injEq] at h1
          obtain ⟨⟨pp, vv, hh⟩, hr, rfl, rfl⟩ := h1
          have hc := rv_ev (ρ := ρ) (I := I) (w := w) S (.tmp c)
          obtain ⟨rfl, z, hz, hrz⟩ := run_loadAt (P := P) (T := T) S.heap hr hp.1 hc
          refine ⟨z, ?_, hrz⟩
          unfold aLoad at hr
          split at hr
          · rename_i i cs o hi hro
            obtain ⟨rb, off, hac, _⟩ := row_read S.heap hc hro
            simp only [Act.eval] at hac hz
            simp only [resV, hac, asAddr, Sem.run_bind, Sem.run_pure, Result.andThen_ok]
            simp only [Instr.loadAt, hac, Instr.sureAddr, Sem.run_bind, Sem.run_pure, Result.andThen_ok] at hz
            exact hz
          · cases hr
      obtain ⟨x, hx1, hx2⟩ := hone
      refine ⟨x :: xs, ?_, by simp [hl], ?_⟩
      · rw [List.mapM_cons, Sem.run_bind, hx1, Result.andThen_ok, Sem.run_bind, hx]; rfl
      · intro i v y h1 h2
        cases i with
        | zero => simp at h1 h2; subst h1; subst h2; exact hx2
        | succ i => exact hv i v y (by simpa using h1) (by simpa using h2)
    · cases h

theorem run_results (T : TyOK P ty) {ρ : Rho} {I : Nat → Prop} {w : World} {s : St} {a : Act} (S : RS ρ I w s a) {fn : Func} {rs : List ResultVar} (hrs : fn.results = rs.toArray) {p : Prop} {vs : List V} (h : aRess ty s rs = some (p, vs)) (hp : p) :
    ∃ x, (results fn a.tmps).run P w = .ok x w ∧ RV ρ I w (one vs) x := by
  obtain ⟨xs, hx, hl, hv⟩ := run_ress (P := P) T S rs h hp
  have hm : (fn.results.mapM (resV a.tmps)).run P w = .ok xs.toArray w := by
    rw [hrs, List.mapM_toArray, Sem.run_map, hx]; rfl
  refine ⟨if h : xs.toArray.size = 1 then xs.toArray[0] else .tuple xs.toArray, ?_, ?_⟩
  · have e : results fn a.tmps = (fn.results.mapM (resV a.tmps) >>= fun vs => pure (if h : vs.size = 1 then vs[0] else .tuple vs)) := rfl
    rw [e, Sem.run_bind, hm, Result.andThen_ok]; rfl
  · match vs, xs, hl, hv with
    | [v], [x], _, hv => exact hv 0 v x rfl rfl
    | [], [], _, hv => exact .tup rfl (by simp)
    | v :: v' :: vs, x :: x' :: xs, hl, hv => simp; exact .tup (by simpa using hl) (by intro i a b h k; exact hv i a b h (by simpa using k))
end
end Go.Abs
