/- The abstract machine, part 5: operations are sound; sequences of operations; orders. -/
import Derived.Test.YtpaehjjkfjgfiaaA4c
import Derived.RangeFuncRecord
set_option linter.unusedVariables false
set_option linter.unusedSimpArgs false
namespace Go.Abs
open Go Go.RowKit

section
variable {P : Program} {ty : Tab} {ρ : Rho} {I : Nat → Prop} {w : World}

theorem run_loadAt {T : TyOK P ty} {t : TypeId} {x : V} {h : List HB} (H : RH ρ I w h) {p : Prop} {v : V} {h' : List HB} (hr : aLoad ty t x h = some (p, v, h')) (hp : p)
    {y : Value} (hx : RV ρ I w x y) : h' = h ∧ ∃ z, (Instr.loadAt t y).run P w = .ok z w ∧ RV ρ I w v z := by
  unfold aLoad at hr
  split at hr
  · rename_i i cs o hi hro
    simp only [Option.some.injEq, Prod.mk.injEq] at hr
    obtain ⟨rfl, rfl, rfl⟩ := hr
    obtain ⟨rb, off, rfl, hc⟩ := row_read H hx hro
    obtain ⟨z, hz, hrz⟩ := part_load (P := P) T hi hc hp
    exact ⟨rfl, z, by simp only [Instr.loadAt, Instr.sureAddr, Sem.run_bind, Sem.run_pure, Result.andThen_ok]; exact hz, hrz⟩
  · cases hr

theorem run_storeAt {T : TyOK P ty} {t : TypeId} {x y : V} {h : List HB} (H : RH ρ I w h) {p : Prop} {v : V} {h' : List HB} (hr : aStore ty t x y h = some (p, v, h')) (hp : p)
    {xx yy : Value} (hx : RV ρ I w x xx) (hy : RV ρ I w y yy) :
    ∃ w', (Instr.storeAt t xx yy).run P w = .ok () w' ∧ RH ρ I w' h' ∧ Keep h ρ I w h' ρ I w' ∧ v = .any := by
  unfold aStore at hr
  split at hr
  · rename_i i b o vs hi hcs
    split at hr
    · rename_i cs hb
      simp only [Option.some.injEq, Prod.mk.injEq] at hr
      obtain ⟨rfl, rfl, rfl⟩ := hr
      obtain ⟨hl, hfit, hone⟩ := hp
      obtain ⟨hsz, hc⟩ := rv_cells hy hcs
      cases hx with
      | ptr hp' =>
        rename_i rb base
        obtain ⟨w', hw, H', K'⟩ := RH.sets (P := P) vs yy.cells.toList H hb hp' hfit (by simp [hsz]) (fun j u z hu hz => by
          obtain ⟨z', hz', hr'⟩ := hc j u hu
          rw [Array.getElem?_toList] at hz
          rw [hz] at hz'; cases hz'; exact hr') hone (base + o) 0 (by omega)
        refine ⟨w', ?_, H', K', rfl⟩
        simp only [Instr.storeAt, Instr.sureAddr, Sem.run_bind, Sem.run_pure, Result.andThen_ok, storeVar, run_size T hi]
        rw [Sem.run_ite, if_neg (by omega)]
        simpa using hw
    · cases hr
  · cases hr

theorem aop_sound (T : TyOK P ty) {s : St} {a : Act} (S : RS ρ I w s a) {o : Oper} {p : Prop} {v : V} {h' : List HB} (hr : aop ty s.t s.h o.op = some (p, v, h')) (hp : p) :
    OpOK P o a w ρ I s.h v h' := by
  have E := rv_ev (ρ := ρ) (I := I) (w := w) S
  cases ho : o.op with
  | move x =>
    rw [ho] at hr; simp only [aop, Option.some.injEq, Prod.mk.injEq] at hr
    obtain ⟨rfl, rfl, rfl⟩ := hr
    exact ok_val S (by simp only [execOp, ho]; rfl) (E x)
  | assign x =>
    rw [ho] at hr; simp only [aop, Option.some.injEq, Prod.mk.injEq] at hr
    obtain ⟨rfl, rfl, rfl⟩ := hr
    exact ok_val S (by simp only [execOp, ho]; rfl) (E x)
  | pick c x y =>
    rw [ho] at hr; simp only [aop] at hr
    have hc := E c
    split at hr
    · rename_i b hb
      simp only [Option.some.injEq, Prod.mk.injEq] at hr
      obtain ⟨rfl, rfl, rfl⟩ := hr
      rw [hb] at hc
      generalize hac : a.eval c = z at hc
      cases hc
      refine ok_val S (x := if b = true then a.eval x else a.eval y) (by simp only [execOp, ho, hac, asBool, Sem.run_bind, Sem.run_pure, Result.andThen_ok]) ?_
      cases b
      · exact E y
      · exact E x
    · cases hr
  | alloc e =>
    rw [ho] at hr; simp only [aop] at hr
    cases he : ty e with
    | none => simp [he] at hr
    | some i =>
      simp only [he, Option.map_some, Option.some.injEq, Prod.mk.injEq] at hr
      obtain ⟨rfl, rfl, rfl⟩ := hr
      obtain ⟨z, hz, hz1, hz2⟩ := run_zero (P := P) T he w
      obtain ⟨H, K⟩ := S.heap.alloc (c := z.cells) (e := e) (cs := i.zero) (by rw [hz1]; simp) (fun j v hj => by
        rw [hz1, List.getElem?_map] at hj
        cases hq : z.cells.toList[j]? with
        | none => simp [hq] at hj
        | some q => simp [hq] at hj; subst hj; exact ⟨q, by simpa using hq, rv_ofS q⟩)
      refine ⟨_, _, _, _, .inl ?_, .ptr (b := s.h.length) (rb := w.heap.size) (base := 0) (by rw [← S.heap.len]; simp), H, K⟩
      simp only [execOp, ho, Instr.alloc, Sem.run_bind, hz, Result.andThen_ok, newVar, newRow, run_newObj, Sem.run_pure]
      rfl
  | box e x =>
    rw [ho] at hr; simp only [aop] at hr
    cases hc : (ev s.t x).cells? with
    | none => simp [hc] at hr
    | some cs =>
      simp only [hc, Option.map_some, Option.some.injEq, Prod.mk.injEq] at hr
      obtain ⟨rfl, rfl, rfl⟩ := hr
      obtain ⟨h1, h2⟩ := rv_cells (E x) hc
      obtain ⟨H, K⟩ := S.heap.alloc (c := (a.eval x).cells) (e := e) (cs := cs) (by omega) h2
      refine ⟨_, _, _, _, .inl ?_, .ptr (b := s.h.length) (rb := w.heap.size) (base := 0) (by rw [← S.heap.len]; simp), H, K⟩
      simp only [execOp, ho, Instr.box, Sem.run_bind, Result.andThen_ok, newVar, newRow, run_newObj, Sem.run_pure]
      rfl
  | load t x =>
    rw [ho] at hr
    obtain ⟨rfl, z, hz, hrz⟩ := run_loadAt (P := P) (T := T) S.heap hr hp (E x)
    exact ok_val S (by simp only [execOp, ho, Sem.run_bind, hz, Result.andThen_ok]; rfl) hrz
  | store t x y =>
    rw [ho] at hr
    obtain ⟨w', hw, H', K', rfl⟩ := run_storeAt (P := P) (T := T) S.heap hr hp (E x) (E y)
    exact ⟨undef, w', ρ, I, .inr ⟨by simp only [execOp, ho, Sem.run_bind, hw, Result.andThen_ok]; rfl, rfl⟩, .any _, H', K'⟩
  | unOp op t x =>
    rw [ho] at hr; simp only [aop] at hr
    cases hu : aUn op (ev s.t x) with
    | none => simp [hu] at hr
    | some u =>
      simp only [hu, Option.map_some, Option.some.injEq, Prod.mk.injEq] at hr
      obtain ⟨rfl, rfl, rfl⟩ := hr
      obtain ⟨z, hz, hrz⟩ := run_un (P := P) hu (E x)
      exact ok_val S (by simp only [execOp, ho, Sem.run_bind, hz, Result.andThen_ok]; rfl) hrz
  | binOp op t x y t' =>
    rw [ho] at hr
    obtain ⟨rfl, z, hz, hrz⟩ := run_bin (P := P) T (ox := x) (oy := y) hr hp (E x) (E y)
    refine ok_val S ?_ hrz
    simp only [execOp, ho]
    rw [Sem.run_bind, hz]; rfl
  | indexAddr t x i =>
    rw [ho] at hr; simp only [aop] at hr
    cases hd : ty t with
    | none => simp [hd] at hr
    | some d =>
      simp only [hd, Option.bind_some] at hr
      obtain ⟨rfl, z, hz, hrz⟩ := run_indexAt (P := P) (T := T) hd hr hp (E x) (E i)
      exact ok_val S (by simp only [execOp, ho, Sem.run_bind, hz, Result.andThen_ok]; rfl) hrz
  | index t x i =>
    rw [ho] at hr; simp only [aop] at hr
    cases hd : ty t with
    | none => simp [hd] at hr
    | some d =>
      simp only [hd, Option.bind_some] at hr
      obtain ⟨rfl, z, hz, hrz⟩ := run_index (P := P) (T := T) hd hr hp (E x) (E i)
      exact ok_val S (by simp only [execOp, ho, Sem.run_bind, hz, Result.andThen_ok]; rfl) hrz
  | fieldAddr t x f =>
    rw [ho] at hr; simp only [aop] at hr
    cases hd : ty t with
    | none => simp [hd] at hr
    | some d =>
      simp only [hd, Option.bind_some] at hr
      obtain ⟨rfl, z, hz, hrz⟩ := run_fieldAt (P := P) (T := T) hd hr hp (E x)
      exact ok_val S (by simp only [execOp, ho, Sem.run_bind, hz, Result.andThen_ok]; rfl) hrz
  | field t x f =>
    rw [ho] at hr; simp only [aop] at hr
    cases hd : ty t with
    | none => simp [hd] at hr
    | some d =>
      simp only [hd, Option.bind_some] at hr
      obtain ⟨rfl, z, hz, hrz⟩ := run_field (P := P) (T := T) hd hr hp (E x)
      exact ok_val S (by simp only [execOp, ho, Sem.run_bind, hz, Result.andThen_ok]; rfl) hrz
  | extract x i =>
    rw [ho] at hr; simp only [aop] at hr
    have hx := E x
    split at hr
    · rename_i vs hv
      cases hi : vs[i]? with
      | none => simp [hi] at hr
      | some u =>
        simp only [hi, Option.map_some, Option.some.injEq, Prod.mk.injEq] at hr
        obtain ⟨rfl, rfl, rfl⟩ := hr
        rw [hv] at hx
        generalize hac : a.eval x = z at hx
        cases hx with
        | tup hl hvs =>
          rename_i xs
          have hlt := (List.getElem?_eq_some_iff.1 hi).1
          have hx : xs[i]? = some (xs[i]'(by omega)) := Array.getElem?_eq_getElem _
          exact ok_val S (by simp only [execOp, ho, hac, Instr.extract, hx, Sem.run_bind, Sem.run_pure, Result.andThen_ok]) (hvs i u _ hi hx)
    · cases hr
  | makeFunc fn first captured =>
    rw [ho] at hr
    cases fn with
    | func f =>
      simp only [aop] at hr
      split at hr
      · rename_i h0
        simp only [Option.some.injEq, Prod.mk.injEq] at hr
        obtain ⟨rfl, rfl, rfl⟩ := hr
        have h1 : first = #[] := Array.eq_empty_of_size_eq_zero h0
        subst h1
        refine ok_val S (x := .func (.func f) #[] (captured.map a.eval)) (by simp only [execOp, ho, Instr.makeFunc, Sem.run_bind, Sem.run_pure, Result.andThen_ok]; simp) (.fn (by simp) ?_)
        intro i v x hv hx
        rw [List.getElem?_map] at hv
        cases hq : captured.toList[i]? with
        | none => simp [hq] at hv
        | some q =>
          have hq' : captured[i]? = some q := by simpa using hq
          simp [hq] at hv; simp [hq'] at hx
          subst hv; subst hx; exact E q
      · cases hr
    | _ => simp [aop] at hr
  | convert src dst x =>
    rw [ho] at hr; simp only [aop] at hr
    have hx := E x
    split at hr
    · rename_i si d h1 h2
      split at hr
      · rename_i k0 k hk0 hk
        split at hr
        · rename_i k' n h3
          simp only [Option.some.injEq, Prod.mk.injEq] at hr
          obtain ⟨rfl, rfl, rfl⟩ := hr
          rw [h3] at hx
          generalize hac : a.eval x = z at hx
          cases hx
          refine ok_val S ?_ (.int _ _)
          simp only [execOp, ho, hac, convert, Sem.run_bind, run_und T h1, run_und T h2, Result.andThen_ok, hk0, hk, Conv.intToInt, Sem.run_pure]
        · cases hr
      · rename_i e hk0 hk
        split at hr
        · rename_i ei he
          split at hr
          · rename_i hu8
            obtain ⟨rfl, z, hz, hrz⟩ := run_toStr (P := P) S.heap hr hp hx
            refine ok_val S ?_ hrz
            simp only [execOp, ho, convert, Sem.run_bind, run_und T h1, run_und T h2, Result.andThen_ok, hk0, hk]
            have hsl : (∃ p l c, a.eval x = .slice p l c) := by
              generalize ev s.t x = u at hr hx
              generalize a.eval x = q at hx
              unfold aToStr at hr
              cases hx with
              | nils => exact ⟨_, _, _, rfl⟩
              | vecn => exact ⟨_, _, _, rfl⟩
              | slc => exact ⟨_, _, _, rfl⟩
              | vec => exact ⟨_, _, _, rfl⟩
              | str => simp [lenOfV, cellsOf] at hr
              | _ => simp [lenOfV] at hr
            obtain ⟨p', l', c', hq⟩ := hsl
            rw [hq] at hz ⊢
            simp only [Sem.run_bind, run_und T he, Result.andThen_ok, hu8, hz, Sem.run_pure]
          · cases hr
        · cases hr
      · rename_i hk0 hk
        split at hr
        · rename_i q hq
          simp only [Option.some.injEq, Prod.mk.injEq] at hr
          obtain ⟨rfl, rfl, rfl⟩ := hr
          rw [hq] at hx
          generalize hac : a.eval x = z at hx
          cases hx
          refine ok_val S ?_ (.str _)
          simp only [execOp, ho, hac, convert, Sem.run_bind, run_und T h1, run_und T h2, Result.andThen_ok, hk0, hk, Sem.run_pure]
        · cases hr
      · cases hr
    · cases hr
  | build t' parts =>
    rw [ho] at hr; simp only [aop] at hr
    obtain ⟨rfl, z, hz, hrz⟩ := run_build (P := P) T S hr hp
    exact ok_val S (by simp only [execOp, ho, Sem.run_bind, hz, Result.andThen_ok]; rfl) hrz
  | buildSlice t' len parts =>
    rw [ho] at hr; simp only [aop] at hr
    split at hr
    · rename_i d hd
      split at hr
      · rename_i e hde
        obtain ⟨x, w', ρ', I', hw, hv, H, K⟩ := run_buildSlice (P := P) T S hd hde hr hp
        exact ⟨x, w', ρ', I', .inl (by simp only [execOp, ho, Sem.run_bind, hw, Result.andThen_ok]; rfl), hv, H, K⟩
      · cases hr
    · cases hr
  | makeSlice t' l c =>
    rw [ho] at hr; simp only [aop] at hr
    split at hr
    · rename_i d hd
      split at hr
      · rename_i e hde
        obtain ⟨x, w', ρ', I', hw, hv, H, K⟩ := run_make (P := P) T hd hde S.heap hr hp (E l) (E c)
        exact ⟨x, w', ρ', I', .inl (by simp only [execOp, ho, Sem.run_bind, hw, Result.andThen_ok]; rfl), hv, H, K⟩
      · cases hr
    · cases hr
  | slice t x lo hi mx =>
    rw [ho] at hr; simp only [aop] at hr
    cases hd : ty t with
    | none => simp [hd] at hr
    | some d =>
      simp only [hd, Option.bind_some] at hr
      have opt : ∀ (o : Option Operand), (∀ v, o.map (ev s.t) = some v → ∃ x, o.map a.eval = some x ∧ RV ρ I w v x) ∧ (o.map (ev s.t) = none → o.map a.eval = none) := by
        intro o; cases o with
        | none => simp
        | some q => simp only [Option.map_some, Option.some.injEq]; exact ⟨fun v hv => ⟨_, rfl, hv ▸ E q⟩, fun h => by cases h⟩
      obtain ⟨rfl, z, hz, hrz⟩ := run_slice (P := P) T hd S.heap hr hp (E x) (opt lo).1 (opt lo).2 (opt hi).1 (opt hi).2 (opt mx).1 (opt mx).2
      exact ok_val S (by simp only [execOp, ho, Sem.run_bind, hz, Result.andThen_ok]; rfl) hrz
  | call c =>
    rw [ho] at hr; simp only [aop] at hr
    split at hr
    · rename_i b hb
      have hre : (resolve a.eval c o.type).run P w = .ok { target := .builtin b c.argTypes o.type (c.args.map fun | .const _ => true | _ => false), args := c.args.map a.eval } w := by
        simp only [resolve, hb]; rfl
      unfold aBuiltin at hr
      split at hr
      · split at hr
        · rename_i at0 x ha hargs
          cases hi : ty at0 with
          | none => simp [hi] at hr
          | some i =>
            simp only [hi, Option.bind_some, Option.map_eq_some_iff, Prod.mk.injEq] at hr
            obtain ⟨u, hu, rfl, rfl, rfl⟩ := hr
            obtain ⟨q, hq⟩ : ∃ q, c.args.toList = [q] := by
              match hl : c.args.toList, hargs with
              | [q], _ => exact ⟨q, rfl⟩
              | [], h => rw [hl] at hargs; cases hargs
              | _ :: _ :: _, h => rw [hl] at hargs; cases hargs
            have hq2 : c.args = #[q] := by apply Array.ext'; rw [hq]
            rw [hq] at hargs
            simp only [List.map_cons, List.map_nil, List.cons.injEq, and_true] at hargs
            subst hargs
            obtain ⟨z, hz, hrz⟩ := run_len (P := P) (w := w) (ρ := ρ) (I := I) (tid := o.type) T ha hi hu (E q)
            refine ok_val S ?_ hrz
            simp only [execOp, ho, Sem.run_bind, hre, Result.andThen_ok, invoke, builtin, hq2, List.map_toArray, List.map_cons, List.map_nil, hz, Sem.run_pure]
        · cases hr
      · split at hr
        · rename_i a0 a1 x y ha0 ha1 hargs
          split at hr
          · rename_i i0 i1 hi0 hi1
            obtain ⟨q1, q2, hq⟩ : ∃ q1 q2, c.args.toList = [q1, q2] := by
              match hl : c.args.toList, hargs with
              | [q1, q2], _ => exact ⟨q1, q2, rfl⟩
              | [], h => rw [hl] at hargs; cases hargs
              | [_], h => rw [hl] at hargs; cases hargs
              | _ :: _ :: _ :: _, h => rw [hl] at hargs; cases hargs
            have hq2 : c.args = #[q1, q2] := by apply Array.ext'; rw [hq]
            rw [hq] at hargs
            simp only [List.map_cons, List.map_nil, List.cons.injEq, and_true] at hargs
            obtain ⟨rfl, rfl⟩ := hargs
            have fin : ∀ e, i0.desc = .slice e → ((∃ q, i1.desc = .slice q) ∨ i1.desc = .string) → aAppend ty e (ev s.t q1) (ev s.t q2) s.h = some (p, v, h') → OpOK P o a w ρ I s.h v h' := by
              intro e hd0 hd1 hr
              obtain ⟨z, w', ρ', I', hz, hv, H, K⟩ := run_append (P := P) (tyid := o.type) T S.heap ha0 ha1 hi0 hi1 hd0 hd1 (E q1) (E q2) hr hp
              refine ⟨z, w', ρ', I', .inl ?_, hv, H, K⟩
              simp only [execOp, ho, Sem.run_bind, hre, Result.andThen_ok, invoke, builtin, hq2, List.map_toArray, List.map_cons, List.map_nil, hz, Sem.run_pure]
            split at hr
            · rename_i e e1 hd0 hd1; exact fin e hd0 (.inl ⟨_, hd1⟩) hr
            · rename_i e hd0 hd1; exact fin e hd0 (.inr hd1) hr
            · cases hr
          · cases hr
        · cases hr
      · split at hr
        · rename_i k x k2 y hargs
          obtain ⟨q1, q2, hq⟩ : ∃ q1 q2, c.args.toList = [q1, q2] := by
            have hl := congrArg List.length hargs
            simp only [List.length_map, List.length_cons, List.length_nil] at hl
            match hc : c.args.toList with
            | [q1, q2] => exact ⟨q1, q2, rfl⟩
            | [] => rw [hc] at hl; simp at hl
            | [_] => rw [hc] at hl; simp at hl
            | _ :: _ :: _ :: _ => rw [hc] at hl; simp at hl
          have hq2 : c.args = #[q1, q2] := by apply Array.ext'; rw [hq]
          rw [hq] at hargs
          simp only [List.map_cons, List.map_nil, List.cons.injEq, and_true] at hargs
          have r1 := E q1
          have r2 := E q2
          rw [hargs.1] at r1
          rw [hargs.2] at r2
          generalize h1 : a.eval q1 = z1 at r1
          generalize h2 : a.eval q2 = z2 at r2
          cases r1; cases r2
          simp only [Option.some.injEq, Prod.mk.injEq] at hr
          obtain ⟨rfl, rfl, rfl⟩ := hr
          refine ok_val (x := .int k (if y > x then y else x)) S ?_ (.int _ _)
          simp only [execOp, ho, Sem.run_bind, hre, Result.andThen_ok, invoke, builtin, hq2, List.map_toArray, List.map_cons, List.map_nil, h1, h2, Sem.run_pure, Builtin.max_, List.foldlM_cons, List.foldlM_nil, Builtin.max2]
        · cases hr
      · split at hr
        · rename_i k x k2 y hargs
          obtain ⟨q1, q2, hq⟩ : ∃ q1 q2, c.args.toList = [q1, q2] := by
            have hl := congrArg List.length hargs
            simp only [List.length_map, List.length_cons, List.length_nil] at hl
            match hc : c.args.toList with
            | [q1, q2] => exact ⟨q1, q2, rfl⟩
            | [] => rw [hc] at hl; simp at hl
            | [_] => rw [hc] at hl; simp at hl
            | _ :: _ :: _ :: _ => rw [hc] at hl; simp at hl
          have hq2 : c.args = #[q1, q2] := by apply Array.ext'; rw [hq]
          rw [hq] at hargs
          simp only [List.map_cons, List.map_nil, List.cons.injEq, and_true] at hargs
          have r1 := E q1
          have r2 := E q2
          rw [hargs.1] at r1
          rw [hargs.2] at r2
          generalize h1 : a.eval q1 = z1 at r1
          generalize h2 : a.eval q2 = z2 at r2
          cases r1; cases r2
          simp only [Option.some.injEq, Prod.mk.injEq] at hr
          obtain ⟨rfl, rfl, rfl⟩ := hr
          refine ok_val (x := .int k (if y < x then y else x)) S ?_ (.int _ _)
          simp only [execOp, ho, Sem.run_bind, hre, Result.andThen_ok, invoke, builtin, hq2, List.map_toArray, List.map_cons, List.map_nil, h1, h2, Sem.run_pure, Builtin.min_, List.foldlM_cons, List.foldlM_nil, Builtin.min2]
        · rename_i k x k2 y k3 z hargs
          obtain ⟨q1, q2, q3, hq⟩ : ∃ q1 q2 q3, c.args.toList = [q1, q2, q3] := by
            have hl := congrArg List.length hargs
            simp only [List.length_map, List.length_cons, List.length_nil] at hl
            match hc : c.args.toList with
            | [q1, q2, q3] => exact ⟨q1, q2, q3, rfl⟩
            | [] => rw [hc] at hl; simp at hl
            | [_] => rw [hc] at hl; simp at hl
            | [_, _] => rw [hc] at hl; simp at hl
            | _ :: _ :: _ :: _ :: _ => rw [hc] at hl; simp at hl
          have hq2 : c.args = #[q1, q2, q3] := by apply Array.ext'; rw [hq]
          rw [hq] at hargs
          simp only [List.map_cons, List.map_nil, List.cons.injEq, and_true] at hargs
          have r1 := E q1
          have r2 := E q2
          have r3 := E q3
          rw [hargs.1] at r1
          rw [hargs.2.1] at r2
          rw [hargs.2.2] at r3
          generalize h1 : a.eval q1 = z1 at r1
          generalize h2 : a.eval q2 = z2 at r2
          generalize h3 : a.eval q3 = z3 at r3
          cases r1; cases r2; cases r3
          simp only [Option.some.injEq, Prod.mk.injEq] at hr
          obtain ⟨rfl, rfl, rfl⟩ := hr
          refine ok_val (x := .int k (if z < (if y < x then y else x) then z else (if y < x then y else x))) S ?_ (.int _ _)
          simp only [execOp, ho, Sem.run_bind, hre, Result.andThen_ok, invoke, builtin, hq2, List.map_toArray, List.map_cons, List.map_nil, h1, h2, h3, Sem.run_pure, Builtin.min_, List.foldlM_cons, List.foldlM_nil, Builtin.min2]
        · cases hr
      · cases hr
    · cases hr
  | _ => rw [ho] at hr; simp [aop] at hr
end

/-! ### Sequences of operations -/

def put (t : List V) (d : Option Tmp) (v : V) : List V :=
  match d with
  | some d => t.set d v
  | none => t

/-- Is an operation wanted? -/
def guardOf (ops : Array Oper) (o : Oper) (t : List V) : Option Bool :=
  match o.guard with
  | none => some true
  | some (j, want) => match (ops[j]?).bind (·.dst) with
    | none => none
    | some d => match t[d]? with
      | some (.bool b) => some (b == want)
      | some (.tup _) => some false
      | _ => none

/-- A call of a Go function, at this heap. -/
def CallD (P : Program) (f : FuncId) (args : List V) (h : List HB) (r : V) (h' : List HB) : Prop := AC P f args h fun v h'' => v = r ∧ h'' = h'

/-- A call that neither reads nor writes the heap. -/
def Pure (P : Program) (f : FuncId) (args : List V) (r : V) : Prop := ∀ h, CallD P f args h r h

/-- The callee and the arguments of a call. -/
def callOf (t : List V) (op : Op) : Option (FuncId × List V) :=
  match op with
  | .call c => match c.callee with
    | .value f => match ev t f with
      | .fn g caps => some (g, c.args.toList.map (ev t) ++ caps)
      | _ => none
    | _ => none
  | _ => none

/-- Is it a call of one of these functions by name? -/
def namedIn (L : List FuncId) (op : Op) : Bool :=
  match op with
  | .call c => match c.callee with
    | .value (.func f) => L.contains f
    | _ => false
  | _ => false

/-- A call of the yield of a loop, and its arguments. -/
def yieldOf (t : List V) (op : Op) : Option (Nat × List V) :=
  match op with
  | .call c => match c.callee with
    | .value f => match ev t f with
      | .yld b => some (b, c.args.toList.map (ev t))
      | _ => none
    | _ => none
  | _ => none

/-- A round's temporaries. -/
def roundT (L : LoopB) (args : List V) : List V := (L.ps.toList.zip args).foldl (fun t q => t.set q.1 q.2) L.t
/-- One round of a range over a function, that ends at its end. -/
def RoundD (P : Program) (L : LoopB) (args : List V) (h h' : List HB) : Prop :=
  L.ps.size = args.length ∧ noRange L.assign = true ∧ noRange L.body = true ∧
  AW P h.length L.assign (fun e s1 => e = .normal ∧ AW P h.length L.body (fun e s2 => e = .normal ∧ ∃ t', Wk h.length s2 ⟨t', h'⟩) s1) ⟨roundT L args, h⟩

/-- What an operation that is wanted may do: its value, the heap behind it. -/
inductive Did (P : Program) (ty : Tab) (L : List FuncId) (o : Oper) (s : St) : V → List HB → Prop
  | op {p : Prop} {v : V} {h' : List HB} (h : aop ty s.t s.h o.op = some (p, v, h')) (hp : p) : Did P ty L o s v h'
  | pure {f : FuncId} {args : List V} {r : V} (hc : callOf s.t o.op = some (f, args)) (hL : namedIn L o.op = true) (h : Pure P f args r) : Did P ty L o s r s.h
  | call {f : FuncId} {args : List V} {r : V} {h' : List HB} (hc : callOf s.t o.op = some (f, args)) (hL : namedIn L o.op = false) (h : CallD P f args s.h r h') : Did P ty L o s r h'
  | yield {b : Nat} {args : List V} {lb : LoopB} {h' : List HB} (hc : yieldOf s.t o.op = some (b, args)) (hb : s.h[b]? = some (.loop lb)) (h : RoundD P lb args (s.h.set b .dead) h') : Did P ty L o s (.bool true) (h'.set b (.loop lb))

inductive Out (P : Program) (ty : Tab) (L : List FuncId) (ops : Array Oper) (o : Oper) (s : St) : V → List HB → Prop
  | did {v : V} {h' : List HB} (hg : guardOf ops o s.t = some true) (h : Did P ty L o s v h') : Out P ty L ops o s v h'
  | not (hg : guardOf ops o s.t = some false) : Out P ty L ops o s udf s.h

/-- A run through some of a region's operations. -/
inductive Run (P : Program) (ty : Tab) (L : List FuncId) (ops : Array Oper) : List Nat → St → St → Prop
  | nil (s : St) : Run P ty L ops [] s s
  | cons {i : Nat} {l : List Nat} {o : Oper} {s s'' : St} {v : V} {h' : List HB} (ho : ops[i]? = some o) (h : Out P ty L ops o s v h') (r : Run P ty L ops l ⟨put s.t o.dst v, h'⟩ s'') : Run P ty L ops (i :: l) s s''

section
variable {P : Program} {ty : Tab} {L : List FuncId} {ρ : Rho} {I : Nat → Prop} {w : World}

theorem RS.put {s : St} {a : Act} (S : RS ρ I w s a) {ρ' : Rho} {I' : Nat → Prop} {w' : World} {h' : List HB} (H : RH ρ' I' w' h') (K : Keep s.h ρ I w h' ρ' I' w') (d : Option Tmp) {v : V} {x : Value}
    (hv : RV ρ' I' w' v x) : RS ρ' I' w' ⟨Abs.put s.t d v, h'⟩ (a.put d x) := by
  have X := K.ext S.heap
  have old : ∀ (i : Nat) (u : V), s.t[i]? = some u → ∃ y, a.tmps[i]? = some y ∧ RV ρ' I' w' u y := fun i u hu => by
    obtain ⟨y, hy, hr⟩ := S.tv i u hu; exact ⟨y, hy, hr.ext X⟩
  have mk := marks_keep (K.toN 0) S.marks
  cases d with
  | none => exact ⟨S.tlen, old, H, mk⟩
  | some d =>
    refine ⟨by simp [Act.put, Abs.put, S.tlen], ?_, H, mk⟩
    intro i u hu
    simp only [Abs.put] at hu
    simp only [Act.put]
    by_cases e : d = i
    · subst e
      have hlt : d < s.t.length := by
        have := (List.getElem?_eq_some_iff.1 hu).1; simpa using this
      rw [List.getElem?_set_self hlt] at hu; cases hu
      exact ⟨x, by rw [Array.getElem?_setIfInBounds_self_of_lt (by rw [S.tlen]; exact hlt)], hv⟩
    · rw [List.getElem?_set_ne e] at hu
      obtain ⟨y, hy, hr⟩ := old i u hu
      exact ⟨y, by rw [Array.getElem?_setIfInBounds_ne e]; exact hy, hr⟩

theorem guard_real {ops : Array Oper} {o : Oper} {s : St} {a : Act} (S : RS ρ I w s a) {b : Bool} (h : guardOf ops o s.t = some b) : Region.wanted o (yielded ops a.tmps) = b := by
  unfold guardOf at h
  unfold Region.wanted
  split at h
  · rename_i hg; rw [hg]; simpa using h
  · rename_i j want hg
    rw [hg]
    split at h
    · cases h
    · rename_i d hd
      split at h
      · rename_i c hc
        obtain ⟨y, hy, hr⟩ := S.tv d _ hc
        cases hr
        simp only [Option.some.injEq] at h
        have : yielded ops a.tmps j = some c := by
          unfold yielded; rw [hd]; simp [hy]
        simp only [this, ← h]
        simp
      · rename_i l hc
        obtain ⟨y, hy, hr⟩ := S.tv d _ hc
        cases hr
        simp only [Option.some.injEq] at h
        have : yielded ops a.tmps j = none := by
          unfold yielded; rw [hd]; simp [hy]
        show (yielded ops a.tmps j == some want) = b
        rw [this, ← h]; rfl
      · cases h

/-- An operation that is no 'defer'. -/
def noDefer : Op → Bool
  | .defer _ => false
  | _ => true

theorem semAt_plain {o : Oper} (h : noDefer o.op = true) (r : Option Nat) (e : Operand → Value) : o.semAt r e = execOp e o := by
  unfold Oper.semAt
  split
  · rename_i h2; rw [h2] at h; cases h
  · rfl

theorem rv_args {s : St} {a : Act} (S : RS ρ I w s a) (args : Array Operand) {caps : List V} {vs : Array Value} (hl : caps.length = vs.size)
    (hv : ∀ (i : Nat) (v : V) (x : Value), caps[i]? = some v → vs[i]? = some x → RV ρ I w v x) :
    (args.toList.map (ev s.t) ++ caps).length = (args.map a.eval ++ vs).size ∧
    ∀ (i : Nat) (v : V) (x : Value), (args.toList.map (ev s.t) ++ caps)[i]? = some v → (args.map a.eval ++ vs)[i]? = some x → RV ρ I w v x := by
  refine ⟨by simp [hl], fun i v x h1 h2 => ?_⟩
  rcases Nat.lt_or_ge i args.size with hi | hi
  · rw [List.getElem?_append_left (by simpa using hi)] at h1
    rw [Array.getElem?_append_left (by simpa using hi)] at h2
    rw [List.getElem?_map] at h1
    rw [Array.getElem?_map] at h2
    have : args[i]? = some args[i] := Array.getElem?_eq_getElem hi
    simp [this] at h1 h2
    subst h1; subst h2
    exact rv_ev S _
  · rw [List.getElem?_append_right (by simpa using hi)] at h1
    rw [Array.getElem?_append_right (by simpa using hi)] at h2
    simp only [List.length_map, Array.length_toList] at h1
    simp only [Array.size_map] at h2
    exact hv _ v x h1 h2
end
end Go.Abs
