/- The abstract machine, part 9: the entry of a function; weaker states. -/
import Derived.Test.YtpaehjjkfjgfiaaA8
set_option linter.unusedVariables false
set_option linter.unusedSimpArgs false
namespace Go.Abs
open Go Go.RowKit

section
variable {P : Program} {ty : Tab}

theorem leaves_marks (T : TyOK P ty) {fn : Func} {rs : List ResultVar} (hrs : fn.results = rs.toArray) {R : V → List HB → Prop} {R' : Ending → World → Prop} {h0 : List HB} {ρ0 : Rho} {I0 : Nat → Prop} {w0 : World} {s : St} {tmps : Array Value}
    {p : Prop} {vs : List V} (hres : aRess ty s rs = some (p, vs)) (hp : p) (hR : R (one vs) s.h)
    (hR' : ∀ x v h' ρ' I' w', R v h' → RV ρ' I' w' v x → RH ρ' I' w' h' → Keep h0 ρ0 I0 w0 h' ρ' I' w' → R' (.returned x) w') : ∀ (Ds : List Nat) {ρ : Rho} {I : Nat → Prop} {w : World}, Ds.Nodup →
    (∀ D ∈ Ds, w0.heap.size ≤ D ∧ D < w.heap.size ∧ ¬ Live s.h ρ D ∧ ¬ I D ∧ w.heap[D]? = some (.deferred (some []))) → RS ρ I w s { tmps, defers := [] } → Keep h0 ρ0 I0 w0 s.h ρ I w →
    LeavesInM (Fw none) 0 P fn tmps R' (Ds.map markD) .returning w
  | [], ρ, I, w, _, _, S, K => by
    obtain ⟨x, hx, hv⟩ := run_results (P := P) T S hrs hres hp
    exact ⟨x, hx, hR' x _ s.h ρ I w hR hv S.heap K⟩
  | D :: Ds, ρ, I, w, hn, hD, S, K => by
    obtain ⟨g1, g2, g3, g4, g5⟩ := hD D (by simp)
    have hn' := List.nodup_cons.1 hn
    have hc : ∀ c e fr, w.heap[D]? ≠ some (.cells c e fr) := by intro c e fr h; rw [g5] at h; cases h
    have H := S.heap.putObj (.deferred none) g3 g4 hc
    refine ⟨by simp, .inl ⟨D, w.putObj D (.deferred none), rfl, run_takeDeferred g5, ?_⟩⟩
    have other : ∀ k, k ≠ D → (w.putObj D (.deferred none)).heap[k]? = w.heap[k]? := fun k hk => World.putObj_heap_other hk
    have X : Ext ρ I w ρ I (w.putObj D (.deferred none)) := ⟨fun _ _ h => h, fun _ h => h, fun b hb => other b (fun e => g4 (e ▸ hb)), fun b c e fr hb =>
      ⟨c, e, fr, (other b (fun e' => hc c e fr (e' ▸ hb))).trans hb, rfl⟩⟩
    refine leaves_marks T hrs hres hp hR hR' Ds hn'.2 ?_ ⟨S.tlen, fun i v h => ?_, H, ⟨[], rfl, List.nodup_nil, by simp⟩⟩ (K.putObj _ g1 hc)
    · intro E hE
      obtain ⟨q1, q2, q3, q4, q5⟩ := hD E (by simp [hE])
      exact ⟨q1, by rw [World.putObj_size]; exact q2, q3, q4, (other E (fun e => hn'.1 (e ▸ hE))).trans q5⟩
    · obtain ⟨x, hx, hr⟩ := S.tv i v h
      exact ⟨x, hx, hr.ext X⟩

/-- **A function's contract, out of its body.** -/
theorem ac_enter (T : TyOK P ty) {f : FuncId} {fn : Func} {c : Code} {args : List V} {h : List HB} {R : V → List HB → Prop} {rs : List ResultVar} (hf : P.funcs[f]? = some fn) (hb : fn.body = some c) (hrs : fn.results = rs.toArray)
    (he : Enters P f) (hargs : args.length ≤ fn.ntmps) (hw : AW P h.length c (RetK ty rs R) ⟨args ++ List.replicate (fn.ntmps - args.length) .any, h⟩) : AC P f args h R := by
  intro ρ I w vs hl hv H
  refine .inl ⟨he vs w, ?_⟩
  refine callsIn_of_wp_marks hf hb trivial ?_ rfl
  have S : RS ρ I w ⟨args ++ List.replicate (fn.ntmps - args.length) .any, h⟩ { tmps := vs ++ Array.replicate (fn.ntmps - vs.size) undef, defers := [] } := by
    refine ⟨by simp [hl], ?_, H, ⟨[], rfl, List.nodup_nil, by simp⟩⟩
    intro i v hi
    rcases Nat.lt_or_ge i args.length with hlt | hge
    · rw [List.getElem?_append_left hlt] at hi
      have hx : vs[i]? = some (vs[i]'(by omega)) := Array.getElem?_eq_getElem _
      exact ⟨_, by rw [Array.getElem?_append_left (by omega)]; exact hx, hv i v _ hi hx⟩
    · rw [List.getElem?_append_right hge, List.getElem?_replicate] at hi
      split at hi
      · rename_i hlt
        cases hi
        exact ⟨undef, by rw [Array.getElem?_append_right (by omega), Array.getElem?_replicate, if_pos (by omega)], .any _⟩
      · cases hi
  refine wpIn_mono (hw none (Okr.none _) ρ I w _ S) ?_
  have fin : ∀ {e : Exit} {a' : Act} {w' : World} {s' : St} {ρ' : Rho} {I' : Nat → Prop}, (match aRess ty s' rs with
      | some (p, vs) => p ∧ R (one vs) s'.h
      | none => False) → RS ρ' I' w' s' a' → KeepN h.length h ρ I w s'.h ρ' I' w' → Mk [] w.heap.size a'.defers →
      LeavesInM (Fw none) 0 P fn a'.tmps (fun e w' => ∃ x, e = .returned x ∧ ∃ v h' ρ' I', R v h' ∧ RV ρ' I' w' v x ∧ RH ρ' I' w' h' ∧ Keep h ρ I w h' ρ' I' w') a'.defers .returning w' := by
    intro e a' w' s' ρ' I' hq S' K' m'
    split at hq
    · rename_i p vs' hres
      obtain ⟨Ds, hd, hge⟩ := m'
      obtain ⟨Ds', hd', hn', hD'⟩ := S'.marks
      have : Ds = Ds' := by
        rw [hd, List.append_nil] at hd'
        exact List.map_inj_right (fun a b h => by simpa [markD] using h) |>.1 hd'
      subst this
      rw [hd, List.append_nil]
      refine leaves_marks T hrs hres hq.1 hq.2 (fun x v h' ρ' I' w' hR hv H' K' => ⟨x, rfl, v, h', ρ', I', hR, hv, H', K'⟩) Ds hn' (fun D hD => ⟨hge D hD, hD' D hD⟩) ⟨S'.tlen, S'.tv, S'.heap, ⟨[], rfl, List.nodup_nil, by simp⟩⟩ (K'.full (by rw [H.len]; exact Nat.le_refl _))
    · exact hq.elim
  intro e a' w' p
  cases e with
  | normal => obtain ⟨s', ρ', I', q, S', K', m'⟩ := p; exact fin (e := .normal) q S' K' m'
  | ret => obtain ⟨s', ρ', I', q, S', K', m'⟩ := p; exact fin (e := .ret) q S' K' m'
  | exit i => obtain ⟨s', ρ', I', q, S', K', m'⟩ := p; exact q.elim
  | goto i => obtain ⟨s', ρ', I', q, S', K', m'⟩ := p; exact q.elim
  | panic ch => exact p.elim
  | outgrown => exact p.elim

/-! ### Weaker states -/

/-- One value says less than another. -/
def LeV (v' v : V) : Prop := v' = .any ∨ v' = v

def LeL : List V → List V → Prop
  | [], [] => True
  | v' :: l', v :: l => LeV v' v ∧ LeL l' l
  | _, _ => False

theorem LeL.get : ∀ {l' l : List V}, LeL l' l → l'.length = l.length ∧ ∀ (i : Nat) (v' : V), l'[i]? = some v' → ∃ v, l[i]? = some v ∧ LeV v' v
  | [], [], _ => ⟨rfl, by simp⟩
  | v' :: l', v :: l, h => by
    obtain ⟨h1, h2⟩ := h
    obtain ⟨e, k⟩ := h2.get
    refine ⟨by simp [e], fun i u hu => ?_⟩
    cases i with
    | zero => simp at hu; subst hu; exact ⟨v, rfl, h1⟩
    | succ i => exact k i u (by simpa using hu)
  | [], _ :: _, h => h.elim
  | _ :: _, [], h => h.elim

theorem LeV.rv {ρ : Rho} {I : Nat → Prop} {w : World} {v' v : V} {x : Value} (h : LeV v' v) (hr : RV ρ I w v x) : RV ρ I w v' x := by
  rcases h with rfl | rfl
  · exact .any _
  · exact hr

/-- Less is said of temporaries; the heap is the same. -/
theorem wk_le {N : Nat} {t t' : List V} {h : List HB} (hl : LeL t' t) : Wk N ⟨t, h⟩ ⟨t', h⟩ := by
  intro ρ I w a S
  obtain ⟨e, k⟩ := hl.get
  refine ⟨ρ, I, ⟨by rw [S.tlen]; exact e.symm, fun i v' hv' => ?_, S.heap, S.marks⟩, KeepN.refl _ _ _ _ _⟩
  obtain ⟨v, hv, hle⟩ := k i v' hv'
  obtain ⟨x, hx, hr⟩ := S.tv i v hv
  exact ⟨x, hx, hle.rv hr⟩

/-- Values that name no block from n on. -/
inductive Bel (n : Nat) : V → Prop
  | any : Bel n .any
  | bool (b) : Bel n (.bool b)
  | int (k m) : Bel n (.int k m)
  | str (s) : Bel n (.str s)
  | nilp : Bel n .nilp
  | ptr (b o) : b < n → Bel n (.ptr b o)
  | slc (b o z l c) : b < n → Bel n (.slc b o z l c)
  | vptr (cs o) : (∀ v ∈ cs, Bel n v) → Bel n (.vptr cs o)
  | nils : Bel n .nils
  | vec (cs l x) : (∀ v ∈ cs, Bel n v) → Bel n (.vec cs l x)
  | nilf : Bel n .nilf
  | yld (b) : b < n → Bel n (.yld b)
  | fn (f caps) : (∀ v ∈ caps, Bel n v) → Bel n (.fn f caps)
  | agg (cs) : (∀ v ∈ cs, Bel n v) → Bel n (.agg cs)
  | tup (cs) : (∀ v ∈ cs, Bel n v) → Bel n (.tup cs)

theorem Clean.bel {n : Nat} {v : V} (h : Clean v) : Bel n v := by
  induction h with
  | any => exact .any
  | bool b => exact .bool b
  | int k m => exact .int k m
  | str s => exact .str s
  | nilp => exact .nilp
  | vptr cs o _ ih => exact .vptr cs o ih
  | nils => exact .nils
  | vec cs l x _ ih => exact .vec cs l x ih
  | nilf => exact .nilf
  | fn f caps _ ih => exact .fn f caps ih
  | agg cs _ ih => exact .agg cs ih
  | tup cs _ ih => exact .tup cs ih

theorem Bel.take {n : Nat} {v : V} (hc : Bel n v) : ∀ {ρ : Rho} {I : Nat → Prop} {w : World} {x : Value}, RV ρ I w v x → RV (ρ.take n) I w v x := by
  intro ρ I w x h
  induction h with
  | any x => exact .any _
  | bool b => exact .bool _
  | int k m => exact .int _ _
  | str s => exact .str _
  | nilp => exact .nilp
  | ptr h => cases hc with | ptr _ _ hb => exact .ptr (by rw [List.getElem?_take_of_lt hb]; exact h)
  | yld h => cases hc with | yld _ hb => exact .yld (by rw [List.getElem?_take_of_lt hb]; exact h)
  | vptr f hI hcc hv ih =>
    cases hc with | vptr _ _ h => exact .vptr f hI hcc (fun i v hi => ih i v hi (h v (List.mem_of_getElem? hi)))
  | nils => exact .nils
  | slc h h1 h2 hb hs => cases hc with | slc _ _ _ _ _ hb' => exact .slc (by rw [List.getElem?_take_of_lt hb']; exact h) h1 h2 hb hs
  | vec f hI hcc hv h1 hx ih =>
    cases hc with | vec _ _ _ h => exact .vec f hI hcc (fun i v hi => ih i v hi (h v (List.mem_of_getElem? hi))) h1 hx
  | vecn x => exact .vecn _ _
  | nilf => exact .nilf
  | fn hl hv ih => cases hc with | fn _ _ h => exact .fn hl (fun i v x hi hx => ih i v x hi hx (h v (List.mem_of_getElem? hi)))
  | agg hl hv ih => cases hc with | agg _ h => exact .agg hl (fun i v x hi hx => ih i v x hi hx (h v (List.mem_of_getElem? hi)))
  | tup hl hv ih => cases hc with | tup _ h => exact .tup hl (fun i v x hi hx => ih i v x hi hx (h v (List.mem_of_getElem? hi)))

def HBel (n : Nat) : HB → Prop
  | .dead => True
  | .live cs => ∀ v ∈ cs, Bel n v
  | .loop L => ∀ v ∈ L.t, Bel n v

/-- Blocks at the end that nobody names are forgotten. -/
theorem wk_take {N n : Nat} {t : List V} {h : List HB} (hN : N ≤ n) (ht : ∀ v ∈ t, Bel n v) (hh : ∀ b ∈ h.take n, HBel n b) : Wk N ⟨t, h⟩ ⟨t, h.take n⟩ := by
  intro ρ I w a S
  have lv : ∀ b, Live (h.take n) (ρ.take n) b → Live h ρ b := by
    rintro b ⟨i, cs, base, h1, o, h2⟩
    have hi : i < n := by
      have := (List.getElem?_eq_some_iff.1 h1).1
      rw [List.length_take] at this; omega
    rw [List.getElem?_take_of_lt hi] at h1 h2
    exact ⟨i, cs, base, h1, o, h2⟩
  have K : KeepN N h ρ I w (h.take n) (ρ.take n) I w :=
    ⟨rfl, rfl, rfl, Nat.le_refl _, fun i p hi hp => by rw [List.getElem?_take_of_lt (by omega)]; exact hp, fun _ h => h, fun _ _ _ => rfl, fun _ c e fr h => ⟨c, e, fr, h, rfl⟩, fun _ _ h => .inl h, fun b _ hl => lv b hl⟩
  refine ⟨ρ.take n, I, ⟨S.tlen, fun i v hv => ?_, ?_, marks_keep K S.marks⟩, K⟩
  · obtain ⟨x, hx, hr⟩ := S.tv i v hv
    exact ⟨x, hx, (ht v (List.mem_of_getElem? hv)).take hr⟩
  · have get : ∀ {i : Nat} {cs : HB}, (h.take n)[i]? = some cs → i < n ∧ h[i]? = some cs := by
      intro i cs h1
      have hi : i < n := by
        have := (List.getElem?_eq_some_iff.1 h1).1
        rw [List.length_take] at this; omega
      rw [List.getElem?_take_of_lt hi] at h1
      exact ⟨hi, h1⟩
    refine ⟨by rw [List.length_take, List.length_take, S.heap.len], ?_, ?_, S.heap.imlt, ?_⟩
    · intro i cs h1
      obtain ⟨hi, h2⟩ := get h1
      obtain ⟨rb, base, c, e, fr, g1, g2, g3, g4, g5, g6⟩ := S.heap.row i cs h2
      refine ⟨rb, base, c, e, fr, by rw [List.getElem?_take_of_lt hi]; exact g1, g2, g3, fun j v hj => ?_, g5, g6⟩
      obtain ⟨y, hy, hr⟩ := g4 j v hj
      have hb : HBel n (.live cs) := hh _ (List.mem_of_getElem? h1)
      exact ⟨y, hy, (hb v (List.mem_of_getElem? hj)).take hr⟩
    · intro i j cs ds rb b1 b2 h1 o1 h2 o2 p1 p2
      obtain ⟨hi, h1⟩ := get h1
      obtain ⟨hj, h2⟩ := get h2
      rw [List.getElem?_take_of_lt hi] at p1
      rw [List.getElem?_take_of_lt hj] at p2
      exact S.heap.inj i j cs ds rb b1 b2 h1 o1 h2 o2 p1 p2
    · intro i L h1
      obtain ⟨hi, h2⟩ := get h1
      obtain ⟨l, base, rec, g1, A⟩ := S.heap.lp i L h2
      refine ⟨l, base, rec, by rw [List.getElem?_take_of_lt hi]; exact g1, A.at_, A.ready, A.pend, A.ps, A.assign, A.body, A.tlen, fun j v hj => ?_, A.im⟩
      obtain ⟨y, hy, hr⟩ := A.tv j v hj
      have hb : HBel n (.loop L) := hh _ (List.mem_of_getElem? h1)
      exact ⟨y, hy, (hb v (List.mem_of_getElem? hj)).take hr⟩

/-- Less is said, and the last blocks are forgotten. -/
theorem wk_drop {N : Nat} (n : Nat) {t t' : List V} {h h' : List HB} (hN : N ≤ n) (hl : LeL t' t) (ht : ∀ v ∈ t', Bel n v) (he : h.take n = h') (hh : ∀ b ∈ h', HBel n b) : Wk N ⟨t, h⟩ ⟨t', h'⟩ := by
  subst he
  exact (wk_le hl).trans (wk_take hN ht hh)
end

/-! ### The table of types, row by row -/

def TyRow (P : Program) (t : TypeId) (i : Ty) : Prop := P.underlying t = some i.desc ∧
  ∃ ti z, P.info? t = some ti ∧ ti.size = i.size ∧ ti.bytes = i.bytes ∧ ti.zero = some z ∧ i.zero = z.cells.toList.map ofS ∧ i.zero.length = i.size ∧ (i.eq = true → P.stoodInHeld t = false ∧ P.eqGuardType P.depth t = false)

theorem tyRow {P : Program} {t : TypeId} {i : Ty} {z : Value} (h1 : P.underlying t = some i.desc) (h2 : (P.info? t).map (fun i => (i.size, i.bytes, i.zero)) = some (i.size, i.bytes, some z)) (h3 : i.zero = z.cells.toList.map ofS)
    (h4 : i.zero.length = i.size) (h5 : i.eq = true → P.stoodInHeld t = false ∧ P.eqGuardType P.depth t = false) : TyRow P t i := by
  refine ⟨h1, ?_⟩
  cases hq : P.info? t with
  | none => rw [hq] at h2; cases h2
  | some ti =>
    rw [hq] at h2
    simp only [Option.map_some, Option.some.injEq, Prod.mk.injEq] at h2
    exact ⟨ti, z, rfl, h2.1, h2.2.1, h2.2.2, h3, h4, h5⟩
end Go.Abs
