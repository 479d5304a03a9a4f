/- The abstract machine, part 6: a run through a region is the model's; frames; orders. -/
import Derived.Test.YtdhonccddoaeiaaA5
set_option linter.unusedVariables false
set_option linter.unusedSimpArgs false
namespace Go.Abs
open Go Go.RowKit

section
variable {P : Program} {ty : Tab} {L : List FuncId}

theorem callOf_real {ρ : Rho} {I : Nat → Prop} {w : World} {s : St} {a : Act} (S : RS ρ I w s a) {o : Oper} {f : FuncId} {args : List V} (hc : callOf s.t o.op = some (f, args)) :
    ∃ vs, args.length = vs.size ∧ (∀ (i : Nat) (v : V) (x : Value), args[i]? = some v → vs[i]? = some x → RV ρ I w v x) ∧ (execOp a.eval o).run P w = (callFunc f vs).run P w ∧ noDefer o.op = true := by
  unfold callOf at hc
  split at hc
  · rename_i c ho
    split at hc
    · rename_i fo hf
      have hv := rv_ev (ρ := ρ) (I := I) (w := w) S fo
      split at hc
      · rename_i g caps hg
        simp only [Option.some.injEq, Prod.mk.injEq] at hc
        obtain ⟨rfl, rfl⟩ := hc
        rw [hg] at hv
        generalize hac : a.eval fo = z at hv
        cases hv with
        | fn hl hvs =>
          obtain ⟨h1, h2⟩ := rv_args S c.args hl hvs
          refine ⟨_, h1, h2, ?_, by rw [ho]; rfl⟩
          simp only [execOp, ho, resolve, hf, hac, Deferred.ofValue, Sem.run_bind, Sem.run_pure, Result.andThen_ok, invoke]
          simp
      · cases hc
    · cases hc
  · cases hc

theorem run_sound {ops : Array Oper} (T : TyOK P ty) {l : List Nat} {s s' : St} (hr : Run P ty L ops l s s') : ∀ {r : Option Nat} {ρ : Rho} {I : Nat → Prop} {w : World} {a : Act} {Q : Exit → Act → World → Prop}, RS ρ I w s a →
    (∀ ρ' I' w' a', RS ρ' I' w' s' a' → Keep s.h ρ I w s'.h ρ' I' w' → a'.defers = a.defers → Q .normal a' w') → wpOpsIn (Fw r) 0 P ops Q l a w := by
  induction hr with
  | nil s => intro r ρ I w a Q S k; exact k ρ I w a S (Keep.refl _ _ _ _) rfl
  | @cons i l o s s2 v1 h1' ho hout hrun ih =>
    intro r ρ I w a Q S k
    simp only [wpOpsIn, ho]
    have cont : ∀ {ρ' : Rho} {I' : Nat → Prop} {w' : World} {x : Value}, RV ρ' I' w' v1 x → RH ρ' I' w' h1' → Keep s.h ρ I w h1' ρ' I' w' →
        wpOpsIn (Fw r) 0 P ops Q l (a.put o.dst x) w' := by
      intro ρ' I' w' x hv H K
      exact ih (S.put H K o.dst hv) fun ρ2 I2 w2 a2 S2 K2 e2 => k ρ2 I2 w2 a2 S2 (K.trans K2) (e2.trans (by unfold Act.put; split <;> rfl))
    cases hout with
    | not hg =>
      rw [guard_real S hg, if_neg (by simp)]
      exact ⟨fun _ _ => trivial, cont (.tup rfl (by simp)) S.heap (Keep.refl _ _ _ _)⟩
    | did hg hd =>
      rw [guard_real S hg, if_pos rfl]
      refine ⟨fun _ _ => trivial, ?_⟩
      have call : ∀ {f : FuncId} {args : List V}, callOf s.t o.op = some (f, args) → CallD P f args s.h v1 h1' → o.uponIn (Fw r) 0 P a (wpOpsIn (Fw r) 0 P ops Q l) Q ((o.semAt (Fw r).round a.eval).run P w) := by
        intro f args hc hcd
        obtain ⟨vs, h1, h2, h3, h4⟩ := callOf_real S hc
        rw [semAt_plain h4, h3]
        rcases hcd ρ I w vs h1 h2 S.heap with ⟨he, hcall⟩ | ⟨x, w', he, v, h'', ρ', I', ⟨rfl, rfl⟩, hv, H, K⟩
        · rw [he]
          refine ⟨fun h => by simp [Fw, Fence.wide] at h, ?_⟩
          refine CallsIn.mono (F := Fw r) hcall ?_
          rintro e w' ⟨x, rfl, v, h'', ρ', I', ⟨rfl, rfl⟩, hv, H, K⟩
          exact cont hv H K
        · rw [he]; exact cont hv H K
      cases hd with
      | op h hp =>
        obtain ⟨x, w', ρ', I', hx, hv, H, K⟩ := aop_sound (P := P) T S h hp
        have hn : noDefer o.op = true := by
          cases hop : o.op <;> first | rfl | (rw [hop] at h; simp [aop] at h)
        rw [semAt_plain hn]
        rcases hx with hx | ⟨hx, rfl⟩
        · rw [hx]; exact cont hv H K
        · rw [hx]; exact cont hv H K
      | pure hc _ h => exact call hc (h s.h)
      | call hc _ h => exact call hc h

/-! ### The frame -/

/-- Values that name no block of the call's own. -/
inductive Clean : V → Prop
  | any : Clean .any
  | bool (b) : Clean (.bool b)
  | int (k n) : Clean (.int k n)
  | str (s) : Clean (.str s)
  | nilp : Clean .nilp
  | vptr (cs o) : (∀ v ∈ cs, Clean v) → Clean (.vptr cs o)
  | nils : Clean .nils
  | vec (cs l x) : (∀ v ∈ cs, Clean v) → Clean (.vec cs l x)
  | nilf : Clean .nilf
  | fn (f caps) : (∀ v ∈ caps, Clean v) → Clean (.fn f caps)
  | agg (cs) : (∀ v ∈ cs, Clean v) → Clean (.agg cs)
  | tup (cs) : (∀ v ∈ cs, Clean v) → Clean (.tup cs)

theorem Clean.rv {v : V} (hc : Clean v) : ∀ {ρ ρ' : Rho} {I : Nat → Prop} {w : World} {x : Value}, RV ρ I w v x → RV ρ' I w v x := by
  intro ρ ρ' I w x h
  induction h with
  | any x => exact .any _
  | bool b => exact .bool _
  | int k n => exact .int _ _
  | str s => exact .str _
  | nilp => exact .nilp
  | ptr h => cases hc
  | vptr f hI hcc hv ih =>
    cases hc with | vptr _ _ h => exact .vptr f hI hcc (fun i v hi => ih i v hi (h v (List.mem_of_getElem? hi)))
  | nils => exact .nils
  | slc h h1 h2 hb hs => cases hc
  | vec f hI hcc hv h1 hx ih =>
    cases hc with | vec _ _ _ h => exact .vec f hI hcc (fun i v hi => ih i v hi (h v (List.mem_of_getElem? hi))) h1 hx
  | vecn x => exact .vecn _ _
  | nilf => exact .nilf
  | fn hl hv ih => cases hc with | fn _ _ h => exact .fn hl (fun i v x hi hx => ih i v x hi hx (h v (List.mem_of_getElem? hi)))
  | agg hl hv ih => cases hc with | agg _ h => exact .agg hl (fun i v x hi hx => ih i v x hi hx (h v (List.mem_of_getElem? hi)))
  | tup hl hv ih => cases hc with | tup _ h => exact .tup hl (fun i v x hi hx => ih i v x hi hx (h v (List.mem_of_getElem? hi)))

/-- **The frame, for a call that is handed no block.** -/
theorem pure_of_ac {f : FuncId} {args : List V} {r : V} (h : AC P f args [] fun v h' => v = r) (hca : ∀ v ∈ args, Clean v) (hcr : Clean r) : Pure P f args r := by
  intro hp ρ I w vs hl hv H
  have H0 : RH [] I w [] := ⟨rfl, by intro i cs h; simp at h, by intro i j cs ds rb b1 b2 h; simp at h, H.imlt⟩
  refine (h [] I w vs hl (fun i v x h1 h2 => (hca v (List.mem_of_getElem? h1)).rv (hv i v x h1 h2)) H0).mono ?_
  rintro x w' ⟨v, h', ρ', I', rfl, hrv, H', K⟩
  have nl : ∀ b, ¬ Live [] ([] : Rho) b := by rintro b ⟨i, cs, base, h, _⟩; simp at h
  have X : Ext ρ I w ρ I' w' := ⟨fun _ _ h => h, K.im, fun b hb => K.same b (H.imlt b hb) (nl b), K.sz⟩
  have lt : ∀ {b : Nat}, Live hp ρ b → b < w.heap.size := fun hl => (H.lt hl).1
  refine ⟨v, hp, ρ, I', ⟨rfl, rfl⟩, hcr.rv hrv, ?_, ?_⟩
  · refine ⟨H.len, ?_, H.inj, H'.imlt⟩
    intro i cs hi
    obtain ⟨rb, base, c, e, fr, g1, g2, g3, g4, g5, g6⟩ := H.row i cs hi
    have hb := lt ⟨i, cs, base, hi, g1⟩
    refine ⟨rb, base, c, e, fr, g1, (K.same rb hb (nl rb)).trans g2, g3, fun j v hj => ?_, g5, ?_⟩
    · obtain ⟨y, hy, hr⟩ := g4 j v hj; exact ⟨y, hy, hr.ext X⟩
    · intro hI; rcases K.im' rb hb hI with h | h
      · exact g6 h
      · exact nl _ h
  · exact ⟨K.os, K.tape, K.output, K.size, fun _ _ h => h, K.im, fun b hb _ => K.same b hb (nl b), K.sz, fun b hb hI => (K.im' b hb hI).imp id (fun h => (nl _ h).elim), fun _ _ h => h⟩
end
end Go.Abs
