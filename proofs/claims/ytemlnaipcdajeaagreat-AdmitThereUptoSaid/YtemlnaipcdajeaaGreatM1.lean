/- The abstract machine, part 1: abstract values, how they stand for the model's values, heaps, frames. -/
import Derived.RangeFuncIn
import Derived.RangeFuncLeaves
import Derived.WalkKit
set_option linter.unusedVariables false
set_option linter.unusedSimpArgs false
namespace Go.Abs
open Go Go.RowKit

/-- Abstract values: trees, but for what lies in the call's own blocks (ptr, slc). -/
inductive V where
  | any
  | bool (b : Bool)
  | int (k : IntKind) (n : Int)
  | str (s : ByteArray)
  | nilp
  | ptr (b o : Nat)
  | vptr (cs : List V) (o : Nat)
  | nils
  | slc (b o z len cap : Nat)
  | vec (cs : List V) (len : Nat) (x : Bool)
  | nilf
  | yld (b : Nat)
  | fn (f : FuncId) (caps : List V)
  | agg (cs : List V)
  | tup (vs : List V)
  deriving Inhabited

/-- What an operation that is not wanted leaves. -/
abbrev udf : V := .tup []

/-- The record of a range over a function: the frame's temporaries, the code of a round. -/
structure LoopB where
  t : List V
  ps : Array Tmp
  assign : Code
  body : Code
  pend : Option Code := none

/-- Abstract blocks. -/
inductive HB where
  | dead
  | live (cs : List V)
  | loop (L : LoopB)
  deriving Inhabited

/-- Where the abstract blocks lie: block and first cell. -/
abbrev Rho := List (Nat × Nat)

/-- A value of the model stands for an abstract one. I: the blocks that nobody writes any more. -/
inductive RV (ρ : Rho) (I : Nat → Prop) (w : World) : V → Value → Prop
  | any (x : Value) : RV ρ I w .any x
  | bool (b : Bool) : RV ρ I w (.bool b) (.bool b)
  | int (k : IntKind) (n : Int) : RV ρ I w (.int k n) (.int k n)
  | str (s : ByteArray) : RV ρ I w (.str s) (.string s)
  | nilp : RV ρ I w .nilp (.pointer none)
  | ptr {b o rb base : Nat} (h : ρ[b]? = some (rb, base)) : RV ρ I w (.ptr b o) (.pointer (some ⟨rb, base + o, none⟩))
  | vptr {cs : List V} {o rb off : Nat} (f : Nat → Value) (hI : I rb) (hc : ∀ (i : Nat), i < cs.length → w.cell? ⟨rb, off + i, none⟩ = some (f i))
      (hv : ∀ (i : Nat) (v : V), cs[i]? = some v → RV ρ I w v (f i)) : RV ρ I w (.vptr cs o) (.pointer (some ⟨rb, off + o, none⟩))
  | nils : RV ρ I w .nils (.slice none 0 0)
  | slc {b o z len cap rb base rcap : Nat} {c : Array Value} {e : TypeId} {fr : Nat × Nat} (h : ρ[b]? = some (rb, base)) (h1 : len ≤ cap) (h2 : cap ≤ rcap)
      (hb : w.heap[rb]? = some (.cells c e fr)) (hs : base + o + rcap * z ≤ c.size) : RV ρ I w (.slc b o z len cap) (.slice (some ⟨rb, base + o, none⟩) len rcap)
  | vec {cs : List V} {len rb off rcap : Nat} {x : Bool} (f : Nat → Value) (hI : I rb) (hc : ∀ (i : Nat), i < cs.length → w.cell? ⟨rb, off + i, none⟩ = some (f i))
      (hv : ∀ (i : Nat) (v : V), cs[i]? = some v → RV ρ I w v (f i)) (h1 : len ≤ rcap) (hx : x = true → rcap = len) : RV ρ I w (.vec cs len x) (.slice (some ⟨rb, off, none⟩) len rcap)
  | vecn (oa : Option Addr) (x : Bool) : RV ρ I w (.vec [] 0 x) (.slice oa 0 0)
  | nilf : RV ρ I w .nilf .nilFunc
  | yld {b l base : Nat} (h : ρ[b]? = some (l, base)) : RV ρ I w (.yld b) (.func (.yield l) #[] #[])
  | fn {f : FuncId} {caps : List V} {vs : Array Value} (hl : caps.length = vs.size) (hv : ∀ (i : Nat) (v : V) (x : Value), caps[i]? = some v → vs[i]? = some x → RV ρ I w v x) :
      RV ρ I w (.fn f caps) (.func (.func f) #[] vs)
  | agg {cs : List V} {vs : Array Value} (hl : cs.length = vs.size) (hv : ∀ (i : Nat) (v : V) (x : Value), cs[i]? = some v → vs[i]? = some x → RV ρ I w v x) : RV ρ I w (.agg cs) (.agg vs)
  | tup {cs : List V} {vs : Array Value} (hl : cs.length = vs.size) (hv : ∀ (i : Nat) (v : V) (x : Value), cs[i]? = some v → vs[i]? = some x → RV ρ I w v x) : RV ρ I w (.tup cs) (.tuple vs)

/-- What lets every reading stand. -/
structure Ext (ρ : Rho) (I : Nat → Prop) (w : World) (ρ' : Rho) (I' : Nat → Prop) (w' : World) : Prop where
  rho : ∀ (i : Nat) (p : Nat × Nat), ρ[i]? = some p → ρ'[i]? = some p
  im : ∀ (b : Nat), I b → I' b
  same : ∀ (b : Nat), I b → w'.heap[b]? = w.heap[b]?
  sz : ∀ (b : Nat) (c : Array Value) (e : TypeId) (fr : Nat × Nat), w.heap[b]? = some (.cells c e fr) → ∃ (c' : Array Value) (e' : TypeId) (fr' : Nat × Nat), w'.heap[b]? = some (.cells c' e' fr') ∧ c'.size = c.size

theorem Ext.refl (ρ : Rho) (I : Nat → Prop) (w : World) : Ext ρ I w ρ I w :=
  ⟨fun _ _ h => h, fun _ h => h, fun _ _ => rfl, fun _ c e fr h => ⟨c, e, fr, h, rfl⟩⟩

theorem RV.ext {ρ ρ' : Rho} {I I' : Nat → Prop} {w w' : World} (x : Ext ρ I w ρ' I' w') {v : V} {y : Value} (h : RV ρ I w v y) : RV ρ' I' w' v y := by
  induction h with
  | any x => exact .any _
  | bool b => exact .bool _
  | int k n => exact .int _ _
  | str s => exact .str _
  | nilp => exact .nilp
  | ptr h => exact .ptr (x.rho _ _ h)
  | vptr f hI hc _ ih => exact .vptr f (x.im _ hI) (fun i hi => (World.cell?_of_block (x.same _ hI)).trans (hc i hi)) ih
  | nils => exact .nils
  | slc h h1 h2 hb hs =>
    obtain ⟨c', e', fr', hb', hz⟩ := x.sz _ _ _ _ hb
    exact .slc (x.rho _ _ h) h1 h2 hb' (by rw [hz]; exact hs)
  | vec f hI hc _ h1 hx ih => exact .vec f (x.im _ hI) (fun i hi => (World.cell?_of_block (x.same _ hI)).trans (hc i hi)) ih h1 hx
  | vecn x => exact .vecn _ _
  | nilf => exact .nilf
  | yld h => exact .yld (x.rho _ _ h)
  | fn hl _ ih => exact .fn hl ih
  | agg hl _ ih => exact .agg hl ih
  | tup hl _ ih => exact .tup hl ih

/-- Not dead. -/
def HB.on : HB → Prop
  | .dead => False
  | _ => True
def Live (h : List HB) (ρ : Rho) (b : Nat) : Prop := ∃ (i : Nat) (x : HB) (base : Nat), h[i]? = some x ∧ x.on ∧ ρ[i]? = some (b, base)

/-- A loop's record in the model's memory: ready. -/
structure LoopAt (ρ : Rho) (I : Nat → Prop) (w : World) (L : LoopB) (l : Nat) (rec : Loop) : Prop where
  at_ : w.heap[l]? = some (.loop rec)
  ready : rec.state = if L.pend.isNone then .ready else .done
  pend : rec.pending = L.pend
  ps : rec.params = L.ps
  assign : rec.assign = L.assign
  body : rec.body = L.body
  tlen : rec.tmps.size = L.t.length
  tv : ∀ (i : Nat) (v : V), L.t[i]? = some v → ∃ x, rec.tmps[i]? = some x ∧ RV ρ I w v x
  im : ¬ I l
/-- The records of the loops. -/
def LoopsOK (ρ : Rho) (I : Nat → Prop) (w : World) (h : List HB) : Prop :=
  ∀ (i : Nat) (L : LoopB), h[i]? = some (HB.loop L) → ∃ l base rec, ρ[i]? = some (l, base) ∧ LoopAt ρ I w L l rec
theorem LoopAt.ext {ρ ρ' : Rho} {I I' : Nat → Prop} {w w' : World} {L : LoopB} {l : Nat} {rec : Loop} (a : LoopAt ρ I w L l rec) (x : Ext ρ I w ρ' I' w') (hs : w'.heap[l]? = w.heap[l]?) (hi : ¬ I' l) : LoopAt ρ' I' w' L l rec :=
  ⟨hs.trans a.at_, a.ready, a.pend, a.ps, a.assign, a.body, a.tlen, fun i v hv => by
    obtain ⟨y, hy, hr⟩ := a.tv i v hv; exact ⟨y, hy, hr.ext x⟩, hi⟩
/-- The records stay, where the memory that holds them stays. -/
theorem LoopsOK.ext {ρ ρ' : Rho} {I I' : Nat → Prop} {w w' : World} {h h' : List HB} (a : LoopsOK ρ I w h) (x : Ext ρ I w ρ' I' w') (hs : ∀ l rec, w.heap[l]? = some (.loop rec) → ¬ I l → w'.heap[l]? = w.heap[l]? ∧ ¬ I' l)
    (hh : ∀ (i : Nat) (L : LoopB), h'[i]? = some (HB.loop L) → h[i]? = some (HB.loop L)) : LoopsOK ρ' I' w' h' := by
  intro i L hi
  obtain ⟨l, base, rec, h1, h2⟩ := a i L (hh i L hi)
  obtain ⟨e, hn⟩ := hs l rec h2.at_ h2.im
  exact ⟨l, base, rec, x.rho _ _ h1, h2.ext x e hn⟩
theorem lp_app {h : List HB} {x : HB} (hx : ∀ L, x ≠ .loop L) (i : Nat) (L : LoopB) (hi : (h ++ [x])[i]? = some (HB.loop L)) : h[i]? = some (HB.loop L) := by
  rcases Nat.lt_trichotomy i h.length with hlt | rfl | hgt
  · rwa [List.getElem?_append_left hlt] at hi
  · simp at hi; exact absurd hi (hx L)
  · rw [List.getElem?_eq_none (by simp; omega)] at hi; cases hi
theorem lp_set {h : List HB} {b : Nat} {x : HB} (hx : ∀ L, x ≠ .loop L) (i : Nat) (L : LoopB) (hi : (h.set b x)[i]? = some (HB.loop L)) : h[i]? = some (HB.loop L) := by
  by_cases e : b = i
  · subst e
    rw [List.getElem?_set] at hi
    simp only [if_true] at hi
    split at hi
    · simp only [Option.some.injEq] at hi; exact absurd hi (hx L)
    · cases hi
  · rwa [List.getElem?_set_ne e] at hi
theorem LoopsOK.nil (ρ : Rho) (I : Nat → Prop) (w : World) : LoopsOK ρ I w [] := by intro i L h; simp at h

/-- The model's memory holds an abstract heap. -/
structure RH (ρ : Rho) (I : Nat → Prop) (w : World) (h : List HB) : Prop where
  len : ρ.length = h.length
  row : ∀ (i : Nat) (cs : List V), h[i]? = some (HB.live cs) → ∃ (rb base : Nat) (c : Array Value) (e : TypeId) (fr : Nat × Nat), ρ[i]? = some (rb, base) ∧ w.heap[rb]? = some (.cells c e fr) ∧ base + cs.length ≤ c.size ∧
    (∀ (j : Nat) (v : V), cs[j]? = some v → ∃ x, c[base + j]? = some x ∧ RV ρ I w v x) ∧ (∀ (j : Nat), base ≤ j → j < c.size → ¬ (fr.1 ≤ j ∧ j < fr.2)) ∧ ¬ I rb
  inj : ∀ (i j : Nat) (x y : HB) (rb b1 b2 : Nat), h[i]? = some x → x.on → h[j]? = some y → y.on → ρ[i]? = some (rb, b1) → ρ[j]? = some (rb, b2) → i = j
  imlt : ∀ (b : Nat), I b → b < w.heap.size
  lp : LoopsOK ρ I w h

theorem RH.lt {ρ : Rho} {I : Nat → Prop} {w : World} {h : List HB} (H : RH ρ I w h) {b : Nat} (hl : Live h ρ b) : b < w.heap.size ∧ ¬ I b := by
  obtain ⟨i, x, base, h1, hx, h2⟩ := hl
  cases x with
  | dead => exact hx.elim
  | live cs =>
    obtain ⟨rb, base', c, e, fr, h3, h4, _, _, _, h5⟩ := H.row i cs h1
    rw [h2] at h3; cases h3
    exact ⟨(Array.getElem?_eq_some_iff.1 h4).1, h5⟩
  | loop L =>
    obtain ⟨l, base', rec, h3, A⟩ := H.lp i L h1
    rw [h2] at h3; cases h3
    exact ⟨(Array.getElem?_eq_some_iff.1 A.at_).1, A.im⟩
theorem live_row {h : List HB} {ρ : Rho} {i : Nat} {cs : List V} {b base : Nat} (h1 : h[i]? = some (.live cs)) (h2 : ρ[i]? = some (b, base)) : Live h ρ b := ⟨i, _, base, h1, trivial, h2⟩
theorem on_set {h : List HB} {b i : Nat} {x y : HB} (hi : (h.set b x)[i]? = some y) (hy : y.on) : (i ≠ b ∧ h[i]? = some y) ∨ (i = b ∧ y = x ∧ b < h.length) := by
  by_cases e : b = i
  · subst e
    rw [List.getElem?_set] at hi
    simp only [if_true] at hi
    split at hi
    · simp only [Option.some.injEq] at hi; exact .inr ⟨rfl, hi.symm, by assumption⟩
    · cases hi
  · rw [List.getElem?_set_ne e] at hi; exact .inl ⟨fun h => e h.symm, hi⟩
theorem on_app {h : List HB} {i : Nat} {x y : HB} (hi : (h ++ [x])[i]? = some y) : (h[i]? = some y ∧ i < h.length) ∨ (i = h.length ∧ y = x) := by
  rcases Nat.lt_trichotomy i h.length with hlt | rfl | hgt
  · rw [List.getElem?_append_left hlt] at hi; exact .inl ⟨hi, hlt⟩
  · simp at hi; exact .inr ⟨rfl, hi.symm⟩
  · rw [List.getElem?_eq_none (by simp; omega)] at hi; cases hi

/-- What a piece of a run keeps: all but the blocks of the heap that it was handed. -/
structure Keep (h : List HB) (ρ : Rho) (I : Nat → Prop) (w : World) (h' : List HB) (ρ' : Rho) (I' : Nat → Prop) (w' : World) : Prop where
  os : w'.os = w.os
  tape : w'.tape = w.tape
  output : w'.output = w.output
  size : w.heap.size ≤ w'.heap.size
  rho : ∀ (i : Nat) (p : Nat × Nat), ρ[i]? = some p → ρ'[i]? = some p
  im : ∀ (b : Nat), I b → I' b
  same : ∀ (b : Nat), b < w.heap.size → ¬ Live h ρ b → w'.heap[b]? = w.heap[b]?
  sz : ∀ (b : Nat) (c : Array Value) (e : TypeId) (fr : Nat × Nat), w.heap[b]? = some (.cells c e fr) → ∃ (c' : Array Value) (e' : TypeId) (fr' : Nat × Nat), w'.heap[b]? = some (.cells c' e' fr') ∧ c'.size = c.size
  im' : ∀ (b : Nat), b < w.heap.size → I' b → I b ∨ Live h ρ b
  live' : ∀ (b : Nat), b < w.heap.size → Live h' ρ' b → Live h ρ b

theorem Keep.refl (h : List HB) (ρ : Rho) (I : Nat → Prop) (w : World) : Keep h ρ I w h ρ I w :=
  ⟨rfl, rfl, rfl, Nat.le_refl _, fun _ _ h => h, fun _ h => h, fun _ _ _ => rfl, fun _ c e fr h => ⟨c, e, fr, h, rfl⟩, fun _ _ h => .inl h, fun _ _ h => h⟩

theorem Keep.trans {h0 h1 h2 : List HB} {ρ0 ρ1 ρ2 : Rho} {I0 I1 I2 : Nat → Prop} {w0 w1 w2 : World}
    (a : Keep h0 ρ0 I0 w0 h1 ρ1 I1 w1) (b : Keep h1 ρ1 I1 w1 h2 ρ2 I2 w2) : Keep h0 ρ0 I0 w0 h2 ρ2 I2 w2 where
  os := b.os.trans a.os
  tape := b.tape.trans a.tape
  output := b.output.trans a.output
  size := Nat.le_trans a.size b.size
  rho := fun i p h => b.rho i p (a.rho i p h)
  im := fun i h => b.im i (a.im i h)
  same := fun i hi hl => (b.same i (Nat.lt_of_lt_of_le hi a.size) (fun hl' => hl (a.live' i hi hl'))).trans (a.same i hi hl)
  sz := fun i c e fr h => by
    obtain ⟨c1, e1, f1, g1, z1⟩ := a.sz i c e fr h
    obtain ⟨c2, e2, f2, g2, z2⟩ := b.sz i c1 e1 f1 g1
    exact ⟨c2, e2, f2, g2, z2.trans z1⟩
  im' := fun i hi h => by
    rcases b.im' i (Nat.lt_of_lt_of_le hi a.size) h with h | h
    · exact a.im' i hi h
    · exact .inr (a.live' i hi h)
  live' := fun i hi h => a.live' i hi (b.live' i (Nat.lt_of_lt_of_le hi a.size) h)

theorem Keep.ext {h h' : List HB} {ρ ρ' : Rho} {I I' : Nat → Prop} {w w' : World} (H : RH ρ I w h) (k : Keep h ρ I w h' ρ' I' w') : Ext ρ I w ρ' I' w' :=
  ⟨k.rho, k.im, fun b hb => k.same b (H.imlt b hb) (fun hl => (H.lt hl).2 hb), k.sz⟩

/-- What a piece of a run keeps, where the first N of the heap's blocks stay where they are; the others may be forgotten. -/
structure KeepN (N : Nat) (h : List HB) (ρ : Rho) (I : Nat → Prop) (w : World) (h' : List HB) (ρ' : Rho) (I' : Nat → Prop) (w' : World) : Prop where
  os : w'.os = w.os
  tape : w'.tape = w.tape
  output : w'.output = w.output
  size : w.heap.size ≤ w'.heap.size
  rho : ∀ (i : Nat) (p : Nat × Nat), i < N → ρ[i]? = some p → ρ'[i]? = some p
  im : ∀ (b : Nat), I b → I' b
  same : ∀ (b : Nat), b < w.heap.size → ¬ Live h ρ b → w'.heap[b]? = w.heap[b]?
  sz : ∀ (b : Nat) (c : Array Value) (e : TypeId) (fr : Nat × Nat), w.heap[b]? = some (.cells c e fr) → ∃ (c' : Array Value) (e' : TypeId) (fr' : Nat × Nat), w'.heap[b]? = some (.cells c' e' fr') ∧ c'.size = c.size
  im' : ∀ (b : Nat), b < w.heap.size → I' b → I b ∨ Live h ρ b
  live' : ∀ (b : Nat), b < w.heap.size → Live h' ρ' b → Live h ρ b

theorem Keep.toN {h h' : List HB} {ρ ρ' : Rho} {I I' : Nat → Prop} {w w' : World} (k : Keep h ρ I w h' ρ' I' w') (N : Nat) : KeepN N h ρ I w h' ρ' I' w' :=
  ⟨k.os, k.tape, k.output, k.size, fun i p _ => k.rho i p, k.im, k.same, k.sz, k.im', k.live'⟩

theorem KeepN.full {N : Nat} {h h' : List HB} {ρ ρ' : Rho} {I I' : Nat → Prop} {w w' : World} (k : KeepN N h ρ I w h' ρ' I' w') (hN : ρ.length ≤ N) : Keep h ρ I w h' ρ' I' w' :=
  ⟨k.os, k.tape, k.output, k.size, fun i p hp => k.rho i p (Nat.lt_of_lt_of_le (List.getElem?_eq_some_iff.1 hp).1 hN) hp, k.im, k.same, k.sz, k.im', k.live'⟩

theorem KeepN.trans {N : Nat} {h0 h1 h2 : List HB} {ρ0 ρ1 ρ2 : Rho} {I0 I1 I2 : Nat → Prop} {w0 w1 w2 : World}
    (a : KeepN N h0 ρ0 I0 w0 h1 ρ1 I1 w1) (b : KeepN N h1 ρ1 I1 w1 h2 ρ2 I2 w2) : KeepN N h0 ρ0 I0 w0 h2 ρ2 I2 w2 where
  os := b.os.trans a.os
  tape := b.tape.trans a.tape
  output := b.output.trans a.output
  size := Nat.le_trans a.size b.size
  rho := fun i p hi h => b.rho i p hi (a.rho i p hi h)
  im := fun i h => b.im i (a.im i h)
  same := fun i hi hl => (b.same i (Nat.lt_of_lt_of_le hi a.size) (fun hl' => hl (a.live' i hi hl'))).trans (a.same i hi hl)
  sz := fun i c e fr h => by
    obtain ⟨c1, e1, f1, g1, z1⟩ := a.sz i c e fr h
    obtain ⟨c2, e2, f2, g2, z2⟩ := b.sz i c1 e1 f1 g1
    exact ⟨c2, e2, f2, g2, z2.trans z1⟩
  im' := fun i hi h => by
    rcases b.im' i (Nat.lt_of_lt_of_le hi a.size) h with h | h
    · exact a.im' i hi h
    · exact .inr (a.live' i hi h)
  live' := fun i hi h => a.live' i hi (b.live' i (Nat.lt_of_lt_of_le hi a.size) h)

theorem KeepN.refl (N : Nat) (h : List HB) (ρ : Rho) (I : Nat → Prop) (w : World) : KeepN N h ρ I w h ρ I w := (Keep.refl h ρ I w).toN N

/-- A state: temporaries, heap. -/
structure St where
  t : List V
  h : List HB

/-- The mark on an activation that has run a range over a function. -/
def markD (D : Nat) : Deferred := { target := .collected D, args := #[] }

/-- The model's activation and memory hold a state. -/
structure RS (ρ : Rho) (I : Nat → Prop) (w : World) (s : St) (a : Act) : Prop where
  tlen : a.tmps.size = s.t.length
  tv : ∀ (i : Nat) (v : V), s.t[i]? = some v → ∃ x, a.tmps[i]? = some x ∧ RV ρ I w v x
  heap : RH ρ I w s.h
  marks : ∃ Ds : List Nat, a.defers = Ds.map markD ∧ Ds.Nodup ∧ ∀ D ∈ Ds, D < w.heap.size ∧ ¬ Live s.h ρ D ∧ ¬ I D ∧ w.heap[D]? = some (.deferred (some []))

theorem marks_keep {h h' : List HB} {ρ ρ' : Rho} {I I' : Nat → Prop} {w w' : World} {N : Nat} (k : KeepN N h ρ I w h' ρ' I' w') {ds : List Deferred}
    (m : ∃ Ds : List Nat, ds = Ds.map markD ∧ Ds.Nodup ∧ ∀ D ∈ Ds, D < w.heap.size ∧ ¬ Live h ρ D ∧ ¬ I D ∧ w.heap[D]? = some (.deferred (some []))) :
    ∃ Ds : List Nat, ds = Ds.map markD ∧ Ds.Nodup ∧ ∀ D ∈ Ds, D < w'.heap.size ∧ ¬ Live h' ρ' D ∧ ¬ I' D ∧ w'.heap[D]? = some (.deferred (some [])) := by
  obtain ⟨Ds, e, hn, hD⟩ := m
  refine ⟨Ds, e, hn, fun D hd => ?_⟩
  obtain ⟨h1, h2, h3, h4⟩ := hD D hd
  exact ⟨Nat.lt_of_lt_of_le h1 k.size, fun h => h2 (k.live' D h1 h), fun h => (k.im' D h1 h).elim h3 h2, (k.same D h1 h2).trans h4⟩

/-- What marks a piece of a run may add. -/
def Mk (ds : List Deferred) (n : Nat) (ds' : List Deferred) : Prop := ∃ Ds : List Nat, ds' = Ds.map markD ++ ds ∧ ∀ D ∈ Ds, n ≤ D
theorem Mk.refl (ds : List Deferred) (n : Nat) : Mk ds n ds := ⟨[], rfl, by simp⟩
theorem Mk.trans {a b c : List Deferred} {n m : Nat} (h : Mk a n b) (k : Mk b m c) (hm : n ≤ m) : Mk a n c := by
  obtain ⟨D1, rfl, h1⟩ := h
  obtain ⟨D2, rfl, h2⟩ := k
  refine ⟨D2 ++ D1, by simp, fun D hD => ?_⟩
  rcases List.mem_append.1 hD with h | h
  · exact Nat.le_trans hm (h2 D h)
  · exact h1 D h

/-- The fence that lets all in. -/
def Fw (r : Option Nat) : Fence := { Fence.wide with round := r }
theorem Fw.room (r : Option Nat) (n : Nat) : (Fw r).room n := room_wide n

def Post (N : Nat) (Q : Exit → St → Prop) (h : List HB) (ρ : Rho) (I : Nat → Prop) (w : World) (ds : List Deferred) : Exit → Act → World → Prop
  | .panic _, _, _ => False
  | .outgrown, _, _ => False
  | e, a', w' => ∃ s' ρ' I', Q e s' ∧ RS ρ' I' w' s' a' ∧ KeepN N h ρ I w s'.h ρ' I' w' ∧ Mk ds w.heap.size a'.defers

/-- No range over a function in the code itself. -/
def noRange : Code → Bool
  | .seq a b => noRange a && noRange b
  | .cond _ a b => noRange a && noRange b
  | .block _ a => noRange a
  | .loop a => noRange a
  | .scope a => noRange a
  | .rangeFunc _ _ _ _ => false
  | _ => true
/-- In a round's frame, no range over a function is entered. -/
def Okr (r : Option Nat) (c : Code) : Prop := r.isSome = true → noRange c = true
theorem Okr.l {r : Option Nat} {a b : Code} (h : Okr r (.seq a b)) : Okr r a := fun q => by have := h q; simp only [noRange, Bool.and_eq_true] at this; exact this.1
theorem Okr.r {r : Option Nat} {a b : Code} (h : Okr r (.seq a b)) : Okr r b := fun q => by have := h q; simp only [noRange, Bool.and_eq_true] at this; exact this.2
theorem Okr.cl {r : Option Nat} {c : Operand} {a b : Code} (h : Okr r (.cond c a b)) : Okr r a := fun q => by have := h q; simp only [noRange, Bool.and_eq_true] at this; exact this.1
theorem Okr.cr {r : Option Nat} {c : Operand} {a b : Code} (h : Okr r (.cond c a b)) : Okr r b := fun q => by have := h q; simp only [noRange, Bool.and_eq_true] at this; exact this.2
theorem Okr.block {r : Option Nat} {i : Nat} {a : Code} (h : Okr r (.block i a)) : Okr r a := fun q => by have := h q; simpa only [noRange] using this
theorem Okr.loop {r : Option Nat} {a : Code} (h : Okr r (.loop a)) : Okr r a := fun q => by have := h q; simpa only [noRange] using this
theorem Okr.scope {r : Option Nat} {a : Code} (h : Okr r (.scope a)) : Okr r a := fun q => by have := h q; simpa only [noRange] using this
theorem Okr.none (c : Code) : Okr none c := fun h => by cases h
/-- The abstract weakest precondition. -/
def AW (P : Program) (N : Nat) (c : Code) (Q : Exit → St → Prop) (s : St) : Prop :=
  ∀ (r : Option Nat) (_ : Okr r c) (ρ : Rho) (I : Nat → Prop) (w : World) (a : Act), RS ρ I w s a → c.wpIn (Fw r) 0 P (Post N Q s.h ρ I w a.defers) a w

/-- A function with a Go body. -/
def Enters (P : Program) (f : FuncId) : Prop := ∀ args w, (callFunc f args).run P w = .ok (.enter f args) w

/-- What a call of the model does: it enters a body, or it is one of the model's own. -/
def RC (P : Program) (f : FuncId) (vs : Array Value) (w : World) (R : Value → World → Prop) : Prop :=
  ((callFunc f vs).run P w = .ok (.enter f vs) w ∧ CallsIn (Fw none) 0 P f vs w fun e w' => ∃ x, e = .returned x ∧ R x w') ∨
  ∃ x w', (callFunc f vs).run P w = .ok (.value x) w' ∧ R x w'

theorem RC.mono {P : Program} {f : FuncId} {vs : Array Value} {w : World} {R R' : Value → World → Prop} (h : RC P f vs w R) (hr : ∀ x w', R x w' → R' x w') : RC P f vs w R' := by
  rcases h with ⟨h1, h2⟩ | ⟨x, w', h1, h2⟩
  · exact .inl ⟨h1, h2.mono fun e w' ⟨x, e1, e2⟩ => ⟨x, e1, hr x w' e2⟩⟩
  · exact .inr ⟨x, w', h1, hr x w' h2⟩

/-- The abstract contract of a call. -/
def AC (P : Program) (f : FuncId) (args : List V) (h : List HB) (R : V → List HB → Prop) : Prop :=
  ∀ (ρ : Rho) (I : Nat → Prop) (w : World) (vs : Array Value), args.length = vs.size → (∀ (i : Nat) (v : V) (x : Value), args[i]? = some v → vs[i]? = some x → RV ρ I w v x) → RH ρ I w h →
    RC P f vs w fun x w' => ∃ v h' ρ' I', R v h' ∧ RV ρ' I' w' v x ∧ RH ρ' I' w' h' ∧ Keep h ρ I w h' ρ' I' w'

section rules
variable {P : Program} {N : Nat} {Q Q' : Exit → St → Prop} {s : St}

theorem Post.mono {h : List HB} {ρ : Rho} {I : Nat → Prop} {w : World} {ds : List Deferred} (hq : ∀ e s, Q e s → Q' e s) {e : Exit} {a : Act} {w' : World} (p : Post N Q h ρ I w ds e a w') : Post N Q' h ρ I w ds e a w' := by
  cases e with
  | panic c => exact p.elim
  | outgrown => exact p.elim
  | normal => obtain ⟨s', ρ', I', q, r⟩ := p; exact ⟨s', ρ', I', hq _ _ q, r⟩
  | ret => obtain ⟨s', ρ', I', q, r⟩ := p; exact ⟨s', ρ', I', hq _ _ q, r⟩
  | exit i => obtain ⟨s', ρ', I', q, r⟩ := p; exact ⟨s', ρ', I', hq _ _ q, r⟩
  | goto i => obtain ⟨s', ρ', I', q, r⟩ := p; exact ⟨s', ρ', I', hq _ _ q, r⟩

theorem Post.before {h h1 : List HB} {ρ ρ1 : Rho} {I I1 : Nat → Prop} {w w1 : World} {ds ds1 : List Deferred} (k : KeepN N h ρ I w h1 ρ1 I1 w1) (m : Mk ds w.heap.size ds1) {e : Exit} {a : Act} {w' : World}
    (p : Post N Q h1 ρ1 I1 w1 ds1 e a w') : Post N Q h ρ I w ds e a w' := by
  cases e with
  | panic c => exact p.elim
  | outgrown => exact p.elim
  | normal => obtain ⟨s', ρ', I', q, r, k', m'⟩ := p; exact ⟨s', ρ', I', q, r, k.trans k', m.trans m' k.size⟩
  | ret => obtain ⟨s', ρ', I', q, r, k', m'⟩ := p; exact ⟨s', ρ', I', q, r, k.trans k', m.trans m' k.size⟩
  | exit i => obtain ⟨s', ρ', I', q, r, k', m'⟩ := p; exact ⟨s', ρ', I', q, r, k.trans k', m.trans m' k.size⟩
  | goto i => obtain ⟨s', ρ', I', q, r, k', m'⟩ := p; exact ⟨s', ρ', I', q, r, k.trans k', m.trans m' k.size⟩

theorem AW.mono {c : Code} (h : AW P N c Q s) (hq : ∀ e s, Q e s → Q' e s) : AW P N c Q' s :=
  fun r hr ρ I w a hs => wpIn_mono (h r hr ρ I w a hs) fun _ _ _ p => p.mono hq

def thenK (K : St → Prop) (Q : Exit → St → Prop) : Exit → St → Prop
  | .normal, s => K s
  | e, s => Q e s
@[simp] theorem thenK_normal (K : St → Prop) (Q : Exit → St → Prop) (s : St) : thenK K Q .normal s = K s := rfl
@[simp] theorem thenK_ret (K : St → Prop) (Q : Exit → St → Prop) (s : St) : thenK K Q .ret s = Q .ret s := rfl
@[simp] theorem thenK_exit (K : St → Prop) (Q : Exit → St → Prop) (i : Nat) (s : St) : thenK K Q (.exit i) s = Q (.exit i) s := rfl
@[simp] theorem thenK_goto (K : St → Prop) (Q : Exit → St → Prop) (i : Nat) (s : St) : thenK K Q (.goto i) s = Q (.goto i) s := rfl

def blockK (id : Nat) (Q : Exit → St → Prop) : Exit → St → Prop
  | .exit id', s => if id' = id then Q .normal s else Q (.exit id') s
  | e, s => Q e s
@[simp] theorem blockK_normal (id : Nat) (Q : Exit → St → Prop) (s : St) : blockK id Q .normal s = Q .normal s := rfl
@[simp] theorem blockK_ret (id : Nat) (Q : Exit → St → Prop) (s : St) : blockK id Q .ret s = Q .ret s := rfl
@[simp] theorem blockK_goto (id : Nat) (Q : Exit → St → Prop) (i : Nat) (s : St) : blockK id Q (.goto i) s = Q (.goto i) s := rfl
theorem blockK_exit (id i : Nat) (Q : Exit → St → Prop) (s : St) : blockK id Q (.exit i) s = if i = id then Q .normal s else Q (.exit i) s := rfl

theorem aw_skip (h : Q .normal s) : AW P N .skip Q s := fun _ _ ρ I w _ hs => wpIn_skip ⟨s, ρ, I, h, hs, KeepN.refl _ _ _ _ _, Mk.refl _ _⟩
theorem aw_label {l : Nat} (h : Q .normal s) : AW P N (.label l) Q s := fun _ _ ρ I w _ hs => wpIn_label ⟨s, ρ, I, h, hs, KeepN.refl _ _ _ _ _, Mk.refl _ _⟩
theorem aw_exit {i : Nat} (h : Q (.exit i) s) : AW P N (.exit i) Q s := fun _ _ ρ I w _ hs => wpIn_exit ⟨s, ρ, I, h, hs, KeepN.refl _ _ _ _ _, Mk.refl _ _⟩
theorem aw_goto {i : Nat} (h : Q (.goto i) s) : AW P N (.goto i) Q s := fun _ _ ρ I w _ hs => wpIn_goto ⟨s, ρ, I, h, hs, KeepN.refl _ _ _ _ _, Mk.refl _ _⟩
theorem aw_ret (h : Q .ret s) : AW P N .ret Q s := fun _ _ ρ I w _ hs => wpIn_ret ⟨s, ρ, I, h, hs, KeepN.refl _ _ _ _ _, Mk.refl _ _⟩

theorem aw_seq {x y : Code} (h : AW P N x (thenK (AW P N y Q) Q) s) : AW P N (.seq x y) Q s := by
  intro r hr ρ I w a hs
  refine wpIn_seq (wpIn_mono (h r hr.l ρ I w a hs) ?_)
  intro e a' w' p
  cases e with
  | normal =>
    obtain ⟨s', ρ', I', q, hs', k, m⟩ := p
    exact wpIn_mono (q r hr.r ρ' I' w' a' hs') fun _ _ _ p => p.before k m
  | ret => exact p
  | exit i => exact p
  | goto i => exact p
  | panic c => exact p.elim
  | outgrown => exact p.elim

theorem aw_seq_k {x y : Code} (h : ∀ K : St → Prop, (∀ s, AW P N y Q s → K s) → AW P N x (thenK K Q) s) : AW P N (.seq x y) Q s := aw_seq (h _ fun _ h => h)

theorem aw_block {id : Nat} {c : Code} (h : AW P N c (blockK id Q) s) : AW P N (.block id c) Q s := by
  intro r hr ρ I w a hs
  refine wpIn_block (wpIn_mono (h r hr.block ρ I w a hs) ?_)
  intro e a' w' p
  cases e with
  | normal => exact p
  | ret => exact p
  | exit i =>
    obtain ⟨s', ρ', I', q, hs', k, m⟩ := p
    simp only [Exit.inBlock]
    rw [blockK_exit] at q
    split at q <;> rename_i hi
    · rw [if_pos hi]; exact ⟨s', ρ', I', q, hs', k, m⟩
    · rw [if_neg hi]; exact ⟨s', ρ', I', q, hs', k, m⟩
  | goto i => exact p
  | panic c => exact p.elim
  | outgrown => exact p.elim

/-- A turn of the state that no run sees (a weaker state: less is known). -/
def Wk (N : Nat) (s s' : St) : Prop := ∀ ρ I w a, RS ρ I w s a → ∃ ρ' I', RS ρ' I' w s' a ∧ KeepN N s.h ρ I w s'.h ρ' I' w

theorem Wk.refl (s : St) : Wk N s s := fun ρ I _ _ h => ⟨ρ, I, h, KeepN.refl _ _ _ _ _⟩
theorem Wk.trans {a b c : St} (h : Wk N a b) (k : Wk N b c) : Wk N a c := fun ρ I w x hs => by
  obtain ⟨ρ1, I1, h1, k1⟩ := h ρ I w x hs
  obtain ⟨ρ2, I2, h2, k2⟩ := k ρ1 I1 w x h1
  exact ⟨ρ2, I2, h2, k1.trans k2⟩

theorem aw_wk {c : Code} {s' : St} (hk : Wk N s s') (h : AW P N c Q s') : AW P N c Q s := by
  intro r hr ρ I w a hs
  obtain ⟨ρ', I', hs', k⟩ := hk ρ I w a hs
  exact wpIn_mono (h r hr ρ' I' w a hs') fun _ _ _ p => p.before k (Mk.refl _ _)

theorem least (p : Nat → Prop) (h : ∃ n, p n) : ∃ n, p n ∧ ∀ m, p m → n ≤ m := by
  classical
  obtain ⟨n, hn⟩ := h
  induction n using Nat.strongRecOn with
  | _ n ih =>
    by_cases hm : ∃ m, m < n ∧ p m
    · obtain ⟨m, hlt, hp⟩ := hm; exact ih m hlt hp
    · exact ⟨n, hn, fun m hp => Nat.le_of_not_lt fun hlt => hm ⟨m, hlt, hp⟩⟩

/-- A loop: invariants that are states, by some parameter; a measure. -/
theorem aw_loop {c : Code} {X : Type} (J : X → St) (μ : X → Nat) (x0 : X) (h0 : Wk N s (J x0))
    (hb : ∀ x, AW P N c (thenK (fun s' => ∃ x', Wk N s' (J x') ∧ μ x' < μ x) Q) (J x)) : AW P N (.loop c) Q s := by
  intro r hr ρ I w a hs
  obtain ⟨ρ0, I0, hs0, k0⟩ := h0 ρ I w a hs
  refine wpIn_mono ?_ fun e a w p => p
  classical
  refine wpIn_loop (fun a' w' => ∃ x ρ' I', RS ρ' I' w' (J x) a' ∧ KeepN N s.h ρ I w (J x).h ρ' I' w' ∧ Mk a.defers w.heap.size a'.defers)
    (fun a' w' => if h : ∃ n x ρ' I', μ x = n ∧ RS ρ' I' w' (J x) a' ∧ KeepN N s.h ρ I w (J x).h ρ' I' w' ∧ Mk a.defers w.heap.size a'.defers then Classical.choose (least _ h) else 0)
    ⟨x0, ρ0, I0, hs0, k0, Mk.refl _ _⟩ ?_
  rintro a' w' hex
  have hex' : ∃ n x ρ' I', μ x = n ∧ RS ρ' I' w' (J x) a' ∧ KeepN N s.h ρ I w (J x).h ρ' I' w' ∧ Mk a.defers w.heap.size a'.defers := by
    obtain ⟨x, ρ', I', h⟩ := hex; exact ⟨_, x, ρ', I', rfl, h⟩
  obtain ⟨x, ρ', I', hx, hs', k', m'⟩ := (Classical.choose_spec (least _ hex')).1
  refine wpIn_mono (hb x r hr.loop ρ' I' w' a' hs') ?_
  intro e a2 w2 p
  cases e with
  | normal =>
    obtain ⟨s2, ρ2, I2, ⟨x', hw, hlt⟩, hs2, k2, m2⟩ := p
    obtain ⟨ρ3, I3, hs3, k3⟩ := hw ρ2 I2 w2 a2 hs2
    have hn : ∃ n x ρ' I', μ x = n ∧ RS ρ' I' w2 (J x) a2 ∧ KeepN N s.h ρ I w (J x).h ρ' I' w2 ∧ Mk a.defers w.heap.size a2.defers := ⟨_, x', ρ3, I3, rfl, hs3, (k'.trans k2).trans k3, m'.trans m2 k'.size⟩
    refine ⟨⟨x', ρ3, I3, hs3, (k'.trans k2).trans k3, m'.trans m2 k'.size⟩, ?_⟩
    rw [dif_pos hn, dif_pos hex']
    refine Nat.lt_of_le_of_lt ((Classical.choose_spec (least _ hn)).2 _ ⟨x', ρ3, I3, rfl, hs3, (k'.trans k2).trans k3, m'.trans m2 k'.size⟩) ?_
    rw [← hx]; exact hlt
  | ret => exact Post.before k' m' p
  | exit i => exact Post.before k' m' p
  | goto i => exact Post.before k' m' p
  | panic c => exact p.elim
  | outgrown => exact p.elim
end rules
end Go.Abs
/- The abstract machine, part 2: heaps grow, are read and written. -/
namespace Go.Abs
open Go Go.RowKit

def ofS : Value → V
  | .bool b => .bool b
  | .int k n => .int k n
  | .string s => .str s
  | .pointer none => .nilp
  | .slice none 0 0 => .nils
  | .nilFunc => .nilf
  | _ => .any

def ofC : Value → V
  | .agg cs => .agg (cs.toList.map ofS)
  | v => ofS v

/-- The value at a place. -/
def nth : List V → Nat → V
  | [], _ => .any
  | v :: _, 0 => v
  | _ :: l, n + 1 => nth l n

theorem nth_eq : ∀ (l : List V) (i : Nat), nth l i = l.getD i .any
  | [], i => by simp [nth]
  | v :: l, 0 => by simp [nth]
  | v :: l, i + 1 => by rw [nth, nth_eq l i]; simp

def ev (t : List V) : Operand → V
  | .tmp i => nth t i
  | .const v => ofC v
  | .global _ => .any
  | .func f => .fn f []

section
variable {ρ : Rho} {I : Nat → Prop} {w : World}

theorem rv_ofS (x : Value) : RV ρ I w (ofS x) x := by
  unfold ofS
  split <;> first | exact .bool _ | exact .int _ _ | exact .str _ | exact .nilp | exact .nils | exact .nilf | exact .any _

theorem rv_list {cs : List V} {vs : Array Value} (h : ∀ (i : Nat) (x : Value), vs[i]? = some x → cs[i]? = some (ofS x)) :
    ∀ (i : Nat) (v : V) (x : Value), cs[i]? = some v → vs[i]? = some x → RV ρ I w v x := by
  intro i v x hv hx
  have := h i x hx
  rw [hv] at this; cases this
  exact rv_ofS x

theorem rv_ofC (x : Value) : RV ρ I w (ofC x) x := by
  unfold ofC
  split
  · rename_i cs
    exact .agg (by simp) (rv_list (by intro i x hx; simp [List.getElem?_map, hx]))
  · exact rv_ofS _

theorem rv_ev {s : St} {a : Act} (hs : RS ρ I w s a) (x : Operand) : RV ρ I w (ev s.t x) (a.eval x) := by
  cases x with
  | tmp i =>
    simp only [ev, Act.eval, nth_eq]
    rcases Nat.lt_or_ge i s.t.length with h | h
    · obtain ⟨x, hx, hr⟩ := hs.tv i s.t[i] (by simp [h])
      rw [List.getD_eq_getElem?_getD, List.getElem?_eq_getElem h, Array.getD_eq_getD_getElem?, hx]
      exact hr
    · rw [List.getD_eq_getElem?_getD, List.getElem?_eq_none h]
      exact .any _
  | const v => exact rv_ofC v
  | global g => exact .any _
  | func f => exact .fn (by simp) (by intro i v x h; simp at h)

/-- A value that one cell holds. -/
def V.one : V → Bool
  | .any | .agg _ | .tup _ => false
  | _ => true

theorem rv_one {v : V} {x : Value} (h : RV ρ I w v x) (h1 : v.one = true) : x.oneCell' = true := by
  cases h <;> first | rfl | (simp [V.one] at h1)

/-- The cells of a value. -/
def V.cells? : V → Option (List V)
  | .any => none
  | .tup _ => none
  | .agg cs => some cs
  | v => some [v]

theorem rv_cells {v : V} {x : Value} {cs : List V} (h : RV ρ I w v x) (hc : v.cells? = some cs) :
    x.cells.size = cs.length ∧ ∀ (i : Nat) (u : V), cs[i]? = some u → ∃ y, x.cells[i]? = some y ∧ RV ρ I w u y := by
  have one : ∀ {v : V} {x : Value}, RV ρ I w v x → x.cells = #[x] → [v] = cs → x.cells.size = cs.length ∧ ∀ (i : Nat) (u : V), cs[i]? = some u → ∃ y, x.cells[i]? = some y ∧ RV ρ I w u y := by
    intro v x h hx hc
    subst hc
    rw [hx]
    refine ⟨rfl, fun i u hu => ?_⟩
    cases i with
    | zero => simp at hu; subst hu; exact ⟨x, rfl, h⟩
    | succ i => simp at hu
  cases h with
  | any x => simp [V.cells?] at hc
  | tup hl hv => simp [V.cells?] at hc
  | agg hl hv =>
    simp only [V.cells?, Option.some.injEq] at hc
    subst hc
    refine ⟨by simp [Value.cells, hl], fun i u hu => ?_⟩
    have hi := (List.getElem?_eq_some_iff.1 hu).1
    refine ⟨_, Array.getElem?_eq_getElem (by simp [Value.cells]; omega), hv i u _ hu ?_⟩
    simp [Value.cells]
  | bool b => exact one (.bool b) rfl (by simpa [V.cells?] using hc)
  | int k n => exact one (.int k n) rfl (by simpa [V.cells?] using hc)
  | str s => exact one (.str s) rfl (by simpa [V.cells?] using hc)
  | nilp => exact one .nilp rfl (by simpa [V.cells?] using hc)
  | ptr h => exact one (.ptr h) rfl (by simpa [V.cells?] using hc)
  | vptr f hI hcc hv => exact one (.vptr f hI hcc hv) rfl (by simpa [V.cells?] using hc)
  | nils => exact one .nils rfl (by simpa [V.cells?] using hc)
  | slc h h1 h2 hb hs => exact one (.slc h h1 h2 hb hs) rfl (by simpa [V.cells?] using hc)
  | vec f hI hcc hv h1 hx => exact one (.vec f hI hcc hv h1 hx) rfl (by simpa [V.cells?] using hc)
  | vecn x => exact one (.vecn x _) rfl (by simpa [V.cells?] using hc)
  | nilf => exact one .nilf rfl (by simpa [V.cells?] using hc)
  | yld h => exact one (.yld h) rfl (by simpa [V.cells?] using hc)
  | fn hl hv => exact one (.fn hl hv) rfl (by simpa [V.cells?] using hc)

/-- A draw. -/
theorem Keep.drew (h : List HB) (ρ : Rho) (I : Nat → Prop) (w : World) : Keep h ρ I w h ρ I w.drew :=
  ⟨rfl, rfl, rfl, Nat.le_refl _, fun _ _ h => h, fun _ h => h, fun _ _ _ => rfl, fun _ c e fr h => ⟨c, e, fr, h, rfl⟩, fun _ _ h => .inl h, fun _ _ h => h⟩

theorem RH.ext' {h : List HB} {w' : World} (H : RH ρ I w h) (hh : w'.heap = w.heap) : RH ρ I w' h where
  len := H.len
  row := fun i cs hi => by
    have x : Ext ρ I w ρ I w' := ⟨fun _ _ h => h, fun _ h => h, fun b _ => by rw [hh], fun b c e fr hb => ⟨c, e, fr, by rw [hh]; exact hb, rfl⟩⟩
    obtain ⟨rb, base, c, e, fr, h1, h2, h3, h4, h5, h6⟩ := H.row i cs hi
    refine ⟨rb, base, c, e, fr, h1, by rw [hh]; exact h2, h3, fun j v hv => ?_, h5, h6⟩
    obtain ⟨y, hy, hr⟩ := h4 j v hv
    exact ⟨y, hy, hr.ext x⟩
  inj := H.inj
  imlt := fun b hb => by rw [hh]; exact H.imlt b hb
  lp := H.lp.ext ⟨fun _ _ h => h, fun _ h => h, fun b _ => by rw [hh], fun b c e fr hb => ⟨c, e, fr, by rw [hh]; exact hb, rfl⟩⟩ (fun l rec _ hi => ⟨by rw [hh], hi⟩) (fun _ _ h => h)

theorem RH.drew {h : List HB} (H : RH ρ I w h) : RH ρ I w.drew h := H.ext' rfl

theorem getElem?_append_some {α : Type} {l : List α} {x y : α} {i : Nat} (h : l[i]? = some x) : (l ++ [y])[i]? = some x := by
  have := (List.getElem?_eq_some_iff.1 h).1
  rw [List.getElem?_append_left this]; exact h

theorem cell_of {w : World} {rb : Nat} {c : Array Value} {e : TypeId} {fr : Nat × Nat} (h : w.heap[rb]? = some (.cells c e fr)) (i : Nat) : w.cell? ⟨rb, i, none⟩ = c[i]? := by
  simp [World.cell?, h]

/-- A new block. -/
theorem RH.alloc {h : List HB} (H : RH ρ I w h) {c : Array Value} {e : TypeId} {cs : List V} (hl : cs.length ≤ c.size)
    (hv : ∀ (j : Nat) (v : V), cs[j]? = some v → ∃ x, c[j]? = some x ∧ RV ρ I w v x) :
    RH (ρ ++ [(w.heap.size, 0)]) I (w.alloc (.cells c e)) (h ++ [.live cs]) ∧
      Keep h ρ I w (h ++ [.live cs]) (ρ ++ [(w.heap.size, 0)]) I (w.alloc (.cells c e)) := by
  have old : ∀ b, b < w.heap.size → (w.alloc (.cells c e)).heap[b]? = w.heap[b]? := fun b hb => Below.heap_alloc _ _ _ hb
  have lt : ∀ {b : Nat} {o : Obj}, w.heap[b]? = some o → b < w.heap.size := fun h => (Array.getElem?_eq_some_iff.1 h).1
  have x : Ext ρ I w (ρ ++ [(w.heap.size, 0)]) I (w.alloc (.cells c e)) :=
    ⟨fun i p hp => getElem?_append_some hp, fun _ h => h, fun b hb => old b (H.imlt b hb), fun b c e fr hb => ⟨c, e, fr, (old b (lt hb)).trans hb, rfl⟩⟩
  have inv : ∀ (i : Nat) (q : List V), (h ++ [HB.live cs])[i]? = some (.live q) → (h[i]? = some (.live q) ∧ i < h.length) ∨ (i = h.length ∧ q = cs) := by
    intro i q hi
    rcases Nat.lt_trichotomy i h.length with hlt | rfl | hgt
    · rw [List.getElem?_append_left hlt] at hi; exact .inl ⟨hi, hlt⟩
    · simp at hi; exact .inr ⟨rfl, hi.symm⟩
    · rw [List.getElem?_eq_none (by simp; omega)] at hi; cases hi
  have rinv : ∀ (i : Nat) (p : Nat × Nat), (ρ ++ [(w.heap.size, 0)])[i]? = some p → i < h.length → ρ[i]? = some p := by
    intro i p hp hi
    rwa [List.getElem?_append_left (by rw [H.len]; exact hi)] at hp
  have rnew : ∀ (p : Nat × Nat), (ρ ++ [(w.heap.size, 0)])[h.length]? = some p → p = (w.heap.size, 0) := by
    intro p hp; rw [← H.len] at hp; simp at hp; exact hp.symm
  constructor
  · refine ⟨by simp [H.len], ?_, ?_, fun b hb => by simp; exact Nat.lt_succ_of_lt (H.imlt b hb), H.lp.ext x (fun l rec h1 hi => ⟨old l (lt h1), hi⟩) (lp_app (by intro L e; cases e))⟩
    · intro i q hi
      rcases inv i q hi with ⟨hi, hlt⟩ | ⟨rfl, rfl⟩
      · obtain ⟨rb, base, c', e', fr, h1, h2, h3, h4, h5, h6⟩ := H.row i q hi
        refine ⟨rb, base, c', e', fr, x.rho _ _ h1, (old rb (lt h2)).trans h2, h3, fun j v hv => ?_, h5, h6⟩
        obtain ⟨y, hy, hr⟩ := h4 j v hv
        exact ⟨y, hy, hr.ext x⟩
      · refine ⟨w.heap.size, 0, c, e, (0, 0), by rw [← H.len]; simp, (show (w.heap.push _)[w.heap.size]? = _ from by simp), by simpa using hl, fun j v hj => ?_, fun j _ _ => by simp, fun hI => Nat.lt_irrefl _ (H.imlt _ hI)⟩
        obtain ⟨y, hy, hr⟩ := hv j v hj
        exact ⟨y, by simpa using hy, hr.ext x⟩
    · intro i j q1 q2 rb b1 b2 hi o1 hj o2 hp1 hp2
      rcases on_app hi with ⟨hi', hlt⟩ | ⟨hi', _⟩
      · rcases on_app hj with ⟨hj', hlt'⟩ | ⟨hj', _⟩
        · exact H.inj i j q1 q2 rb b1 b2 hi' o1 hj' o2 (rinv _ _ hp1 hlt) (rinv _ _ hp2 hlt')
        · subst hj'
          have := rnew _ hp2; cases this
          have := (H.lt ⟨i, q1, b1, hi', o1, rinv _ _ hp1 hlt⟩).1
          omega
      · rcases on_app hj with ⟨hj', hlt'⟩ | ⟨hj', _⟩
        · subst hi'
          have := rnew _ hp1; cases this
          have := (H.lt ⟨j, q2, b2, hj', o2, rinv _ _ hp2 hlt'⟩).1
          omega
        · rw [hi', hj']
  · refine ⟨rfl, rfl, rfl, by simp, x.rho, fun _ h => h, fun b hb _ => old b hb, x.sz, fun b _ hb => .inl hb, ?_⟩
    rintro b hb ⟨i, q, base, hi, o, hp⟩
    rcases on_app hi with ⟨hi, hlt⟩ | ⟨rfl, rfl⟩
    · exact ⟨i, q, base, hi, o, rinv _ _ hp hlt⟩
    · have := rnew _ hp; cases this; omega

theorem setCell_row {w : World} {rb : Nat} {c : Array Value} {e : TypeId} {fr : Nat × Nat} (h : w.heap[rb]? = some (.cells c e fr)) (i : Nat) (x : Value) :
    (w.setCell ⟨rb, i, none⟩ x).heap[rb]? = some (.cells (c.setIfInBounds i x) e fr) := by
  simp [World.setCell, Array.getElem?_modify, h]

/-- A store of one cell. -/
theorem RH.set {h : List HB} (H : RH ρ I w h) {b o rb base : Nat} {cs : List V} (hb : h[b]? = some (.live cs)) (hp : ρ[b]? = some (rb, base)) (ho : o < cs.length)
    {v : V} {x : Value} (hv : RV ρ I w v x) (h1 : v.one = true) :
    (∃ u, w.cell? ⟨rb, base + o, none⟩ = some u) ∧ w.frozen? ⟨rb, base + o, none⟩ = false ∧
    RH ρ I (w.setCell ⟨rb, base + o, none⟩ x) (h.set b (.live (cs.set o v))) ∧
      Keep h ρ I w (h.set b (.live (cs.set o v))) ρ I (w.setCell ⟨rb, base + o, none⟩ x) := by
  obtain ⟨rb', base', c, e, fr, g1, g2, g3, g4, g5, g6⟩ := H.row b cs hb
  rw [hp] at g1; cases g1
  have hbl : b < h.length := (List.getElem?_eq_some_iff.1 hb).1
  have other : ∀ k, k ≠ rb → (w.setCell ⟨rb, base + o, none⟩ x).heap[k]? = w.heap[k]? := fun k hk => Below.heap_setCell _ _ _ _ hk
  have row := setCell_row g2 (base + o) x
  have X : Ext ρ I w ρ I (w.setCell ⟨rb, base + o, none⟩ x) :=
    ⟨fun _ _ h => h, fun _ h => h, fun k hk => other k (fun e => g6 (e ▸ hk)), fun k c' e' fr' hk => by
      by_cases e1 : k = rb
      · subst e1; rw [g2] at hk; cases hk; exact ⟨_, _, _, row, by simp⟩
      · exact ⟨c', e', fr', (other k e1).trans hk, rfl⟩⟩
  have inv : ∀ (i : Nat) (q : List V), (h.set b (.live (cs.set o v)))[i]? = some (.live q) → (i ≠ b ∧ h[i]? = some (.live q)) ∨ (i = b ∧ q = cs.set o v) := by
    intro i q hi
    by_cases e1 : i = b
    · subst e1; rw [List.getElem?_set_self hbl] at hi; cases hi; exact .inr ⟨rfl, rfl⟩
    · rw [List.getElem?_set_ne (fun e => e1 e.symm)] at hi; exact .inl ⟨e1, hi⟩
  have lv : ∀ (i : Nat) (q : HB), (h.set b (.live (cs.set o v)))[i]? = some q → q.on → ∃ q', h[i]? = some q' ∧ q'.on := by
    intro i q hi hq
    rcases on_set hi hq with ⟨_, hi⟩ | ⟨rfl, _, _⟩
    · exact ⟨q, hi, hq⟩
    · exact ⟨_, hb, trivial⟩
  refine ⟨⟨c[base + o]'(by omega), by rw [cell_of g2, Array.getElem?_eq_getElem (by omega)]⟩, ?_, ?_, ?_⟩
  · have := g5 (base + o) (by omega) (by omega)
    cases hd : w.frozen? ⟨rb, base + o, none⟩ with
    | false => rfl
    | true => simp [World.frozen?, g2] at hd; exact absurd hd this
  · refine ⟨by rw [H.len, List.length_set], ?_, ?_, fun k hk => by rw [World.size_setCell]; exact H.imlt k hk, H.lp.ext X (fun l rec h1 hi => ⟨other l (fun e => by subst e; rw [g2] at h1; cases h1), hi⟩) (lp_set (by intro L e; cases e))⟩
    · intro i q hi
      rcases inv i q hi with ⟨hne, hi⟩ | ⟨rfl, rfl⟩
      · obtain ⟨rb2, base2, c2, e2, fr2, k1, k2, k3, k4, k5, k6⟩ := H.row i q hi
        have hne2 : rb2 ≠ rb := fun e => by subst e; exact hne (H.inj i b _ _ rb2 base2 base hi trivial hb trivial k1 hp)
        refine ⟨rb2, base2, c2, e2, fr2, k1, (other rb2 hne2).trans k2, k3, fun j u hj => ?_, k5, k6⟩
        obtain ⟨y, hy, hr⟩ := k4 j u hj
        exact ⟨y, hy, hr.ext X⟩
      · refine ⟨rb, base, _, e, fr, hp, row, by simp; omega, fun j u hj => ?_, fun j k1 k2 => g5 j k1 (by simpa using k2), g6⟩
        by_cases e1 : j = o
        · subst e1
          rw [List.getElem?_set_self ho] at hj; cases hj
          exact ⟨x, by rw [Array.getElem?_setIfInBounds_self_of_lt (by omega)], hv.ext X⟩
        · rw [List.getElem?_set_ne (fun e => e1 e.symm)] at hj
          obtain ⟨y, hy, hr⟩ := g4 j u hj
          exact ⟨y, by rw [Array.getElem?_setIfInBounds_ne (by omega)]; exact hy, hr.ext X⟩
    · intro i j q1 q2 rb2 b1 b2 hi o1 hj o2 k1 k2
      obtain ⟨q1', hi', o1'⟩ := lv i q1 hi o1
      obtain ⟨q2', hj', o2'⟩ := lv j q2 hj o2
      exact H.inj i j q1' q2' rb2 b1 b2 hi' o1' hj' o2' k1 k2
  · refine ⟨rfl, rfl, rfl, by rw [World.size_setCell]; exact Nat.le_refl _, fun _ _ h => h, fun _ h => h, fun k hk hl => other k (fun e => hl (by subst e; exact live_row hb hp)), X.sz, fun k _ hk => .inl hk, ?_⟩
    rintro k hk ⟨i, q, base2, hi, o, k1⟩
    obtain ⟨q', hi', o'⟩ := lv i q hi o
    exact ⟨i, q', base2, hi', o', k1⟩

/-- Cells laid over cells. -/
def splice (cs : List V) (o : Nat) : List V → List V
  | [] => cs
  | v :: vs => splice (cs.set o v) (o + 1) vs

theorem splice_length (vs : List V) : ∀ (cs : List V) (o : Nat), (splice cs o vs).length = cs.length := by
  induction vs with
  | nil => intro cs o; rfl
  | cons v vs ih => intro cs o; simp [splice, ih]

theorem addr_add (b o i : Nat) : (⟨b, o, none⟩ : Addr).add i = ⟨b, o + i, none⟩ := by
  unfold Addr.add; split <;> simp_all

/-- A store of several cells. -/
theorem RH.sets {P : Program} (vs : List V) : ∀ (xs : List Value) {h : List HB} {w : World} (H : RH ρ I w h) {b o rb base : Nat} {cs : List V} (hb : h[b]? = some (.live cs)) (hp : ρ[b]? = some (rb, base))
    (ho : o + vs.length ≤ cs.length) (hl : xs.length = vs.length) (hv : ∀ (i : Nat) (v : V) (x : Value), vs[i]? = some v → xs[i]? = some x → RV ρ I w v x) (h1 : ∀ v ∈ vs, v.one = true) (d i : Nat) (hd : base + o = d + i),
    ∃ w', (storeCells ⟨rb, d, none⟩ xs i).run P w = .ok () w' ∧ RH ρ I w' (h.set b (.live (splice cs o vs))) ∧ Keep h ρ I w (h.set b (.live (splice cs o vs))) ρ I w' := by
  induction vs with
  | nil =>
    intro xs h w H b o rb base cs hb hp ho hl hv h1 d i hd
    have : xs = [] := List.length_eq_zero_iff.1 (by simpa using hl)
    subst this
    have e : h.set b (.live cs) = h := by
      apply List.ext_getElem?; intro j
      by_cases e1 : b = j
      · subst e1; rw [List.getElem?_set_self (List.getElem?_eq_some_iff.1 hb).1, hb]
      · rw [List.getElem?_set_ne e1]
    refine ⟨w, rfl, ?_⟩
    simp only [splice, e]
    exact ⟨H, Keep.refl _ _ _ _⟩
  | cons v vs ih =>
    intro xs h w H b o rb base cs hb hp ho hl hv h1 d i hd
    obtain ⟨x, xs, rfl⟩ : ∃ x xs', xs = x :: xs' := by
      cases xs with
      | nil => simp at hl
      | cons x xs => exact ⟨x, xs, rfl⟩
    have hb' : b < h.length := (List.getElem?_eq_some_iff.1 hb).1
    obtain ⟨⟨u, hu⟩, hf, H2, K2⟩ := H.set hb hp (o := o) (by simp at ho; omega) (hv 0 v x rfl rfl) (h1 v (by simp))
    obtain ⟨w', hr, H3, K3⟩ := ih xs H2 (b := b) (o := o + 1) (rb := rb) (base := base) (cs := cs.set o v) (by rw [List.getElem?_set_self hb']) hp (by simp at ho ⊢; omega) (by simpa using hl)
      (fun j u y hj hy => (hv (j + 1) u y (by simpa using hj) (by simpa using hy)).ext (K2.ext H)) (fun u hu => h1 u (by simp [hu])) d (i + 1) (by omega)
    refine ⟨w', ?_, ?_, ?_⟩
    · have e1 : (⟨rb, d, none⟩ : Addr).add i = ⟨rb, base + o, none⟩ := by rw [addr_add]; congr 1; omega
      simp only [storeCells, e1, Sem.run_bind]
      rw [run_store _ _ _ _ _ (rv_one (hv 0 v x rfl rfl) (h1 v (by simp)))]
      simp only [hu, hf, Bool.false_eq_true, if_false, Result.andThen_ok]
      exact hr
    · simpa [splice, List.set_set] using H3
    · have := K2.trans K3
      simpa [splice, List.set_set] using this
end
end Go.Abs
/- The abstract machine, part 3: the operations, and that they are the model's. -/
namespace Go.Abs
open Go Go.RowKit

/-- What is known of a type. -/
structure Ty where
  desc : TypeDesc
  size : Nat
  bytes : Nat
  zero : List V
  eq : Bool := false

abbrev Tab := TypeId → Option Ty

def TyOK (P : Program) (ty : Tab) : Prop := ∀ t i, ty t = some i → P.underlying t = some i.desc ∧
  ∃ ti z, P.info? t = some ti ∧ ti.size = i.size ∧ ti.bytes = i.bytes ∧ ti.zero = some z ∧ i.zero = z.cells.toList.map ofS ∧ i.zero.length = i.size ∧ (i.eq = true → P.stoodInHeld t = false ∧ P.eqGuardType P.depth t = false)

def aggD : TypeDesc → Bool
  | .struct _ | .array _ _ => true
  | _ => false

def rowOf (h : List HB) : V → Option (List V × Nat)
  | .ptr b o => match h[b]? with
    | some (.live cs) => some (cs, o)
    | _ => none
  | .vptr cs o => some (cs, o)
  | _ => none

abbrev OpR := Option (Prop × V × List HB)

def bitsOp (op : BinOp) (k : IntKind) (x y : Int) : Int :=
  k.wrap ((match op with
    | .and => BitVec.ofInt k.bits x &&& BitVec.ofInt k.bits y
    | .or => BitVec.ofInt k.bits x ||| BitVec.ofInt k.bits y
    | .xor => BitVec.ofInt k.bits x ^^^ BitVec.ofInt k.bits y
    | _ => BitVec.ofInt k.bits x &&& ~~~(BitVec.ofInt k.bits y)).toNat : Nat)

def shiftOp (op : BinOp) (k : IntKind) (x y : Int) : Int :=
  match op with
  | .shl => k.wrap (x * 2 ^ (min y.toNat k.bits))
  | _ => x.fdiv (2 ^ (min y.toNat k.bits))

/-- Two operands that are numbers. -/
def binInt (op : BinOp) (k k' : IntKind) (a b : Int) : Prop × V :=
  match op with
  | .add => (k = k', .int k (k.wrap (a + b)))
  | .sub => (k = k', .int k (k.wrap (a - b)))
  | .mul => (k = k', .int k (k.wrap (a * b)))
  | .quo => (k = k' ∧ b ≠ 0, .int k (k.wrap (a.tdiv b)))
  | .rem => (k = k' ∧ b ≠ 0, .int k (a.tmod b))
  | .shl => (0 ≤ b, .int k (shiftOp .shl k a b))
  | .shr => (0 ≤ b, .int k (shiftOp .shr k a b))
  | .and => (k = k', .int k (bitsOp .and k a b))
  | .or => (k = k', .int k (bitsOp .or k a b))
  | .xor => (k = k', .int k (bitsOp .xor k a b))
  | .andNot => (k = k', .int k (bitsOp .andNot k a b))
  | .eql => (k = k', .bool (a == b))
  | .neq => (k = k', .bool (a != b))
  | .lss => (k = k', .bool (a < b))
  | .leq => (k = k', .bool (a ≤ b))
  | .gtr => (k = k', .bool (a > b))
  | .geq => (k = k', .bool (a ≥ b))

def partOf (i : Ty) (cs : List V) (off : Nat) : Prop × V :=
  match aggD i.desc with
  | true => (off + i.size ≤ cs.length, .agg ((cs.drop off).take i.size))
  | false => (off < cs.length, nth cs off)

def bt (s : ByteArray) (i : Nat) : Nat := ((s.data[i]?).getD 0).toNat

def aIndexAddr (ty : Tab) (d : TypeDesc) (x ix : V) (h : List HB) : OpR :=
  match ix with
  | .int _ i =>
    match d, x with
    | .array n e, .ptr b o => (ty e).map fun ei => (0 ≤ i ∧ i < n, .ptr b (o + i.toNat * ei.size), h)
    | .array n e, .vptr cs o => (ty e).map fun ei => (0 ≤ i ∧ i < n, .vptr cs (o + i.toNat * ei.size), h)
    | .slice e, .slc b o _ len _ => (ty e).map fun ei => (0 ≤ i ∧ i < len, .ptr b (o + i.toNat * ei.size), h)
    | .slice e, .vec cs len _ => (ty e).map fun ei => (0 ≤ i ∧ i < len, .vptr cs (i.toNat * ei.size), h)
    | _, _ => none
  | _ => none

def aIndex (ty : Tab) (d : TypeDesc) (x ix : V) (h : List HB) : OpR :=
  match ix with
  | .int _ i =>
    match d, x with
    | .array n e, .agg cs => (ty e).map fun ei => ((0 ≤ i ∧ i < n) ∧ (partOf ei cs (i.toNat * ei.size)).1, (partOf ei cs (i.toNat * ei.size)).2, h)
    | .string, .str s => some (0 ≤ i ∧ i < s.size, .int .u8 (bt s i.toNat), h)
    | _, _ => none
  | _ => none

def fieldOf (d : TypeDesc) (f : Nat) : Option Field :=
  match d with
  | .struct fs => fs[f]?
  | _ => none

def aField (ty : Tab) (d : TypeDesc) (x : V) (f : Nat) (h : List HB) : OpR :=
  match fieldOf d f, x with
  | some fd, .agg cs => (ty fd.type).map fun fi => ((partOf fi cs fd.offset).1, (partOf fi cs fd.offset).2, h)
  | _, _ => none

def aFieldAddr (ty : Tab) (d : TypeDesc) (x : V) (f : Nat) (h : List HB) : OpR :=
  match fieldOf d f, x with
  | some fd, .ptr b o => (ty fd.type).map fun fi => (fi.size ≠ 0, .ptr b (o + fd.offset), h)
  | some fd, .vptr cs o => (ty fd.type).map fun fi => (fi.size ≠ 0, .vptr cs (o + fd.offset), h)
  | _, _ => none

def aUn : UnOp → V → Option V
  | .neg, .int k n => some (.int k (k.wrap (0 - n)))
  | .not, .bool b => some (.bool (!b))
  | .xor, .int k n => some (.int k (bitsOp .xor k (if k.signed then -1 else k.max) n))
  | _, _ => none

def aLoad (ty : Tab) (t : TypeId) (x : V) (h : List HB) : OpR :=
  match ty t, rowOf h x with
  | some i, some (cs, o) => some ((partOf i cs o).1, (partOf i cs o).2, h)
  | _, _ => none

def aStore (ty : Tab) (t : TypeId) (x y : V) (h : List HB) : OpR :=
  match ty t, x, y.cells? with
  | some i, .ptr b o, some vs =>
    match h[b]? with
    | some (.live cs) => some (vs.length = i.size ∧ o + vs.length ≤ cs.length ∧ ∀ v ∈ vs, v.one = true, .any, h.set b (.live (splice cs o vs)))
    | _ => none
  | _, _, _ => none

/-- The cells of fields, one behind the other: where they end. -/
def contig (ty : Tab) (off : Nat) : List Field → Option Nat
  | [] => some off
  | f :: fs => if f.offset = off ∧ f.name ≠ "_" then (ty f.type).bind fun i => contig ty (off + i.size) fs else none

/-- What a cell holds. -/
inductive Kd where
  | i (k : IntKind)
  | b
  | s
  deriving DecidableEq

def leavesF (f : TypeId → Option (List Kd)) : List Field → Option (List Kd)
  | [] => some []
  | g :: fs => match f g.type, leavesF f fs with
    | some a, some b => some (a ++ b)
    | _, _ => none

/-- Types whose values are equal where their cells are: what each cell holds. -/
def leaves (ty : Tab) : Nat → TypeId → Option (List Kd)
  | 0, _ => none
  | d + 1, t => match ty t with
    | none => none
    | some i => match i.desc with
      | .int k => if i.size = 1 then some [.i k] else none
      | .bool => if i.size = 1 then some [.b] else none
      | .string => if i.size = 1 then some [.s] else none
      | .array n e => match ty e, leaves ty d e with
        | some ei, some l => if i.size = n * ei.size then some (List.replicate n l).flatten else none
        | _, _ => none
      | .struct fs => if i.eq = true ∧ contig ty 0 fs.toList = some i.size then leavesF (leaves ty d) fs.toList else none
      | _ => none

def eqCell : Kd → V → V → Option Bool
  | .i q, .int k a, .int k' b => if q = k ∧ k = k' then some (a == b) else none
  | .b, .bool a, .bool b => some (a == b)
  | .s, .str a, .str b => some (a == b)
  | _, _, _ => none

def eqCells : List Kd → List V → List V → Option Bool
  | [], [], [] => some true
  | k :: ks, x :: xs, y :: ys => match eqCell k x y, eqCells ks xs ys with
    | some a, some b => some (a && b)
    | _, _ => none
  | _, _, _ => none

def eqV (op : BinOp) (b : Bool) (h : List HB) : OpR :=
  match op with
  | .eql => some (True, .bool b, h)
  | .neq => some (True, .bool (!b), h)
  | _ => none

def aBin (ty : Tab) (op : BinOp) (t : TypeId) (x y : V) (h : List HB) : OpR :=
  match x, y with
  | .int k a, .int k' b => some ((binInt op k k' a b).1, (binInt op k k' a b).2, h)
  | .bool a, .bool b => match ty t with
    | some i => match i.desc with
      | .bool => eqV op (a == b) h
      | _ => none
    | none => none
  | .str a, .str b => match op with
    | .eql => some (True, .bool (a == b), h)
    | .neq => some (True, .bool (!(a == b)), h)
    | .add => some (((a.size + b.size : Nat) : Int) ≤ 9223372036854775807, .str (a ++ b), h)
    | .lss => some (True, .bool (Op.bytesLess a.toList b.toList), h)
    | _ => none
  | .agg cs, .agg ds => match ty t, leaves ty 12 t with
    | some i, some ks => match eqCells ks cs ds with
      | some b => if i.eq = true ∧ aggD i.desc = true ∧ ks.length = i.size then eqV op b h else none
      | none => none
    | _, _ => none
  | _, _ => none

/-! ### Slices, strings, aggregates -/

def strCells (s : ByteArray) : List V := s.data.toList.map fun b => .int .u8 b.toNat

def lenOfV : V → Option Nat
  | .nils => some 0
  | .slc _ _ _ len _ => some len
  | .vec _ len _ => some len
  | .str s => some s.size
  | _ => none

/-- The cells that a slice or a string shows. -/
def cellsOf (h : List HB) : V → Option (List V)
  | .nils => some []
  | .slc b o z len _ => match h[b]? with
    | some (.live cs) => some ((cs.drop o).take (len * z))
    | _ => none
  | .vec cs _ _ => some cs
  | .str s => some (strCells s)
  | _ => none

abbrev maxBytes : Nat := 140737488355328

def aAppend (ty : Tab) (e : TypeId) (s x : V) (h : List HB) : OpR :=
  match ty e, lenOfV x, cellsOf h x with
  | some i, some n, some xs =>
    match s with
    | .nils => some ((xs.length = n * i.size ∧ (∀ v ∈ xs, v.one = true)) ∧ 0 < i.bytes ∧ n * i.bytes ≤ 140737488355328, if n = 0 then .nils else .slc h.length 0 i.size n n, if n = 0 then h else h ++ [.live xs])
    | .slc b o z len _ => match h[b]? with
      | some (.live cs) => some ((xs.length = n * i.size ∧ (∀ v ∈ xs, v.one = true)) ∧ z = i.size ∧ o + len * z = cs.length ∧ 0 < i.bytes ∧ (len + n) * i.bytes ≤ 140737488355328,
          .slc h.length 0 z (len + n) (len + n), (h.set b .dead) ++ [.live (cs.drop o ++ xs)])
      | _ => none
    | .vec cs len true => some ((xs.length = n * i.size ∧ (∀ v ∈ xs, v.one = true)) ∧ cs.length = len * i.size ∧ 0 < i.bytes ∧ (len + n) * i.bytes ≤ 140737488355328,
        if n = 0 then .vec cs len true else .slc h.length 0 i.size (len + n) (len + n), if n = 0 then h else h ++ [.live (cs ++ xs)])
    | _ => none
  | _, _, _ => none

def aMake (ty : Tab) (e : TypeId) (l c : V) (h : List HB) : OpR :=
  match ty e, l, c with
  | some i, .int _ l, .int _ c => some ((0 ≤ l ∧ l ≤ c) ∧ 0 < i.bytes ∧ i.bytes * c ≤ 281474976710656, .slc h.length 0 i.size l.toNat c.toNat, h ++ [.live (List.replicate c.toNat i.zero).flatten])
  | _, _, _ => none

def bytesOf : List V → Option (List UInt8)
  | [] => some []
  | .int .u8 n :: l => (bytesOf l).map (UInt8.ofNat n.toNat :: ·)
  | _ => none

def aToStr (x : V) (h : List HB) : OpR :=
  match lenOfV x, (cellsOf h x), x with
  | some _, some _, .str _ => none
  | some n, some cs, _ => match bytesOf cs with
    | some bs => some (cs.length = n, .str ⟨bs.toArray⟩, h)
    | none => none
  | _, _, _ => none

def optInt (v : Option V) (d : Int) : Option Int :=
  match v with
  | none => some d
  | some (.int _ n) => some n
  | some _ => none

def aSlice (ty : Tab) (d : TypeDesc) (x : V) (lo hi mx : Option V) (h : List HB) : OpR :=
  match d, x with
  | .string, .str s => match optInt lo 0, optInt hi s.size, mx with
    | some l, some r, none => some (0 ≤ l ∧ l ≤ r ∧ r ≤ s.size, .str (s.extract l.toNat r.toNat), h)
    | _, _, _ => none
  | .slice e, .slc b o z len cap => match ty e, optInt lo 0, optInt hi len, mx with
    | some i, some l, some r, none => some ((0 ≤ l ∧ l ≤ r ∧ r ≤ cap) ∧ z = i.size ∧ (l = 0 ∨ l < cap), .slc b (o + l.toNat * z) z (r.toNat - l.toNat) (cap - l.toNat), h)
    | _, _, _, _ => none
  | .slice e, .vec cs len _ => match ty e, optInt lo 0, optInt hi len, mx with
    | some i, some l, some r, none => some ((0 ≤ l ∧ l ≤ r ∧ r ≤ len) ∧ cs.length = len * i.size, .vec ((cs.drop (l.toNat * i.size)).take ((r.toNat - l.toNat) * i.size)) (r.toNat - l.toNat) false, h)
    | some i, some l, some r, some m => match optInt (some m) 0 with
      | some m => some ((0 ≤ l ∧ l ≤ r ∧ r ≤ m ∧ m ≤ len) ∧ cs.length = len * i.size ∧ hi.isSome = true, .vec ((cs.drop (l.toNat * i.size)).take ((r.toNat - l.toNat) * i.size)) (r.toNat - l.toNat) (decide (m = r)), h)
      | none => none
    | _, _, _, _ => none
  | .slice e, .nils => match ty e, optInt lo 0, optInt hi 0, mx with
    | some _, some l, some r, none => some (l = 0 ∧ r = 0, .nils, h)
    | some _, some l, some r, some m => match optInt (some m) 0 with
      | some m => some (l = 0 ∧ r = 0 ∧ m = 0 ∧ hi.isSome = true, .nils, h)
      | none => none
    | _, _, _, _ => none
  | .array n e, .ptr b o => match ty e, optInt lo 0, optInt hi n, mx with
    | some i, some l, some r, none => match h[b]? with
      | some (.live cs) => some ((0 ≤ l ∧ l ≤ r ∧ r ≤ n) ∧ o + n * i.size ≤ cs.length ∧ (l = 0 ∨ l < n), .slc b (o + l.toNat * i.size) i.size (r.toNat - l.toNat) (n - l.toNat), h)
      | _ => none
    | _, _, _, _ => none
  | _, _ => none

def aFill (place : Nat → Option (Nat × Nat)) (t : List V) : List (Nat × Operand) → List V → Option (Prop × List V)
  | [], cs => some (True, cs)
  | (i, x) :: rest, cs => match place i, (ev t x).cells? with
    | some (off, sz), some vs => (aFill place t rest (splice cs off vs)).map fun r => ((vs.length = sz ∧ off + vs.length ≤ cs.length) ∧ r.1, r.2)
    | _, _ => none

def placeS (ty : Tab) (fs : Array Field) (i : Nat) : Option (Nat × Nat) :=
  match fs[i]? with
  | some f => (ty f.type).map fun ti => (f.offset, ti.size)
  | none => none

/-- All fields' types are known. -/
def knownF (ty : Tab) (fs : List Field) : Bool := fs.all fun f => (ty f.type).isSome

def aBuild (ty : Tab) (t' : TypeId) (t : List V) (parts : List (Nat × Operand)) (h : List HB) : OpR :=
  match ty t' with
  | none => none
  | some i => match i.desc with
    | .struct fs => if knownF ty fs.toList = true then (aFill (placeS ty fs) t parts i.zero).map fun r => (r.1, .agg r.2, h) else none
    | .array _ e => match ty e with
      | some ei => (aFill (fun j => some (j * ei.size, ei.size)) t parts i.zero).map fun r => (r.1, .agg r.2, h)
      | none => none
    | _ => none

def aBuildSlice (ty : Tab) (e : TypeId) (len : Nat) (t : List V) (parts : List (Nat × Operand)) (h : List HB) : OpR :=
  match ty e with
  | none => none
  | some ei => (aFill (fun j => some (j * ei.size, ei.size)) t parts (List.replicate len ei.zero).flatten).map fun r =>
      (r.1 ∧ len * ei.size ≤ 16777216 ∧ 0 < ei.size, .slc h.length 0 ei.size len len, h ++ [.live r.2])

def aLen (d : TypeDesc) (x : V) : Option V :=
  match d, x with
  | .string, .str s => some (.int .i64 s.size)
  | .slice _, x => match x with
    | .nils => some (.int .i64 0)
    | .slc _ _ _ len _ => some (.int .i64 len)
    | .vec _ len _ => some (.int .i64 len)
    | _ => none
  | .array n _, _ => some (.int .i64 n)
  | _, _ => none

def aBuiltin (ty : Tab) (b : Builtin) (argTypes : Array TypeId) (args : List V) (h : List HB) : OpR :=
  match b with
  | .len => match argTypes[0]?, args with
    | some at0, [x] => (ty at0).bind fun i => (aLen i.desc x).map fun v => (True, v, h)
    | _, _ => none
  | .append => match argTypes[0]?, argTypes[1]?, args with
    | some a0, some a1, [s, x] => match ty a0, ty a1 with
      | some i0, some i1 => match i0.desc, i1.desc with
        | .slice e, .slice _ => aAppend ty e s x h
        | .slice e, .string => aAppend ty e s x h
        | _, _ => none
      | _, _ => none
    | _, _, _ => none
  | .max => match args with
    | [.int k x, .int _ y] => some (True, .int k (if y > x then y else x), h)
    | _ => none
  | .min => match args with
    | [.int k x, .int _ y] => some (True, .int k (if y < x then y else x), h)
    | [.int k x, .int _ y, .int _ z] => some (True, .int k (if z < (if y < x then y else x) then z else (if y < x then y else x)), h)
    | _ => none
  | .clear => match argTypes[0]?, args with
    | some a0, [.slc b o z len _] => match ty a0 with
      | some i0 => match i0.desc with
        | .slice e => match ty e, h[b]? with
          | some i, some (.live cs) => some (z = i.size ∧ 0 < len ∧ o + len * z ≤ cs.length ∧ i.zero.all V.one = true, .tup [], h.set b (.live (splice cs o (List.replicate len i.zero).flatten)))
          | _, _ => none
        | _ => none
      | none => none
    | _, _ => none
  | _ => none

/-- The operations but calls. -/
def aop (ty : Tab) (t : List V) (h : List HB) : Op → OpR
  | .move x | .assign x => some (True, ev t x, h)
  | .pick c a b => match ev t c with
    | .bool c => some (True, if c = true then ev t a else ev t b, h)
    | _ => none
  | .nilCheck x => match ev t x with
    | .ptr b q => some (True, .ptr b q, h)
    | _ => none
  | .alloc e => (ty e).map fun i => (True, .ptr h.length 0, h ++ [.live i.zero])
  | .box _ x => (ev t x).cells?.map fun cs => (True, .ptr h.length 0, h ++ [.live cs])
  | .load t' a => aLoad ty t' (ev t a) h
  | .store t' a x => aStore ty t' (ev t a) (ev t x) h
  | .unOp op _ x => (aUn op (ev t x)).map fun v => (True, v, h)
  | .binOp op bt x y _ => aBin ty op bt (ev t x) (ev t y) h
  | .indexAddr xt x i => (ty xt).bind fun d => aIndexAddr ty d.desc (ev t x) (ev t i) h
  | .index xt x i => (ty xt).bind fun d => aIndex ty d.desc (ev t x) (ev t i) h
  | .fieldAddr xt x f => (ty xt).bind fun d => aFieldAddr ty d.desc (ev t x) f h
  | .field xt x f => (ty xt).bind fun d => aField ty d.desc (ev t x) f h
  | .extract x i => match ev t x with
    | .tup vs => (vs[i]?).map fun v => (True, v, h)
    | _ => none
  | .makeFunc (.func f) first captured => if first.size = 0 then some (True, .fn f (captured.toList.map (ev t)), h) else none
  | .convert src dst x => match ty src, ty dst with
    | some si, some d => match si.desc, d.desc with
      | .int _, .int k => match ev t x with
        | .int _ n => some (True, .int k (k.wrap n), h)
        | _ => none
      | .slice e, .string => match ty e with
        | some ei => match ei.desc with
          | .int .u8 => aToStr (ev t x) h
          | _ => none
        | none => none
      | .string, .string => match ev t x with
        | .str s => some (True, .str s, h)
        | _ => none
      | _, _ => none
    | _, _ => none
  | .build t' parts => aBuild ty t' t parts.toList h
  | .buildSlice t' len parts => match ty t' with
    | some i => match i.desc with
      | .slice e => aBuildSlice ty e len t parts.toList h
      | _ => none
    | none => none
  | .makeSlice t' l c => match ty t' with
    | some i => match i.desc with
      | .slice e => aMake ty e (ev t l) (ev t c) h
      | _ => none
    | none => none
  | .slice xt x lo hi mx => (ty xt).bind fun d => aSlice ty d.desc (ev t x) (lo.map (ev t)) (hi.map (ev t)) (mx.map (ev t)) h
  | .call c => match c.callee with
    | .builtin b => aBuiltin ty b c.argTypes (c.args.toList.map (ev t)) h
    | _ => none
  | _ => none

/-- What a sound operation does. -/
def OpOK (P : Program) (o : Oper) (a : Act) (w : World) (ρ : Rho) (I : Nat → Prop) (h : List HB) (v : V) (h' : List HB) : Prop :=
  ∃ x w' ρ' I', ((execOp a.eval o).run P w = .ok (.value x) w' ∨ ((execOp a.eval o).run P w = .ok .skip w' ∧ x = undef)) ∧
    RV ρ' I' w' v x ∧ RH ρ' I' w' h' ∧ Keep h ρ I w h' ρ' I' w'

section
variable {P : Program} {ty : Tab} (T : TyOK P ty) {ρ : Rho} {I : Nat → Prop} {w : World} {s : St} {a : Act} (S : RS ρ I w s a) {o : Oper}
include S

theorem ok_val {v : V} {x : Value} (hr : (execOp a.eval o).run P w = .ok (.value x) w) (hv : RV ρ I w v x) : OpOK P o a w ρ I s.h v s.h :=
  ⟨x, w, ρ, I, .inl hr, hv, S.heap, Keep.refl _ _ _ _⟩

omit S in
theorem run_size {t : TypeId} {i : Ty} (T : TyOK P ty) (h : ty t = some i) (w : World) : (sizeOf t).run P w = .ok i.size w := by
  obtain ⟨_, ti, z, h1, h2, _⟩ := T t i h
  simp [sizeOf, typeInfo, h1, h2]
omit S in
theorem run_zero {t : TypeId} {i : Ty} (T : TyOK P ty) (h : ty t = some i) (w : World) : ∃ z, (zeroValue t).run P w = .ok z w ∧ i.zero = z.cells.toList.map ofS ∧ i.zero.length = i.size := by
  obtain ⟨_, ti, z, h1, h2, h3, h4, h5, h6, _⟩ := T t i h
  exact ⟨z, by simp [zeroValue, typeInfo, h1, h4], h5, h6⟩
omit S in
theorem run_und {t : TypeId} {i : Ty} (T : TyOK P ty) (h : ty t = some i) (w : World) : (underlying t).run P w = .ok i.desc w := run_underlying (T t i h).1 w
omit S in
theorem run_agg {t : TypeId} {i : Ty} (T : TyOK P ty) (h : ty t = some i) (w : World) : (isAgg t).run P w = .ok (aggD i.desc) w := by
  simp only [isAgg, Sem.run_bind, run_und T h, Result.andThen_ok]
  unfold aggD
  split <;> simp_all

omit S in
/-- A row that can be read. -/
theorem row_read {h : List HB} (H : RH ρ I w h) {v : V} {x : Value} (hv : RV ρ I w v x) {cs : List V} {o : Nat} (hr : rowOf h v = some (cs, o)) :
    ∃ rb off, x = .pointer (some ⟨rb, off + o, none⟩) ∧ ∀ (j : Nat) (u : V), cs[j]? = some u → ∃ y, w.cell? ⟨rb, off + j, none⟩ = some y ∧ RV ρ I w u y := by
  cases hv with
  | ptr hp =>
    rename_i b o' rb base
    simp only [rowOf] at hr
    split at hr
    · rename_i cs' hb
      simp only [Option.some.injEq, Prod.mk.injEq] at hr
      obtain ⟨rfl, rfl⟩ := hr
      obtain ⟨rb', base', c, e, fr, g1, g2, g3, g4, g5, g6⟩ := H.row b _ hb
      rw [hp] at g1; cases g1
      exact ⟨rb, base, rfl, fun j u hu => by rw [cell_of g2]; exact g4 j u hu⟩
    · cases hr
  | vptr f hI hc hv =>
    simp only [rowOf, Option.some.injEq, Prod.mk.injEq] at hr
    obtain ⟨rfl, rfl⟩ := hr
    exact ⟨_, _, rfl, fun j u hu => ⟨f j, hc j (List.getElem?_eq_some_iff.1 hu).1, hv j u hu⟩⟩
  | _ => simp [rowOf] at hr

omit S in
theorem part_load {i : Ty} {t : TypeId} (T : TyOK P ty) (ht : ty t = some i) {cs : List V} {rb off o : Nat}
    (hc : ∀ (j : Nat) (u : V), cs[j]? = some u → ∃ y, w.cell? ⟨rb, off + j, none⟩ = some y ∧ RV ρ I w u y) (hp : (partOf i cs o).1) :
    ∃ x, (loadVar t ⟨rb, off + o, none⟩).run P w = .ok x w ∧ RV ρ I w (partOf i cs o).2 x := by
  unfold partOf at hp ⊢
  simp only [loadVar, Sem.run_bind, run_agg T ht, Result.andThen_ok]
  cases ha : aggD i.desc
  case true =>
    rw [ha] at hp
    simp only [if_true, Sem.run_bind, run_size T ht, Result.andThen_ok]
    have hget : ∀ j, j < i.size → ∃ y, w.cell? ⟨rb, off + (o + j), none⟩ = some y ∧ RV ρ I w (cs.getD (o + j) .any) y := by
      intro j hj
      have : o + j < cs.length := by have : o + i.size ≤ cs.length := hp; omega
      have := hc (o + j) (cs.getD (o + j) .any) (by rw [List.getD_eq_getElem?_getD, List.getElem?_eq_getElem this]; rfl)
      exact this
    classical
    let f : Nat → Value := fun j => if h : j < i.size then Classical.choose (hget j h) else undef
    have hf : ∀ j (h : j < i.size), w.cell? ⟨rb, off + (o + j), none⟩ = some (f j) ∧ RV ρ I w (cs.getD (o + j) .any) (f j) := by
      intro j h; simp only [f, h, dif_pos]; exact Classical.choose_spec (hget j h)
    rw [run_loadCells w _ i.size f (fun j hj => by rw [addr_add, Nat.add_assoc]; exact (hf j hj).1)]
    refine ⟨_, rfl, .agg (by simp; have : o + i.size ≤ cs.length := hp; omega) ?_⟩
    intro j u x hu hx
    have hj : j < i.size := by
      rcases Nat.lt_or_ge j i.size with h | h
      · exact h
      · rw [Array.getElem?_eq_none (by simp; exact h)] at hx; cases hx
    simp [List.getElem?_map, hj] at hx
    subst hx
    have := (hf j hj).2
    rw [List.getElem?_take_of_lt hj, List.getElem?_drop] at hu
    rw [List.getD_eq_getElem?_getD, hu] at this
    exact this
  case false =>
    rw [ha] at hp
    simp only [Bool.false_eq_true, if_false]
    have hlt : o < cs.length := hp
    rw [nth_eq]
    obtain ⟨y, hy, hr⟩ := hc o (cs.getD o .any) (by rw [List.getD_eq_getElem?_getD, List.getElem?_eq_getElem hlt]; rfl)
    exact ⟨y, by simp [hy], hr⟩

omit S in
theorem part_part {i : Ty} {t : TypeId} (T : TyOK P ty) (ht : ty t = some i) {cs : List V} {vs : Array Value} (hl : cs.length = vs.size)
    (hv : ∀ (i : Nat) (v : V) (x : Value), cs[i]? = some v → vs[i]? = some x → RV ρ I w v x) {o : Nat} (hp : (partOf i cs o).1) :
    ∃ x, (part t vs o).run P w = .ok x w ∧ RV ρ I w (partOf i cs o).2 x := by
  unfold partOf at hp ⊢
  simp only [part, Sem.run_bind, run_agg T ht, Result.andThen_ok]
  cases ha : aggD i.desc
  case true =>
    rw [ha] at hp
    simp only [if_true, Sem.run_bind, run_size T ht, Result.andThen_ok]
    have hp' : o + i.size ≤ cs.length := hp
    refine ⟨_, rfl, .agg (by simp; omega) ?_⟩
    intro j u x hu hx
    have hj : j < i.size := by
      rcases Nat.lt_or_ge j i.size with h | h
      · exact h
      · rw [List.getElem?_eq_none (by simp; omega)] at hu; cases hu
    rw [List.getElem?_take_of_lt hj, List.getElem?_drop] at hu
    have : vs[o + j]? = some x := by
      rw [Array.getElem?_extract] at hx
      split at hx
      · exact hx
      · cases hx
    exact hv _ _ _ hu this
  case false =>
    rw [ha] at hp
    have hlt : o < cs.length := hp
    simp only [Bool.false_eq_true, if_false]
    have : vs[o]? = some (vs[o]'(by omega)) := Array.getElem?_eq_getElem _
    rw [this]
    exact ⟨_, rfl, hv o _ _ (by rw [nth_eq, List.getD_eq_getElem?_getD, List.getElem?_eq_getElem hlt]; rfl) this⟩
end
end Go.Abs
