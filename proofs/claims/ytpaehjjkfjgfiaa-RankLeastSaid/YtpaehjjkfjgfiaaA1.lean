/- The abstract machine, part 1: abstract values, how they stand for the model's values, heaps, frames. -/
import Derived.RangeFuncIn
import Derived.RangeFuncLeaves
import Derived.WalkKit
set_option linter.unusedVariables false
set_option linter.unusedSimpArgs false
namespace Go.Abs
open Go Go.RowKit

/-- Abstract values: trees, but for what lies in the call's own blocks (ptr, slc). -/
inductive V where
  | any
  | bool (b : Bool)
  | int (k : IntKind) (n : Int)
  | str (s : ByteArray)
  | nilp
  | ptr (b o : Nat)
  | vptr (cs : List V) (o : Nat)
  | nils
  | slc (b o z len cap : Nat)
  | vec (cs : List V) (len : Nat) (x : Bool)
  | nilf
  | yld (b : Nat)
  | fn (f : FuncId) (caps : List V)
  | agg (cs : List V)
  | tup (vs : List V)
  deriving Inhabited

/-- What an operation that is not wanted leaves. -/
abbrev udf : V := .tup []

/-- The record of a range over a function: the frame's temporaries, the code of a round. -/
structure LoopB where
  t : List V
  ps : Array Tmp
  assign : Code
  body : Code

/-- Abstract blocks. -/
inductive HB where
  | dead
  | live (cs : List V)
  | loop (L : LoopB)
  deriving Inhabited

/-- Where the abstract blocks lie: block and first cell. -/
abbrev Rho := List (Nat × Nat)

/-- A value of the model stands for an abstract one. I: the blocks that nobody writes any more. -/
inductive RV (ρ : Rho) (I : Nat → Prop) (w : World) : V → Value → Prop
  | any (x : Value) : RV ρ I w .any x
  | bool (b : Bool) : RV ρ I w (.bool b) (.bool b)
  | int (k : IntKind) (n : Int) : RV ρ I w (.int k n) (.int k n)
  | str (s : ByteArray) : RV ρ I w (.str s) (.string s)
  | nilp : RV ρ I w .nilp (.pointer none)
  | ptr {b o rb base : Nat} (h : ρ[b]? = some (rb, base)) : RV ρ I w (.ptr b o) (.pointer (some ⟨rb, base + o, none⟩))
  | vptr {cs : List V} {o rb off : Nat} (f : Nat → Value) (hI : I rb) (hc : ∀ (i : Nat), i < cs.length → w.cell? ⟨rb, off + i, none⟩ = some (f i))
      (hv : ∀ (i : Nat) (v : V), cs[i]? = some v → RV ρ I w v (f i)) : RV ρ I w (.vptr cs o) (.pointer (some ⟨rb, off + o, none⟩))
  | nils : RV ρ I w .nils (.slice none 0 0)
  | slc {b o z len cap rb base rcap : Nat} {c : Array Value} {e : TypeId} {fr : Nat × Nat} (h : ρ[b]? = some (rb, base)) (h1 : len ≤ cap) (h2 : cap ≤ rcap)
      (hb : w.heap[rb]? = some (.cells c e fr)) (hs : base + o + rcap * z ≤ c.size) : RV ρ I w (.slc b o z len cap) (.slice (some ⟨rb, base + o, none⟩) len rcap)
  | vec {cs : List V} {len rb off rcap : Nat} {x : Bool} (f : Nat → Value) (hI : I rb) (hc : ∀ (i : Nat), i < cs.length → w.cell? ⟨rb, off + i, none⟩ = some (f i))
      (hv : ∀ (i : Nat) (v : V), cs[i]? = some v → RV ρ I w v (f i)) (h1 : len ≤ rcap) (hx : x = true → rcap = len) : RV ρ I w (.vec cs len x) (.slice (some ⟨rb, off, none⟩) len rcap)
  | vecn (oa : Option Addr) (x : Bool) : RV ρ I w (.vec [] 0 x) (.slice oa 0 0)
  | nilf : RV ρ I w .nilf .nilFunc
  | yld {b l base : Nat} (h : ρ[b]? = some (l, base)) : RV ρ I w (.yld b) (.func (.yield l) #[] #[])
  | fn {f : FuncId} {caps : List V} {vs : Array Value} (hl : caps.length = vs.size) (hv : ∀ (i : Nat) (v : V) (x : Value), caps[i]? = some v → vs[i]? = some x → RV ρ I w v x) :
      RV ρ I w (.fn f caps) (.func (.func f) #[] vs)
  | agg {cs : List V} {vs : Array Value} (hl : cs.length = vs.size) (hv : ∀ (i : Nat) (v : V) (x : Value), cs[i]? = some v → vs[i]? = some x → RV ρ I w v x) : RV ρ I w (.agg cs) (.agg vs)
  | tup {cs : List V} {vs : Array Value} (hl : cs.length = vs.size) (hv : ∀ (i : Nat) (v : V) (x : Value), cs[i]? = some v → vs[i]? = some x → RV ρ I w v x) : RV ρ I w (.tup cs) (.tuple vs)

/-- What lets every reading stand. -/
structure Ext (ρ : Rho) (I : Nat → Prop) (w : World) (ρ' : Rho) (I' : Nat → Prop) (w' : World) : Prop where
  rho : ∀ (i : Nat) (p : Nat × Nat), ρ[i]? = some p → ρ'[i]? = some p
  im : ∀ (b : Nat), I b → I' b
  same : ∀ (b : Nat), I b → w'.heap[b]? = w.heap[b]?
  sz : ∀ (b : Nat) (c : Array Value) (e : TypeId) (fr : Nat × Nat), w.heap[b]? = some (.cells c e fr) → ∃ (c' : Array Value) (e' : TypeId) (fr' : Nat × Nat), w'.heap[b]? = some (.cells c' e' fr') ∧ c'.size = c.size

theorem Ext.refl (ρ : Rho) (I : Nat → Prop) (w : World) : Ext ρ I w ρ I w :=
  ⟨fun _ _ h => h, fun _ h => h, fun _ _ => rfl, fun _ c e fr h => ⟨c, e, fr, h, rfl⟩⟩

theorem RV.ext {ρ ρ' : Rho} {I I' : Nat → Prop} {w w' : World} (x : Ext ρ I w ρ' I' w') {v : V} {y : Value} (h : RV ρ I w v y) : RV ρ' I' w' v y := by
  induction h with
  | any x => exact .any _
  | bool b => exact .bool _
  | int k n => exact .int _ _
  | str s => exact .str _
  | nilp => exact .nilp
  | ptr h => exact .ptr (x.rho _ _ h)
  | vptr f hI hc _ ih => exact .vptr f (x.im _ hI) (fun i hi => (World.cell?_of_block (x.same _ hI)).trans (hc i hi)) ih
  | nils => exact .nils
  | slc h h1 h2 hb hs =>
    obtain ⟨c', e', fr', hb', hz⟩ := x.sz _ _ _ _ hb
    exact .slc (x.rho _ _ h) h1 h2 hb' (by rw [hz]; exact hs)
  | vec f hI hc _ h1 hx ih => exact .vec f (x.im _ hI) (fun i hi => (World.cell?_of_block (x.same _ hI)).trans (hc i hi)) ih h1 hx
  | vecn x => exact .vecn _ _
  | nilf => exact .nilf
  | yld h => exact .yld (x.rho _ _ h)
  | fn hl _ ih => exact .fn hl ih
  | agg hl _ ih => exact .agg hl ih
  | tup hl _ ih => exact .tup hl ih

/-- Not dead. -/
def HB.on : HB → Prop
  | .dead => False
  | _ => True
def Live (h : List HB) (ρ : Rho) (b : Nat) : Prop := ∃ (i : Nat) (x : HB) (base : Nat), h[i]? = some x ∧ x.on ∧ ρ[i]? = some (b, base)

/-- A loop's record in the model's memory: ready. -/
structure LoopAt (ρ : Rho) (I : Nat → Prop) (w : World) (L : LoopB) (l : Nat) (rec : Loop) : Prop where
  at_ : w.heap[l]? = some (.loop rec)
  ready : rec.state = .ready
  pend : rec.pending = none
  ps : rec.params = L.ps
  assign : rec.assign = L.assign
  body : rec.body = L.body
  tlen : rec.tmps.size = L.t.length
  tv : ∀ (i : Nat) (v : V), L.t[i]? = some v → ∃ x, rec.tmps[i]? = some x ∧ RV ρ I w v x
  im : ¬ I l
/-- The records of the loops. -/
def LoopsOK (ρ : Rho) (I : Nat → Prop) (w : World) (h : List HB) : Prop :=
  ∀ (i : Nat) (L : LoopB), h[i]? = some (HB.loop L) → ∃ l base rec, ρ[i]? = some (l, base) ∧ LoopAt ρ I w L l rec
theorem LoopAt.ext {ρ ρ' : Rho} {I I' : Nat → Prop} {w w' : World} {L : LoopB} {l : Nat} {rec : Loop} (a : LoopAt ρ I w L l rec) (x : Ext ρ I w ρ' I' w') (hs : w'.heap[l]? = w.heap[l]?) (hi : ¬ I' l) : LoopAt ρ' I' w' L l rec :=
  ⟨hs.trans a.at_, a.ready, a.pend, a.ps, a.assign, a.body, a.tlen, fun i v hv => by
    obtain ⟨y, hy, hr⟩ := a.tv i v hv; exact ⟨y, hy, hr.ext x⟩, hi⟩
/-- The records stay, where the memory that holds them stays. -/
theorem LoopsOK.ext {ρ ρ' : Rho} {I I' : Nat → Prop} {w w' : World} {h h' : List HB} (a : LoopsOK ρ I w h) (x : Ext ρ I w ρ' I' w') (hs : ∀ l rec, w.heap[l]? = some (.loop rec) → ¬ I l → w'.heap[l]? = w.heap[l]? ∧ ¬ I' l)
    (hh : ∀ (i : Nat) (L : LoopB), h'[i]? = some (HB.loop L) → h[i]? = some (HB.loop L)) : LoopsOK ρ' I' w' h' := by
  intro i L hi
  obtain ⟨l, base, rec, h1, h2⟩ := a i L (hh i L hi)
  obtain ⟨e, hn⟩ := hs l rec h2.at_ h2.im
  exact ⟨l, base, rec, x.rho _ _ h1, h2.ext x e hn⟩
theorem lp_app {h : List HB} {x : HB} (hx : ∀ L, x ≠ .loop L) (i : Nat) (L : LoopB) (hi : (h ++ [x])[i]? = some (HB.loop L)) : h[i]? = some (HB.loop L) := by
  rcases Nat.lt_trichotomy i h.length with hlt | rfl | hgt
  · rwa [List.getElem?_append_left hlt] at hi
  · simp at hi; exact absurd hi (hx L)
  · rw [List.getElem?_eq_none (by simp; omega)] at hi; cases hi
theorem lp_set {h : List HB} {b : Nat} {x : HB} (hx : ∀ L, x ≠ .loop L) (i : Nat) (L : LoopB) (hi : (h.set b x)[i]? = some (HB.loop L)) : h[i]? = some (HB.loop L) := by
  by_cases e : b = i
  · subst e
    rw [List.getElem?_set] at hi
    simp only [if_true] at hi
    split at hi
    · simp only [Option.some.injEq] at hi; exact absurd hi (hx L)
    · cases hi
  · rwa [List.getElem?_set_ne e] at hi
theorem LoopsOK.nil (ρ : Rho) (I : Nat → Prop) (w : World) : LoopsOK ρ I w [] := by intro i L h; simp at h

/-- The model's memory holds an abstract heap. -/
structure RH (ρ : Rho) (I : Nat → Prop) (w : World) (h : List HB) : Prop where
  len : ρ.length = h.length
  row : ∀ (i : Nat) (cs : List V), h[i]? = some (HB.live cs) → ∃ (rb base : Nat) (c : Array Value) (e : TypeId) (fr : Nat × Nat), ρ[i]? = some (rb, base) ∧ w.heap[rb]? = some (.cells c e fr) ∧ base + cs.length ≤ c.size ∧
    (∀ (j : Nat) (v : V), cs[j]? = some v → ∃ x, c[base + j]? = some x ∧ RV ρ I w v x) ∧ (∀ (j : Nat), base ≤ j → j < c.size → ¬ (fr.1 ≤ j ∧ j < fr.2)) ∧ ¬ I rb
  inj : ∀ (i j : Nat) (x y : HB) (rb b1 b2 : Nat), h[i]? = some x → x.on → h[j]? = some y → y.on → ρ[i]? = some (rb, b1) → ρ[j]? = some (rb, b2) → i = j
  imlt : ∀ (b : Nat), I b → b < w.heap.size
  lp : LoopsOK ρ I w h

theorem RH.lt {ρ : Rho} {I : Nat → Prop} {w : World} {h : List HB} (H : RH ρ I w h) {b : Nat} (hl : Live h ρ b) : b < w.heap.size ∧ ¬ I b := by
  obtain ⟨i, x, base, h1, hx, h2⟩ := hl
  cases x with
  | dead => exact hx.elim
  | live cs =>
    obtain ⟨rb, base', c, e, fr, h3, h4, _, _, _, h5⟩ := H.row i cs h1
    rw [h2] at h3; cases h3
    exact ⟨(Array.getElem?_eq_some_iff.1 h4).1, h5⟩
  | loop L =>
    obtain ⟨l, base', rec, h3, A⟩ := H.lp i L h1
    rw [h2] at h3; cases h3
    exact ⟨(Array.getElem?_eq_some_iff.1 A.at_).1, A.im⟩
theorem live_row {h : List HB} {ρ : Rho} {i : Nat} {cs : List V} {b base : Nat} (h1 : h[i]? = some (.live cs)) (h2 : ρ[i]? = some (b, base)) : Live h ρ b := ⟨i, _, base, h1, trivial, h2⟩
theorem on_set {h : List HB} {b i : Nat} {x y : HB} (hi : (h.set b x)[i]? = some y) (hy : y.on) : (i ≠ b ∧ h[i]? = some y) ∨ (i = b ∧ y = x ∧ b < h.length) := by
  by_cases e : b = i
  · subst e
    rw [List.getElem?_set] at hi
    simp only [if_true] at hi
    split at hi
    · simp only [Option.some.injEq] at hi; exact .inr ⟨rfl, hi.symm, by assumption⟩
    · cases hi
  · rw [List.getElem?_set_ne e] at hi; exact .inl ⟨fun h => e h.symm, hi⟩
theorem on_app {h : List HB} {i : Nat} {x y : HB} (hi : (h ++ [x])[i]? = some y) : (h[i]? = some y ∧ i < h.length) ∨ (i = h.length ∧ y = x) := by
  rcases Nat.lt_trichotomy i h.length with hlt | rfl | hgt
  · rw [List.getElem?_append_left hlt] at hi; exact .inl ⟨hi, hlt⟩
  · simp at hi; exact .inr ⟨rfl, hi.symm⟩
  · rw [List.getElem?_eq_none (by simp; omega)] at hi; cases hi

/-- What a piece of a run keeps: all but the blocks of the heap that it was handed. -/
structure Keep (h : List HB) (ρ : Rho) (I : Nat → Prop) (w : World) (h' : List HB) (ρ' : Rho) (I' : Nat → Prop) (w' : World) : Prop where
  os : w'.os = w.os
  tape : w'.tape = w.tape
  output : w'.output = w.output
  size : w.heap.size ≤ w'.heap.size
  rho : ∀ (i : Nat) (p : Nat × Nat), ρ[i]? = some p → ρ'[i]? = some p
  im : ∀ (b : Nat), I b → I' b
  same : ∀ (b : Nat), b < w.heap.size → ¬ Live h ρ b → w'.heap[b]? = w.heap[b]?
  sz : ∀ (b : Nat) (c : Array Value) (e : TypeId) (fr : Nat × Nat), w.heap[b]? = some (.cells c e fr) → ∃ (c' : Array Value) (e' : TypeId) (fr' : Nat × Nat), w'.heap[b]? = some (.cells c' e' fr') ∧ c'.size = c.size
  im' : ∀ (b : Nat), b < w.heap.size → I' b → I b ∨ Live h ρ b
  live' : ∀ (b : Nat), b < w.heap.size → Live h' ρ' b → Live h ρ b

theorem Keep.refl (h : List HB) (ρ : Rho) (I : Nat → Prop) (w : World) : Keep h ρ I w h ρ I w :=
  ⟨rfl, rfl, rfl, Nat.le_refl _, fun _ _ h => h, fun _ h => h, fun _ _ _ => rfl, fun _ c e fr h => ⟨c, e, fr, h, rfl⟩, fun _ _ h => .inl h, fun _ _ h => h⟩

theorem Keep.trans {h0 h1 h2 : List HB} {ρ0 ρ1 ρ2 : Rho} {I0 I1 I2 : Nat → Prop} {w0 w1 w2 : World}
    (a : Keep h0 ρ0 I0 w0 h1 ρ1 I1 w1) (b : Keep h1 ρ1 I1 w1 h2 ρ2 I2 w2) : Keep h0 ρ0 I0 w0 h2 ρ2 I2 w2 where
  os := b.os.trans a.os
  tape := b.tape.trans a.tape
  output := b.output.trans a.output
  size := Nat.le_trans a.size b.size
  rho := fun i p h => b.rho i p (a.rho i p h)
  im := fun i h => b.im i (a.im i h)
  same := fun i hi hl => (b.same i (Nat.lt_of_lt_of_le hi a.size) (fun hl' => hl (a.live' i hi hl'))).trans (a.same i hi hl)
  sz := fun i c e fr h => by
    obtain ⟨c1, e1, f1, g1, z1⟩ := a.sz i c e fr h
    obtain ⟨c2, e2, f2, g2, z2⟩ := b.sz i c1 e1 f1 g1
    exact ⟨c2, e2, f2, g2, z2.trans z1⟩
  im' := fun i hi h => by
    rcases b.im' i (Nat.lt_of_lt_of_le hi a.size) h with h | h
    · exact a.im' i hi h
    · exact .inr (a.live' i hi h)
  live' := fun i hi h => a.live' i hi (b.live' i (Nat.lt_of_lt_of_le hi a.size) h)

theorem Keep.ext {h h' : List HB} {ρ ρ' : Rho} {I I' : Nat → Prop} {w w' : World} (H : RH ρ I w h) (k : Keep h ρ I w h' ρ' I' w') : Ext ρ I w ρ' I' w' :=
  ⟨k.rho, k.im, fun b hb => k.same b (H.imlt b hb) (fun hl => (H.lt hl).2 hb), k.sz⟩

/-- What a piece of a run keeps, where the first N of the heap's blocks stay where they are; the others may be forgotten. -/
structure KeepN (N : Nat) (h : List HB) (ρ : Rho) (I : Nat → Prop) (w : World) (h' : List HB) (ρ' : Rho) (I' : Nat → Prop) (w' : World) : Prop where
  os : w'.os = w.os
  tape : w'.tape = w.tape
  output : w'.output = w.output
  size : w.heap.size ≤ w'.heap.size
  rho : ∀ (i : Nat) (p : Nat × Nat), i < N → ρ[i]? = some p → ρ'[i]? = some p
  im : ∀ (b : Nat), I b → I' b
  same : ∀ (b : Nat), b < w.heap.size → ¬ Live h ρ b → w'.heap[b]? = w.heap[b]?
  sz : ∀ (b : Nat) (c : Array Value) (e : TypeId) (fr : Nat × Nat), w.heap[b]? = some (.cells c e fr) → ∃ (c' : Array Value) (e' : TypeId) (fr' : Nat × Nat), w'.heap[b]? = some (.cells c' e' fr') ∧ c'.size = c.size
  im' : ∀ (b : Nat), b < w.heap.size → I' b → I b ∨ Live h ρ b
  live' : ∀ (b : Nat), b < w.heap.size → Live h' ρ' b → Live h ρ b

theorem Keep.toN {h h' : List HB} {ρ ρ' : Rho} {I I' : Nat → Prop} {w w' : World} (k : Keep h ρ I w h' ρ' I' w') (N : Nat) : KeepN N h ρ I w h' ρ' I' w' :=
  ⟨k.os, k.tape, k.output, k.size, fun i p _ => k.rho i p, k.im, k.same, k.sz, k.im', k.live'⟩

theorem KeepN.full {N : Nat} {h h' : List HB} {ρ ρ' : Rho} {I I' : Nat → Prop} {w w' : World} (k : KeepN N h ρ I w h' ρ' I' w') (hN : ρ.length ≤ N) : Keep h ρ I w h' ρ' I' w' :=
  ⟨k.os, k.tape, k.output, k.size, fun i p hp => k.rho i p (Nat.lt_of_lt_of_le (List.getElem?_eq_some_iff.1 hp).1 hN) hp, k.im, k.same, k.sz, k.im', k.live'⟩

theorem KeepN.trans {N : Nat} {h0 h1 h2 : List HB} {ρ0 ρ1 ρ2 : Rho} {I0 I1 I2 : Nat → Prop} {w0 w1 w2 : World}
    (a : KeepN N h0 ρ0 I0 w0 h1 ρ1 I1 w1) (b : KeepN N h1 ρ1 I1 w1 h2 ρ2 I2 w2) : KeepN N h0 ρ0 I0 w0 h2 ρ2 I2 w2 where
  os := b.os.trans a.os
  tape := b.tape.trans a.tape
  output := b.output.trans a.output
  size := Nat.le_trans a.size b.size
  rho := fun i p hi h => b.rho i p hi (a.rho i p hi h)
  im := fun i h => b.im i (a.im i h)
  same := fun i hi hl => (b.same i (Nat.lt_of_lt_of_le hi a.size) (fun hl' => hl (a.live' i hi hl'))).trans (a.same i hi hl)
  sz := fun i c e fr h => by
    obtain ⟨c1, e1, f1, g1, z1⟩ := a.sz i c e fr h
    obtain ⟨c2, e2, f2, g2, z2⟩ := b.sz i c1 e1 f1 g1
    exact ⟨c2, e2, f2, g2, z2.trans z1⟩
  im' := fun i hi h => by
    rcases b.im' i (Nat.lt_of_lt_of_le hi a.size) h with h | h
    · exact a.im' i hi h
    · exact .inr (a.live' i hi h)
  live' := fun i hi h => a.live' i hi (b.live' i (Nat.lt_of_lt_of_le hi a.size) h)

theorem KeepN.refl (N : Nat) (h : List HB) (ρ : Rho) (I : Nat → Prop) (w : World) : KeepN N h ρ I w h ρ I w := (Keep.refl h ρ I w).toN N

/-- A state: temporaries, heap. -/
structure St where
  t : List V
  h : List HB

/-- The mark on an activation that has run a range over a function. -/
def markD (D : Nat) : Deferred := { target := .collected D, args := #[] }

/-- The model's activation and memory hold a state. -/
structure RS (ρ : Rho) (I : Nat → Prop) (w : World) (s : St) (a : Act) : Prop where
  tlen : a.tmps.size = s.t.length
  tv : ∀ (i : Nat) (v : V), s.t[i]? = some v → ∃ x, a.tmps[i]? = some x ∧ RV ρ I w v x
  heap : RH ρ I w s.h
  marks : ∃ Ds : List Nat, a.defers = Ds.map markD ∧ Ds.Nodup ∧ ∀ D ∈ Ds, D < w.heap.size ∧ ¬ Live s.h ρ D ∧ ¬ I D ∧ w.heap[D]? = some (.deferred (some []))

theorem marks_keep {h h' : List HB} {ρ ρ' : Rho} {I I' : Nat → Prop} {w w' : World} {N : Nat} (k : KeepN N h ρ I w h' ρ' I' w') {ds : List Deferred}
    (m : ∃ Ds : List Nat, ds = Ds.map markD ∧ Ds.Nodup ∧ ∀ D ∈ Ds, D < w.heap.size ∧ ¬ Live h ρ D ∧ ¬ I D ∧ w.heap[D]? = some (.deferred (some []))) :
    ∃ Ds : List Nat, ds = Ds.map markD ∧ Ds.Nodup ∧ ∀ D ∈ Ds, D < w'.heap.size ∧ ¬ Live h' ρ' D ∧ ¬ I' D ∧ w'.heap[D]? = some (.deferred (some [])) := by
  obtain ⟨Ds, e, hn, hD⟩ := m
  refine ⟨Ds, e, hn, fun D hd => ?_⟩
  obtain ⟨h1, h2, h3, h4⟩ := hD D hd
  exact ⟨Nat.lt_of_lt_of_le h1 k.size, fun h => h2 (k.live' D h1 h), fun h => (k.im' D h1 h).elim h3 h2, (k.same D h1 h2).trans h4⟩

/-- What marks a piece of a run may add. -/
def Mk (ds : List Deferred) (n : Nat) (ds' : List Deferred) : Prop := ∃ Ds : List Nat, ds' = Ds.map markD ++ ds ∧ ∀ D ∈ Ds, n ≤ D
theorem Mk.refl (ds : List Deferred) (n : Nat) : Mk ds n ds := ⟨[], rfl, by simp⟩
theorem Mk.trans {a b c : List Deferred} {n m : Nat} (h : Mk a n b) (k : Mk b m c) (hm : n ≤ m) : Mk a n c := by
  obtain ⟨D1, rfl, h1⟩ := h
  obtain ⟨D2, rfl, h2⟩ := k
  refine ⟨D2 ++ D1, by simp, fun D hD => ?_⟩
  rcases List.mem_append.1 hD with h | h
  · exact Nat.le_trans hm (h2 D h)
  · exact h1 D h

/-- The fence that lets all in. -/
def Fw (r : Option Nat) : Fence := { Fence.wide with round := r }
theorem Fw.room (r : Option Nat) (n : Nat) : (Fw r).room n := room_wide n

def Post (N : Nat) (Q : Exit → St → Prop) (h : List HB) (ρ : Rho) (I : Nat → Prop) (w : World) (ds : List Deferred) : Exit → Act → World → Prop
  | .panic _, _, _ => False
  | .outgrown, _, _ => False
  | e, a', w' => ∃ s' ρ' I', Q e s' ∧ RS ρ' I' w' s' a' ∧ KeepN N h ρ I w s'.h ρ' I' w' ∧ Mk ds w.heap.size a'.defers

/-- No range over a function in the code itself. -/
def noRange : Code → Bool
  | .seq a b => noRange a && noRange b
  | .cond _ a b => noRange a && noRange b
  | .block _ a => noRange a
  | .loop a => noRange a
  | .scope a => noRange a
  | .rangeFunc _ _ _ _ => false
  | _ => true
/-- In a round's frame, no range over a function is entered. -/
def Okr (r : Option Nat) (c : Code) : Prop := r.isSome = true → noRange c = true
theorem Okr.l {r : Option Nat} {a b : Code} (h : Okr r (.seq a b)) : Okr r a := fun q => by have := h q; simp only [noRange, Bool.and_eq_true] at this; exact this.1
theorem Okr.r {r : Option Nat} {a b : Code} (h : Okr r (.seq a b)) : Okr r b := fun q => by have := h q; simp only [noRange, Bool.and_eq_true] at this; exact this.2
theorem Okr.cl {r : Option Nat} {c : Operand} {a b : Code} (h : Okr r (.cond c a b)) : Okr r a := fun q => by have := h q; simp only [noRange, Bool.and_eq_true] at this; exact this.1
theorem Okr.cr {r : Option Nat} {c : Operand} {a b : Code} (h : Okr r (.cond c a b)) : Okr r b := fun q => by have := h q; simp only [noRange, Bool.and_eq_true] at this; exact this.2
theorem Okr.block {r : Option Nat} {i : Nat} {a : Code} (h : Okr r (.block i a)) : Okr r a := fun q => by have := h q; simpa only [noRange] using this
theorem Okr.loop {r : Option Nat} {a : Code} (h : Okr r (.loop a)) : Okr r a := fun q => by have := h q; simpa only [noRange] using this
theorem Okr.scope {r : Option Nat} {a : Code} (h : Okr r (.scope a)) : Okr r a := fun q => by have := h q; simpa only [noRange] using this
theorem Okr.none (c : Code) : Okr none c := fun h => by cases h
/-- The abstract weakest precondition. -/
def AW (P : Program) (N : Nat) (c : Code) (Q : Exit → St → Prop) (s : St) : Prop :=
  ∀ (r : Option Nat) (_ : Okr r c) (ρ : Rho) (I : Nat → Prop) (w : World) (a : Act), RS ρ I w s a → c.wpIn (Fw r) 0 P (Post N Q s.h ρ I w a.defers) a w

/-- A function with a Go body. -/
def Enters (P : Program) (f : FuncId) : Prop := ∀ args w, (callFunc f args).run P w = .ok (.enter f args) w

/-- What a call of the model does: it enters a body, or it is one of the model's own. -/
def RC (P : Program) (f : FuncId) (vs : Array Value) (w : World) (R : Value → World → Prop) : Prop :=
  ((callFunc f vs).run P w = .ok (.enter f vs) w ∧ CallsIn (Fw none) 0 P f vs w fun e w' => ∃ x, e = .returned x ∧ R x w') ∨
  ∃ x w', (callFunc f vs).run P w = .ok (.value x) w' ∧ R x w'

theorem RC.mono {P : Program} {f : FuncId} {vs : Array Value} {w : World} {R R' : Value → World → Prop} (h : RC P f vs w R) (hr : ∀ x w', R x w' → R' x w') : RC P f vs w R' := by
  rcases h with ⟨h1, h2⟩ | ⟨x, w', h1, h2⟩
  · exact .inl ⟨h1, h2.mono fun e w' ⟨x, e1, e2⟩ => ⟨x, e1, hr x w' e2⟩⟩
  · exact .inr ⟨x, w', h1, hr x w' h2⟩

/-- The abstract contract of a call. -/
def AC (P : Program) (f : FuncId) (args : List V) (h : List HB) (R : V → List HB → Prop) : Prop :=
  ∀ (ρ : Rho) (I : Nat → Prop) (w : World) (vs : Array Value), args.length = vs.size → (∀ (i : Nat) (v : V) (x : Value), args[i]? = some v → vs[i]? = some x → RV ρ I w v x) → RH ρ I w h →
    RC P f vs w fun x w' => ∃ v h' ρ' I', R v h' ∧ RV ρ' I' w' v x ∧ RH ρ' I' w' h' ∧ Keep h ρ I w h' ρ' I' w'

section rules
variable {P : Program} {N : Nat} {Q Q' : Exit → St → Prop} {s : St}

theorem Post.mono {h : List HB} {ρ : Rho} {I : Nat → Prop} {w : World} {ds : List Deferred} (hq : ∀ e s, Q e s → Q' e s) {e : Exit} {a : Act} {w' : World} (p : Post N Q h ρ I w ds e a w') : Post N Q' h ρ I w ds e a w' := by
  cases e with
  | panic c => exact p.elim
  | outgrown => exact p.elim
  | normal => obtain ⟨s', ρ', I', q, r⟩ := p; exact ⟨s', ρ', I', hq _ _ q, r⟩
  | ret => obtain ⟨s', ρ', I', q, r⟩ := p; exact ⟨s', ρ', I', hq _ _ q, r⟩
  | exit i => obtain ⟨s', ρ', I', q, r⟩ := p; exact ⟨s', ρ', I', hq _ _ q, r⟩
  | goto i => obtain ⟨s', ρ', I', q, r⟩ := p; exact ⟨s', ρ', I', hq _ _ q, r⟩

theorem Post.before {h h1 : List HB} {ρ ρ1 : Rho} {I I1 : Nat → Prop} {w w1 : World} {ds ds1 : List Deferred} (k : KeepN N h ρ I w h1 ρ1 I1 w1) (m : Mk ds w.heap.size ds1) {e : Exit} {a : Act} {w' : World}
    (p : Post N Q h1 ρ1 I1 w1 ds1 e a w') : Post N Q h ρ I w ds e a w' := by
  cases e with
  | panic c => exact p.elim
  | outgrown => exact p.elim
  | normal => obtain ⟨s', ρ', I', q, r, k', m'⟩ := p; exact ⟨s', ρ', I', q, r, k.trans k', m.trans m' k.size⟩
  | ret => obtain ⟨s', ρ', I', q, r, k', m'⟩ := p; exact ⟨s', ρ', I', q, r, k.trans k', m.trans m' k.size⟩
  | exit i => obtain ⟨s', ρ', I', q, r, k', m'⟩ := p; exact ⟨s', ρ', I', q, r, k.trans k', m.trans m' k.size⟩
  | goto i => obtain ⟨s', ρ', I', q, r, k', m'⟩ := p; exact ⟨s', ρ', I', q, r, k.trans k', m.trans m' k.size⟩

theorem AW.mono {c : Code} (h : AW P N c Q s) (hq : ∀ e s, Q e s → Q' e s) : AW P N c Q' s :=
  fun r hr ρ I w a hs => wpIn_mono (h r hr ρ I w a hs) fun _ _ _ p => p.mono hq

def thenK (K : St → Prop) (Q : Exit → St → Prop) : Exit → St → Prop
  | .normal, s => K s
  | e, s => Q e s
@[simp] theorem thenK_normal (K : St → Prop) (Q : Exit → St → Prop) (s : St) : thenK K Q .normal s = K s := rfl
@[simp] theorem thenK_ret (K : St → Prop) (Q : Exit → St → Prop) (s : St) : thenK K Q .ret s = Q .ret s := rfl
@[simp] theorem thenK_exit (K : St → Prop) (Q : Exit → St → Prop) (i : Nat) (s : St) : thenK K Q (.exit i) s = Q (.exit i) s := rfl
@[simp] theorem thenK_goto (K : St → Prop) (Q : Exit → St → Prop) (i : Nat) (s : St) : thenK K Q (.goto i) s = Q (.goto i) s := rfl

def blockK (id : Nat) (Q : Exit → St → Prop) : Exit → St → Prop
  | .exit id', s => if id' = id then Q .normal s else Q (.exit id') s
  | e, s => Q e s
@[simp] theorem blockK_normal (id : Nat) (Q : Exit → St → Prop) (s : St) : blockK id Q .normal s = Q .normal s := rfl
@[simp] theorem blockK_ret (id : Nat) (Q : Exit → St → Prop) (s : St) : blockK id Q .ret s = Q .ret s := rfl
@[simp] theorem blockK_goto (id : Nat) (Q : Exit → St → Prop) (i : Nat) (s : St) : blockK id Q (.goto i) s = Q (.goto i) s := rfl
theorem blockK_exit (id i : Nat) (Q : Exit → St → Prop) (s : St) : blockK id Q (.exit i) s = if i = id then Q .normal s else Q (.exit i) s := rfl

theorem aw_skip (h : Q .normal s) : AW P N .skip Q s := fun _ _ ρ I w _ hs => wpIn_skip ⟨s, ρ, I, h, hs, KeepN.refl _ _ _ _ _, Mk.refl _ _⟩
theorem aw_label {l : Nat} (h : Q .normal s) : AW P N (.label l) Q s := fun _ _ ρ I w _ hs => wpIn_label ⟨s, ρ, I, h, hs, KeepN.refl _ _ _ _ _, Mk.refl _ _⟩
theorem aw_exit {i : Nat} (h : Q (.exit i) s) : AW P N (.exit i) Q s := fun _ _ ρ I w _ hs => wpIn_exit ⟨s, ρ, I, h, hs, KeepN.refl _ _ _ _ _, Mk.refl _ _⟩
theorem aw_goto {i : Nat} (h : Q (.goto i) s) : AW P N (.goto i) Q s := fun _ _ ρ I w _ hs => wpIn_goto ⟨s, ρ, I, h, hs, KeepN.refl _ _ _ _ _, Mk.refl _ _⟩
theorem aw_ret (h : Q .ret s) : AW P N .ret Q s := fun _ _ ρ I w _ hs => wpIn_ret ⟨s, ρ, I, h, hs, KeepN.refl _ _ _ _ _, Mk.refl _ _⟩

theorem aw_seq {x y : Code} (h : AW P N x (thenK (AW P N y Q) Q) s) : AW P N (.seq x y) Q s := by
  intro r hr ρ I w a hs
  refine wpIn_seq (wpIn_mono (h r hr.l ρ I w a hs) ?_)
  intro e a' w' p
  cases e with
  | normal =>
    obtain ⟨s', ρ', I', q, hs', k, m⟩ := p
    exact wpIn_mono (q r hr.r ρ' I' w' a' hs') fun _ _ _ p => p.before k m
  | ret => exact p
  | exit i => exact p
  | goto i => exact p
  | panic c => exact p.elim
  | outgrown => exact p.elim

theorem aw_seq_k {x y : Code} (h : ∀ K : St → Prop, (∀ s, AW P N y Q s → K s) → AW P N x (thenK K Q) s) : AW P N (.seq x y) Q s := aw_seq (h _ fun _ h => h)

theorem aw_block {id : Nat} {c : Code} (h : AW P N c (blockK id Q) s) : AW P N (.block id c) Q s := by
  intro r hr ρ I w a hs
  refine wpIn_block (wpIn_mono (h r hr.block ρ I w a hs) ?_)
  intro e a' w' p
  cases e with
  | normal => exact p
  | ret => exact p
  | exit i =>
    obtain ⟨s', ρ', I', q, hs', k, m⟩ := p
    simp only [Exit.inBlock]
    rw [blockK_exit] at q
    split at q <;> rename_i hi
    · rw [if_pos hi]; exact ⟨s', ρ', I', q, hs', k, m⟩
    · rw [if_neg hi]; exact ⟨s', ρ', I', q, hs', k, m⟩
  | goto i => exact p
  | panic c => exact p.elim
  | outgrown => exact p.elim

/-- A turn of the state that no run sees (a weaker state: less is known). -/
def Wk (N : Nat) (s s' : St) : Prop := ∀ ρ I w a, RS ρ I w s a → ∃ ρ' I', RS ρ' I' w s' a ∧ KeepN N s.h ρ I w s'.h ρ' I' w

theorem Wk.refl (s : St) : Wk N s s := fun ρ I _ _ h => ⟨ρ, I, h, KeepN.refl _ _ _ _ _⟩
theorem Wk.trans {a b c : St} (h : Wk N a b) (k : Wk N b c) : Wk N a c := fun ρ I w x hs => by
  obtain ⟨ρ1, I1, h1, k1⟩ := h ρ I w x hs
  obtain ⟨ρ2, I2, h2, k2⟩ := k ρ1 I1 w x h1
  exact ⟨ρ2, I2, h2, k1.trans k2⟩

theorem aw_wk {c : Code} {s' : St} (hk : Wk N s s') (h : AW P N c Q s') : AW P N c Q s := by
  intro r hr ρ I w a hs
  obtain ⟨ρ', I', hs', k⟩ := hk ρ I w a hs
  exact wpIn_mono (h r hr ρ' I' w a hs') fun _ _ _ p => p.before k (Mk.refl _ _)

theorem least (p : Nat → Prop) (h : ∃ n, p n) : ∃ n, p n ∧ ∀ m, p m → n ≤ m := by
  classical
  obtain ⟨n, hn⟩ := h
  induction n using Nat.strongRecOn with
  | _ n ih =>
    by_cases hm : ∃ m, m < n ∧ p m
    · obtain ⟨m, hlt, hp⟩ := hm; exact ih m hlt hp
    · exact ⟨n, hn, fun m hp => Nat.le_of_not_lt fun hlt => hm ⟨m, hlt, hp⟩⟩

/-- A loop: invariants that are states, by some parameter; a measure. -/
theorem aw_loop {c : Code} {X : Type} (J : X → St) (μ : X → Nat) (x0 : X) (h0 : Wk N s (J x0))
    (hb : ∀ x, AW P N c (thenK (fun s' => ∃ x', Wk N s' (J x') ∧ μ x' < μ x) Q) (J x)) : AW P N (.loop c) Q s := by
  intro r hr ρ I w a hs
  obtain ⟨ρ0, I0, hs0, k0⟩ := h0 ρ I w a hs
  refine wpIn_mono ?_ fun e a w p => p
  classical
  refine wpIn_loop (fun a' w' => ∃ x ρ' I', RS ρ' I' w' (J x) a' ∧ KeepN N s.h ρ I w (J x).h ρ' I' w' ∧ Mk a.defers w.heap.size a'.defers)
    (fun a' w' => if h : ∃ n x ρ' I', μ x = n ∧ RS ρ' I' w' (J x) a' ∧ KeepN N s.h ρ I w (J x).h ρ' I' w' ∧ Mk a.defers w.heap.size a'.defers then Classical.choose (least _ h) else 0)
    ⟨x0, ρ0, I0, hs0, k0, Mk.refl _ _⟩ ?_
  rintro a' w' hex
  have hex' : ∃ n x ρ' I', μ x = n ∧ RS ρ' I' w' (J x) a' ∧ KeepN N s.h ρ I w (J x).h ρ' I' w' ∧ Mk a.defers w.heap.size a'.defers := by
    obtain ⟨x, ρ', I', h⟩ := hex; exact ⟨_, x, ρ', I', rfl, h⟩
  obtain ⟨x, ρ', I', hx, hs', k', m'⟩ := (Classical.choose_spec (least _ hex')).1
  refine wpIn_mono (hb x r hr.loop ρ' I' w' a' hs') ?_
  intro e a2 w2 p
  cases e with
  | normal =>
    obtain ⟨s2, ρ2, I2, ⟨x', hw, hlt⟩, hs2, k2, m2⟩ := p
    obtain ⟨ρ3, I3, hs3, k3⟩ := hw ρ2 I2 w2 a2 hs2
    have hn : ∃ n x ρ' I', μ x = n ∧ RS ρ' I' w2 (J x) a2 ∧ KeepN N s.h ρ I w (J x).h ρ' I' w2 ∧ Mk a.defers w.heap.size a2.defers := ⟨_, x', ρ3, I3, rfl, hs3, (k'.trans k2).trans k3, m'.trans m2 k'.size⟩
    refine ⟨⟨x', ρ3, I3, hs3, (k'.trans k2).trans k3, m'.trans m2 k'.size⟩, ?_⟩
    rw [dif_pos hn, dif_pos hex']
    refine Nat.lt_of_le_of_lt ((Classical.choose_spec (least _ hn)).2 _ ⟨x', ρ3, I3, rfl, hs3, (k'.trans k2).trans k3, m'.trans m2 k'.size⟩) ?_
    rw [← hx]; exact hlt
  | ret => exact Post.before k' m' p
  | exit i => exact Post.before k' m' p
  | goto i => exact Post.before k' m' p
  | panic c => exact p.elim
  | outgrown => exact p.elim
end rules
end Go.Abs
