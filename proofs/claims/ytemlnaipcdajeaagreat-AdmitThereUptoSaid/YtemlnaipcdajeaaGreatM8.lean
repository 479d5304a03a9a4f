/- A drawn region with two allocations: two orders are walked, any other order is one of the two. -/
import Derived.Test.YtemlnaipcdajeaaGreatM7
import Derived.RangeFuncCalls
set_option linter.unusedVariables false
set_option linter.unusedSimpArgs false
namespace Go.Abs
open Go

/-- Is it a new block's address: set by allocations only, and no pointer ahead of the region? -/
def isNew (kn : Tmp → Option Nat) (ops : Array Oper) (a : Tmp) : Bool :=
  (kn a).isNone && ops.toList.all fun o => !(o.dst == some a) || (match o.op with | .alloc _ => true | _ => false)
/-- What block an address temporary names: a known one; or a new one. -/
def cls (kn : Tmp → Option Nat) (n0 : Nat × List Tmp) (ops : Array Oper) (a : Tmp) : Option (Nat ⊕ Tmp) :=
  match kn a with
  | some b => if decide (b < n0.1) && noDst ops a then some (.inl b) else none
  | none => if isNew kn ops a then some (.inr a) else none
def apart2 (kn : Tmp → Option Nat) (n0 : Nat × List Tmp) (ops : Array Oper) (o1 o2 : Oper) : Bool :=
  match addrOf o1.op, addrOf o2.op with
  | some a, some c => match cls kn n0 ops a, cls kn n0 ops c with
    | some (.inl x), some (.inl y) => !(x == y)
    | some (.inr x), some (.inr y) => !(x == y)
    | some _, some _ => true
    | _, _ => false
  | _, _ => false
/-- No address of the abstract heap. -/
def np (v : V) : Bool := match v with
  | .ptr _ _ | .slc _ _ _ _ _ => false
  | _ => true
def calmOp (S : List Tmp) (op : Op) : Bool := match op with
  | .move (.tmp y) => S.contains y
  | .indexAddr _ (.tmp y) _ => S.contains y
  | .fieldAddr _ (.tmp y) _ => S.contains y
  | _ => false
/-- Temporaries that never hold such an address. -/
def closedS (ops : Array Oper) (S : List Tmp) : Bool := ops.toList.all fun o => match o.dst with
  | some a => !S.contains a || calmOp S o.op
  | none => true
def npAt (t : List V) (a : Tmp) : Bool := match t[a]? with
  | some v => np v
  | none => true
def calmS (t : List V) (ops : Array Oper) : List Tmp :=
  ops.toList.foldl (fun S o => match o.dst with
    | some a => if calmOp S o.op && npAt t a && (ops.toList.countP (fun o => o.dst == some a) == 1) then a :: S else S
    | none => S) ((List.range t.length).filter fun a => noDst ops a && npAt t a)
def freeBy (S : List Tmp) (o : Op) : Bool := ((addrOf o).map fun a => S.contains a).getD false
def allocs (o : Op) : Bool := match o with | .alloc _ => true | _ => false
def byAddr (o : Op) : Bool := (addrOf o).isSome
/-- What the region's operations may be. -/
def tame (ty : Tab) (L : List FuncId) (o : Op) : Bool := heapK ty L o == 0 || heapK ty L o == 1 || allocs o || byAddr o
def indep2 (ty : Tab) (L : List FuncId) (kn : Tmp → Option Nat) (n0 : Nat × List Tmp) (ops : Array Oper) (o1 o2 : Oper) : Bool :=
  !dstIn o1.dst (reads ops o2) && !dstIn o2.dst (reads ops o1) && !dstIn o1.dst o2.dst.toList &&
    (heapK ty L o1.op == 0 || heapK ty L o2.op == 0 || (heapK ty L o1.op == 1 && heapK ty L o2.op == 1) || apart2 kn n0 ops o1 o2 || (byAddr o1.op && allocs o2.op) || (allocs o1.op && ((addrOf o2.op).map fun a => (cls kn n0 ops a).isSome).getD false) || freeBy n0.2 o1.op || freeBy n0.2 o2.op)

section
variable {P : Program} {ty : Tab} {L : List FuncId} {ops : Array Oper}

theorem out_at2 {o : Oper} {t : List V} {h : List HB} {v : V} {h' : List HB} {a : Nat} (ha : addrOf o.op = some a) (hd : Out P ty L ops o ⟨t, h⟩ v h') :
    (h' = h ∧ ∀ h2 : List HB, Out P ty L ops o ⟨t, h2⟩ v h2) ∨ ∃ b q, t[a]? = some (V.ptr b q) ∧ b < h.length ∧ ∃ f : List HB → List HB, (f = id ∨ ∃ x, f = fun g => g.set b x) ∧ h' = f h ∧ ∀ h2 : List HB, h2[b]? = h[b]? → Out P ty L ops o ⟨t, h2⟩ v (f h2) := by
  cases hd with
  | not hg => exact .inl ⟨rfl, fun h2 => .not hg⟩
  | did hg hd =>
    have hc : callOf t o.op = none := by
      cases ho : o.op <;> rw [ho] at ha <;> first | rfl | (simp [addrOf] at ha)
    cases hd with
    | pure hc' => rw [hc] at hc'; cases hc'
    | call hc' => rw [hc] at hc'; cases hc'
    | yield hc' => obtain ⟨c, f, e, _⟩ := yield_call (L := L) hc'; rw [e] at ha; cases ha
    | op hr hp =>
      simp only at hr
      have ha' := ha
      unfold addrOf at ha'
      split at ha'
      · rename_i t' a' ho
        cases ha'
        rw [ho] at hr
        simp only [aop, aLoad] at hr
        split at hr
        · rename_i i cs o' hi hro
          simp only [Option.some.injEq, Prod.mk.injEq] at hr
          obtain ⟨rfl, rfl, rfl⟩ := hr
          cases hv : ev t (.tmp a) with
          | ptr b q =>
            have ht : t[a]? = some (.ptr b q) := by
              simp only [ev] at hv
              rw [nth_eq, List.getD_eq_getElem?_getD] at hv
              cases h5 : t[a]? with
              | none => rw [h5] at hv; cases hv
              | some w => rw [h5] at hv; simp only [Option.getD_some] at hv; rw [hv]
            have hb : b < h.length := by
              rw [hv] at hro
              simp only [rowOf] at hro
              split at hro
              · rename_i q; exact (List.getElem?_eq_some_iff.1 q).1
              · cases hro
            exact .inr ⟨b, q, ht, hb, out_at ha ht (.did hg (.op (by simp only [ho, aop, aLoad, hi, hro]) hp))⟩
          | vptr cs' o2 =>
            refine .inl ⟨rfl, fun h2 => .did hg (.op (p := (partOf i cs o').1) ?_ hp)⟩
            rw [hv] at hro
            simp only [rowOf] at hro
            simp only [ho, aop, aLoad, hi, hv, rowOf, hro]
          | _ => rw [hv] at hro; simp only [rowOf] at hro; cases hro
        · cases hr
      · rename_i t' a' y ho
        cases ha'
        rw [ho] at hr
        have hr' := hr
        simp only [aop, aStore] at hr
        split at hr
        · rename_i i b o' vs hi hx hcs
          split at hr
          · rename_i cs hb
            have ht : t[a]? = some (.ptr b o') := by
              simp only [ev] at hx
              rw [nth_eq, List.getD_eq_getElem?_getD] at hx
              cases h5 : t[a]? with
              | none => rw [h5] at hx; cases hx
              | some w => rw [h5] at hx; simp only [Option.getD_some] at hx; rw [hx]
            exact .inr ⟨b, o', ht, (List.getElem?_eq_some_iff.1 hb).1, out_at ha ht (.did hg (.op (by rw [ho]; exact hr') hp))⟩
          · cases hr
        · cases hr
      · cases ha'

structure KN (kn : Tmp → Option Nat) (n0 : Nat × List Tmp) (ops : Array Oper) (s : St) : Prop where
  len : n0.1 ≤ s.h.length
  old : ∀ a b, cls kn n0 ops a = some (.inl b) → b < n0.1 ∧ noDst ops a = true ∧ ∃ o, s.t[a]? = some (.ptr b o)
  new : ∀ a c, cls kn n0 ops a = some (.inr c) → c = a ∧ ∀ b o, s.t[a]? = some (.ptr b o) → n0.1 ≤ b ∧ b < s.h.length
  dif : ∀ a c, a ≠ c → cls kn n0 ops a = some (.inr a) → cls kn n0 ops c = some (.inr c) → ∀ b o b' o', s.t[a]? = some (.ptr b o) → s.t[c]? = some (.ptr b' o') → b ≠ b'
  clo : closedS ops n0.2 = true
  npt : ∀ a ∈ n0.2, ∀ v, s.t[a]? = some v → np v = true

theorem KN_none : True := trivial
theorem tame_len {o : Oper} {t : List V} {h : List HB} {v : V} {h' : List HB} (ht : tame ty L o.op = true) (hd : Out P ty L ops o ⟨t, h⟩ v h') : h.length ≤ h'.length := by
  simp only [tame, Bool.or_eq_true, beq_iff_eq] at ht
  rcases ht with ((h0 | h1) | h2) | h3
  · rw [(out_free h0 hd).1]; exact Nat.le_refl _
  · rw [out_read h1 hd]; exact Nat.le_refl _
  · have : grows o.op = true := by cases ho : o.op <;> rw [ho] at h2 <;> simp [allocs] at h2 <;> rfl
    rcases out_grows this hd with e | ⟨x, e⟩ <;> rw [e] <;> simp
  · cases ha : addrOf o.op with
    | none => simp [byAddr, ha] at h3
    | some a =>
      rcases out_at2 ha hd with ⟨e, _⟩ | ⟨b, q, _, _, f, hf, e, _⟩
      · rw [e]; exact Nat.le_refl _
      · rw [e]; rcases hf with rfl | ⟨x, rfl⟩ <;> simp

theorem alloc_out {o : Oper} {t : List V} {h : List HB} {v : V} {h' : List HB} (ha : allocs o.op = true) (hd : Out P ty L ops o ⟨t, h⟩ v h') : (h' = h ∧ v = udf) ∨ (v = .ptr h.length 0 ∧ h'.length = h.length + 1) := by
  cases hd with
  | not _ => exact .inl ⟨rfl, rfl⟩
  | did _ h1 =>
    right
    cases ho : o.op <;> rw [ho] at ha <;> simp [allocs] at ha
    cases h1 with
    | op hr _ =>
      rw [ho] at hr
      simp only [aop, Option.map_eq_some_iff, Prod.mk.injEq] at hr
      obtain ⟨i, _, _, rfl, rfl⟩ := hr
      exact ⟨rfl, by simp⟩
    | pure hc _ _ => rw [ho] at hc; cases hc
    | call hc _ _ => rw [ho] at hc; cases hc
    | yield hc _ _ => rw [ho] at hc; cases hc

theorem put_at {t : List V} {d : Option Tmp} {v w : V} {a : Tmp} (h : (put t d v)[a]? = some w) : (d = some a ∧ w = v) ∨ (d ≠ some a ∧ t[a]? = some w) := by
  cases d with
  | none => exact .inr ⟨by simp, h⟩
  | some d =>
    simp only [put] at h
    by_cases e : d = a
    · subst e
      rw [List.getElem?_set] at h
      simp only [if_true] at h
      split at h
      · simp only [Option.some.injEq] at h; exact .inl ⟨rfl, h.symm⟩
      · cases h
    · rw [List.getElem?_set_ne e] at h
      exact .inr ⟨by simpa using e, h⟩
theorem cls_new {kn : Tmp → Option Nat} {n0 : Nat × List Tmp} {a c : Tmp} {i : Nat} {o : Oper} (h : cls kn n0 ops a = some (.inr c)) (hi : ops[i]? = some o) (hd : o.dst = some a) : allocs o.op = true := by
  unfold cls at h
  split at h
  · split at h <;> cases h
  · split at h
    · rename_i hn
      unfold isNew at hn
      simp only [Bool.and_eq_true] at hn
      have hm : o ∈ ops.toList := by
        obtain ⟨q, rfl⟩ := Array.getElem?_eq_some_iff.1 hi
        exact Array.getElem_mem_toList q
      have := List.all_eq_true.1 hn.2 o hm
      simp only [hd, beq_self_eq_true, Bool.not_true, Bool.false_or] at this
      unfold allocs
      split at this
      · rfl
      · cases this
    · cases h
theorem ev_np {S : List Tmp} {t : List V} (h : ∀ a ∈ S, ∀ v, t[a]? = some v → np v = true) {y : Tmp} (hy : y ∈ S) : np (ev t (.tmp y)) = true := by
  simp only [ev]
  rw [nth_eq, List.getD_eq_getElem?_getD]
  cases e : t[y]? with
  | none => rfl
  | some w => exact h y hy w e
theorem calm_out {S : List Tmp} {o : Oper} {t : List V} {h h' : List HB} {v : V} (hS : ∀ a ∈ S, ∀ v, t[a]? = some v → np v = true) (hc : calmOp S o.op = true) (hd : Out P ty L ops o ⟨t, h⟩ v h') : np v = true := by
  cases hd with
  | not _ => rfl
  | did _ h1 =>
    unfold calmOp at hc
    split at hc
    · rename_i y ho
      have hy : y ∈ S := by simpa using hc
      cases h1 with
      | op hr hp =>
        rw [ho] at hr
        simp only [aop, Option.some.injEq, Prod.mk.injEq] at hr
        obtain ⟨_, rfl, _⟩ := hr
        exact ev_np hS hy
      | pure q _ _ => rw [ho] at q; cases q
      | call q _ _ => rw [ho] at q; cases q
      | yield q _ _ => rw [ho] at q; cases q
    · rename_i xt y ix ho
      have hy : y ∈ S := by simpa using hc
      have hn := ev_np hS hy
      cases h1 with
      | op hr hp =>
        rw [ho] at hr
        simp only [aop, Option.bind_eq_some_iff] at hr
        obtain ⟨d, _, hr⟩ := hr
        unfold aIndexAddr at hr
        split at hr
        · split at hr
          · rename_i e; rw [e] at hn; cases hn
          · simp only [Option.map_eq_some_iff, Prod.mk.injEq] at hr
            obtain ⟨_, _, _, rfl, _⟩ := hr; rfl
          · rename_i e; rw [e] at hn; cases hn
          · simp only [Option.map_eq_some_iff, Prod.mk.injEq] at hr
            obtain ⟨_, _, _, rfl, _⟩ := hr; rfl
          · cases hr
        · cases hr
      | pure q _ _ => rw [ho] at q; cases q
      | call q _ _ => rw [ho] at q; cases q
      | yield q _ _ => rw [ho] at q; cases q
    · rename_i xt y ix ho
      have hy : y ∈ S := by simpa using hc
      have hn := ev_np hS hy
      cases h1 with
      | op hr hp =>
        rw [ho] at hr
        simp only [aop, Option.bind_eq_some_iff] at hr
        obtain ⟨d, _, hr⟩ := hr
        unfold aFieldAddr at hr
        split at hr
        · rename_i e; rw [e] at hn; cases hn
        · simp only [Option.map_eq_some_iff, Prod.mk.injEq] at hr
          obtain ⟨_, _, _, rfl, _⟩ := hr; rfl
        · cases hr
      | pure q _ _ => rw [ho] at q; cases q
      | call q _ _ => rw [ho] at q; cases q
      | yield q _ _ => rw [ho] at q; cases q
    · cases hc
theorem KN.step {kn : Tmp → Option Nat} {n0 : Nat × List Tmp} {i : Nat} {o : Oper} {s : St} {v : V} {h' : List HB} (K : KN kn n0 ops s) (hi : ops[i]? = some o) (ht : tame ty L o.op = true) (hd : Out P ty L ops o s v h') : KN kn n0 ops ⟨put s.t o.dst v, h'⟩ := by
  obtain ⟨t, h⟩ := s
  have hl := tame_len ht hd
  have fresh : ∀ {a c b q}, cls kn n0 ops a = some (.inr c) → o.dst = some a → v = .ptr b q → b = h.length ∧ h'.length = h.length + 1 := by
    intro a c b q hc ho hv
    rcases alloc_out (cls_new hc hi ho) hd with ⟨_, e⟩ | ⟨e, e2⟩
    · rw [hv] at e; cases e
    · rw [hv] at e; cases e; exact ⟨rfl, e2⟩
  refine ⟨Nat.le_trans K.len hl, ?_, ?_, ?_, K.clo, ?_⟩
  rotate_left 3
  · intro a ha w hw
    rcases put_at hw with ⟨e, e2⟩ | ⟨_, e⟩
    · have hm : o ∈ ops.toList := by
        obtain ⟨q, rfl⟩ := Array.getElem?_eq_some_iff.1 hi
        exact Array.getElem_mem_toList q
      have := List.all_eq_true.1 K.clo o hm
      simp only [e, Bool.or_eq_true, Bool.not_eq_true'] at this
      rcases this with h1 | h1
      · have : n0.2.contains a = true := by simpa using ha
        rw [this] at h1; cases h1
      · rw [e2]; exact calm_out (fun a ha v hv => K.npt a ha v hv) h1 hd
    · exact K.npt a ha w e
  · intro a b hc
    obtain ⟨h1, h2, q, h3⟩ := K.old a b hc
    refine ⟨h1, h2, q, ?_⟩
    have hne : o.dst ≠ some a := by
      have hm : o ∈ ops.toList := by
        obtain ⟨q, rfl⟩ := Array.getElem?_eq_some_iff.1 hi
        exact Array.getElem_mem_toList q
      have := List.all_eq_true.1 h2 o hm
      simpa using this
    cases hd' : o.dst with
    | none => exact h3
    | some d =>
      have : d ≠ a := fun e => hne (by rw [hd', e])
      show (t.set d v)[a]? = _
      rw [List.getElem?_set_ne this]; exact h3
  · intro a c hc
    obtain ⟨h1, h2⟩ := K.new a c hc
    refine ⟨h1, fun b q hp => ?_⟩
    rcases put_at hp with ⟨e, e2⟩ | ⟨_, e⟩
    · obtain ⟨rfl, e3⟩ := fresh hc e e2.symm
      exact ⟨K.len, by show h.length < h'.length; omega⟩
    · obtain ⟨p, q⟩ := h2 b q e
      exact ⟨p, Nat.lt_of_lt_of_le q hl⟩
  · intro a c hac ha hc b q b' q' h1 h2
    rcases put_at h1 with ⟨e, e2⟩ | ⟨_, e⟩ <;> rcases put_at h2 with ⟨e', e2'⟩ | ⟨_, e'⟩
    · rw [e] at e'; exact absurd (Option.some.inj e') hac
    · obtain ⟨rfl, _⟩ := fresh ha e e2.symm
      exact Nat.ne_of_gt ((K.new c c hc).2 _ _ e').2
    · obtain ⟨rfl, _⟩ := fresh hc e' e2'.symm
      exact Nat.ne_of_lt ((K.new a a ha).2 _ _ e).2
    · exact K.dif a c hac ha hc _ _ _ _ e e'

theorem alloc_at {o : Oper} {t : List V} {h : List HB} {v : V} {h' : List HB} (ha : allocs o.op = true) (hd : Out P ty L ops o ⟨t, h⟩ v h') :
    ∃ g : List HB → List HB, (g = id ∨ ∃ x, g = fun h => h ++ [x]) ∧ h' = g h ∧ ∀ h2 : List HB, h2.length = h.length → Out P ty L ops o ⟨t, h2⟩ v (g h2) := by
  cases hd with
  | not hg => exact ⟨id, .inl rfl, rfl, fun h2 _ => .not hg⟩
  | did hg h1 =>
    cases ho : o.op <;> rw [ho] at ha <;> simp [allocs] at ha
    cases h1 with
    | op hr hp =>
      rw [ho] at hr
      simp only [aop, Option.map_eq_some_iff, Prod.mk.injEq] at hr
      obtain ⟨i, hi, rfl, rfl, rfl⟩ := hr
      refine ⟨_, .inr ⟨_, rfl⟩, rfl, fun h2 e => .did hg (.op (p := True) ?_ trivial)⟩
      rw [ho]
      simp only [aop, hi, Option.map_some, e]
    | pure hc _ _ => rw [ho] at hc; cases hc
    | call hc _ _ => rw [ho] at hc; cases hc
    | yield hc _ _ => rw [ho] at hc; cases hc

/-- Two addresses that the classes keep apart. -/
theorem KN.apart {kn : Tmp → Option Nat} {n0 : Nat × List Tmp} {t : List V} {h : List HB} (K : KN kn n0 ops ⟨t, h⟩) {o1 o2 : Oper} {a c : Tmp} (ha : addrOf o1.op = some a) (hc : addrOf o2.op = some c) (hap : apart2 kn n0 ops o1 o2 = true) {b q b' q' : Nat} (h1 : t[a]? = some (.ptr b q)) (h2 : t[c]? = some (.ptr b' q')) : b ≠ b' := by
  unfold apart2 at hap
  rw [ha, hc] at hap
  simp only at hap
  split at hap
  · rename_i x y e1 e2
    obtain ⟨_, _, _, p1⟩ := K.old a _ e1
    obtain ⟨_, _, _, p2⟩ := K.old c _ e2
    simp only at p1 p2
    rw [h1] at p1; rw [h2] at p2
    cases p1; cases p2
    simpa using hap
  · rename_i x y e1 e2
    obtain ⟨rfl, _⟩ := K.new a _ e1
    obtain ⟨rfl, _⟩ := K.new c _ e2
    exact K.dif _ _ (by simpa using hap) e1 e2 _ _ _ _ h1 h2
  · rename_i x y n1 n2 e1 e2
    cases x with
    | inl x =>
      cases y with
      | inl y => exact (n1 x y rfl rfl).elim
      | inr y =>
        obtain ⟨l1, _, _, p1⟩ := K.old a _ e1
        simp only at p1
        rw [h1] at p1; cases p1
        exact Nat.ne_of_lt (Nat.lt_of_lt_of_le l1 ((K.new c _ e2).2 _ _ h2).1)
    | inr x =>
      cases y with
      | inl y =>
        obtain ⟨l1, _, _, p1⟩ := K.old c _ e2
        simp only at p1
        rw [h2] at p1; cases p1
        exact Nat.ne_of_gt (Nat.lt_of_lt_of_le l1 ((K.new a _ e1).2 _ _ h1).1)
      | inr y => exact (n2 x y rfl rfl).elim
  · cases hap

theorem KN.below {kn : Tmp → Option Nat} {n0 : Nat × List Tmp} {t : List V} {h : List HB} (K : KN kn n0 ops ⟨t, h⟩) {a : Tmp} (hc : (cls kn n0 ops a).isSome = true) {b q : Nat} (h1 : t[a]? = some (.ptr b q)) : b < h.length := by
  obtain ⟨x, hx⟩ := Option.isSome_iff_exists.1 hc
  cases x with
  | inl x =>
    obtain ⟨l1, _, _, p1⟩ := K.old a _ hx
    simp only at p1
    rw [h1] at p1; cases p1
    exact Nat.lt_of_lt_of_le l1 K.len
  | inr x => exact ((K.new a _ hx).2 _ _ h1).2

theorem run_swap2 {kn : Tmp → Option Nat} {n0 : Nat × List Tmp} {i j : Nat} {oi oj : Oper} {l : List Nat} {s s' : St} (hi : ops[i]? = some oi) (hj : ops[j]? = some oj) (hin : indep2 ty L kn n0 ops oi oj = true) (hK : KN kn n0 ops s) (h : Run P ty L ops (i :: j :: l) s s') : Run P ty L ops (j :: i :: l) s s' := by
  simp only [indep2, Bool.and_eq_true, Bool.not_eq_true', Bool.or_eq_true, beq_iff_eq] at hin
  obtain ⟨⟨⟨h1, h2⟩, h3⟩, h4⟩ := hin
  cases h with
  | cons ho1 out1 r1 =>
    rw [hi] at ho1; cases ho1
    cases r1 with
    | cons ho2 out2 r2 =>
      rw [hj] at ho2; cases ho2
      rename_i v1 g1 v2 g2
      obtain ⟨t, h⟩ := s
      simp only at out1 out2 r2
      have out2' := out_move out2 (put_other (t := t) (v := v1) h1)
      have fin : ∀ {g1' : List HB}, Out P ty L ops oj ⟨t, h⟩ v2 g1' → Out P ty L ops oi ⟨t, g1'⟩ v1 g2 → Run P ty L ops (j :: i :: l) ⟨t, h⟩ s' := by
        intro g1' a b
        refine .cons hj a (.cons hi (out_move b (fun i hi => (put_other (t := t) (v := v2) h2 i hi).symm)) ?_)
        rw [← put_comm h3]
        exact r2
      have get : ∀ {f : List HB → List HB} {b c : Nat}, b ≠ c → (f = id ∨ ∃ x, f = fun g => g.set b x) → ∀ g : List HB, (f g)[c]? = g[c]? := by
        rintro f b c hbc (rfl | ⟨x, rfl⟩) g
        · rfl
        · exact List.getElem?_set_ne hbc
      have getg : ∀ {g : List HB → List HB} {c : Nat}, (g = id ∨ ∃ x, g = fun h => h ++ [x]) → ∀ u : List HB, c < u.length → (g u)[c]? = u[c]? := by
        rintro g c (rfl | ⟨x, rfl⟩) u hc
        · rfl
        · exact List.getElem?_append_left hc
      have flen : ∀ {f : List HB → List HB} {b : Nat}, (f = id ∨ ∃ x, f = fun g => g.set b x) → ∀ g : List HB, (f g).length = g.length := by
        rintro f b (rfl | ⟨x, rfl⟩) g
        · rfl
        · simp
      have commg : ∀ {f g : List HB → List HB} {b : Nat}, (f = id ∨ ∃ x, f = fun g => g.set b x) → (g = id ∨ ∃ x, g = fun h => h ++ [x]) → ∀ u : List HB, b < u.length → g (f u) = f (g u) := by
        rintro f g b (rfl | ⟨x, rfl⟩) (rfl | ⟨y, rfl⟩) u hb
        · rfl
        · rfl
        · rfl
        · exact (List.set_append_left _ _ hb).symm
      have np1 : ∀ {o : Oper} {v : V} {g g' : List HB}, freeBy n0.2 o.op = true → Out P ty L ops o ⟨t, g⟩ v g' → g' = g ∧ ∀ h2 : List HB, Out P ty L ops o ⟨t, h2⟩ v h2 := by
        intro o v g g' hf ho
        cases ha : addrOf o.op with
        | none => simp [freeBy, ha] at hf
        | some a =>
          have ham : a ∈ n0.2 := by simpa [freeBy, ha] using hf
          rcases out_at2 ha ho with r | ⟨b, q, h1, _⟩
          · exact r
          · have := hK.npt a ham _ h1; cases this
      rcases h4 with ((((((h4 | h4) | ⟨h4, h5⟩) | h4) | ⟨h4, h5⟩) | ⟨h4, h5⟩) | h4) | h4
      · obtain ⟨rfl, k⟩ := out_free h4 out1
        exact fin out2' (k _)
      · obtain ⟨rfl, k⟩ := out_free h4 out2'
        exact fin (k h) out1
      · have e1 := out_read h4 out1
        have e2 := out_read h5 out2'
        subst e1; subst e2
        exact fin out2' out1
      · have h4' := h4
        unfold apart2 at h4
        split at h4
        · rename_i a c ha hc
          rcases out_at2 ha out1 with ⟨rfl, k1⟩ | ⟨b1, q1, t1, l1, f1, k1, rfl, r1'⟩
          · exact fin out2' (k1 _)
          · rcases out_at2 hc out2' with ⟨rfl, k2⟩ | ⟨b2, q2, t2, l2, f2, k2, rfl, r2'⟩
            · exact fin (k2 h) out1
            · have hne := hK.apart ha hc h4' t1 t2
              have comm : f2 (f1 h) = f1 (f2 h) := by
                rcases k1 with rfl | ⟨x, rfl⟩ <;> rcases k2 with rfl | ⟨y, rfl⟩ <;> first | rfl | exact List.set_comm _ _ hne
              have a1 := r2' h (get hne k1 h).symm
              have a2 := r1' (f2 h) (get (Ne.symm hne) k2 h)
              rw [← comm] at a2
              exact fin a1 a2
        · cases h4
      · obtain ⟨a, ha⟩ := Option.isSome_iff_exists.1 h4
        obtain ⟨g, kg, rfl, rg⟩ := alloc_at h5 out2'
        rcases out_at2 ha out1 with ⟨rfl, k1⟩ | ⟨b1, q1, t1, l1, f1, k1, rfl, r1'⟩
        · exact fin out2' (k1 _)
        · have a1 := rg h (flen k1 h).symm
          have a2 := r1' (g h) (getg kg h l1)
          rw [← commg k1 kg h l1] at a2
          exact fin a1 a2
      · cases hc : addrOf oj.op with
        | none => simp [hc] at h5
        | some c =>
          simp only [hc, Option.map_some, Option.getD_some] at h5
          obtain ⟨g, kg, rfl, rg⟩ := alloc_at h4 out1
          rcases out_at2 hc out2' with ⟨rfl, k2⟩ | ⟨b2, q2, t2, l2, f2, k2, rfl, r2'⟩
          · exact fin (k2 h) out1
          · have l3 := hK.below h5 t2
            have a1 := r2' h (getg kg h l3).symm
            have a2 := rg (f2 h) (flen k2 h)
            rw [commg k2 kg h l3] at a2
            exact fin a1 a2
      · obtain ⟨rfl, k⟩ := np1 h4 out1
        exact fin out2' (k _)
      · obtain ⟨rfl, k⟩ := np1 h4 out2'
        exact fin (k h) out1

def tameAll (ty : Tab) (L : List FuncId) (ops : Array Oper) : Bool := ops.toList.all fun o => tame ty L o.op

theorem Run.tailN {kn : Tmp → Option Nat} {n0 : Nat × List Tmp} (hT : tameAll ty L ops = true) {i : Nat} {l l' : List Nat} {s s' : St} (hK : KN kn n0 ops s) (h : Run P ty L ops (i :: l) s s') (k : ∀ {s : St}, KN kn n0 ops s → Run P ty L ops l s s' → Run P ty L ops l' s s') : Run P ty L ops (i :: l') s s' := by
  cases h with
  | cons ho out r =>
    refine .cons ho out (k (hK.step ho ?_ out) r)
    obtain ⟨q, rfl⟩ := Array.getElem?_eq_some_iff.1 ho
    exact List.all_eq_true.1 hT _ (Array.getElem_mem_toList q)

def InD2 (ty : Tab) (L : List FuncId) (kn : Tmp → Option Nat) (n0 : Nat × List Tmp) (ops : Array Oper) (i j : Nat) : Prop := ∃ oi oj, ops[i]? = some oi ∧ ops[j]? = some oj ∧ indep2 ty L kn n0 ops oi oj = true

theorem run_front2 {kn : Tmp → Option Nat} {n0 : Nat × List Tmp} (hT : tameAll ty L ops = true) {i : Nat} {post : List Nat} {s' : St} : ∀ (pre : List Nat) {s : St}, (∀ x ∈ pre, InD2 ty L kn n0 ops x i) → KN kn n0 ops s → Run P ty L ops (pre ++ i :: post) s s' → Run P ty L ops (i :: (pre ++ post)) s s'
  | [], s, _, _, h => h
  | x :: pre, s, hp, hK, h => by
    obtain ⟨ox, oi, g1, g2, g3⟩ := hp x (by simp)
    have : Run P ty L ops (x :: i :: (pre ++ post)) s s' := Run.tailN hT hK h fun hK r => run_front2 hT pre (fun y hy => hp y (by simp [hy])) hK r
    exact run_swap2 g1 g2 g3 hK this

theorem run_perm2 {kn : Tmp → Option Nat} {n0 : Nat × List Tmp} (hT : tameAll ty L ops = true) {s' : St} : ∀ (l l0 : List Nat) {s : St}, l.Nodup → l.Perm l0 → (∀ x y, List.Sublist [x, y] l0 → List.Sublist [y, x] l → InD2 ty L kn n0 ops x y) → KN kn n0 ops s →
    Run P ty L ops l0 s s' → Run P ty L ops l s s'
  | [], l0, s, _, hp, _, _, h => by
    obtain rfl : l0 = [] := hp.symm.eq_nil
    exact h
  | i :: l, l0, s, hn, hp, hc, hK, h => by
    have hi : i ∈ l0 := hp.subset (by simp)
    obtain ⟨pre, post, rfl⟩ := List.append_of_mem hi
    have hn' := List.nodup_cons.1 hn
    have hp' : l.Perm (pre ++ post) := List.Perm.cons_inv (hp.trans List.perm_middle)
    have hpre : ∀ x ∈ pre, InD2 ty L kn n0 ops x i := by
      intro x hx
      refine hc x i ?_ ?_
      · exact (List.singleton_sublist.2 hx).append (List.singleton_sublist.2 (by simp : i ∈ i :: post))
      · exact (List.singleton_sublist.2 (hp'.symm.subset (by simp [hx]))).cons_cons i
    refine Run.tailN hT hK (run_front2 hT pre hpre hK h) fun hK r => run_perm2 hT l (pre ++ post) hn'.2 hp' ?_ hK r
    intro x y h1 h2
    refine hc x y (h1.trans ?_) (h2.cons _)
    exact (List.Sublist.refl pre).append (List.sublist_cons_self i post)

/-! ### The check -/

/-- The pairs of a list, the earlier one first. -/
def pairsOf : List Nat → List (Nat × Nat)
  | [] => []
  | x :: l => l.map (fun y => (x, y)) ++ pairsOf l
theorem mem_pairs {x y : Nat} : ∀ {l : List Nat}, List.Sublist [x, y] l → (x, y) ∈ pairsOf l
  | [], h => by cases h
  | z :: l, h => by
    rw [pairsOf, List.mem_append]
    cases h with
    | cons _ h => exact .inr (mem_pairs h)
    | cons_cons _ h => exact .inl (List.mem_map.2 ⟨y, List.singleton_sublist.1 h, rfl⟩)

def okOrder (ty : Tab) (L : List FuncId) (kn : Tmp → Option Nat) (n0 : Nat × List Tmp) (ops : Array Oper) (bx by' : Nat) (l : List Nat) : Bool :=
  l.length == ops.size && (List.range ops.size).all (fun i => l.contains i) &&
  (pairsOf l).all fun (x, y) => ((masks ops ops.size).getD y 0).testBit x || (x == bx && y == by') || (match ops[x]?, ops[y]? with
    | some ox, some oy => indep2 ty L kn n0 ops ox oy
    | _, _ => false)
def okDrawO (ty : Tab) (L : List FuncId) (kn : Tmp → Option Nat) (n0 : Nat × List Tmp) (ops : Array Oper) (i j : Nat) (l1 l2 : List Nat) : Bool :=
  ((Region.linearise .any ops 0).length == ops.size && (Region.linearise .text ops 0).length == ops.size && (Region.linearise .gc ops 0).length == ops.size) &&
  tameAll ty L ops && !(i == j) && Nat.blt i ops.size && Nat.blt j ops.size && okOrder ty L kn n0 ops i j l1 && okOrder ty L kn n0 ops j i l2

theorem schedule_goodO {kn : Tmp → Option Nat} {n0 : Nat × List Tmp} {i j : Nat} {l1 l2 : List Nat} (h : okDrawO ty L kn n0 ops i j l1 l2 = true) (mixed : Bool) (t : Nat) : ∃ m, Good m ops (Region.schedule mixed ops t) ∧ (Region.schedule mixed ops t).length = ops.size := by
  simp only [okDrawO, Bool.and_eq_true, beq_iff_eq] at h
  obtain ⟨⟨⟨⟨⟨⟨⟨⟨h1, h2⟩, h3⟩, _⟩, _⟩, _⟩, _⟩, _⟩, _⟩ := h
  unfold Region.schedule
  split
  · exact ⟨_, linearise_good h1 t⟩
  · split
    · exact ⟨_, linearise_good h2 _⟩
    · exact ⟨_, linearise_good h3 _⟩

theorem sub_split {x y : Nat} : ∀ {l : List Nat}, List.Sublist [y, x] l → ∃ a b c, l = a ++ y :: b ++ x :: c
  | [], h => by cases h
  | z :: l, h => by
    cases h with
    | cons _ h => obtain ⟨a, b, c, e⟩ := sub_split h; exact ⟨z :: a, b, c, by rw [e]; rfl⟩
    | cons_cons _ h =>
      obtain ⟨b, c, e⟩ := List.append_of_mem (List.singleton_sublist.1 h)
      exact ⟨[], b, c, by rw [e]; rfl⟩

/-- One of the two orders, by which of the two comes first. -/
theorem run_order {m : Region.Mode} {kn : Tmp → Option Nat} {n0 : Nat × List Tmp} {i j : Nat} {l0 l : List Nat} {s s' : St} (hG : Good m ops l) (hlen : l.length = ops.size) (hT : tameAll ty L ops = true) (h0 : okOrder ty L kn n0 ops i j l0 = true) (hij : ¬ List.Sublist [j, i] l) (hK : KN kn n0 ops s) (hr : Run P ty L ops l0 s s') : Run P ty L ops l s s' := by
  simp only [okOrder, Bool.and_eq_true, beq_iff_eq] at h0
  obtain ⟨⟨hl0, hmem⟩, hall⟩ := h0
  have hp1 : l.Perm (List.range ops.size) := perm_range hG.nodup hG.lt hlen
  have hp : l.Perm l0 := by
    have hsub : ∀ x ∈ l, x ∈ l0 := by
      intro x hx
      have := List.all_eq_true.1 hmem x (List.mem_range.2 (hG.lt x hx))
      simpa using this
    -- as many, all there
    have hcount : ∀ (l l0 : List Nat), l.Nodup → (∀ x ∈ l, x ∈ l0) → l0.length = l.length → l.Perm l0 := by
      intro l
      induction l with
      | nil => intro l0 _ _ h; rw [List.eq_nil_of_length_eq_zero (l := l0) (by simpa using h)]
      | cons x l ih =>
        intro l0 hn hs hl
        have hx := hs x (by simp)
        have hn' := List.nodup_cons.1 hn
        have := ih (l0.erase x) hn'.2 (fun y hy => (List.mem_erase_of_ne (fun (e : y = x) => hn'.1 (by rw [← e]; exact hy))).2 (hs y (by simp [hy]))) (by rw [List.length_erase_of_mem hx]; simp at hl; omega)
        exact (this.cons x).trans (List.perm_cons_erase hx).symm
    exact hcount l l0 hG.nodup hsub (by rw [hl0, hlen])
  refine run_perm2 hT l l0 hG.nodup hp ?_ hK hr
  intro x y h1 h2
  have := List.all_eq_true.1 hall _ (mem_pairs h1)
  simp only [Bool.or_eq_true, Bool.and_eq_true, beq_iff_eq] at this
  rcases this with (hb | ⟨rfl, rfl⟩) | hi
  · exfalso
    obtain ⟨a, b, c, e⟩ := sub_split h2
    have hx := hG.anc (masks_anc ops _ _ _ hb) (a := a) (b := b ++ x :: c) (by rw [e]; simp)
    have hn := hG.nodup
    rw [e] at hn
    have := (List.nodup_append.1 hn).2.2 x (by simp [hx]) x (by simp)
    exact this rfl
  · exact absurd h2 hij
  · cases hx' : ops[x]? with
    | none => simp [hx'] at hi
    | some ox =>
      cases hy' : ops[y]? with
      | none => simp [hx', hy'] at hi
      | some oy =>
        simp only [hx', hy'] at hi
        exact ⟨ox, oy, hx', hy', hi⟩

theorem nodup_two {i j : Nat} : ∀ {l : List Nat}, l.Nodup → List.Sublist [i, j] l → List.Sublist [j, i] l → False
  | [], _, h, _ => by cases h
  | z :: l, hn, h1, h2 => by
    have hn' := List.nodup_cons.1 hn
    cases h1 with
    | cons _ h1 =>
      cases h2 with
      | cons _ h2 => exact nodup_two hn'.2 h1 h2
      | cons_cons _ h2 => exact hn'.1 (h1.subset (by simp))
    | cons_cons _ h1 =>
      cases h2 with
      | cons _ h2 => exact hn'.1 (h2.subset (by simp))
      | cons_cons _ h2 => exact hn'.1 (List.singleton_sublist.1 h1)

theorem run_drawO {kn : Tmp → Option Nat} {n0 : Nat × List Tmp} {i j : Nat} {l1 l2 : List Nat} {s : St} {Q : St → Prop} (h : okDrawO ty L kn n0 ops i j l1 l2 = true) (hK : KN kn n0 ops s) (hr1 : ∃ s', Run P ty L ops l1 s s' ∧ Q s') (hr2 : ∃ s', Run P ty L ops l2 s s' ∧ Q s') (mixed : Bool) (t : Nat) : ∃ s', Run P ty L ops (Region.schedule mixed ops t) s s' ∧ Q s' := by
  obtain ⟨m, hG, hlen⟩ := schedule_goodO h mixed t
  simp only [okDrawO, Bool.and_eq_true, beq_iff_eq] at h
  obtain ⟨⟨⟨⟨⟨⟨_, hT⟩, _⟩, _⟩, _⟩, o1⟩, o2⟩ := h
  by_cases hc : List.Sublist [j, i] (Region.schedule mixed ops t)
  · obtain ⟨s', r, q⟩ := hr2
    exact ⟨s', run_order hG hlen hT o2 (fun h => nodup_two hG.nodup h hc) hK r, q⟩
  · obtain ⟨s', r, q⟩ := hr1
    exact ⟨s', run_order hG hlen hT o1 hc hK r, q⟩

theorem kn_start {s : St} {kn : Tmp → Option Nat} {S : List Tmp} (hc : closedS ops S = true) (hp : (S.all fun a => npAt s.t a) = true) (hk : ∀ a b, kn a = some b → ∃ o, s.t[a]? = some (.ptr b o)) (hn : ∀ a b o, kn a = none → s.t[a]? ≠ some (.ptr b o)) : KN kn (s.h.length, S) ops s := by
  refine ⟨Nat.le_refl _, ?_, ?_, ?_, hc, ?_⟩
  rotate_left 3
  · intro a ha v hv
    have := List.all_eq_true.1 hp a ha
    simp only [npAt, hv] at this
    exact this
  · intro a b h
    unfold cls at h
    split at h
    · rename_i b' e
      split at h
      · rename_i hc
        cases h
        simp only [Bool.and_eq_true, decide_eq_true_eq] at hc
        exact ⟨hc.1, hc.2, hk _ _ e⟩
      · cases h
    · split at h <;> cases h
  · intro a c h
    unfold cls at h
    split at h
    · split at h <;> cases h
    · rename_i e
      split at h
      · cases h
        exact ⟨rfl, fun b o hp => absurd hp (hn _ _ _ e)⟩
      · cases h
  · intro a c _ h _ b o b' o' hp
    unfold cls at h
    split at h
    · split at h <;> cases h
    · rename_i e; exact absurd hp (hn _ _ _ e)

theorem aseq_runI {K : St → Prop} : ∀ (os : List Oper) (l : List Nat) {s : St}, os.map some = l.map (fun i => ops[i]?) → ASeq P ty L ops os s K → ∃ s', Run P ty L ops l s s' ∧ K s'
  | [], [], s, _, h => ⟨s, .nil s, h⟩
  | [], _ :: _, s, e, h => by cases e
  | _ :: _, [], s, e, h => by cases e
  | o :: os, i :: l, s, e, h => by
    simp only [List.map_cons, List.cons.injEq] at e
    obtain ⟨v, h', ho, hk⟩ := astep_out h
    obtain ⟨s', hr, hks⟩ := aseq_runI os l e.2 hk
    exact ⟨s', .cons e.1.symm ho hr, hks⟩

def pk (l : List Oper) (l1 : List Nat) : List Oper := l1.map fun i => l.getD i default
/-- **A region that draws its order, and that makes two new blocks.** -/
theorem aw_drawO {N : Nat} (T : TyOK P ty) (L : List FuncId) {id : Nat} {l : List Oper} {Q : Exit → St → Prop} {s : St} (i j : Nat) (l1 l2 : List Nat) (hd : (okDrawO ty L (ptrs s.t) (s.h.length, calmS s.t l.toArray) l.toArray i j l1 l2 && closedS l.toArray (calmS s.t l.toArray) && (calmS s.t l.toArray).all fun a => npAt s.t a) = true)
    (e1 : (pk l l1).map some = l1.map (fun i => l.toArray[i]?)) (e2 : (pk l l2).map some = l2.map (fun i => l.toArray[i]?)) (h1 : ASeq P ty L l.toArray (pk l l1) s (Q .normal)) (h2 : ASeq P ty L l.toArray (pk l l2) s (Q .normal)) : AW P N (.region id l.toArray true) Q s := by
  intro r hr_ ρ I w a S
  refine wpIn_region_draw fun t => ?_
  rw [Bool.and_eq_true, Bool.and_eq_true] at hd
  obtain ⟨⟨hd, hcl⟩, hnp⟩ := hd
  have hK : KN (ptrs s.t) (s.h.length, calmS s.t l.toArray) l.toArray s := by
    refine kn_start hcl hnp ?_ ?_
    · intro a b h
      unfold ptrs at h
      split at h
      · rename_i b' o e; cases h; exact ⟨o, e⟩
      · cases h
    · intro a b o h e
      unfold ptrs at h
      rw [e] at h
      cases h
  obtain ⟨s', hr, hq⟩ := run_drawO hd hK (aseq_runI _ _ e1 h1) (aseq_runI _ _ e2 h2) _ t
  exact run_sound T hr S.drew fun ρ' I' w' a' S' K' e => ⟨s', ρ', I', hq, S', ((Keep.drew _ _ _ _).trans K').toN N, by rw [e]; exact Mk.refl _ _⟩

/-! ### More than two new blocks -/

def permsOf : Nat → List Nat → List (List Nat)
  | 0, _ => [[]]
  | n + 1, A => A.flatMap fun a => (permsOf n (A.erase a)).map (a :: ·)
theorem mem_perms : ∀ (n : Nat) (A p : List Nat), A.length = n → p.Perm A → p ∈ permsOf n A
  | 0, A, p, h, hp => by
    obtain rfl := List.eq_nil_of_length_eq_zero h
    rw [hp.eq_nil]; simp [permsOf]
  | n + 1, A, p, h, hp => by
    cases p with
    | nil => have := hp.length_eq; simp at this; omega
    | cons a p =>
      have ha : a ∈ A := hp.subset (by simp)
      refine List.mem_flatMap.2 ⟨a, ha, List.mem_map.2 ⟨p, mem_perms n (A.erase a) p ?_ ?_, rfl⟩⟩
      · rw [List.length_erase_of_mem ha]; omega
      · exact List.Perm.cons_inv (hp.trans (List.perm_cons_erase ha))

def isAl (ops : Array Oper) (i : Nat) : Bool := match ops[i]? with
  | some o => allocs o.op
  | none => false
def okOrderN (ty : Tab) (L : List FuncId) (kn : Tmp → Option Nat) (n0 : Nat × List Tmp) (ops : Array Oper) (l : List Nat) : Bool :=
  l.length == ops.size && (List.range ops.size).all (fun i => l.contains i) &&
  (pairsOf l).all fun (x, y) => ((masks ops ops.size).getD y 0).testBit x || (isAl ops x && isAl ops y) || (match ops[x]?, ops[y]? with
    | some ox, some oy => indep2 ty L kn n0 ops ox oy
    | _, _ => false)
/-- May the order of the new blocks be so? -/
def mayBe (ops : Array Oper) (p : List Nat) : Bool := (pairsOf p).all fun (x, y) => !((masks ops ops.size).getD x 0).testBit y
def okDrawN (ty : Tab) (L : List FuncId) (kn : Tmp → Option Nat) (n0 : Nat × List Tmp) (ops : Array Oper) (Ls : List (List Nat)) : Bool :=
  ((Region.linearise .any ops 0).length == ops.size && (Region.linearise .text ops 0).length == ops.size && (Region.linearise .gc ops 0).length == ops.size) &&
  tameAll ty L ops && Ls.all (okOrderN ty L kn n0 ops) &&
  (permsOf ((List.range ops.size).filter (isAl ops)).length ((List.range ops.size).filter (isAl ops))).all fun p => !mayBe ops p || Ls.any fun l => l.filter (isAl ops) == p

theorem schedule_goodN {kn : Tmp → Option Nat} {n0 : Nat × List Tmp} {Ls : List (List Nat)} (h : okDrawN ty L kn n0 ops Ls = true) (mixed : Bool) (t : Nat) : ∃ m, Good m ops (Region.schedule mixed ops t) ∧ (Region.schedule mixed ops t).length = ops.size := by
  simp only [okDrawN, Bool.and_eq_true, beq_iff_eq] at h
  obtain ⟨⟨⟨⟨⟨h1, h2⟩, h3⟩, _⟩, _⟩, _⟩ := h
  unfold Region.schedule
  split
  · exact ⟨_, linearise_good h1 t⟩
  · split
    · exact ⟨_, linearise_good h2 _⟩
    · exact ⟨_, linearise_good h3 _⟩

theorem perm_of_all {l l0 : List Nat} (hn : l.Nodup) (hs : ∀ x ∈ l, x ∈ l0) (hl : l0.length = l.length) : l.Perm l0 := by
  induction l generalizing l0 with
  | nil => rw [List.eq_nil_of_length_eq_zero (l := l0) (by simpa using hl)]
  | cons x l ih =>
    have hx := hs x (by simp)
    have hn' := List.nodup_cons.1 hn
    have := ih (l0 := l0.erase x) hn'.2 (fun y hy => (List.mem_erase_of_ne (fun (e : y = x) => hn'.1 (by rw [← e]; exact hy))).2 (hs y (by simp [hy]))) (by rw [List.length_erase_of_mem hx]; simp at hl; omega)
    exact (this.cons x).trans (List.perm_cons_erase hx).symm

theorem masks_before {m : Region.Mode} {l : List Nat} (hG : Good m ops l) {x y : Nat} (hb : ((masks ops ops.size).getD y 0).testBit x = true) (h2 : List.Sublist [y, x] l) : False := by
  obtain ⟨a, b, c, e⟩ := sub_split h2
  have hx := hG.anc (masks_anc ops _ _ _ hb) (a := a) (b := b ++ x :: c) (by rw [e]; simp)
  have hn := hG.nodup
  rw [e] at hn
  exact (List.nodup_append.1 hn).2.2 x (by simp [hx]) x (by simp) rfl

theorem pairs_sub {x y : Nat} : ∀ {l : List Nat}, (x, y) ∈ pairsOf l → List.Sublist [x, y] l
  | [], h => by cases h
  | z :: l, h => by
    rw [pairsOf, List.mem_append] at h
    rcases h with h | h
    · obtain ⟨w, hw, e⟩ := List.mem_map.1 h
      cases e
      exact (List.singleton_sublist.2 hw).cons_cons _
    · exact (pairs_sub h).cons _

theorem run_orderN {m : Region.Mode} {kn : Tmp → Option Nat} {n0 : Nat × List Tmp} {l0 l : List Nat} {s s' : St} (hG : Good m ops l) (hlen : l.length = ops.size) (hT : tameAll ty L ops = true) (h0 : okOrderN ty L kn n0 ops l0 = true) (hf : l0.filter (isAl ops) = l.filter (isAl ops)) (hK : KN kn n0 ops s) (hr : Run P ty L ops l0 s s') : Run P ty L ops l s s' := by
  simp only [okOrderN, Bool.and_eq_true, beq_iff_eq] at h0
  obtain ⟨⟨hl0, hmem⟩, hall⟩ := h0
  have hp : l.Perm l0 := perm_of_all hG.nodup (fun x hx => by
    have := List.all_eq_true.1 hmem x (List.mem_range.2 (hG.lt x hx))
    simpa using this) (by rw [hl0, hlen])
  refine run_perm2 hT l l0 hG.nodup hp ?_ hK hr
  intro x y h1 h2
  have := List.all_eq_true.1 hall _ (mem_pairs h1)
  simp only [Bool.or_eq_true, Bool.and_eq_true] at this
  rcases this with (hb | ⟨ax, ay⟩) | hi
  · exact (masks_before hG hb h2).elim
  · exfalso
    have q1 := h1.filter (isAl ops)
    have q2 := h2.filter (isAl ops)
    rw [hf] at q1
    simp only [List.filter_cons, ax, ay, if_true, List.filter_nil] at q1 q2
    exact nodup_two (hG.nodup.sublist List.filter_sublist) q1 q2
  · cases hx' : ops[x]? with
    | none => simp [hx'] at hi
    | some ox =>
      cases hy' : ops[y]? with
      | none => simp [hx', hy'] at hi
      | some oy =>
        simp only [hx', hy'] at hi
        exact ⟨ox, oy, hx', hy', hi⟩

theorem run_drawN {kn : Tmp → Option Nat} {n0 : Nat × List Tmp} {Ls : List (List Nat)} {s : St} {Q : St → Prop} (h : okDrawN ty L kn n0 ops Ls = true) (hK : KN kn n0 ops s) (hr : ∀ l ∈ Ls, ∃ s', Run P ty L ops l s s' ∧ Q s') (mixed : Bool) (t : Nat) : ∃ s', Run P ty L ops (Region.schedule mixed ops t) s s' ∧ Q s' := by
  obtain ⟨m, hG, hlen⟩ := schedule_goodN h mixed t
  simp only [okDrawN, Bool.and_eq_true, beq_iff_eq] at h
  obtain ⟨⟨⟨_, hT⟩, hLs⟩, hc⟩ := h
  have hp : (Region.schedule mixed ops t).Perm (List.range ops.size) := perm_range hG.nodup hG.lt hlen
  have hm := mem_perms _ _ _ rfl (hp.filter (isAl ops))
  have h1 := List.all_eq_true.1 hc _ hm
  simp only [Bool.or_eq_true, Bool.not_eq_true'] at h1
  rcases h1 with h1 | h1
  · exfalso
    unfold mayBe at h1
    have : ¬ ((pairsOf ((Region.schedule mixed ops t).filter (isAl ops))).all fun (x, y) => !((masks ops ops.size).getD x 0).testBit y) = true := by rw [h1]; simp
    apply this
    refine List.all_eq_true.2 fun (x, y) hxy => ?_
    have hs := (pairs_sub hxy).trans (List.filter_sublist (p := isAl ops))
    cases hb : ((masks ops ops.size).getD x 0).testBit y with
    | false => show (!((masks ops ops.size).getD x 0).testBit y) = true; rw [hb]; rfl
    | true => exact (masks_before hG hb hs).elim
  · obtain ⟨l0, hl0, he⟩ := List.any_eq_true.1 h1
    obtain ⟨s', r, q⟩ := hr l0 hl0
    exact ⟨s', run_orderN hG hlen hT (List.all_eq_true.1 hLs l0 hl0) (by simpa using he) hK r, q⟩

/-- **A region that draws its order, and that makes new blocks.** -/
theorem aw_drawN {N : Nat} (T : TyOK P ty) (L : List FuncId) {id : Nat} {l : List Oper} {Q : Exit → St → Prop} {s : St} (Ls : List (List Nat)) (hd : (okDrawN ty L (ptrs s.t) (s.h.length, calmS s.t l.toArray) l.toArray Ls && closedS l.toArray (calmS s.t l.toArray) && (calmS s.t l.toArray).all fun a => npAt s.t a) = true)
    (e : ∀ l1 ∈ Ls, (pk l l1).map some = l1.map (fun i => l.toArray[i]?)) (h : ∀ l1 ∈ Ls, ASeq P ty L l.toArray (pk l l1) s (Q .normal)) : AW P N (.region id l.toArray true) Q s := by
  intro r hr_ ρ I w a S
  refine wpIn_region_draw fun t => ?_
  rw [Bool.and_eq_true, Bool.and_eq_true] at hd
  obtain ⟨⟨hd, hcl⟩, hnp⟩ := hd
  have hK : KN (ptrs s.t) (s.h.length, calmS s.t l.toArray) l.toArray s := by
    refine kn_start hcl hnp ?_ ?_
    · intro a b h
      unfold ptrs at h
      split at h
      · rename_i b' o e; cases h; exact ⟨o, e⟩
      · cases h
    · intro a b o h e
      unfold ptrs at h
      rw [e] at h
      cases h
  obtain ⟨s', hr, hq⟩ := run_drawN hd hK (fun l1 hl1 => aseq_runI _ _ (e l1 hl1) (h l1 hl1)) _ t
  exact run_sound T hr S.drew fun ρ' I' w' a' S' K' e => ⟨s', ρ', I', hq, S', ((Keep.drew _ _ _ _).trans K').toN N, by rw [e]; exact Mk.refl _ _⟩
end
end Go.Abs
/- The abstract machine, part 18: a range over a function: the statement; a call of its yield. -/
namespace Go.Abs
open Go Go.RowKit

section
variable {ρ : Rho} {I : Nat → Prop} {w : World} {h : List HB}

/-- A new object that nobody names. -/
theorem RH.grow (H : RH ρ I w h) (o : Obj) : RH ρ I (w.alloc o) h ∧ Keep h ρ I w h ρ I (w.alloc o) := by
  have old : ∀ b, b < w.heap.size → (w.alloc o).heap[b]? = w.heap[b]? := fun b hb => Below.heap_alloc _ _ _ hb
  have lt : ∀ {b : Nat} {o : Obj}, w.heap[b]? = some o → b < w.heap.size := fun h => (Array.getElem?_eq_some_iff.1 h).1
  have x : Ext ρ I w ρ I (w.alloc o) := ⟨fun i p hp => hp, fun _ h => h, fun b hb => old b (H.imlt b hb), fun b c e fr hb => ⟨c, e, fr, (old b (lt hb)).trans hb, rfl⟩⟩
  constructor
  · refine ⟨H.len, ?_, H.inj, fun b hb => by simp; exact Nat.lt_succ_of_lt (H.imlt b hb), H.lp.ext x (fun l rec h1 hi => ⟨old l (lt h1), hi⟩) (fun _ _ h => h)⟩
    intro i q hi
    obtain ⟨rb, base, c', e', fr, h1, h2, h3, h4, h5, h6⟩ := H.row i q hi
    refine ⟨rb, base, c', e', fr, h1, (old rb (lt h2)).trans h2, h3, fun j v hv => ?_, h5, h6⟩
    obtain ⟨y, hy, hr⟩ := h4 j v hv
    exact ⟨y, hy, hr.ext x⟩
  · exact ⟨rfl, rfl, rfl, by simp, fun _ _ h => h, fun _ h => h, fun b hb _ => old b hb, x.sz, fun b _ hb => .inl hb, fun b _ h => h⟩

/-- A record becomes a block. -/
theorem RH.addLoop (H : RH ρ I w h) {l : Nat} {L : LoopB} {rec : Loop} (hl : ¬ Live h ρ l) (A : LoopAt ρ I w L l rec) : RH (ρ ++ [(l, 0)]) I w (h ++ [.loop L]) ∧ Keep h ρ I w h ρ I w := by
  have x : Ext ρ I w (ρ ++ [(l, 0)]) I w := ⟨fun i p hp => getElem?_append_some hp, fun _ h => h, fun _ _ => rfl, fun b c e fr hb => ⟨c, e, fr, hb, rfl⟩⟩
  have rinv : ∀ (i : Nat) (p : Nat × Nat), (ρ ++ [(l, 0)])[i]? = some p → i < h.length → ρ[i]? = some p := by
    intro i p hp hi
    rwa [List.getElem?_append_left (by rw [H.len]; exact hi)] at hp
  have rnew : ∀ (p : Nat × Nat), (ρ ++ [(l, 0)])[h.length]? = some p → p = (l, 0) := by
    intro p hp; rw [← H.len] at hp; simp at hp; exact hp.symm
  refine ⟨⟨by simp [H.len], ?_, ?_, H.imlt, ?_⟩, Keep.refl _ _ _ _⟩
  · intro i q hi
    rcases on_app hi with ⟨hi, hlt⟩ | ⟨_, e⟩
    · obtain ⟨rb, base, c', e', fr, h1, h2, h3, h4, h5, h6⟩ := H.row i q hi
      refine ⟨rb, base, c', e', fr, x.rho _ _ h1, h2, h3, fun j v hv => ?_, h5, h6⟩
      obtain ⟨y, hy, hr⟩ := h4 j v hv
      exact ⟨y, hy, hr.ext x⟩
    · cases e
  · intro i j q1 q2 rb b1 b2 hi o1 hj o2 hp1 hp2
    rcases on_app hi with ⟨hi', hlt⟩ | ⟨hi', _⟩
    · rcases on_app hj with ⟨hj', hlt'⟩ | ⟨hj', _⟩
      · exact H.inj i j q1 q2 rb b1 b2 hi' o1 hj' o2 (rinv _ _ hp1 hlt) (rinv _ _ hp2 hlt')
      · subst hj'
        have := rnew _ hp2; cases this
        exact absurd ⟨i, q1, b1, hi', o1, rinv _ _ hp1 hlt⟩ hl
    · rcases on_app hj with ⟨hj', hlt'⟩ | ⟨hj', _⟩
      · subst hi'
        have := rnew _ hp1; cases this
        exact absurd ⟨j, q2, b2, hj', o2, rinv _ _ hp2 hlt'⟩ hl
      · rw [hi', hj']
  · intro i M hi
    rcases on_app hi with ⟨hi, hlt⟩ | ⟨e1, e⟩
    · obtain ⟨l', base, rec', g1, A'⟩ := H.lp i M hi
      exact ⟨l', base, rec', x.rho _ _ g1, A'.ext x rfl A'.im⟩
    · cases e
      subst e1
      exact ⟨l, 0, rec, by rw [← H.len]; simp, A.ext x rfl A.im⟩
end

section
variable {P : Program} {N : Nat} {Q : Exit → St → Prop} {s : St}

/-- **A range over a function**; a round may leave it by a jump. -/
theorem aw_rangeX {g : Operand} {ps : Array Tmp} {assign body : Code} {f : FuncId} {caps : List V} (hg : ev s.t g = .fn f caps) (he : Enters P f)
    (hc : AC P f (.yld s.h.length :: caps) (s.h ++ [.loop ⟨s.t, ps, assign, body, none⟩]) fun _ h' => ∃ pd : Option Code, h'[s.h.length]? = some (.loop ⟨s.t, ps, assign, body, pd⟩) ∧ match pd with
      | none => Q .normal ⟨s.t, h'.set s.h.length .dead⟩
      | some c => AW P N c Q ⟨s.t, h'.set s.h.length .dead⟩) :
    AW P N (.rangeFunc g ps assign body) Q s := by
  intro r hr ρ I w a S
  obtain rfl : r = none := by
    cases r with
    | none => rfl
    | some l => have := hr rfl; simp [noRange] at this
  have hv := rv_ev (ρ := ρ) (I := I) (w := w) S g
  rw [hg] at hv
  generalize hac : a.eval g = z at hv
  cases hv with
  | fn hl hvs =>
  rename_i vs
  refine wpIn_rangeFunc fun fn _ => ?_
  obtain ⟨rec, hrec⟩ : ∃ rec : Loop, rec = { state := .ready, pending := none, fn, tmps := a.tmps, params := ps, assign, body, defers := w.heap.size } := ⟨_, rfl⟩
  have hent := run_enterLoop_outer (P := P) (w := w) fn a.tmps ps assign body
  rw [← hrec] at hent
  obtain ⟨HA, KA⟩ := S.heap.grow (.deferred (some []))
  obtain ⟨HB', KB⟩ := HA.grow (.loop rec)
  have KAB := KA.trans KB
  obtain ⟨w0, hw0⟩ : ∃ w0, w.alloc (.deferred (some [])) = w0 := ⟨_, rfl⟩
  rw [hw0] at hent HA KA HB' KB KAB
  have sz0 : w0.heap.size = w.heap.size + 1 := by rw [← hw0]; simp
  have at0 : w0.heap[w.heap.size]? = some (.deferred (some [])) := by rw [← hw0]; exact World.alloc_heap_new _ _
  obtain ⟨w1, hw1⟩ : ∃ w1, w0.alloc (.loop rec) = w1 := ⟨_, rfl⟩
  rw [hw1] at hent HB' KB KAB
  have at1 : w1.heap[w.heap.size + 1]? = some (.loop rec) := by rw [← hw1, ← sz0]; exact World.alloc_heap_new _ _
  have at1d : w1.heap[w.heap.size]? = some (.deferred (some [])) := by rw [← hw1]; exact (Below.heap_alloc _ _ _ (by omega)).trans at0
  have sz1 : w1.heap.size = w.heap.size + 2 := by rw [← hw1]; simp [sz0]
  have lvlt : ∀ {b : Nat}, Live s.h ρ b → b < w.heap.size := fun h => (S.heap.lt h).1
  have nl : ¬ Live s.h ρ (w.heap.size + 1) := fun h => by have := lvlt h; omega
  have ni : ¬ I (w.heap.size + 1) := fun h => by have := S.heap.imlt _ h; omega
  have A : LoopAt ρ I w1 ⟨s.t, ps, assign, body, none⟩ (w.heap.size + 1) rec := by
    subst hrec
    exact ⟨at1, rfl, rfl, rfl, rfl, rfl, S.tlen, fun i v hv => by
      obtain ⟨y, hy, hr⟩ := S.tv i v hv; exact ⟨y, hy, hr.ext (KAB.ext S.heap)⟩, ni⟩
  obtain ⟨HL, _⟩ := HB'.addLoop nl A
  have K0 : Keep s.h ρ I w (s.h ++ [.loop ⟨s.t, ps, assign, body, none⟩]) (ρ ++ [(w.heap.size + 1, 0)]) I w1 :=
    ⟨KAB.os, KAB.tape, KAB.output, KAB.size, fun i p hp => getElem?_append_some hp, KAB.im, KAB.same, KAB.sz, KAB.im', fun b hb hL => by
      obtain ⟨i, x, base, hi, o, hp⟩ := hL
      rcases on_app hi with ⟨hi, hlt⟩ | ⟨e1, _⟩
      · rw [List.getElem?_append_left (by rw [S.heap.len]; exact hlt)] at hp
        exact ⟨i, x, base, hi, o, hp⟩
      · subst e1
        rw [← S.heap.len] at hp; simp at hp
        omega⟩
  have hargs : ∀ (i : Nat) (v : V) (x : Value), (V.yld s.h.length :: caps)[i]? = some v → (#[Value.func (.yield (w.heap.size + 1)) #[] #[]] ++ vs)[i]? = some x → RV (ρ ++ [(w.heap.size + 1, 0)]) I w1 v x := by
    intro i v x q1 q2
    cases i with
    | zero =>
      rw [Array.getElem?_append_left (by simp)] at q2
      simp at q1 q2
      subst q1; subst q2
      exact .yld (base := 0) (by rw [← S.heap.len]; simp)
    | succ i =>
      simp at q1
      rw [Array.getElem?_append_right (by simp)] at q2
      simp at q2
      exact (hvs i v x q1 q2).ext (K0.ext S.heap)
  refine ⟨w.heap.size + 1, _, w1, { target := .fn (.func f) vs, args := #[Value.func (.yield (w.heap.size + 1)) #[] #[]] }, w1, f, #[Value.func (.yield (w.heap.size + 1)) #[] #[]] ++ vs, w1, hent, ?_, fun _ _ => trivial, ?_, fun h => by simp [Fw, Fence.wide] at h, ?_⟩
  · simp only [rangeCall, resolve, hac, Deferred.ofValue, Sem.run_pure]
    simp [Act.eval]
  · simp only [invoke]
    exact he _ w1
  rcases hc (ρ ++ [(w.heap.size + 1, 0)]) I w1 (#[Value.func (.yield (w.heap.size + 1)) #[] #[]] ++ vs) (by simp [hl]; omega) hargs HL with ⟨_, hcall⟩ | ⟨x, w', hx, _⟩
  rotate_left 1
  · rw [he _ w1] at hx; cases hx
  refine CallsIn.mono (F := Fw none) hcall ?_
  rintro e w' ⟨x, rfl, v, h', ρ', I', ⟨pd, hb, hq⟩, hrv, H', K⟩
  have hp' : ρ'[s.h.length]? = some (w.heap.size + 1, 0) := K.rho _ _ (by rw [← S.heap.len]; simp)
  obtain ⟨l', base', rec', e1, A'⟩ := H'.lp _ _ hb
  rw [hp'] at e1; cases e1
  have nl' := not_live_loop H' hb hp'
  have nc' : ∀ c e fr, w'.heap[w.heap.size + 1]? ≠ some (.cells c e fr) := by intro c e fr h; rw [A'.at_] at h; cases h
  obtain ⟨w4, hw4⟩ : ∃ w4, w'.putObj (w.heap.size + 1) (.loop { rec' with state := .exhausted }) = w4 := ⟨_, rfl⟩
  have hend := run_endLoop (P := P) A'.at_ (by rw [A'.ready]; split <;> (intro h; cases h))
  rw [hw4, A'.pend] at hend
  refine ⟨_, w4, hend, ?_⟩
  obtain ⟨HD, KD⟩ := H'.die s.h.length
  have H4 := HD.putObj (.loop { rec' with state := .exhausted }) nl' A'.im nc'
  have K4 : Keep s.h ρ I w (h'.set s.h.length .dead) ρ' I' w4 := by rw [← hw4]; exact ((K0.trans K).trans KD).putObj _ (by omega) nc'
  rw [hw4] at H4
  have X := K4.ext S.heap
  have hmk : Mk a.defers w.heap.size (markD w.heap.size :: a.defers) := ⟨[w.heap.size], rfl, by simp⟩
  have hRS : RS ρ' I' w4 ⟨s.t, h'.set s.h.length .dead⟩ { a with defers := markD w.heap.size :: a.defers } := by
   refine ⟨S.tlen, fun i v hv => ?_, H4, ?_⟩
   · obtain ⟨y, hy, hr⟩ := S.tv i v hv; exact ⟨y, hy, hr.ext X⟩
   · obtain ⟨Ds, e, hn, hD⟩ := marks_keep (K4.toN 0) S.marks
     obtain ⟨Ds0, e0, _, hD0⟩ := S.marks
     have hD1 : w.heap.size < w1.heap.size := by omega
     have nlD : ¬ Live (s.h ++ [.loop ⟨s.t, ps, assign, body, none⟩]) (ρ ++ [(w.heap.size + 1, 0)]) w.heap.size := by
       rintro ⟨i, x, base, hi, o, hp⟩
       rcases on_app hi with ⟨hi, hlt⟩ | ⟨e1, _⟩
       · rw [List.getElem?_append_left (by rw [S.heap.len]; exact hlt)] at hp
         have := lvlt ⟨i, x, base, hi, o, hp⟩; omega
       · subst e1
         rw [← S.heap.len] at hp; simp at hp
     have nID : ¬ I w.heap.size := fun h => by have := S.heap.imlt _ h; omega
     refine ⟨w.heap.size :: Ds, by show _ :: a.defers = _; rw [e]; rfl, ?_, ?_⟩
     · refine List.nodup_cons.2 ⟨fun hm => ?_, hn⟩
       have hinj : ∀ (l1 l2 : List Nat), l1.map markD = l2.map markD → l1 = l2 := by
         intro l1
         induction l1 with
         | nil => intro l2 h; cases l2 with
           | nil => rfl
           | cons => cases h
         | cons x l1 ih => intro l2 h; cases l2 with
           | nil => cases h
           | cons y l2 =>
             simp only [List.map_cons, List.cons.injEq] at h
             have : x = y := by have := h.1; unfold markD at this; simp at this; exact this
             rw [this, ih l2 h.2]
       have := hinj Ds Ds0 (by rw [← e, e0])
       rw [this] at hm
       have := (hD0 _ hm).1
       omega
     · intro D hd
       rcases List.mem_cons.1 hd with rfl | hd
       · refine ⟨?_, fun h => ?_, fun h => ?_, ?_⟩
         · exact Nat.lt_of_lt_of_le hD1 (by rw [← hw4, World.putObj_size]; exact K.size)
         · exact nlD (K.live' _ hD1 (KD.live' _ (Nat.lt_of_lt_of_le hD1 K.size) h))
         · exact (K.im' _ hD1 h).elim nID nlD
         · rw [← hw4, World.putObj_heap_other (by omega)]
           exact (K.same _ hD1 nlD).trans at1d
       · exact hD D hd
  cases pd with
  | none => exact ⟨⟨s.t, h'.set s.h.length .dead⟩, ρ', I', hq, hRS, K4.toN N, hmk⟩
  | some c => exact wpIn_mono (hq none (Okr.none c) ρ' I' w4 _ hRS) fun _ _ _ p => p.before (K4.toN N) hmk

/-- **A range over a function**, all of whose rounds end at their end. -/
theorem aw_range {g : Operand} {ps : Array Tmp} {assign body : Code} {f : FuncId} {caps : List V} (hg : ev s.t g = .fn f caps) (he : Enters P f)
    (hc : AC P f (.yld s.h.length :: caps) (s.h ++ [.loop ⟨s.t, ps, assign, body, none⟩]) fun _ h' => h'[s.h.length]? = some (.loop ⟨s.t, ps, assign, body, none⟩) ∧ Q .normal ⟨s.t, h'.set s.h.length .dead⟩) :
    AW P N (.rangeFunc g ps assign body) Q s :=
  aw_rangeX hg he fun ρ I w vs h1 h2 h3 => (hc ρ I w vs h1 h2 h3).mono fun x w' ⟨v, h', ρ', I', ⟨q1, q2⟩, q3⟩ => ⟨v, h', ρ', I', ⟨none, q1, q2⟩, q3⟩

/-- Both ways of a branch lead to one state. -/
theorem aw_joinR {X : Type} (J : X → St) (Inv : X → Prop) {c rest : Code} {Q Q2 : Exit → St → Prop} (h : ∀ K : Exit → St → Prop, (∀ s x, Inv x → Wk N s (J x) → K .normal s) → AW P N c K s)
    (k : ∀ x, Inv x → AW P N rest Q (J x)) : AW P N c (thenK (AW P N rest Q) Q2) s := by
  refine AW.mono (h (fun e s => e = .normal ∧ ∃ x, Inv x ∧ Wk N s (J x)) fun s x hx hw => ⟨rfl, x, hx, hw⟩) ?_
  rintro e s ⟨rfl, x, hx, hw⟩
  exact aw_wk hw (k x hx)

variable {ty : Tab} {Ls : List FuncId} {ops : Array Oper} {os : List Oper} {t : List V} {h : List HB} {K : St → Prop}
/-- A call of the yield of a loop: one round. -/
theorem st_yield {op : Op} {d : Option Tmp} {a : TypeId} {b : String} {c : Array Edge} {n : Nat} {args : List V} {lb : LoopB} {h' : List HB} (e0 : callOf t op = none) (e : yieldOf t op = some (n, args)) (ha : aop ty t h op = none) (hb : h[n]? = some (.loop lb)) (hr : RoundD P lb args (h.set n .dead) h')
    (k : ASeq P ty Ls ops os ⟨put t d (.bool true), h'.set n (.loop lb)⟩ K) : ASeq P ty Ls ops (⟨d, op, a, b, c, none⟩ :: os) ⟨t, h⟩ K := by
  have hp := hr.2.2.2.1
  simp only [ASeq, AStep, guardOf, ADo, ha, e0, e]
  refine ⟨fun _ => ⟨lb, h', none, hb, hr, ?_⟩, fun h => by cases h⟩
  rw [show ({ lb with pend := none } : LoopB) = lb from by cases lb; cases hp; rfl]
  exact k
/-- A call of the yield of a loop: one round, that leaves it. -/
theorem st_yieldX {op : Op} {d : Option Tmp} {a : TypeId} {b : String} {c : Array Edge} {n : Nat} {args : List V} {lb : LoopB} {h' : List HB} (j : Code) (e0 : callOf t op = none) (e : yieldOf t op = some (n, args)) (ha : aop ty t h op = none) (hb : h[n]? = some (.loop lb)) (hr : RoundD P lb args (h.set n .dead) h' (some j))
    (k : ASeq P ty Ls ops os ⟨put t d (.bool false), h'.set n (.loop { lb with pend := some j })⟩ K) : ASeq P ty Ls ops (⟨d, op, a, b, c, none⟩ :: os) ⟨t, h⟩ K := by
  simp only [ASeq, AStep, guardOf, ADo, ha, e0, e]
  exact ⟨fun _ => ⟨lb, h', some j, hb, hr, k⟩, fun h => by cases h⟩
end
end Go.Abs
