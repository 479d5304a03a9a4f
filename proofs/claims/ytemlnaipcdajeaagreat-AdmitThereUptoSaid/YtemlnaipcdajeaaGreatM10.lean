/- The abstract machine, part 24: a region that draws its order, of which some operations (whatever they do) are walked in each order that they may have. -/
import Derived.Test.YtemlnaipcdajeaaGreatM9
import Derived.Test.YtemlnaipcdajeaaGreatM7
import Derived.Lib.LazyBuf
set_option linter.unusedVariables false
set_option linter.unusedSimpArgs false
namespace Go.Abs
open Go Go.RowKit

section
variable {P : Program} {ty : Tab} {L : List FuncId} {ops : Array Oper}
theorem run_permS {kn : Tmp → Option Nat} {s' : St} : ∀ (l l0 : List Nat) {s : St}, l.Nodup → l.Perm l0 → (∀ x y, List.Sublist [x, y] l0 → List.Sublist [y, x] l → InD ty L kn ops x y) → Kn kn ops s.t →
    Run P ty L ops l0 s s' → Run P ty L ops l s s'
  | [], l0, s, _, hp, _, _, h => by
    obtain rfl : l0 = [] := hp.symm.eq_nil
    exact h
  | i :: l, l0, s, hn, hp, hc, hK, h => by
    have hi : i ∈ l0 := hp.subset (by simp)
    obtain ⟨pre, post, rfl⟩ := List.append_of_mem hi
    have hn' := List.nodup_cons.1 hn
    have hp' : l.Perm (pre ++ post) := List.Perm.cons_inv (hp.trans List.perm_middle)
    have hpre : ∀ x ∈ pre, InD ty L kn ops x i := by
      intro x hx
      refine hc x i ?_ ?_
      · exact (List.singleton_sublist.2 hx).append (List.singleton_sublist.2 (by simp : i ∈ i :: post))
      · exact (List.singleton_sublist.2 (hp'.symm.subset (by simp [hx]))).cons_cons i
    refine Run.tailK hK (run_front pre hpre hK h) fun hK r => run_permS l (pre ++ post) hn'.2 hp' ?_ hK r
    intro x y h1 h2
    refine hc x y (h1.trans ?_) (h2.cons _)
    exact (List.Sublist.refl pre).append (List.sublist_cons_self i post)

def okOrderS (ty : Tab) (L : List FuncId) (kn : Tmp → Option Nat) (ops : Array Oper) (Sp l : List Nat) : Bool :=
  l.length == ops.size && (List.range ops.size).all (fun i => l.contains i) &&
  (pairsOf l).all fun (x, y) => ((masks ops ops.size).getD y 0).testBit x || (Sp.contains x && Sp.contains y) || (match ops[x]?, ops[y]? with
    | some ox, some oy => indep ty L kn ops ox oy
    | _, _ => false)
def okDrawS (ty : Tab) (L : List FuncId) (kn : Tmp → Option Nat) (ops : Array Oper) (Sp : List Nat) (Ls : List (List Nat)) : Bool :=
  ((Region.linearise .any ops 0).length == ops.size && (Region.linearise .text ops 0).length == ops.size && (Region.linearise .gc ops 0).length == ops.size) &&
  Ls.all (okOrderS ty L kn ops Sp) &&
  (permsOf ((List.range ops.size).filter fun i => Sp.contains i).length ((List.range ops.size).filter fun i => Sp.contains i)).all fun p => !mayBe ops p || Ls.any fun l => l.filter (fun i => Sp.contains i) == p

theorem schedule_goodS {kn : Tmp → Option Nat} {Sp : List Nat} {Ls : List (List Nat)} (h : okDrawS ty L kn ops Sp Ls = true) (mixed : Bool) (t : Nat) : ∃ m, Good m ops (Region.schedule mixed ops t) ∧ (Region.schedule mixed ops t).length = ops.size := by
  simp only [okDrawS, Bool.and_eq_true, beq_iff_eq] at h
  obtain ⟨⟨⟨⟨h1, h2⟩, h3⟩, _⟩, _⟩ := h
  unfold Region.schedule
  split
  · exact ⟨_, linearise_good h1 t⟩
  · split
    · exact ⟨_, linearise_good h2 _⟩
    · exact ⟨_, linearise_good h3 _⟩

theorem run_orderS {m : Region.Mode} {kn : Tmp → Option Nat} {Sp l0 l : List Nat} {s s' : St} (hG : Good m ops l) (hlen : l.length = ops.size) (h0 : okOrderS ty L kn ops Sp l0 = true) (hf : l0.filter (fun i => Sp.contains i) = l.filter (fun i => Sp.contains i)) (hK : Kn kn ops s.t) (hr : Run P ty L ops l0 s s') : Run P ty L ops l s s' := by
  simp only [okOrderS, Bool.and_eq_true, beq_iff_eq] at h0
  obtain ⟨⟨hl0, hmem⟩, hall⟩ := h0
  have hp : l.Perm l0 := perm_of_all hG.nodup (fun x hx => by
    have := List.all_eq_true.1 hmem x (List.mem_range.2 (hG.lt x hx))
    simpa using this) (by rw [hl0, hlen])
  refine run_permS l l0 hG.nodup hp ?_ hK hr
  intro x y h1 h2
  have := List.all_eq_true.1 hall _ (mem_pairs h1)
  simp only [Bool.or_eq_true, Bool.and_eq_true] at this
  rcases this with (hb | ⟨ax, ay⟩) | hi
  · exact (masks_before hG hb h2).elim
  · exfalso
    have q1 := h1.filter (fun i => Sp.contains i)
    have q2 := h2.filter (fun i => Sp.contains i)
    rw [hf] at q1
    simp only [List.filter_cons, ax, ay, if_true, List.filter_nil] at q1 q2
    exact nodup_two (hG.nodup.sublist List.filter_sublist) q1 q2
  · cases hx' : ops[x]? with
    | none => simp [hx'] at hi
    | some ox =>
      cases hy' : ops[y]? with
      | none => simp [hx', hy'] at hi
      | some oy =>
        simp only [hx', hy'] at hi
        exact ⟨ox, oy, hx', hy', hi⟩

theorem run_drawS {kn : Tmp → Option Nat} {Sp : List Nat} {Ls : List (List Nat)} {s : St} {Q : St → Prop} (h : okDrawS ty L kn ops Sp Ls = true) (hK : Kn kn ops s.t) (hr : ∀ l ∈ Ls, ∃ s', Run P ty L ops l s s' ∧ Q s') (mixed : Bool) (t : Nat) : ∃ s', Run P ty L ops (Region.schedule mixed ops t) s s' ∧ Q s' := by
  obtain ⟨m, hG, hlen⟩ := schedule_goodS h mixed t
  simp only [okDrawS, Bool.and_eq_true, beq_iff_eq] at h
  obtain ⟨⟨_, hLs⟩, hc⟩ := h
  have hp : (Region.schedule mixed ops t).Perm (List.range ops.size) := perm_range hG.nodup hG.lt hlen
  have hm := mem_perms _ _ _ rfl (hp.filter (fun i => Sp.contains i))
  have h1 := List.all_eq_true.1 hc _ hm
  simp only [Bool.or_eq_true, Bool.not_eq_true'] at h1
  rcases h1 with h1 | h1
  · exfalso
    unfold mayBe at h1
    have : ¬ ((pairsOf ((Region.schedule mixed ops t).filter (fun i => Sp.contains i))).all fun (x, y) => !((masks ops ops.size).getD x 0).testBit y) = true := by rw [h1]; simp
    apply this
    refine List.all_eq_true.2 fun (x, y) hxy => ?_
    have hs := (pairs_sub hxy).trans (List.filter_sublist (p := fun i => Sp.contains i))
    cases hb : ((masks ops ops.size).getD x 0).testBit y with
    | false => show (!((masks ops ops.size).getD x 0).testBit y) = true; rw [hb]; rfl
    | true => exact (masks_before hG hb hs).elim
  · obtain ⟨l0, hl0, he⟩ := List.any_eq_true.1 h1
    obtain ⟨s', r, q⟩ := hr l0 hl0
    exact ⟨s', run_orderS hG hlen (List.all_eq_true.1 hLs l0 hl0) (by simpa using he) hK r, q⟩

/-- **A region that draws its order**: some operations are walked in each order. -/
theorem aw_drawS {N : Nat} (T : TyOK P ty) (L : List FuncId) {id : Nat} {l : List Oper} {Q : Exit → St → Prop} {s : St} (Sp : List Nat) (Ls : List (List Nat)) (hd : okDrawS ty L (ptrs s.t) l.toArray Sp Ls = true)
    (e : ∀ l1 ∈ Ls, (pk l l1).map some = l1.map (fun i => l.toArray[i]?)) (h : ∀ l1 ∈ Ls, ASeq P ty L l.toArray (pk l l1) s (Q .normal)) : AW P N (.region id l.toArray true) Q s := by
  intro r hr_ ρ I w a S
  refine wpIn_region_draw fun t => ?_
  obtain ⟨s', hr, hq⟩ := run_drawS hd (kn_ptrs _) (fun l1 hl1 => aseq_runI _ _ (e l1 hl1) (h l1 hl1)) _ t
  exact run_sound T hr S.drew fun ρ' I' w' a' S' K' e => ⟨s', ρ', I', hq, S', ((Keep.drew _ _ _ _).trans K').toN N, by rw [e]; exact Mk.refl _ _⟩
end
end Go.Abs
/- The abstract machine, part 25: a walk that also reckons indices. -/
namespace Go.Abs
open Go Go.RowKit
theorem toNat_add (a b : Nat) : ((a : Int) + (b : Int)).toNat = a + b := by omega
theorem toNat_succ (a : Nat) : ((a : Int) + 1).toNat = a + 1 := by omega
theorem toNat_pred (a : Nat) : ((a : Int) - 1).toNat = a - 1 := by omega
theorem toNat_sub (a b : Nat) : ((a : Int) - (b : Int)).toNat = a - b := by omega
section
variable {α : Type} {f : α → List V} {k : Nat}
theorem flat_take00L {g : α → List V} [h : Rows f k] [q : RowsL f g] (l : List α) (hi : 0 < l.length) : List.take k (flat f l) = g l[0] := by
  have := flat_takeL (f := f) l 0 hi
  rw [Nat.zero_mul, List.drop_zero] at this; exact this
theorem flat_part00L {g : α → List V} [h : Rows f k] [q : RowsL f g] (l : List α) (m : Nat) (hi : 0 < l.length) (ho : m < k) : List.take m (flat f l) = List.take m (g l[0]) := by
  have := flat_part0L (f := f) l 0 m hi ho
  rw [Nat.zero_mul, List.drop_zero] at this; exact this
theorem flat_partOL {g : α → List V} [h : Rows f k] [q : RowsL f g] (l : List α) (o m : Nat) (hi : 0 < l.length) (ho : o + m ≤ k) : List.take m (List.drop o (flat f l)) = List.take m (List.drop o (g l[0])) := by
  have := flat_partL (f := f) l 0 o m hi ho
  rw [Nat.zero_mul, Nat.zero_add] at this; exact this
theorem nth_flat00L {g : α → List V} [h : Rows f k] [q : RowsL f g] (l : List α) (o : Nat) (hi : 0 < l.length) (ho : o < k) : nth (flat f l) o = nth (g l[0]) o := by
  have := nth_flatL (f := f) l 0 o hi ho
  rw [Nat.zero_mul, Nat.zero_add] at this; exact this
end
/-- What is left of a goal behind a walk. -/
theorem wkn {A B : Prop} (k : B) (h : Left B → A := by
    intro hwk
    repeat' (first
      | (with_reducible refine st_id ?_
         first
         | ((first
             | refine st_kn rfl rfl (fun F hF => ?_)
             | (apply st_ck
                focus exact rfl
                focus (dsimp only [List.map_cons, List.map_nil, List.append_nil, ev, nth, List.cons_append, List.nil_append, ofC, ofS]; (first | with_reducible assumption | (apply_assumption -exfalso -symm <;> first | omega | with_reducible assumption)); done)
                intro F hF)
             | refine st_skk rfl rfl (fun F hF => ?_)
             | (refine st_pTk rfl ?_ (fun F hF => ?_)
                focus ((first | decide | (with_reducible refine decide_eq_true ?_; omega) | (with_reducible refine beq_iff_eq.2 ?_; omega) | (with_reducible refine decide_eq_false ?_; omega) | (with_reducible refine beq_eq_false_iff_ne.2 ?_; omega) | (with_reducible refine bne_iff_ne.2 ?_; omega) | (with_reducible refine bne_eq_false_iff_eq.2 ?_; omega) | with_reducible assumption | (simp only [Bool.not_eq_true', Bool.not_eq_false']; with_reducible assumption) | with_reducible rfl); done))
             | (refine st_pFk rfl ?_ (fun F hF => ?_)
                focus ((first | decide | (with_reducible refine decide_eq_true ?_; omega) | (with_reducible refine beq_iff_eq.2 ?_; omega) | (with_reducible refine decide_eq_false ?_; omega) | (with_reducible refine beq_eq_false_iff_ne.2 ?_; omega) | (with_reducible refine bne_iff_ne.2 ?_; omega) | (with_reducible refine bne_eq_false_iff_eq.2 ?_; omega) | with_reducible assumption | (simp only [Bool.not_eq_true', Bool.not_eq_false']; with_reducible assumption) | with_reducible rfl); done))
             | (refine st_gnTk rfl rfl ?_ (fun F hF => ?_)
                focus ((first | decide | (with_reducible refine decide_eq_true ?_; omega) | (with_reducible refine beq_iff_eq.2 ?_; omega) | (with_reducible refine decide_eq_false ?_; omega) | (with_reducible refine beq_eq_false_iff_ne.2 ?_; omega) | (with_reducible refine bne_iff_ne.2 ?_; omega) | (with_reducible refine bne_eq_false_iff_eq.2 ?_; omega) | with_reducible assumption | (simp only [Bool.not_eq_true', Bool.not_eq_false']; with_reducible assumption) | with_reducible rfl); done))
             | (refine st_gnFk rfl rfl ?_ (fun F hF => ?_)
                focus ((first | decide | (with_reducible refine decide_eq_true ?_; omega) | (with_reducible refine beq_iff_eq.2 ?_; omega) | (with_reducible refine decide_eq_false ?_; omega) | (with_reducible refine beq_eq_false_iff_ne.2 ?_; omega) | (with_reducible refine bne_iff_ne.2 ?_; omega) | (with_reducible refine bne_eq_false_iff_eq.2 ?_; omega) | with_reducible assumption | (simp only [Bool.not_eq_true', Bool.not_eq_false']; with_reducible assumption) | with_reducible rfl); done)))
            dsimp only [put, ev, ofC, ofS, one, List.set_cons_zero, List.set_cons_succ, nth, List.getElem?_cons_zero, List.getElem?_cons_succ, List.getElem_toArray, List.getElem_cons_zero, List.getElem_cons_succ, List.length_cons, List.length_nil, List.length_set, List.nil_append, List.cons_append,
              binInt, shiftOp, aUn, Option.map_some, Option.bind_some, Nat.reduceAdd, Nat.reduceSub, Nat.reduceMul, Int.reduceAdd, Int.reduceSub, Int.reduceMul, Int.reduceNeg, Int.reduceToNat, drop0, dropS, takeS, take0,
              List.map_cons, List.map_nil, List.replicate_succ, List.replicate_zero, List.flatten_cons, List.flatten_nil, splice, partOf, aggD, Option.getD_some, reduceIte, Bool.not_true, Bool.not_false, V.cells?, Nat.zero_add, Nat.add_zero, Int.toNat_natCast, Nat.reducePow, Int.reducePow, IntKind.bits]
            try simp (disch := omega) only [shr_min, shl_min, Int.reducePow, Int.tdiv_eq_ediv_of_nonneg, Int.tmod_eq_emod_of_nonneg, wi64, wu64, wu8, toNat_add, toNat_succ, toNat_pred, toNat_sub, flat_takeL, flat_part0L, flat_partL, nth_flatL, nth_flat0L, flat_take00L, flat_part00L, flat_partOL, nth_flat00L, beq_self_eq_true, bne_self_eq_false, Bool.and_true, Bool.true_and]
            try simp only [wu64m, wu8m]
            refine ⟨?_, hF _ ?_⟩
            focus ((first | with_reducible exact True.intro | with_reducible rfl | omega | decide | (and_intros <;> first | with_reducible exact True.intro | with_reducible rfl | omega | decide | with_reducible assumption | (simp only [flat_length]; done) | (simp only [flat_length]; omega) | (simp only [flat_length, List.length_drop, List.length_take, List.length_append, List.length_set]; omega) | exact rfl | exact one_flat _ | (simp [V.one]; done)) | (simp only [flat_length]; done) | (simp only [flat_length]; omega) | (simp only [flat_length, List.length_drop, List.length_take, List.length_append, List.length_set]; omega) | (simp [V.one]; done)); done)
            clear hF F)
         | with_reducible apply st_nil
         | (refine st_gyT rfl rfl ?_ ?_
            focus ((first | decide | (with_reducible refine decide_eq_true ?_; omega) | (with_reducible refine beq_iff_eq.2 ?_; omega) | (with_reducible refine decide_eq_false ?_; omega) | (with_reducible refine beq_eq_false_iff_ne.2 ?_; omega) | (with_reducible refine bne_iff_ne.2 ?_; omega) | (with_reducible refine bne_eq_false_iff_eq.2 ?_; omega) | with_reducible assumption | (simp only [Bool.not_eq_true', Bool.not_eq_false']; with_reducible assumption) | with_reducible rfl); done))
         | (refine st_gyF rfl rfl ?_ ?_
            focus ((first | decide | (with_reducible refine decide_eq_true ?_; omega) | (with_reducible refine beq_iff_eq.2 ?_; omega) | (with_reducible refine decide_eq_false ?_; omega) | (with_reducible refine beq_eq_false_iff_ne.2 ?_; omega) | (with_reducible refine bne_iff_ne.2 ?_; omega) | (with_reducible refine bne_eq_false_iff_eq.2 ?_; omega) | with_reducible assumption | (simp only [Bool.not_eq_true', Bool.not_eq_false']; with_reducible assumption) | with_reducible rfl); done)))
      | (with_reducible refine aw_id ?_
         first
         | with_reducible apply aw_seq | with_reducible apply aw_block | with_reducible apply aw_skip | with_reducible apply aw_ret | with_reducible apply aw_exit | with_reducible apply aw_label | with_reducible apply aw_scope
         | refine aw_region ty_ok (L := []) ?_
         | (refine aw_draw1 ty_ok pureL (by rfl) ?_ ?_; (focus (kernel_rfl; done)))
         | (refine aw_condT rfl ?_ ?_
            focus ((first | decide | (with_reducible refine decide_eq_true ?_; omega) | (with_reducible refine beq_iff_eq.2 ?_; omega) | (with_reducible refine decide_eq_false ?_; omega) | (with_reducible refine beq_eq_false_iff_ne.2 ?_; omega) | (with_reducible refine bne_iff_ne.2 ?_; omega) | (with_reducible refine bne_eq_false_iff_eq.2 ?_; omega) | with_reducible assumption | (simp only [Bool.not_eq_true', Bool.not_eq_false']; with_reducible assumption) | with_reducible rfl); done))
         | (refine aw_condF rfl ?_ ?_
            focus ((first | decide | (with_reducible refine decide_eq_true ?_; omega) | (with_reducible refine beq_iff_eq.2 ?_; omega) | (with_reducible refine decide_eq_false ?_; omega) | (with_reducible refine beq_eq_false_iff_ne.2 ?_; omega) | (with_reducible refine bne_iff_ne.2 ?_; omega) | (with_reducible refine bne_eq_false_iff_eq.2 ?_; omega) | with_reducible assumption | (simp only [Bool.not_eq_true', Bool.not_eq_false']; with_reducible assumption) | with_reducible rfl); done)))
      | with_reducible apply thenK_n | with_reducible apply thenK_r | with_reducible apply thenK_e | with_reducible apply blockK_n | with_reducible apply blockK_r | with_reducible apply scopeK_n | with_reducible apply scopeK_r | with_reducible apply scopeK_e
      | with_reducible apply blockK_h rfl | (with_reducible refine blockK_m ?_ ?_; (focus decide)) | with_reducible apply rounds_succ)
    exact hwk.left) : A := h ⟨k⟩

end Go.Abs
/- The abstract machine, part 26: a walk over a row that is written in place. -/
namespace Go.Abs
open Go Go.RowKit
theorem ica (a b : Nat) : (a : Int) + (b : Int) = ((a + b : Nat) : Int) := by omega
theorem ica1 (a : Nat) : (a : Int) + 1 = ((a + 1 : Nat) : Int) := by omega
theorem ica1' (a : Nat) : 1 + (a : Int) = ((1 + a : Nat) : Int) := by omega
theorem ica2 (a : Nat) : (a : Int) + 2 = ((a + 2 : Nat) : Int) := by omega
theorem ics (a b : Nat) (h : b ≤ a) : (a : Int) - (b : Int) = ((a - b : Nat) : Int) := by omega
theorem ics1 (a : Nat) (h : 1 ≤ a) : (a : Int) - 1 = ((a - 1 : Nat) : Int) := by omega
theorem icm (a b : Nat) : (a : Int) * (b : Int) = ((a * b : Nat) : Int) := (Int.natCast_mul a b).symm
theorem icm1 (a : Nat) : (a : Int) * 1 = ((a * 1 : Nat) : Int) := by omega
theorem icm2 (a : Nat) : 2 * (a : Int) = ((2 * a : Nat) : Int) := by omega
theorem icm2' (a : Nat) : (a : Int) * 2 = ((a * 2 : Nat) : Int) := by omega
theorem icm3 (a : Nat) : (a : Int) * 3 = ((a * 3 : Nat) : Int) := by omega
theorem icd2 (a : Nat) : (a : Int) / 2 = ((a / 2 : Nat) : Int) := by omega
theorem icd4 (a : Nat) : (a : Int) / 4 = ((a / 4 : Nat) : Int) := by omega
theorem icd8 (a : Nat) : (a : Int) / 8 = ((a / 8 : Nat) : Int) := by omega
/-- What is left of a goal behind a walk. -/
theorem wks {A B : Prop} (k : B) (h : Left B → A := by
    intro hwk
    repeat' (first
      | (with_reducible refine st_id ?_
         first
         | ((first
             | refine st_kn rfl rfl (fun F hF => ?_)
             | (apply st_ck
                focus exact rfl
                focus (dsimp only [List.map_cons, List.map_nil, List.append_nil, ev, nth, List.cons_append, List.nil_append, ofC, ofS]; (first | with_reducible assumption | (apply_assumption -exfalso -symm <;> first | omega | with_reducible assumption)); done)
                intro F hF)
             | refine st_skk rfl rfl (fun F hF => ?_)
             | (refine st_pTk rfl ?_ (fun F hF => ?_)
                focus ((first | decide | (with_reducible refine decide_eq_true ?_; omega) | (with_reducible refine beq_iff_eq.2 ?_; omega) | (with_reducible refine decide_eq_false ?_; omega) | (with_reducible refine beq_eq_false_iff_ne.2 ?_; omega) | (with_reducible refine bne_iff_ne.2 ?_; omega) | (with_reducible refine bne_eq_false_iff_eq.2 ?_; omega) | with_reducible assumption | (simp only [Bool.not_eq_true', Bool.not_eq_false']; with_reducible assumption) | with_reducible rfl); done))
             | (refine st_pFk rfl ?_ (fun F hF => ?_)
                focus ((first | decide | (with_reducible refine decide_eq_true ?_; omega) | (with_reducible refine beq_iff_eq.2 ?_; omega) | (with_reducible refine decide_eq_false ?_; omega) | (with_reducible refine beq_eq_false_iff_ne.2 ?_; omega) | (with_reducible refine bne_iff_ne.2 ?_; omega) | (with_reducible refine bne_eq_false_iff_eq.2 ?_; omega) | with_reducible assumption | (simp only [Bool.not_eq_true', Bool.not_eq_false']; with_reducible assumption) | with_reducible rfl); done))
             | (refine st_gnTk rfl rfl ?_ (fun F hF => ?_)
                focus ((first | decide | (with_reducible refine decide_eq_true ?_; omega) | (with_reducible refine beq_iff_eq.2 ?_; omega) | (with_reducible refine decide_eq_false ?_; omega) | (with_reducible refine beq_eq_false_iff_ne.2 ?_; omega) | (with_reducible refine bne_iff_ne.2 ?_; omega) | (with_reducible refine bne_eq_false_iff_eq.2 ?_; omega) | with_reducible assumption | (simp only [Bool.not_eq_true', Bool.not_eq_false']; with_reducible assumption) | with_reducible rfl); done))
             | (refine st_gnFk rfl rfl ?_ (fun F hF => ?_)
                focus ((first | decide | (with_reducible refine decide_eq_true ?_; omega) | (with_reducible refine beq_iff_eq.2 ?_; omega) | (with_reducible refine decide_eq_false ?_; omega) | (with_reducible refine beq_eq_false_iff_ne.2 ?_; omega) | (with_reducible refine bne_iff_ne.2 ?_; omega) | (with_reducible refine bne_eq_false_iff_eq.2 ?_; omega) | with_reducible assumption | (simp only [Bool.not_eq_true', Bool.not_eq_false']; with_reducible assumption) | with_reducible rfl); done)))
            dsimp only [put, ev, ofC, ofS, one, List.set_cons_zero, List.set_cons_succ, nth, List.getElem?_cons_zero, List.getElem?_cons_succ, List.getElem_toArray, List.getElem_cons_zero, List.getElem_cons_succ, List.length_cons, List.length_nil, List.length_set, List.nil_append, List.cons_append,
              binInt, shiftOp, aUn, Option.map_some, Option.bind_some, Nat.reduceAdd, Nat.reduceSub, Nat.reduceMul, Int.reduceAdd, Int.reduceSub, Int.reduceMul, Int.reduceNeg, Int.reduceToNat, drop0, dropS, takeS, take0,
              List.map_cons, List.map_nil, List.replicate_succ, List.replicate_zero, List.flatten_cons, List.flatten_nil, splice, partOf, aggD, Option.getD_some, reduceIte, Bool.not_true, Bool.not_false, V.cells?, Nat.zero_add, Nat.add_zero, Int.toNat_natCast, Nat.reducePow, Int.reducePow, IntKind.bits]
            try simp (disch := omega) only [shr_min, shl_min, Int.reducePow, Int.tdiv_eq_ediv_of_nonneg, Int.tmod_eq_emod_of_nonneg, wi64, wu64, wu8, Nat.zero_add, ica, ica1, ica1', ica2, ics, ics1, icm, icm1, icm2, icm2', icm3, icd2, icd4, icd8, flat_takeL, flat_part0L, flat_partL, nth_flatL, nth_flat0L, flat_take00L, flat_part00L, flat_partOL, nth_flat00L, beq_self_eq_true, bne_self_eq_false, Bool.and_true, Bool.true_and]
            try simp only [wu64m, wu8m]
            refine ⟨?_, hF _ ?_⟩
            focus ((first | with_reducible exact True.intro | with_reducible rfl | omega | decide | (and_intros <;> first | with_reducible exact True.intro | with_reducible rfl | omega | decide | with_reducible assumption | (simp only [flat_length]; done) | (simp only [flat_length]; omega) | (simp only [flat_length, List.length_drop, List.length_take, List.length_append, List.length_set]; omega) | exact rfl | exact one_flat _ | (simp [V.one]; done)) | (simp only [flat_length]; done) | (simp only [flat_length]; omega) | (simp only [flat_length, List.length_drop, List.length_take, List.length_append, List.length_set]; omega) | (simp [V.one]; done)); done)
            clear hF F)
         | with_reducible apply st_nil
         | (refine st_gyT rfl rfl ?_ ?_
            focus ((first | decide | (with_reducible refine decide_eq_true ?_; omega) | (with_reducible refine beq_iff_eq.2 ?_; omega) | (with_reducible refine decide_eq_false ?_; omega) | (with_reducible refine beq_eq_false_iff_ne.2 ?_; omega) | (with_reducible refine bne_iff_ne.2 ?_; omega) | (with_reducible refine bne_eq_false_iff_eq.2 ?_; omega) | with_reducible assumption | (simp only [Bool.not_eq_true', Bool.not_eq_false']; with_reducible assumption) | with_reducible rfl); done))
         | (refine st_gyF rfl rfl ?_ ?_
            focus ((first | decide | (with_reducible refine decide_eq_true ?_; omega) | (with_reducible refine beq_iff_eq.2 ?_; omega) | (with_reducible refine decide_eq_false ?_; omega) | (with_reducible refine beq_eq_false_iff_ne.2 ?_; omega) | (with_reducible refine bne_iff_ne.2 ?_; omega) | (with_reducible refine bne_eq_false_iff_eq.2 ?_; omega) | with_reducible assumption | (simp only [Bool.not_eq_true', Bool.not_eq_false']; with_reducible assumption) | with_reducible rfl); done)))
      | (with_reducible refine aw_id ?_
         first
         | with_reducible apply aw_seq | with_reducible apply aw_block | with_reducible apply aw_skip | with_reducible apply aw_ret | with_reducible apply aw_exit | with_reducible apply aw_label | with_reducible apply aw_scope
         | refine aw_region ty_ok (L := []) ?_
         | (refine aw_draw1 ty_ok pureL (by rfl) ?_ ?_; (focus (kernel_rfl; done)))
         | (refine aw_condT rfl ?_ ?_
            focus ((first | decide | (with_reducible refine decide_eq_true ?_; omega) | (with_reducible refine beq_iff_eq.2 ?_; omega) | (with_reducible refine decide_eq_false ?_; omega) | (with_reducible refine beq_eq_false_iff_ne.2 ?_; omega) | (with_reducible refine bne_iff_ne.2 ?_; omega) | (with_reducible refine bne_eq_false_iff_eq.2 ?_; omega) | with_reducible assumption | (simp only [Bool.not_eq_true', Bool.not_eq_false']; with_reducible assumption) | with_reducible rfl); done))
         | (refine aw_condF rfl ?_ ?_
            focus ((first | decide | (with_reducible refine decide_eq_true ?_; omega) | (with_reducible refine beq_iff_eq.2 ?_; omega) | (with_reducible refine decide_eq_false ?_; omega) | (with_reducible refine beq_eq_false_iff_ne.2 ?_; omega) | (with_reducible refine bne_iff_ne.2 ?_; omega) | (with_reducible refine bne_eq_false_iff_eq.2 ?_; omega) | with_reducible assumption | (simp only [Bool.not_eq_true', Bool.not_eq_false']; with_reducible assumption) | with_reducible rfl); done)))
      | with_reducible apply thenK_n | with_reducible apply thenK_r | with_reducible apply thenK_e | with_reducible apply blockK_n | with_reducible apply blockK_r | with_reducible apply scopeK_n | with_reducible apply scopeK_r | with_reducible apply scopeK_e
      | with_reducible apply blockK_h rfl | (with_reducible refine blockK_m ?_ ?_; (focus decide)) | with_reducible apply rounds_succ)
    exact hwk.left) : A := h ⟨k⟩

end Go.Abs
/- The abstract machine, part 27: a region, one of whose operations is shown from the model itself. -/
namespace Go.Abs
open Go Go.RowKit

section
variable {P : Program} {ty : Tab} {L : List FuncId}
/-- A run through the first of a region's operations. -/
theorem run_soundK {ops : Array Oper} (T : TyOK P ty) {l : List Nat} {s s' : St} (hr : Run P ty L ops l s s') (rest : List Nat) : ∀ {r : Option Nat} {ρ : Rho} {I : Nat → Prop} {w : World} {a : Act} {Q : Exit → Act → World → Prop}, RS ρ I w s a →
    (∀ ρ' I' w' a', RS ρ' I' w' s' a' → Keep s.h ρ I w s'.h ρ' I' w' → a'.defers = a.defers → wpOpsIn (Fw r) 0 P ops Q rest a' w') → wpOpsIn (Fw r) 0 P ops Q (l ++ rest) a w := by
  induction hr with
  | nil s => intro r ρ I w a Q S k; exact k ρ I w a S (Keep.refl _ _ _ _) rfl
  | @cons i l o s s2 v1 h1' ho hout hrun ih =>
    intro r ρ I w a Q S k
    simp only [List.cons_append, wpOpsIn, ho]
    have cont : ∀ {ρ' : Rho} {I' : Nat → Prop} {w' : World} {x : Value}, RV ρ' I' w' v1 x → RH ρ' I' w' h1' → Keep s.h ρ I w h1' ρ' I' w' →
        wpOpsIn (Fw r) 0 P ops Q (l ++ rest) (a.put o.dst x) w' := by
      intro ρ' I' w' x hv H K
      exact ih (S.put H K o.dst hv) fun ρ2 I2 w2 a2 S2 K2 e2 => k ρ2 I2 w2 a2 S2 (K.trans K2) (e2.trans (by unfold Act.put; split <;> rfl))
    cases hout with
    | not hg =>
      rw [guard_real S hg, if_neg (by simp)]
      exact ⟨fun _ _ => trivial, cont (.tup rfl (by simp)) S.heap (Keep.refl _ _ _ _)⟩
    | did hg hd =>
      rw [guard_real S hg, if_pos rfl]
      refine ⟨fun _ _ => trivial, ?_⟩
      have call : ∀ {f : FuncId} {args : List V}, callOf s.t o.op = some (f, args) → CallD P f args s.h v1 h1' → o.uponIn (Fw r) 0 P a (wpOpsIn (Fw r) 0 P ops Q (l ++ rest)) Q ((o.semAt (Fw r).round a.eval).run P w) := by
        intro f args hc hcd
        obtain ⟨vs, h1, h2, h3, h4⟩ := callOf_real S hc
        rw [semAt_plain h4, h3]
        rcases hcd ρ I w vs h1 h2 S.heap with ⟨he, hcall⟩ | ⟨x, w', he, v, h'', ρ', I', ⟨rfl, rfl⟩, hv, H, K⟩
        · rw [he]
          refine ⟨fun h => by simp [Fw, Fence.wide] at h, ?_⟩
          refine CallsIn.mono (F := Fw r) hcall ?_
          rintro e w' ⟨x, rfl, v, h'', ρ', I', ⟨rfl, rfl⟩, hv, H, K⟩
          exact cont hv H K
        · rw [he]; exact cont hv H K
      cases hd with
      | op h hp =>
        obtain ⟨x, w', ρ', I', hx, hv, H, K⟩ := aop_sound (P := P) T S h hp
        have hn : noDefer o.op = true := by
          cases hop : o.op <;> first | rfl | (rw [hop] at h; simp [aop] at h)
        rw [semAt_plain hn]
        rcases hx with hx | ⟨hx, rfl⟩
        · rw [hx]; exact cont hv H K
        · rw [hx]; exact cont hv H K
      | pure hc _ h => exact call hc (h s.h)
      | call hc _ h => exact call hc h
      | yield hc hb h =>
        obtain ⟨l, base, vs, g1, g2, g3, g4, g5⟩ := yield_real (P := P) S hc
        obtain ⟨l', base', rec, e, A⟩ := S.heap.lp _ _ hb
        rw [g1] at e; cases e
        have hsz : vs.size = rec.params.size := by rw [A.ps, ← g2]; exact h.1.symm
        rw [semAt_plain g5, g4, run_yield A.at_ hsz]
        refine ⟨fun h => by simp [Fw, Fence.wide] at h, ?_⟩
        refine (round_sound S.heap hb g1 A g2 g3 h r).mono ?_
        rintro e w' ⟨rfl, ρ', I', H, K⟩
        exact cont (.bool _) H K

/-- What the model does at one operation, however the abstract state stands for the model's. -/
def SemOp (P : Program) (o : Oper) (s : St) (K : St → Prop) : Prop := noDefer o.op = true ∧ o.guard = none ∧ ∀ (ρ : Rho) (I : Nat → Prop) (w : World) (a : Act), RS ρ I w s a → ∃ v h', OpOK P o a w ρ I s.h v h' ∧ K ⟨put s.t o.dst v, h'⟩

/-- **A region, one of whose operations is shown from the model.** -/
theorem aw_regionS {N : Nat} (T : TyOK P ty) {id : Nat} {l : List Oper} {Q : Exit → St → Prop} {s : St} (j : Nat) (o : Oper) (ho : l[j]? = some o)
    (h : ASeq P ty L l.toArray (l.take j) s fun s1 => SemOp P o s1 fun s2 => ASeq P ty L l.toArray (l.drop (j + 1)) s2 (Q .normal)) : AW P N (.region id l.toArray false) Q s := by
  have hj : j < l.length := (List.getElem?_eq_some_iff.1 ho).1
  obtain ⟨s1, hr1, hn, hg, hs⟩ := aseq_runI (ops := l.toArray) (l.take j) (List.range' 0 (l.take j).length) (by
    apply List.ext_getElem?
    intro i
    simp only [List.getElem?_map, List.length_take, Nat.min_eq_left (Nat.le_of_lt hj)]
    by_cases hi : i < j
    · rw [List.getElem?_take_of_lt hi, List.getElem?_range' (by simpa using hi)]
      simp [show i < l.length from by omega]
    · rw [List.getElem?_eq_none (by simp; omega), List.getElem?_eq_none (by simp; omega)]
      rfl) h
  intro r hr_ ρ I w a S
  refine wpIn_region ?_
  have hsplit : List.range l.toArray.size = List.range' 0 (l.take j).length ++ j :: List.range' (j + 1) (l.drop (j + 1)).length := by
    rw [List.range_eq_range', show l.toArray.size = j + (1 + (l.length - (j + 1))) from by simp; omega, ← List.range'_append_1, ← List.range'_append_1]
    simp [List.length_take, Nat.min_eq_left (Nat.le_of_lt hj)]
  rw [hsplit]
  refine run_soundK T hr1 _ S fun ρ1 I1 w1 a1 S1 K1 e1 => ?_
  obtain ⟨v, h', ⟨x, w', ρ', I', hx, hv, H, K⟩, hk⟩ := hs ρ1 I1 w1 a1 S1
  obtain ⟨s2, hr2, hq⟩ := aseq_run (ops := l.toArray) (l.drop (j + 1)) (j + 1) (fun i => by simp) hk
  simp only [wpOpsIn, show l.toArray[j]? = some o from by simpa using ho]
  have hw : Region.wanted o (yielded l.toArray a1.tmps) = true := by simp [Region.wanted, hg]
  rw [hw, if_pos rfl]
  refine ⟨fun _ _ => trivial, ?_⟩
  have cont : wpOpsIn (Fw r) 0 P l.toArray (Post N Q s.h ρ I w a.defers) (List.range' (j + 1) (l.drop (j + 1)).length) (a1.put o.dst x) w' :=
    run_sound T hr2 (S1.put H K o.dst hv) fun ρ2 I2 w2 a2 S2 K2 e2 => ⟨s2, ρ2, I2, hq, S2, ((K1.trans K).trans K2).toN N, by rw [e2, show (a1.put o.dst x).defers = a1.defers from by unfold Act.put; split <;> rfl, e1]; exact Mk.refl _ _⟩
  rw [semAt_plain hn]
  rcases hx with hx | ⟨hx, rfl⟩
  · rw [hx]; exact cont
  · rw [hx]; exact cont

variable {s : St} {K : St → Prop}
/-- A row that has elements is not nil. -/
theorem sem_notnil (T : TyOK P ty) {d : Option Tmp} {t t' a : TypeId} {b : String} {c : Array Edge} {x y : Operand} {cs : List V} {len : Nat} {f : Bool} {i : Ty} {e : TypeId} (hx : ev s.t x = .vec cs len f) (hy : ev s.t y = .nils) (hl : 0 < len) (hi : ty t = some i) (hd : i.desc = .slice e)
    (k : K ⟨put s.t d (.bool false), s.h⟩) : SemOp P ⟨d, .binOp .eql t x y t', a, b, c, none⟩ s K := by
  refine ⟨rfl, rfl, fun ρ I w ac S => ⟨_, _, ?_, k⟩⟩
  have h1 := rv_ev (ρ := ρ) (I := I) (w := w) S x
  have h2 := rv_ev (ρ := ρ) (I := I) (w := w) S y
  rw [hx] at h1; rw [hy] at h2
  generalize hu : ac.eval x = u at h1
  generalize hv : ac.eval y = v at h2
  have hund : P.underlying t = some (.slice e) := by rw [(T t i hi).1, hd]
  cases h2
  cases h1 with
  | vec g hI hc hvv h1 hx =>
    refine ok_val S (x := .bool false) ?_ (.bool _)
    have hg : ∀ z : Value, (∀ c, z ≠ .agg c) → z ≠ .nilIface → (eqGuard .eql t x y z (.slice none 0 0)).run P w = .ok () w := fun z h h' => run_eqGuard_plain _ _ _ _ _ _ h h'
    simp only [execOp, hu, hv, Sem.run_bind]
    rw [hg _ (by intro c h; cases h) (by intro h; cases h), Result.andThen_ok, show ∀ z n m, binOp BinOp.eql t (Value.slice z n m) (.slice none 0 0) = (do pure (.bool (← Op.equal t (.slice z n m) (.slice none 0 0))) : Sem Value) from fun _ _ _ => rfl, Sem.run_bind, Go.run_equal_slice_nil w t e _ _ _ hund]
    rfl
  | vecn oa f => omega
end
end Go.Abs
/- The abstract machine, part 28: a call that reads blocks that are written elsewhere. -/
namespace Go.Abs
open Go Go.RowKit

/-- Values in which no address lies. -/
inductive Scal : V → Prop
  | bool (b) : Scal (.bool b)
  | int (k n) : Scal (.int k n)
  | str (s) : Scal (.str s)
  | agg (cs) : (∀ v ∈ cs, Scal v) → Scal (.agg cs)
  | tup (cs) : (∀ v ∈ cs, Scal v) → Scal (.tup cs)
theorem Scal.rv {v : V} (hc : Scal v) : ∀ {ρ ρ' : Rho} {I I' : Nat → Prop} {w w' : World} {x : Value}, RV ρ I w v x → RV ρ' I' w' v x := by
  induction hc with
  | bool b => intro _ _ _ _ _ _ _ h; cases h; exact .bool _
  | int k n => intro _ _ _ _ _ _ _ h; cases h; exact .int _ _
  | str s => intro _ _ _ _ _ _ _ h; cases h; exact .str _
  | agg cs _ ih =>
    intro _ _ _ _ _ _ _ h
    cases h with
    | agg hl hv => exact .agg hl fun i v x h1 h2 => ih v (List.mem_of_getElem? h1) (hv i v x h1 h2)
  | tup cs _ ih =>
    intro _ _ _ _ _ _ _ h
    cases h with
    | tup hl hv => exact .tup hl fun i v x h1 h2 => ih v (List.mem_of_getElem? h1) (hv i v x h1 h2)
theorem scal_ie {k : IntKind} {n : Int} {m : Nat} : Scal (.tup [.int k n, .int .i64 m]) := .tup _ fun v hv => by
  simp at hv; rcases hv with rfl | rfl <;> exact .int _ _
/-- **A call that reads blocks of the call's own**: by the contract at what they hold. -/
theorem calld_read {P : Program} {f : FuncId} {args : List V} {H : List HB} {r : V} (S : List Nat) (d : Nat) {args' : List V} (e : frzL H S d args = args') (hr : Scal r) (hc : Cleans args') (h : Pure P f args' r) : CallD P f args H r H := by
  subst e
  intro ρ I w vs hl hv R
  have hI : ∀ b, FrzI ρ I H S b → b < w.heap.size := fun b hb => by
    rcases hb.live with hb | hb
    · exact R.imlt b hb
    · exact (R.lt hb).1
  have R0 : RH [] (FrzI ρ I H S) w [] := ⟨rfl, by simp, by simp, hI, LoopsOK.nil _ _ _⟩
  have hv0 : ∀ (i : Nat) (v : V) (x : Value), (frzL H S d args)[i]? = some v → vs[i]? = some x → RV [] (FrzI ρ I H S) w v x := by
    intro i v x h1 h2
    have hcl := hc v (List.mem_of_getElem? h1)
    rw [frzL_get] at h1
    cases hq : args[i]? with
    | none => rw [hq] at h1; cases h1
    | some u =>
      rw [hq] at h1; cases h1
      exact hcl.rv ((hv i u x hq h2).frz R S d)
  refine (h [] [] (FrzI ρ I H S) w vs (by rw [frzL_length]; exact hl) hv0 R0).mono ?_
  rintro x w' ⟨v, h', ρ', I', ⟨rfl, rfl⟩, hrv, H', K⟩
  have nl : ∀ b, ¬ Live ([] : List HB) ([] : Rho) b := by rintro b ⟨i, y, base, h1, _⟩; simp at h1
  have same : ∀ b, b < w.heap.size → w'.heap[b]? = w.heap[b]? := fun b hb => K.same b hb (nl b)
  have X : Ext ρ I w ρ I w' := ⟨fun _ _ h => h, fun _ h => h, fun b hb => same b (R.imlt b hb), K.sz⟩
  refine ⟨v, H, ρ, I, ⟨rfl, rfl⟩, hr.rv hrv, ?_, ?_⟩
  · refine ⟨R.len, ?_, R.inj, fun b hb => Nat.lt_of_lt_of_le (R.imlt b hb) K.size, R.lp.ext X (fun l rec h1 hi => ⟨same l (Array.getElem?_eq_some_iff.1 h1).1, hi⟩) (fun _ _ h => h)⟩
    intro i cs hi
    obtain ⟨rb, base, c, e, fr, g1, g2, g3, g4, g5, g6⟩ := R.row i cs hi
    refine ⟨rb, base, c, e, fr, g1, (same rb (Array.getElem?_eq_some_iff.1 g2).1).trans g2, g3, fun j v hj => ?_, g5, g6⟩
    obtain ⟨y, hy, hr⟩ := g4 j v hj
    exact ⟨y, hy, hr.ext X⟩
  · exact ⟨K.os, K.tape, K.output, K.size, fun _ _ h => h, fun _ h => h, fun b hb _ => same b hb, K.sz, fun _ _ h => .inl h, fun _ _ h => h⟩
end Go.Abs
