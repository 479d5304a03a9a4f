/- The abstract machine, part 15: a walk as the proof of one hypothesis. -/
import Derived.Test.YtemlnaipcdajeaaGreatM6
import Derived.Test.YtemlnaipcdajeaaGreatM5
set_option linter.unusedVariables false
set_option linter.unusedSimpArgs false
namespace Go
theorem stepR_scope {P : Program} {b : Frame} {a : Act} {k : List Item} {cs : List Frame} {w : World} {c : Code} : step P (lone (b.atR a (.code (.scope c) :: k)) cs w) = .next (lone (b.atR a (.code c :: .inScope c :: k)) cs w) :=
  step_lone_go (by simp [stepG, stepG.exec, Frame.atR])
theorem stepR_inScope {P : Program} {b : Frame} {a : Act} {k : List Item} {cs : List Frame} {w : World} {c : Code} : step P (lone (b.atR a (.inScope c :: k)) cs w) = .next (lone (b.atR a k) cs w) :=
  step_lone_go (by simp [stepG, stepG.exec, Frame.atR])
/-- A scope that nobody jumps to. -/
theorem wpIn_scope {F : Fence} {n : Nat} {P : Program} {Q : Exit → Act → World → Prop} {a : Act} {w : World} {c : Code} (h : c.wpIn F n P Q a w) (hq : ∀ l a w, ¬ Q (.goto l) a w) : (Code.scope c).wpIn F n P Q a w := by
  intro b k cs hro hb hr
  have h0 : (lone (b.atR a (.code (.scope c) :: k)) cs w).fenced P F := fenced_calm hb hr rfl
  obtain ⟨e, a₁, w₁, hp, harr⟩ := h b (.inScope c :: k) cs hro hb hr
  cases e with
  | normal => exact ⟨.normal, a₁, w₁, hp, .head h0 stepR_scope (StepsIn.trans harr (.one (fenced_calm hb hr rfl) stepR_inScope))⟩
  | exit id =>
    have hx : exitTo id (.inScope c :: k) = exitTo id k := by simp [exitTo]
    exact ⟨.exit id, a₁, w₁, hp, fun k' hk => .head h0 stepR_scope (harr.1 k' (by rw [hx]; exact hk)),
      fun hr' hk => let ⟨k₁, h1, h2⟩ := harr.2 hr' (by rw [hx]; exact hk); ⟨k₁, h1, .head h0 stepR_scope h2⟩⟩
  | goto l => exact (hq _ _ _ hp).elim
  | ret => exact ⟨_, a₁, w₁, hp, .of_steps (.one h0 stepR_scope) harr⟩
  | panic ch => exact ⟨_, a₁, w₁, hp, .of_steps (.one h0 stepR_scope) harr⟩
  | outgrown => exact ⟨_, a₁, w₁, hp, .of_steps (.one h0 stepR_scope) harr⟩
end Go
namespace Go.Abs
open Go Go.RowKit

/-- Where no jump goes. -/
def scopeK (Q : Exit → St → Prop) : Exit → St → Prop
  | .goto _, _ => False
  | e, s => Q e s
section
variable {P : Program} {N : Nat} {Q : Exit → St → Prop} {s : St}
theorem aw_scope {c : Code} (h : AW P N c (scopeK Q) s) : AW P N (.scope c) Q s := by
  intro r hr ρ I w a S
  refine wpIn_mono (wpIn_scope (h r hr.scope ρ I w a S) fun l a w hp => ?_) fun e a w hp => ?_
  · obtain ⟨s', ρ', I', q, _⟩ := hp; exact q
  · refine Post.mono (fun e s q => ?_) hp
    cases e <;> first | exact q | exact q.elim
theorem scopeK_n (k : Q .normal s) : scopeK Q .normal s := k
theorem scopeK_r (k : Q .ret s) : scopeK Q .ret s := k
theorem scopeK_e {i : Nat} (k : Q (.exit i) s) : scopeK Q (.exit i) s := k
end

def noPick : Op → Bool
  | .pick _ _ _ => false
  | .call c => match c.callee with
    | .builtin _ => true
    | _ => false
  | _ => true
/-- An operation that is neither a choice nor a call of a function. -/
theorem st_kn {P : Program} {L : List FuncId} {ops : Array Oper} {os : List Oper} {t : List V} {h : List HB} {K : St → Prop} {op : Op} {d : Option Tmp} {a : TypeId} {b : String} {c : Array Edge} {p : Prop} {v : V} {h' : List HB} (np : noPick op = true) (e : aop ty t h op = some (p, v, h'))
    (k : ∀ F : St → Prop, (∀ s, ASeq P ty L ops os s K → F s) → p ∧ F ⟨put t d v, h'⟩) : ASeq P ty L ops (⟨d, op, a, b, c, none⟩ :: os) ⟨t, h⟩ K := st_k e k

instance lawful_bytes : LawfulBEq ByteArray where
  eq_of_beq {a b} h := by
    rcases a with ⟨a⟩; rcases b with ⟨b⟩
    have h' : (a == b) = true := h
    rw [eq_of_beq h']
  rfl {a} := by
    rcases a with ⟨a⟩
    show (a == a) = true
    exact beq_self_eq_true a

/-! ### Rows of cells, one behind the other -/
/-- How a thing lies in cells: always so many, that name no block. -/
class Rows {α : Type} (f : α → List V) (k : outParam Nat) : Prop where
  len : ∀ a, (f a).length = k
  clean : ∀ a, Cleans (f a)
  one : ∀ a, ∀ v ∈ f a, v.one = true
def flat {α : Type} (f : α → List V) : List α → List V
  | [] => []
  | a :: l => f a ++ flat f l

section
variable {α : Type} {f : α → List V} {k : Nat}
theorem flat_append (f : α → List V) : ∀ a b : List α, flat f (a ++ b) = flat f a ++ flat f b
  | [], b => rfl
  | n :: a, b => by simp [flat, flat_append f a b]
theorem flat_single (f : α → List V) (a : α) : flat f [a] = f a := by simp [flat]
theorem flat_length [h : Rows f k] : ∀ l : List α, (flat f l).length = l.length * k
  | [] => by simp [flat]
  | a :: l => by rw [flat, List.length_append, h.len, flat_length l, List.length_cons, Nat.succ_mul]; omega
theorem flat_drop [h : Rows f k] : ∀ (l : List α) (i : Nat), (flat f l).drop (i * k) = flat f (l.drop i)
  | l, 0 => by simp
  | [], i + 1 => by simp [flat]
  | a :: l, i + 1 => by
    rw [List.drop_succ_cons, ← flat_drop l i, flat, Nat.succ_mul, Nat.add_comm, ← List.drop_drop, List.drop_left' (h.len a)]
theorem flat_at [h : Rows f k] (l : List α) (i o : Nat) (hi : i < l.length) (ho : o < k) : (flat f l)[i * k + o]? = (f l[i])[o]? := by
  rw [← List.getElem?_drop, flat_drop, List.drop_eq_getElem_cons hi, flat, List.getElem?_append_left (by rw [h.len]; exact ho)]
theorem flat_take [h : Rows f k] (l : List α) (i : Nat) (hi : i < l.length) : List.take k (List.drop (i * k) (flat f l)) = f l[i] := by
  rw [flat_drop, List.drop_eq_getElem_cons hi, flat, List.take_left' (h.len _)]
theorem flat_part [h : Rows f k] (l : List α) (i o m : Nat) (hi : i < l.length) (ho : o + m ≤ k) : List.take m (List.drop (i * k + o) (flat f l)) = List.take m (List.drop o (f l[i])) := by
  rw [← List.drop_drop, flat_drop, List.drop_eq_getElem_cons hi, flat, List.drop_append_of_le_length (by rw [h.len]; omega), List.take_append_of_le_length (by rw [List.length_drop, h.len]; omega)]
theorem nth_flat [h : Rows f k] (l : List α) (i o : Nat) (hi : i < l.length) (ho : o < k) : nth (flat f l) (i * k + o) = nth (f l[i]) o := by
  rw [nth_eq, nth_eq, List.getD_eq_getElem?_getD, List.getD_eq_getElem?_getD, flat_at l i o hi ho]
theorem nth_flat0 [h : Rows f k] (l : List α) (i : Nat) (hi : i < l.length) (hk : 0 < k) : nth (flat f l) (i * k) = nth (f l[i]) 0 := nth_flat l i 0 hi hk
/-- How a row is written out. -/
class RowsL {α : Type} (f : α → List V) (g : outParam (α → List V)) : Prop where
  eq : ∀ a, f a = g a
instance (priority := low) rowsL_self {α : Type} (f : α → List V) : RowsL f f := ⟨fun _ => rfl⟩
theorem flat_takeL {g : α → List V} [h : Rows f k] [q : RowsL f g] (l : List α) (i : Nat) (hi : i < l.length) : List.take k (List.drop (i * k) (flat f l)) = g l[i] := by
  rw [flat_take l i hi, q.eq]
theorem flat_partL {g : α → List V} [h : Rows f k] [q : RowsL f g] (l : List α) (i o m : Nat) (hi : i < l.length) (ho : o + m ≤ k) : List.take m (List.drop (i * k + o) (flat f l)) = List.take m (List.drop o (g l[i])) := by
  rw [flat_part l i o m hi ho, q.eq]
theorem flat_part0L {g : α → List V} [h : Rows f k] [q : RowsL f g] (l : List α) (i m : Nat) (hi : i < l.length) (ho : m < k) : List.take m (List.drop (i * k) (flat f l)) = List.take m (g l[i]) := by
  have := flat_partL (f := f) l i 0 m hi (by omega)
  rw [Nat.add_zero, List.drop_zero] at this; exact this
theorem nth_flatL {g : α → List V} [h : Rows f k] [q : RowsL f g] (l : List α) (i o : Nat) (hi : i < l.length) (ho : o < k) : nth (flat f l) (i * k + o) = nth (g l[i]) o := by
  rw [nth_flat l i o hi ho, q.eq]
theorem nth_flat0L {g : α → List V} [h : Rows f k] [q : RowsL f g] (l : List α) (i : Nat) (hi : i < l.length) (hk : 0 < k) : nth (flat f l) (i * k) = nth (g l[i]) 0 := by
  rw [nth_flat0 l i hi hk, q.eq]
theorem cleans_flat [h : Rows f k] : ∀ l : List α, Cleans (flat f l)
  | [] => cleans_nil
  | a :: l => fun v hv => (List.mem_append.1 hv).elim (h.clean a v) (cleans_flat l v)
theorem one_flat [h : Rows f k] : ∀ l : List α, ∀ v ∈ flat f l, v.one = true
  | [] => by simp [flat]
  | a :: l => fun v hv => (List.mem_append.1 hv).elim (h.one a v) (one_flat l v)
theorem flat_sub [h : Rows f k] (l : List α) (i n : Nat) : List.take (n * k) (List.drop (i * k) (flat f l)) = flat f ((l.drop i).take n) := by
  rw [flat_drop]
  generalize l.drop i = l
  induction n generalizing l with
  | zero => simp [flat]
  | succ n ih =>
    cases l with
    | nil => simp [flat]
    | cons a l =>
      rw [List.take_succ_cons, flat, flat, Nat.succ_mul, ← ih, List.take_append, h.len, List.take_of_length_le (by rw [h.len]; omega)]
      congr 2; omega
theorem flat_set [h : Rows f k] : ∀ (l : List α) (i : Nat) (a : α), i < l.length → splice (flat f l) (i * k) (f a) = flat f (l.set i a)
  | [], i, a, hi => by simp at hi
  | b :: l, 0, a, _ => by
    rw [List.set_cons_zero, flat, flat, Nat.zero_mul]
    have e : ∀ (vs bs : List V) (r : List V) (o : Nat), splice (bs ++ r) o vs = splice bs o vs ++ r ∨ ¬ o + vs.length ≤ bs.length := by
      intro vs
      induction vs with
      | nil => intro bs r o; exact .inl rfl
      | cons v vs ih =>
        intro bs r o
        by_cases ho : o + (v :: vs).length ≤ bs.length
        · rw [List.length_cons] at ho
          rcases ih (bs.set o v) r (o + 1) with e | e
          · refine .inl ?_
            rw [splice, splice, List.set_append_left _ _ (by omega)]; exact e
          · exact absurd (by rw [List.length_set]; omega) e
        · exact .inr ho
    rcases e (f a) (f b) (flat f l) 0 with e | e
    · rw [e, splice_zero _ _ (by rw [h.len, h.len])]
    · exact absurd (by rw [h.len, h.len]; omega) e
  | b :: l, i + 1, a, hi => by
    rw [List.set_cons_succ, flat, flat, ← flat_set l i a (by simpa using hi)]
    have e : ∀ (vs r bs : List V) (o : Nat), splice (r ++ bs) (r.length + o) vs = r ++ splice bs o vs := by
      intro vs
      induction vs with
      | nil => intro r bs o; rfl
      | cons v vs ih => intro r bs o; rw [splice, splice, List.set_append_right _ _ (by omega), Nat.add_sub_cancel_left, Nat.add_assoc, ih]
    rw [show (i + 1) * k = (f b).length + i * k from by rw [h.len, Nat.succ_mul]; omega, e]
end

/-- Does the region make one new block at most? -/
def fewA : Bool → List Oper → Bool
  | _, [] => true
  | b, o :: os => match o.op with
    | .alloc _ => !b && fewA true os
    | _ => fewA b os
theorem aw_draw1 {P : Program} {N : Nat} {ty : Tab} (T : TyOK P ty) (L : List FuncId) {id : Nat} {l : List Oper} {Q : Exit → St → Prop} {s : St} (_ : fewA false l = true) (hd : okDraw ty L (ptrs s.t) l.toArray = true) (h : ASeq P ty L l.toArray l s (Q .normal)) :
    AW P N (.region id l.toArray true) Q s := aw_draw T L hd h

theorem drop0 {α : Type} {l : List α} : List.drop 0 l = l := rfl
theorem dropS {α : Type} {a : α} {l : List α} {n : Nat} : List.drop (n + 1) (a :: l) = List.drop n l := rfl
theorem take0 {α : Type} {l : List α} : List.take 0 l = [] := rfl
theorem takeS {α : Type} {a : α} {l : List α} {n : Nat} : List.take (n + 1) (a :: l) = a :: List.take n l := rfl
/-- What is left of a goal. -/
structure Left (B : Prop) : Prop where
  left : B
/-- What is left of a goal behind a walk. -/
theorem wk {A B : Prop} (k : B) (h : Left B → A := by
    intro hwk
    repeat' (first
      | (with_reducible refine st_id ?_
         first
         | ((first
             | refine st_kn rfl rfl (fun F hF => ?_)
             | (apply st_ck
                focus exact rfl
                focus (dsimp only [List.map_cons, List.map_nil, List.append_nil, ev, nth, List.cons_append, List.nil_append, ofC, ofS]; (first | with_reducible assumption | (apply_assumption -exfalso -symm <;> first | omega | with_reducible assumption)); done)
                intro F hF)
             | refine st_skk rfl rfl (fun F hF => ?_)
             | (refine st_pTk rfl ?_ (fun F hF => ?_)
                focus ((first | decide | (with_reducible refine decide_eq_true ?_; omega) | (with_reducible refine beq_iff_eq.2 ?_; omega) | (with_reducible refine decide_eq_false ?_; omega) | (with_reducible refine beq_eq_false_iff_ne.2 ?_; omega) | (with_reducible refine bne_iff_ne.2 ?_; omega) | (with_reducible refine bne_eq_false_iff_eq.2 ?_; omega) | with_reducible assumption | (simp only [Bool.not_eq_true', Bool.not_eq_false']; with_reducible assumption) | with_reducible rfl); done))
             | (refine st_pFk rfl ?_ (fun F hF => ?_)
                focus ((first | decide | (with_reducible refine decide_eq_true ?_; omega) | (with_reducible refine beq_iff_eq.2 ?_; omega) | (with_reducible refine decide_eq_false ?_; omega) | (with_reducible refine beq_eq_false_iff_ne.2 ?_; omega) | (with_reducible refine bne_iff_ne.2 ?_; omega) | (with_reducible refine bne_eq_false_iff_eq.2 ?_; omega) | with_reducible assumption | (simp only [Bool.not_eq_true', Bool.not_eq_false']; with_reducible assumption) | with_reducible rfl); done))
             | (refine st_gnTk rfl rfl ?_ (fun F hF => ?_)
                focus ((first | decide | (with_reducible refine decide_eq_true ?_; omega) | (with_reducible refine beq_iff_eq.2 ?_; omega) | (with_reducible refine decide_eq_false ?_; omega) | (with_reducible refine beq_eq_false_iff_ne.2 ?_; omega) | (with_reducible refine bne_iff_ne.2 ?_; omega) | (with_reducible refine bne_eq_false_iff_eq.2 ?_; omega) | with_reducible assumption | (simp only [Bool.not_eq_true', Bool.not_eq_false']; with_reducible assumption) | with_reducible rfl); done))
             | (refine st_gnFk rfl rfl ?_ (fun F hF => ?_)
                focus ((first | decide | (with_reducible refine decide_eq_true ?_; omega) | (with_reducible refine beq_iff_eq.2 ?_; omega) | (with_reducible refine decide_eq_false ?_; omega) | (with_reducible refine beq_eq_false_iff_ne.2 ?_; omega) | (with_reducible refine bne_iff_ne.2 ?_; omega) | (with_reducible refine bne_eq_false_iff_eq.2 ?_; omega) | with_reducible assumption | (simp only [Bool.not_eq_true', Bool.not_eq_false']; with_reducible assumption) | with_reducible rfl); done)))
            dsimp only [put, ev, ofC, ofS, one, List.set_cons_zero, List.set_cons_succ, nth, List.getElem?_cons_zero, List.getElem?_cons_succ, List.getElem_toArray, List.getElem_cons_zero, List.getElem_cons_succ, List.length_cons, List.length_nil, List.length_set, List.nil_append, List.cons_append,
              binInt, shiftOp, aUn, Option.map_some, Option.bind_some, Nat.reduceAdd, Nat.reduceSub, Nat.reduceMul, Int.reduceAdd, Int.reduceSub, Int.reduceMul, Int.reduceNeg, Int.reduceToNat, drop0, dropS, takeS, take0,
              List.map_cons, List.map_nil, List.replicate_succ, List.replicate_zero, List.flatten_cons, List.flatten_nil, splice, partOf, aggD, Option.getD_some, reduceIte, Bool.not_true, Bool.not_false, V.cells?, Nat.zero_add, Nat.add_zero, Int.toNat_natCast, Nat.reducePow, Int.reducePow, IntKind.bits]
            try simp (disch := omega) only [shr_min, shl_min, Int.reducePow, Int.tdiv_eq_ediv_of_nonneg, Int.tmod_eq_emod_of_nonneg, wi64, wu64, wu8, flat_takeL, flat_part0L, flat_partL, nth_flatL, nth_flat0L, beq_self_eq_true, bne_self_eq_false, Bool.and_true, Bool.true_and]
            try simp only [wu64m, wu8m]
            refine ⟨?_, hF _ ?_⟩
            focus ((first | with_reducible exact True.intro | with_reducible rfl | omega | decide | (and_intros <;> first | with_reducible exact True.intro | with_reducible rfl | omega | decide | with_reducible assumption | (simp only [flat_length]; done) | (simp only [flat_length]; omega) | (simp only [flat_length, List.length_drop, List.length_take, List.length_append, List.length_set]; omega) | exact rfl | exact one_flat _ | (simp [V.one]; done)) | (simp only [flat_length]; done) | (simp only [flat_length]; omega) | (simp only [flat_length, List.length_drop, List.length_take, List.length_append, List.length_set]; omega) | (simp [V.one]; done)); done)
            clear hF F)
         | with_reducible apply st_nil
         | (refine st_gyT rfl rfl ?_ ?_
            focus ((first | decide | (with_reducible refine decide_eq_true ?_; omega) | (with_reducible refine beq_iff_eq.2 ?_; omega) | (with_reducible refine decide_eq_false ?_; omega) | (with_reducible refine beq_eq_false_iff_ne.2 ?_; omega) | (with_reducible refine bne_iff_ne.2 ?_; omega) | (with_reducible refine bne_eq_false_iff_eq.2 ?_; omega) | with_reducible assumption | (simp only [Bool.not_eq_true', Bool.not_eq_false']; with_reducible assumption) | with_reducible rfl); done))
         | (refine st_gyF rfl rfl ?_ ?_
            focus ((first | decide | (with_reducible refine decide_eq_true ?_; omega) | (with_reducible refine beq_iff_eq.2 ?_; omega) | (with_reducible refine decide_eq_false ?_; omega) | (with_reducible refine beq_eq_false_iff_ne.2 ?_; omega) | (with_reducible refine bne_iff_ne.2 ?_; omega) | (with_reducible refine bne_eq_false_iff_eq.2 ?_; omega) | with_reducible assumption | (simp only [Bool.not_eq_true', Bool.not_eq_false']; with_reducible assumption) | with_reducible rfl); done)))
      | (with_reducible refine aw_id ?_
         first
         | with_reducible apply aw_seq | with_reducible apply aw_block | with_reducible apply aw_skip | with_reducible apply aw_ret | with_reducible apply aw_exit | with_reducible apply aw_label | with_reducible apply aw_scope
         | refine aw_region ty_ok (L := []) ?_
         | (refine aw_draw1 ty_ok pureL (by rfl) ?_ ?_; (focus (kernel_rfl; done)))
         | (refine aw_condT rfl ?_ ?_
            focus ((first | decide | (with_reducible refine decide_eq_true ?_; omega) | (with_reducible refine beq_iff_eq.2 ?_; omega) | (with_reducible refine decide_eq_false ?_; omega) | (with_reducible refine beq_eq_false_iff_ne.2 ?_; omega) | (with_reducible refine bne_iff_ne.2 ?_; omega) | (with_reducible refine bne_eq_false_iff_eq.2 ?_; omega) | with_reducible assumption | (simp only [Bool.not_eq_true', Bool.not_eq_false']; with_reducible assumption) | with_reducible rfl); done))
         | (refine aw_condF rfl ?_ ?_
            focus ((first | decide | (with_reducible refine decide_eq_true ?_; omega) | (with_reducible refine beq_iff_eq.2 ?_; omega) | (with_reducible refine decide_eq_false ?_; omega) | (with_reducible refine beq_eq_false_iff_ne.2 ?_; omega) | (with_reducible refine bne_iff_ne.2 ?_; omega) | (with_reducible refine bne_eq_false_iff_eq.2 ?_; omega) | with_reducible assumption | (simp only [Bool.not_eq_true', Bool.not_eq_false']; with_reducible assumption) | with_reducible rfl); done)))
      | with_reducible apply thenK_n | with_reducible apply thenK_r | with_reducible apply thenK_e | with_reducible apply blockK_n | with_reducible apply blockK_r | with_reducible apply scopeK_n | with_reducible apply scopeK_r | with_reducible apply scopeK_e
      | with_reducible apply blockK_h rfl | (with_reducible refine blockK_m ?_ ?_; (focus decide)) | with_reducible apply rounds_succ)
    exact hwk.left) : A := h ⟨k⟩

/-- What is left of a goal where a body is left. -/
theorem fin {A B : Prop} (k : B) (h : Left B → A := by
    intro hwk
    first | refine retK_r rfl ?_ | refine retK_n rfl ?_
    dsimp only [put, ev, ofC, ofS, one, List.set_cons_zero, List.set_cons_succ, nth, List.getElem?_cons_zero, List.getElem?_cons_succ, List.length_cons, List.length_nil, List.length_set, List.nil_append, List.cons_append,
      Option.map_some, Option.bind_some, Nat.reduceAdd, Nat.reduceSub, Nat.reduceMul, drop0, dropS, takeS, take0,
      List.map_cons, List.map_nil, partOf, aggD, Option.getD_some, reduceIte, V.cells?, Nat.zero_add, Nat.add_zero, Int.toNat_natCast]
    refine ⟨?_, ?_⟩
    focus (and_intros <;> first | exact True.intro | exact Nat.le_of_ble_eq_true rfl | exact rfl | omega)
    exact hwk.left) : A := h ⟨k⟩

section
variable {P : Program} {N : Nat} {Q : Exit → St → Prop} {s : St} {c : Operand} {x y : Code}
/-- A branch. -/
theorem aw_ifd {p : Prop} {hd : Decidable p} (ht : p → AW P N x Q s) (hf : ¬ p → AW P N y Q s) (hc : ev s.t c = .bool (@decide p hd) := by dsimp only [ev, nth, List.getElem?_cons_zero, List.getElem?_cons_succ] <;> with_reducible rfl) : AW P N (.cond c x y) Q s :=
  aw_cond hc (fun e => ht (of_decide_eq_true e)) (fun e => hf (of_decide_eq_false e))
theorem aw_ifn {p : Prop} {hd : Decidable p} (ht : ¬ p → AW P N x Q s) (hf : p → AW P N y Q s) (hc : ev s.t c = .bool (!(@decide p hd)) := by dsimp only [ev, nth, List.getElem?_cons_zero, List.getElem?_cons_succ] <;> with_reducible rfl) : AW P N (.cond c x y) Q s :=
  aw_cond hc (fun e => ht (of_decide_eq_false (by simpa using e))) (fun e => hf (of_decide_eq_true (by simpa using e)))
theorem aw_ife {a b : Int} (ht : a = b → AW P N x Q s) (hf : a ≠ b → AW P N y Q s) (hc : ev s.t c = .bool (a == b) := by dsimp only [ev, nth, List.getElem?_cons_zero, List.getElem?_cons_succ] <;> with_reducible rfl) : AW P N (.cond c x y) Q s :=
  aw_cond hc (fun e => ht (by simpa using e)) (fun e => hf (by simpa using e))
theorem aw_ifne {a b : Int} (ht : a ≠ b → AW P N x Q s) (hf : a = b → AW P N y Q s) (hc : ev s.t c = .bool (a != b) := by dsimp only [ev, nth, List.getElem?_cons_zero, List.getElem?_cons_succ] <;> with_reducible rfl) : AW P N (.cond c x y) Q s :=
  aw_cond hc (fun e => ht (by simpa using e)) (fun e => hf (by simpa using e))
theorem aw_ifnb {b : Bool} (ht : b = false → AW P N x Q s) (hf : b = true → AW P N y Q s) (hc : ev s.t c = .bool (!b) := by dsimp only [ev, nth, List.getElem?_cons_zero, List.getElem?_cons_succ] <;> with_reducible rfl) : AW P N (.cond c x y) Q s :=
  aw_cond hc (fun e => ht (by simpa using e)) (fun e => hf (by simpa using e))
theorem aw_ifb {b : Bool} (ht : b = true → AW P N x Q s) (hf : b = false → AW P N y Q s) (hc : ev s.t c = .bool b := by dsimp only [ev, nth, List.getElem?_cons_zero, List.getElem?_cons_succ] <;> with_reducible rfl) : AW P N (.cond c x y) Q s := aw_cond hc ht hf
end

section
variable {P : Program} {L : List FuncId} {ops : Array Oper} {os : List Oper} {t : List V} {h : List HB} {K : St → Prop}
variable {op : Op} {d : Option Tmp} {a : TypeId} {b : String} {c : Array Edge} {j : Nat} {q : Tmp}
/-- A guard. -/
theorem st_ifnT {g : Bool} (hy : g = false → ASeq P ty L ops (⟨d, op, a, b, c, none⟩ :: os) ⟨t, h⟩ K) (hn : g = true → ASeq P ty L ops os ⟨put t d udf, h⟩ K)
    (hj : (ops[j]?).bind (·.dst) = some q := by rfl) (hq : t[q]? = some (.bool (!g)) := by dsimp only [List.getElem?_cons_zero, List.getElem?_cons_succ] <;> with_reducible rfl) : ASeq P ty L ops (⟨d, op, a, b, c, some (j, true)⟩ :: os) ⟨t, h⟩ K := st_guard hj hq (fun e => hy (by simpa using e)) (fun e => hn (by simpa using e))
theorem st_ifnF {g : Bool} (hy : g = true → ASeq P ty L ops (⟨d, op, a, b, c, none⟩ :: os) ⟨t, h⟩ K) (hn : g = false → ASeq P ty L ops os ⟨put t d udf, h⟩ K)
    (hj : (ops[j]?).bind (·.dst) = some q := by rfl) (hq : t[q]? = some (.bool (!g)) := by dsimp only [List.getElem?_cons_zero, List.getElem?_cons_succ] <;> with_reducible rfl) : ASeq P ty L ops (⟨d, op, a, b, c, some (j, false)⟩ :: os) ⟨t, h⟩ K := st_guard hj hq (fun e => hy (by simpa using e)) (fun e => hn (by simpa using e))
theorem st_ifT {g : Bool} (hy : g = true → ASeq P ty L ops (⟨d, op, a, b, c, none⟩ :: os) ⟨t, h⟩ K) (hn : g = false → ASeq P ty L ops os ⟨put t d udf, h⟩ K)
    (hj : (ops[j]?).bind (·.dst) = some q := by rfl) (hq : t[q]? = some (.bool g) := by dsimp only [List.getElem?_cons_zero, List.getElem?_cons_succ] <;> with_reducible rfl) : ASeq P ty L ops (⟨d, op, a, b, c, some (j, true)⟩ :: os) ⟨t, h⟩ K := st_guard hj hq hy hn
theorem st_ifF {g : Bool} (hy : g = false → ASeq P ty L ops (⟨d, op, a, b, c, none⟩ :: os) ⟨t, h⟩ K) (hn : g = true → ASeq P ty L ops os ⟨put t d udf, h⟩ K)
    (hj : (ops[j]?).bind (·.dst) = some q := by rfl) (hq : t[q]? = some (.bool g) := by dsimp only [List.getElem?_cons_zero, List.getElem?_cons_succ] <;> with_reducible rfl) : ASeq P ty L ops (⟨d, op, a, b, c, some (j, false)⟩ :: os) ⟨t, h⟩ K := st_guard hj hq hy hn
theorem st_ifd {p : Prop} {hd : Decidable p} (hy : p → ASeq P ty L ops (⟨d, op, a, b, c, none⟩ :: os) ⟨t, h⟩ K) (hn : ¬ p → ASeq P ty L ops os ⟨put t d udf, h⟩ K)
    (hj : (ops[j]?).bind (·.dst) = some q := by rfl) (hq : t[q]? = some (.bool (@decide p hd)) := by dsimp only [List.getElem?_cons_zero, List.getElem?_cons_succ] <;> with_reducible rfl) : ASeq P ty L ops (⟨d, op, a, b, c, some (j, true)⟩ :: os) ⟨t, h⟩ K :=
  st_guard hj hq (fun e => hy (of_decide_eq_true e)) (fun e => hn (of_decide_eq_false (by simpa using e)))
theorem st_ifdF {p : Prop} {hd : Decidable p} (hy : ¬ p → ASeq P ty L ops (⟨d, op, a, b, c, none⟩ :: os) ⟨t, h⟩ K) (hn : p → ASeq P ty L ops os ⟨put t d udf, h⟩ K)
    (hj : (ops[j]?).bind (·.dst) = some q := by rfl) (hq : t[q]? = some (.bool (@decide p hd)) := by dsimp only [List.getElem?_cons_zero, List.getElem?_cons_succ] <;> with_reducible rfl) : ASeq P ty L ops (⟨d, op, a, b, c, some (j, false)⟩ :: os) ⟨t, h⟩ K :=
  st_guard hj hq (fun e => hy (of_decide_eq_false e)) (fun e => hn (of_decide_eq_true (by simpa using e)))
theorem st_ife {x y : Int} (hy : x = y → ASeq P ty L ops (⟨d, op, a, b, c, none⟩ :: os) ⟨t, h⟩ K) (hn : x ≠ y → ASeq P ty L ops os ⟨put t d udf, h⟩ K)
    (hj : (ops[j]?).bind (·.dst) = some q := by rfl) (hq : t[q]? = some (.bool (x == y)) := by dsimp only [List.getElem?_cons_zero, List.getElem?_cons_succ] <;> with_reducible rfl) : ASeq P ty L ops (⟨d, op, a, b, c, some (j, true)⟩ :: os) ⟨t, h⟩ K :=
  st_guard hj hq (fun e => hy (by simpa using e)) (fun e => hn (by simpa using e))
theorem st_ifeF {x y : Int} (hy : x ≠ y → ASeq P ty L ops (⟨d, op, a, b, c, none⟩ :: os) ⟨t, h⟩ K) (hn : x = y → ASeq P ty L ops os ⟨put t d udf, h⟩ K)
    (hj : (ops[j]?).bind (·.dst) = some q := by rfl) (hq : t[q]? = some (.bool (x == y)) := by dsimp only [List.getElem?_cons_zero, List.getElem?_cons_succ] <;> with_reducible rfl) : ASeq P ty L ops (⟨d, op, a, b, c, some (j, false)⟩ :: os) ⟨t, h⟩ K :=
  st_guard hj hq (fun e => hy (by simpa using e)) (fun e => hn (by simpa using e))
theorem st_ifne {x y : Int} (hy : x ≠ y → ASeq P ty L ops (⟨d, op, a, b, c, none⟩ :: os) ⟨t, h⟩ K) (hn : x = y → ASeq P ty L ops os ⟨put t d udf, h⟩ K)
    (hj : (ops[j]?).bind (·.dst) = some q := by rfl) (hq : t[q]? = some (.bool (x != y)) := by dsimp only [List.getElem?_cons_zero, List.getElem?_cons_succ] <;> with_reducible rfl) : ASeq P ty L ops (⟨d, op, a, b, c, some (j, true)⟩ :: os) ⟨t, h⟩ K :=
  st_guard hj hq (fun e => hy (by simpa using e)) (fun e => hn (by simpa using e))
theorem st_ifneF {x y : Int} (hy : x = y → ASeq P ty L ops (⟨d, op, a, b, c, none⟩ :: os) ⟨t, h⟩ K) (hn : x ≠ y → ASeq P ty L ops os ⟨put t d udf, h⟩ K)
    (hj : (ops[j]?).bind (·.dst) = some q := by rfl) (hq : t[q]? = some (.bool (x != y)) := by dsimp only [List.getElem?_cons_zero, List.getElem?_cons_succ] <;> with_reducible rfl) : ASeq P ty L ops (⟨d, op, a, b, c, some (j, false)⟩ :: os) ⟨t, h⟩ K :=
  st_guard hj hq (fun e => hy (by simpa using e)) (fun e => hn (by simpa using e))
end

theorem aseq_fx {P : Program} {L : List FuncId} {ops : Array Oper} {l : List Oper} {K : St → Prop} {s : St} (k : ∀ F : St → Prop, (∀ s, ASeq P ty L ops l s K → F s) → F s) : ASeq P ty L ops l s K := k _ fun _ h => h

/-- Blocks get new numbers, and then less is said: by looking. -/
theorem wkt {N : Nat} (σ : List Nat) {s : St} {t' : List V} {h' : List HB} (hN : σ.take N = List.range N := by rfl) (hn : σ.Nodup := by decide)
    (hh : (renS σ s).h = h' := by
      dsimp only [renS, renH, renL, renV, renB, hbAt, List.map_cons, List.map_nil, List.getElem?_cons_zero, List.getElem?_cons_succ, List.drop_zero, List.take_succ_cons, List.take_zero, renL_append]
      all_goals (first
        | with_reducible rfl
        | (simp (disch := (first | exact cleans_flat _ | assumption | apply_assumption -exfalso -symm)) only [renL_append, renL_clean, List.drop_zero]; done)
        | (simp (disch := (first | exact cleans_flat _ | assumption | apply_assumption -exfalso -symm)) only [renL_append, renL_clean, List.drop_zero]; rfl)
        | rfl))
    (ht : LeL t' (renS σ s).t := by
      dsimp only [renS, renH, renL, renV, renB, hbAt, List.map_cons, List.map_nil, List.getElem?_cons_zero, List.getElem?_cons_succ, List.drop_zero, List.take_succ_cons, List.take_zero, renL_append]
      all_goals (try simp (disch := (first | exact cleans_flat _ | assumption | apply_assumption -exfalso -symm)) only [renL_append, renL_clean, List.drop_zero])
      repeat' (first | exact True.intro | refine ⟨Or.inl rfl, ?_⟩ | (with_reducible refine ⟨Or.inr rfl, ?_⟩) | refine ⟨Or.inr (congrArg (V.int _) (by omega)), ?_⟩ | refine ⟨Or.inr rfl, ?_⟩)) : Wk N s ⟨t', h'⟩ := wk_to σ hN hn hh ht

/-- The frame of a function. -/
theorem enter {P : Program} {f : FuncId} {fn : Func} {c : Code} {args : List V} {h : List HB} {R : V → List HB → Prop} {rs : List ResultVar} {n : Nat} (hf : P.funcs[f]? = some fn) (hrs : fn.results = rs.toArray) (hn : fn.ntmps = n) (T : TyOK P ty)
    (hb : fn.body = some c := by rfl) (hname : (fn.name == "runtime.NumGoroutine") = false := by decide) (hargs : Nat.ble args.length n = true := by rfl)
    (hw : ∀ F : St → Prop, (∀ s, AW P h.length c (RetK ty rs R) s → F s) → F ⟨args ++ List.replicate (n - args.length) .any, h⟩) : AC P f args h R := by
  subst hn
  exact ac_body T hf hb hrs hname (Nat.le_of_ble_eq_true hargs) hw
end Go.Abs
/- The abstract machine, part 16: a call that is handed some of the heap's blocks leaves the others. -/
namespace Go.Abs
open Go Go.RowKit

theorem RH.ren {ρ : Rho} {I : Nat → Prop} {w : World} {H : List HB} (R : RH ρ I w H) (σ : List Nat) (hn : σ.Nodup) : RH (renRho σ ρ) I w (renH σ H σ) := by
  have rget : ∀ {j b : Nat} {p : Nat × Nat}, σ[j]? = some b → ρ[b]? = some p → (renRho σ ρ)[j]? = some p := by
    intro j b p hj hp; simp [renRho, hj, List.getD_eq_getElem?_getD, hp]
  refine ⟨by simp [renRho, renH_eq], ?_, ?_, R.imlt, R.lp.ren σ rget⟩
  · intro j cs hj
    obtain ⟨b, ds, g1, g2, rfl⟩ := ren_row hj
    obtain ⟨rb, base, c, e, fr, k1, k2, k3, k4, k5, k6⟩ := R.row b ds g2
    refine ⟨rb, base, c, e, fr, rget g1 k1, k2, by rw [renL_length]; exact k3, fun i v hv => ?_, k5, k6⟩
    rw [renL_get] at hv
    cases hq : ds[i]? with
    | none => simp [hq] at hv
    | some u =>
      simp [hq] at hv; subst hv
      obtain ⟨y, hy, hr⟩ := k4 i u hq
      exact ⟨y, hy, hr.ren σ⟩
  · intro j1 j2 c1 c2 rb b1 b2 h1 o1 h2 o2 p1 p2
    obtain ⟨i1, d1, g1, g2, go, _⟩ := ren_on h1 o1
    obtain ⟨i2, d2, m1, m2, mo, _⟩ := ren_on h2 o2
    obtain ⟨rb1, base1, k1⟩ := R.place g2
    obtain ⟨rb2, base2, n1⟩ := R.place m2
    have e1 := rget g1 k1
    have e2 := rget m1 n1
    rw [p1] at e1; cases e1
    rw [p2] at e2; cases e2
    have := R.inj i1 i2 d1 d2 rb b1 b2 g2 go m2 mo k1 n1
    subst this
    have l1 := (List.getElem?_eq_some_iff.1 g1)
    have l2 := (List.getElem?_eq_some_iff.1 m1)
    exact (List.getElem_inj hn).1 (l1.2.trans l2.2.symm)

def HClean : HB → Prop
  | .dead => True
  | .live cs => Cleans cs
  | .loop _ => False

/-- **The frame of a call.** -/
theorem calld_frame {P : Program} {f : FuncId} {args : List V} {H H' h1 : List HB} (σ : List Nat) {r : V} (hn : σ.Nodup) (hl : h1.length = σ.length) (hc1 : ∀ x ∈ h1, HClean x) (hr : Clean r)
    (g1 : ∀ (j b : Nat), σ[j]? = some b → H'[b]? = h1[j]?) (g2 : ∀ i, i ∉ σ → H'[i]? = H[i]?) (g3 : H'.length = H.length)
    (h : AC P f (renL σ args) (renH σ H σ) fun v h' => v = r ∧ h' = h1) : CallD P f args H r H' := by
  intro ρ I w vs hlen hv R
  have rs := R.ren σ hn
  have rget : ∀ {j b : Nat} {p : Nat × Nat}, σ[j]? = some b → ρ[b]? = some p → (renRho σ ρ)[j]? = some p := by
    intro j b p hj hp; simp [renRho, hj, List.getD_eq_getElem?_getD, hp]
  have lv : ∀ {b : Nat}, Live (renH σ H σ) (renRho σ ρ) b → ∃ (j i : Nat) (ds : HB) (base : Nat), σ[j]? = some i ∧ H[i]? = some ds ∧ ds.on ∧ ρ[i]? = some (b, base) := by
    rintro b ⟨j, cs, base, h1, o, h2⟩
    obtain ⟨i, ds, q1, q2, o', _⟩ := ren_on h1 o
    obtain ⟨rb, base', q3⟩ := R.place q2
    have := rget q1 q3
    rw [h2] at this; cases this
    exact ⟨j, i, ds, _, q1, q2, o', q3⟩
  have lvH : ∀ {b : Nat}, Live (renH σ H σ) (renRho σ ρ) b → Live H ρ b := fun h => by
    obtain ⟨j, i, ds, base, _, q2, o, q3⟩ := lv h; exact ⟨i, ds, base, q2, o, q3⟩
  refine (h (renRho σ ρ) I w vs (by rw [renL_length]; exact hlen) (fun i v x h1 h2 => ?_) rs).mono ?_
  · rw [renL_get] at h1
    cases hq : args[i]? with
    | none => simp [hq] at h1
    | some u => simp [hq] at h1; subst h1; exact (hv i u x hq h2).ren σ
  rintro x w' ⟨v, h', ρ', I', ⟨rfl, rfl⟩, hrv, R', K⟩
  have X : Ext ρ I w ρ I' w' := ⟨fun _ _ h => h, K.im, fun b hb => K.same b (R.imlt b hb) (fun hl => (R.lt (lvH hl)).2 hb), K.sz⟩
  have back : ∀ {j b : Nat} {p : Nat × Nat}, σ[j]? = some b → ρ'[j]? = some p → b < H.length → ρ[b]? = some p := by
    intro j b p hj hp hb
    have hρ : b < ρ.length := by rw [R.len]; exact hb
    have := K.rho j _ (rget hj (List.getElem?_eq_getElem hρ))
    rw [hp] at this
    rw [List.getElem?_eq_getElem hρ]; exact this.symm
  have cell : ∀ {i : Nat} {cs : HB}, H'[i]? = some cs → (∃ j : Nat, σ[j]? = some i ∧ h'[j]? = some cs) ∨ (i ∉ σ ∧ H[i]? = some cs) := by
    intro i cs hi
    by_cases hm : i ∈ σ
    · obtain ⟨j, hj⟩ := List.getElem?_of_mem hm
      exact .inl ⟨j, hj, by rw [← g1 j i hj]; exact hi⟩
    · exact .inr ⟨hm, by rw [← g2 i hm]; exact hi⟩
  have lt' : ∀ {i : Nat} {cs : HB}, H'[i]? = some cs → i < H.length := fun h => by rw [← g3]; exact (List.getElem?_eq_some_iff.1 h).1
  -- blocks of the call's own do not meet others
  have apart : ∀ {j i k : Nat} {cs ds : HB} {rb b1 b2 : Nat}, σ[j]? = some i → h'[j]? = some cs → cs.on → ρ'[j]? = some (rb, b1) → k ∉ σ → H[k]? = some ds → ds.on → ρ[k]? = some (rb, b2) → False := by
    intro j i k cs ds rb b1 b2 hj hc oc hp hk hd od hq
    have hlt := (R.lt ⟨k, ds, b2, hd, od, hq⟩).1
    obtain ⟨j', i', ds', base', q1, q2, q3o, q3⟩ := lv (K.live' rb hlt ⟨j, cs, b1, hc, oc, hp⟩)
    have := R.inj k i' ds ds' rb b2 base' hd od q2 q3o hq q3
    exact hk (this ▸ List.mem_of_getElem? q1)
  refine ⟨v, H', ρ, I', ⟨rfl, rfl⟩, hr.rv hrv, ⟨by rw [g3]; exact R.len, ?_, ?_, R'.imlt, ?_⟩, ?_⟩
  · intro i cs hi
    rcases cell hi with ⟨j, hj, hc⟩ | ⟨hm, hc⟩
    · obtain ⟨rb, base, c, e, fr, k1, k2, k3, k4, k5, k6⟩ := R'.row j cs hc
      refine ⟨rb, base, c, e, fr, back hj k1 (lt' hi), k2, k3, fun q u hu => ?_, k5, k6⟩
      obtain ⟨y, hy, hr'⟩ := k4 q u hu
      have hcl : HClean (.live cs) := hc1 _ (List.mem_of_getElem? hc)
      exact ⟨y, hy, (hcl u (List.mem_of_getElem? hu)).rv hr'⟩
    · obtain ⟨rb, base, c, e, fr, k1, k2, k3, k4, k5, k6⟩ := R.row i cs hc
      have hb := (R.lt (live_row hc k1)).1
      have nl : ¬ Live (renH σ H σ) (renRho σ ρ) rb := fun hl => by
        obtain ⟨j', i', ds', base', q1, q2, q3o, q3⟩ := lv hl
        have := R.inj i i' _ ds' rb base base' hc trivial q2 q3o k1 q3
        exact hm (this ▸ List.mem_of_getElem? q1)
      refine ⟨rb, base, c, e, fr, k1, (K.same rb hb nl).trans k2, k3, fun q u hu => ?_, k5, fun hI => ?_⟩
      · obtain ⟨y, hy, hr'⟩ := k4 q u hu; exact ⟨y, hy, hr'.ext X⟩
      · exact (K.im' rb hb hI).elim k6 nl
  · intro i1 i2 c1 c2 rb b1 b2 h1 o1 h2 o2 p1 p2
    rcases cell h1 with ⟨j1, hj1, hc1'⟩ | ⟨hm1, hc1'⟩
    · obtain ⟨rb1, base1, k1⟩ := R'.place hc1'
      have e1 := back hj1 k1 (lt' h1)
      rw [p1] at e1; cases e1
      rcases cell h2 with ⟨j2, hj2, hc2'⟩ | ⟨hm2, hc2'⟩
      · obtain ⟨rb2, base2, k2⟩ := R'.place hc2'
        have e2 := back hj2 k2 (lt' h2)
        rw [p2] at e2; cases e2
        have := R'.inj j1 j2 c1 c2 rb b1 b2 hc1' o1 hc2' o2 k1 k2
        subst this
        rw [hj1] at hj2; exact Option.some.inj hj2
      · exact (apart hj1 hc1' o1 k1 hm2 hc2' o2 p2).elim
    · rcases cell h2 with ⟨j2, hj2, hc2'⟩ | ⟨hm2, hc2'⟩
      · obtain ⟨rb2, base2, k2⟩ := R'.place hc2'
        have e2 := back hj2 k2 (lt' h2)
        rw [p2] at e2; cases e2
        exact (apart hj2 hc2' o2 k2 hm1 hc1' o1 p1).elim
      · exact R.inj i1 i2 c1 c2 rb b1 b2 hc1' o1 hc2' o2 p1 p2
  · intro i L hi
    rcases cell hi with ⟨j, hj, hc⟩ | ⟨hm, hc⟩
    · exact (hc1 _ (List.mem_of_getElem? hc)).elim
    · obtain ⟨l, base, rec, k1, A⟩ := R.lp i L hc
      have hb := (R.lt ⟨i, _, base, hc, trivial, k1⟩).1
      have nl : ¬ Live (renH σ H σ) (renRho σ ρ) l := fun hl => by
        obtain ⟨j', i', ds', base', q1, q2, q3o, q3⟩ := lv hl
        have := R.inj i i' _ ds' l base base' hc trivial q2 q3o k1 q3
        exact hm (this ▸ List.mem_of_getElem? q1)
      exact ⟨l, base, rec, k1, A.ext X (K.same l hb nl) (fun hI => (K.im' l hb hI).elim A.im nl)⟩
  · refine ⟨K.os, K.tape, K.output, K.size, fun _ _ h => h, K.im, fun b hb hl => K.same b hb (fun h => hl (lvH h)), K.sz, fun b hb hI => (K.im' b hb hI).imp id lvH, ?_⟩
    rintro b hb ⟨i, cs, base, hi, o, hp⟩
    rcases cell hi with ⟨j, hj, hc⟩ | ⟨hm, hc⟩
    · obtain ⟨rb, base', k1⟩ := R'.place hc
      have e := back hj k1 (lt' hi)
      rw [hp] at e; cases e
      exact lvH (K.live' b hb ⟨j, cs, base, hc, o, k1⟩)
    · exact ⟨i, cs, base, hc, o, hp⟩
end Go.Abs
