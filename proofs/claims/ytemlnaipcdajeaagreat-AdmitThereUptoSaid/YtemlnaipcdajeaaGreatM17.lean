/- Items in cells; rows of bytes that are appended to. -/
import Derived.Test.YtemlnaipcdajeaaGreatM16
import Derived.Test.YtemlnaipcdajeaaGreatM9
import Derived.Test.YtemlnaipcdajeaaGreatM10
set_option linter.unusedVariables false
set_option linter.unusedSimpArgs false
namespace Go.Abs
open Go Go.Proofs

/-- An item: a text; a list of texts. -/
inductive It where
  | t (s : ByteArray)
  | l (ss : List ByteArray)
  deriving Inhabited
@[reducible] def itt (s : ByteArray) : List V := [.bool false, .str s, .nils]
instance rows_itt : Rows itt 3 where
  len := fun _ => rfl
  clean := fun _ => cleans_cons (.bool _) (cleans_cons (.str _) (cleans_cons .nils cleans_nil))
  one := fun a v hv => by
    simp only [itt, List.mem_cons, List.not_mem_nil, or_false] at hv
    rcases hv with h | h | h <;> rw [h] <;> rfl
instance rowsL_itt : RowsL itt (fun s => [.bool false, .str s, .nils]) := ⟨fun _ => rfl⟩
def itb : It → Bool
  | .t _ => false
  | .l _ => true
def its : It → ByteArray
  | .t s => s
  | .l _ => ByteArray.empty
def iti : It → V
  | .t _ => .nils
  | .l ss => .vec (flat itt ss) ss.length false
@[reducible] def itc (x : It) : List V := [.bool (itb x), .str (its x), iti x]
theorem clean_iti (x : It) : Clean (iti x) := by
  cases x with
  | t s => exact .nils
  | l ss => exact .vec _ _ _ (cleans_flat ss)
instance rows_itc : Rows itc 3 where
  len := fun x => rfl
  clean := fun x => cleans_cons (.bool _) (cleans_cons (.str _) (cleans_cons (clean_iti x) cleans_nil))
  one := fun x v hv => by
    simp only [itc, List.mem_cons, List.not_mem_nil, or_false] at hv
    rcases hv with h | h | h
    · rw [h]; rfl
    · rw [h]; rfl
    · rw [h]; cases x <;> rfl
instance rowsL_itc : RowsL itc (fun x => [.bool (itb x), .str (its x), iti x]) := ⟨fun _ => rfl⟩
theorem flat_itt (ss : List ByteArray) : flat itt ss = flat itc (ss.map It.t) := by
  induction ss with
  | nil => rfl
  | cons s ss ih => simp only [flat, List.map_cons, ih]; rfl
def itR : It → ByteArray
  | .t s => rawT s
  | .l ss => rawL (ss.map rawT)
@[reducible] def itV (x : It) : V := .agg [.bool (itb x), .str (its x), iti x]
theorem clean_itV (x : It) : Clean (itV x) := clean_agg (Rows.clean (f := itc) x)
/-- A list of items. -/
def lsV (xs : List It) : V := .agg [.bool true, .str ByteArray.empty, .vec (flat itc xs) xs.length false]
theorem clean_lsV (xs : List It) : Clean (lsV xs) := clean_agg (cleans_cons (.bool _) (cleans_cons (.str _) (cleans_cons (.vec _ _ _ (cleans_flat xs)) cleans_nil)))
theorem itV_l (ss : List ByteArray) : itV (.l ss) = lsV (ss.map It.t) := by
  show V.agg [.bool true, .str ByteArray.empty, .vec (flat itt ss) ss.length false] = _
  rw [flat_itt]; unfold lsV; rw [List.length_map]
def lsR (xs : List It) : ByteArray := rawL (xs.map itR)
theorem itR_l (ss : List ByteArray) : itR (.l ss) = lsR (ss.map It.t) := by
  show rawL (ss.map rawT) = rawL _
  rw [List.map_map]; rfl

/-- A slice of bytes of the call's own. -/
@[reducible] def bV (b : Nat) (n : Nat) : V := .slc b 0 1 n n
/-- A slice of bytes comes out. -/
def OutB (B : ByteArray) : V → List HB → Prop := fun v h' => ∃ k, v = bV k B.size ∧ h'[k]? = some (.live (strCells B))
theorem outB_ren {B : ByteArray} {v : V} {h' : List HB} (h : OutB B v h') : ∃ τ : List Nat, τ.Nodup ∧ renV τ v = bV 0 B.size ∧ renH τ h' τ = [.live (strCells B)] := by
  obtain ⟨k, rfl, hk⟩ := h
  refine ⟨[k], by simp, ?_, ?_⟩
  · simp [renV, List.idxOf?_cons]
  · simp only [renH, hbAt, hk, renB]
    rw [renL_clean _ (clean_strCells B)]
theorem calld_bytes {P : Program} {f : FuncId} {args args0 : List V} {H : List HB} {b : Nat} {B B' : ByteArray} (hb : H[b]? = some (.live (strCells B))) (ha : renL [b] args = args0)
    (h : AC P f args0 [.live (strCells B)] (OutB B')) : CallD P f args H (bV H.length B'.size) (H.set b .dead ++ [.live (strCells B')]) := by
  have hlt := (List.getElem?_eq_some_iff.1 hb).1
  have := calld_fresh (P := P) (f := f) (args := args) (H := H) (H1 := H.set b .dead) (hx := [.live (strCells B')]) [b] (r0 := bV 0 B'.size) (by simp) (by simp) (by
    intro i hi x hx
    rw [List.mem_singleton.1 hi, List.getElem?_set_self hlt] at hx
    exact (Option.some.inj hx).symm) (by
    intro i hi
    rw [List.getElem?_set_ne (fun e => hi (by rw [e]; simp))]) (by
    intro x hx; rw [List.mem_singleton.1 hx]; exact True.intro) (by
    rw [ha, show renH [b] H [b] = [.live (strCells B)] from by simp only [renH, hbAt, hb, renB]; rw [renL_clean _ (clean_strCells B)]]
    exact fun ρ I w vs h1 h2 h3 => (h ρ I w vs h1 h2 h3).mono fun x w' ⟨v, h', ρ', I', q, q3⟩ => ⟨v, h', ρ', I', outB_ren q, q3⟩)
  simpa [shV, shB, shL_clean _ (clean_strCells B')] using this
theorem calld_nil {P : Program} {f : FuncId} {args args0 : List V} {H : List HB} {B' : ByteArray} (ha : renL [] args = args0)
    (h : AC P f args0 [] (OutB B')) : CallD P f args H (bV H.length B'.size) (H ++ [.live (strCells B')]) := by
  have := calld_fresh (P := P) (f := f) (args := args) (H := H) (H1 := H) (hx := [.live (strCells B')]) [] (r0 := bV 0 B'.size) (by simp) rfl (by simp) (by simp) (by
    intro x hx; rw [List.mem_singleton.1 hx]; exact True.intro) (by
    rw [ha]
    exact fun ρ I w vs h1 h2 h3 => (h ρ I w vs h1 h2 h3).mono fun x w' ⟨v, h', ρ', I', q, q3⟩ => ⟨v, h', ρ', I', outB_ren q, q3⟩)
  simpa [shV, shB, shL_clean _ (clean_strCells B')] using this
end Go.Abs
/- Items: what stands ahead, texts, marks: the walks. -/
namespace Go.Abs
open Go Go.Proofs

/-- The slice of bytes that is handed in: none yet, or one of its own. -/
@[reducible] def bA : Bool → Nat → V
  | true, _ => .nils
  | false, n => bV 0 n
@[reducible] def bH : Bool → ByteArray → List HB
  | true, _ => []
  | false, B => [.live (strCells B)]
theorem alone_c (s : ByteArray) (hs : s.size < 9223372036854775808) : Pure Tryz.prog 201 [.str s] (.bool (aloneB s)) := by
  refine pure_ac ?_ (cleans_cons (.str _) cleans_nil) (.bool _)
  unfold aloneB
  have hb := bt_lt s 0
  by_cases h1 : s.size = 1
  · rw [show decide (s.size = 1 ∧ bt s 0 < 128) = decide ((bt s 0 : Int) < 128) from decide_eq_decide.2 (by omega)]
    (refine enter Tryz.func201 Tryz.results201 Tryz.ntmps201 ty_ok (hw := fun F hF => ?_); simp only [List.length_cons, List.length_nil, Nat.reduceAdd, Nat.reduceSub, List.replicate_succ, List.replicate_zero, List.cons_append, List.nil_append]; apply hF; clear hF F)
    refine wk ?_
    refine fin ?_
    rfl
  · rw [decide_eq_false (fun h => h1 h.1)]
    (refine enter Tryz.func201 Tryz.results201 Tryz.ntmps201 ty_ok (hw := fun F hF => ?_); simp only [List.length_cons, List.length_nil, Nat.reduceAdd, Nat.reduceSub, List.replicate_succ, List.replicate_zero, List.cons_append, List.nil_append]; apply hF; clear hF F)
    refine wk ?_
    refine fin ?_
    rfl
theorem isize_c (n : Nat) (hn : n < 9223372036854775808) : Pure Tryz.prog 212 [.int .i64 n] (.str (textS n)) := by
  refine pure_ac ?_ (cleans_cons (.int _ _) cleans_nil) (.str _)
  have c1 := of_c n (by omega) (by omega)
  rw [Int.toNat_natCast] at c1
  have c2 := text_c n (by omega)
  (refine enter Tryz.func212 Tryz.results212 Tryz.ntmps212 ty_ok (hw := fun F hF => ?_); simp only [List.length_cons, List.length_nil, Nat.reduceAdd, Nat.reduceSub, List.replicate_succ, List.replicate_zero, List.cons_append, List.nil_append]; apply hF; clear hF F)
  refine wk ?_
  refine fin ?_
  rfl
theorem ahead_c (n : Nat) (hn : n < 9223372036854775808) : Pure Tryz.prog 209 [.int .i64 n] (.int .i64 (aheadN n : Nat)) := by
  refine pure_ac ?_ (cleans_cons (.int _ _) cleans_nil) (.int _ _)
  have c1 := isize_c n hn
  have h1 := textS_sz n
  have h2 := nb_small (n := n) (k := 8) (by omega)
  unfold aheadN
  by_cases h : n ≤ 55
  · rw [if_pos h]
    (refine enter Tryz.func209 Tryz.results209 Tryz.ntmps209 ty_ok (hw := fun F hF => ?_); simp only [List.length_cons, List.length_nil, Nat.reduceAdd, Nat.reduceSub, List.replicate_succ, List.replicate_zero, List.cons_append, List.nil_append]; apply hF; clear hF F)
    refine wk ?_
    refine fin ?_
    rfl
  · rw [if_neg h]
    (refine enter Tryz.func209 Tryz.results209 Tryz.ntmps209 ty_ok (hw := fun F hF => ?_); simp only [List.length_cons, List.length_nil, Nat.reduceAdd, Nat.reduceSub, List.replicate_succ, List.replicate_zero, List.cons_append, List.nil_append]; apply hF; clear hF F)
    refine wk ?_
    refine fin ?_
    rw [h1]
    exact congrArg (V.int _) (by omega)
theorem outB_at {B : ByteArray} {n : Nat} {cs : List V} {h' : List HB} (k : Nat) (h : h'[k]? = some (.live cs)) (hc : cs = strCells B) (hn : n = B.size) : OutB B (bV k n) h' := ⟨k, by rw [hn], by rw [h, hc]⟩
set_option maxHeartbeats 20000000 in
theorem front_a (z : Bool) (B : ByteArray) (fr n : Nat) (hz : z = true → B = ByteArray.empty) (hB : B.size < 1000000) (hf : fr ≤ 192) (hn : n < 65536) :
    AC Tryz.prog 200 [bA z B.size, .int .i64 fr, .int .i64 n] (bH z B) (OutB (B ++ headB fr n)) := by
  have c1 := isize_c n (by omega)
  have h1 := textS_sz n
  have h2 := nb_small (n := n) (k := 2) (by omega)
  have h3 := strCells_size B
  have h4 := strCells_size (textS n)
  have h5 := one_strCells (textS n)
  unfold headB
  cases z with
  | true =>
    rw [hz rfl, ByteArray.empty_append]
    by_cases h : n ≤ 55
    · rw [if_pos h]
      (refine enter Tryz.func200 Tryz.results200 Tryz.ntmps200 ty_ok (hw := fun F hF => ?_); simp only [List.length_cons, List.length_nil, Nat.reduceAdd, Nat.reduceSub, List.replicate_succ, List.replicate_zero, List.cons_append, List.nil_append]; apply hF; clear hF F)
      refine wk ?_
      refine fin ?_
      exact outB_at 1 rfl (strCells_one (by omega)).symm rfl
    · rw [if_neg h]
      (refine enter Tryz.func200 Tryz.results200 Tryz.ntmps200 ty_ok (hw := fun F hF => ?_); simp only [List.length_cons, List.length_nil, Nat.reduceAdd, Nat.reduceSub, List.replicate_succ, List.replicate_zero, List.cons_append, List.nil_append]; apply hF; clear hF F)
      refine wk ?_
      refine fin ?_
      exact outB_at 2 rfl (by rw [strCells_append, strCells_one (by omega), ← h1]; rfl) (by rw [ByteArray.size_append, h1]; rfl)
  | false =>
    have h6 : B.size * 1 = B.size := Nat.mul_one _
    by_cases h : n ≤ 55
    · rw [if_pos h]
      (refine enter Tryz.func200 Tryz.results200 Tryz.ntmps200 ty_ok (hw := fun F hF => ?_); simp only [List.length_cons, List.length_nil, Nat.reduceAdd, Nat.reduceSub, List.replicate_succ, List.replicate_zero, List.cons_append, List.nil_append]; apply hF; clear hF F)
      refine wk ?_
      refine fin ?_
      exact outB_at 2 rfl (by rw [strCells_append, strCells_one (by omega)]; rfl) (by rw [ByteArray.size_append]; rfl)
    · rw [if_neg h]
      have h8 : (strCells B ++ [V.int .u8 ((fr : Int) + 55 + (textS n).size)]).length = B.size + 1 := by simp [h3]
      (refine enter Tryz.func200 Tryz.results200 Tryz.ntmps200 ty_ok (hw := fun F hF => ?_); simp only [List.length_cons, List.length_nil, Nat.reduceAdd, Nat.reduceSub, List.replicate_succ, List.replicate_zero, List.cons_append, List.nil_append]; apply hF; clear hF F)
      refine wk ?_
      refine fin ?_
      exact outB_at 3 rfl (by rw [strCells_append, strCells_append, strCells_one (by omega), ← h1, List.append_assoc]; rfl) (by rw [ByteArray.size_append, ByteArray.size_append, Nat.add_assoc]; rfl)
end Go.Abs
