/- Levels: behind, Level, Dist, Double; the page's Level: the walks. -/
import Derived.Test.YtpaehjjkfjgfiaaN5
import Derived.Test.YtpaehjjkfjgfiaaA18
set_option linter.unusedVariables false
set_option linter.unusedSimpArgs false
namespace Go.Abs
open Go Go.Proofs

/-- A bit; none below the lowest. -/
def bitAt (x : Nat) (k : Int) : Nat := if 0 ≤ k then x / 2 ^ k.toNat % 2 else 0
theorem bitAt_lt (x : Nat) (k : Int) : bitAt x k < 2 := by unfold bitAt; split <;> omega
/-- The bits behind the highest one. -/
def partN (x : Nat) (n : Int) : Nat → Nat
  | 0 => 0
  | i + 1 => 2 * partN x n i + bitAt x (n - 2 - i)
theorem partN_lt (x : Nat) (n : Int) : ∀ i, partN x n i < 2 ^ i
  | 0 => by simp [partN]
  | i + 1 => by
    have := partN_lt x n i
    have := bitAt_lt x (n - 2 - i)
    rw [partN, Nat.pow_succ]; omega
/-- The level. -/
def lvN (x : Nat) : Int := if x = 0 then 0 else 8 * ((blen x : Int) - 1) + partN x (blen x) 3 + 1

/-- One round, by its code. -/
theorem roundD_of {P : Program} {L : LoopB} {args : List V} {h h' : List HB} (h1 : L.ps.size = args.length) (h2 : noRange L.assign = true) (h3 : noRange L.body = true)
    (k : ∀ K : Exit → St → Prop, (∀ s, (∃ t', Wk h.length s ⟨t', h'⟩) → K .normal s) → AW P h.length L.assign (thenK (AW P h.length L.body K) fun _ _ => False) ⟨roundT L args, h⟩) : RoundD P L args h h' := by
  refine ⟨h1, h2, h3, ?_⟩
  refine AW.mono (k (fun e s => e = .normal ∧ ∃ t', Wk h.length s ⟨t', h'⟩) fun s hs => ⟨rfl, hs⟩) ?_
  intro e s hq
  cases e <;> first | exact ⟨rfl, hq⟩ | exact hq.elim
theorem aw_rangeL {P : Program} {N : Nat} {Q : Exit → St → Prop} {s : St} {g : Operand} {ps : Array Tmp} {assign body : Code} {f : FuncId} {caps : List V} (hg : ev s.t g = .fn f caps) (he : Enters P f)
    (hc : ∀ LB : LoopB, LB = ⟨s.t, ps, assign, body⟩ → AC P f (.yld s.h.length :: caps) (s.h ++ [.loop LB]) fun _ h' => h'[s.h.length]? = some (.loop LB) ∧ Q .normal ⟨s.t, h'.set s.h.length .dead⟩) :
    AW P N (.rangeFunc g ps assign body) Q s := aw_range hg he (hc _ rfl)
theorem wkh {N : Nat} {s : St} {h' : List HB} (σ : List Nat) (hN : σ.take N = List.range N) (hn : σ.Nodup) (hh : (renS σ s).h = h') : ∃ t', Wk N s ⟨t', h'⟩ := by
  subst hh; exact ⟨_, wk_ren σ hN hn⟩

theorem behind_c (x : Nat) (H : List HB) : CallD Try.prog 55 [uv x] H (.fn 70 [.ptr H.length 0]) (H ++ [.live (uvc x)]) := by
  unfold CallD
  (refine enter Try.func55 Try.results55 Try.ntmps55 ty_ok (hw := fun F hF => ?_); simp only [List.length_cons, List.length_nil, Nat.reduceAdd, Nat.reduceSub, List.replicate_succ, List.replicate_zero, List.cons_append, List.nil_append]; apply hF; clear hF F)
  refine wk ?_
  refine fin ?_
  exact ⟨rfl, rfl⟩
set_option maxHeartbeats 20000000 in
theorem level_c (x : Nat) (hx : x < 115792089237316195423570985008687907853269984665640564039457584007913129639936) : Pure Try.prog 43 [uv x] (.int .i64 (lvN x)) := by
  refine pure_ac ?_ (cleans_cons (clean_uv _) cleans_nil) (.int _ _)
  have cb := bits_c x hx
  have hbl : blen x ≤ 256 := blen_le_of_lt (by simpa using hx)
  unfold lvN
  by_cases h0 : x = 0
  · subst h0
    rw [if_pos rfl]
    have hb0 : blen 0 = 0 := blen_zero
    rw [hb0] at cb
    (refine enter Try.func43 Try.results43 Try.ntmps43 ty_ok (hw := fun F hF => ?_); simp only [List.length_cons, List.length_nil, Nat.reduceAdd, Nat.reduceSub, List.replicate_succ, List.replicate_zero, List.cons_append, List.nil_append]; apply hF; clear hF F)
    refine wk ?_
    refine fin ?_
    rfl
  · rw [if_neg h0]
    have hbp := blen_pos h0
    obtain ⟨n, hn⟩ : ∃ n, blen x = n := ⟨_, rfl⟩
    rw [hn] at cb hbl hbp ⊢
    have hbe := behind_c x [.live (uvc x), .live [.int .i64 0]]
    simp only [List.length_cons, List.length_nil, List.cons_append, List.nil_append, Nat.reduceAdd] at hbe
    (refine enter Try.func43 Try.results43 Try.ntmps43 ty_ok (hw := fun F hF => ?_); simp only [List.length_cons, List.length_nil, Nat.reduceAdd, Nat.reduceSub, List.replicate_succ, List.replicate_zero, List.cons_append, List.nil_append]; apply hF; clear hF F)
    refine wk ?_
    refine st_call rfl rfl hbe ?_
    refine wk ?_
    refine aw_rangeL rfl (enters_of Try.func70 (by decide) rfl) fun LB hLB => ?_
    simp only [List.length_cons, List.length_nil, List.cons_append, List.nil_append, Nat.reduceAdd]
    have hLt : renL [0, 1, 2, 3] LB.t = LB.t := by rw [hLB]; rfl
    have hround : ∀ (p b : Nat), p < 4 → b < 2 → RoundD Try.prog LB [.int .i64 b] [.live (uvc x), .live [.int .i64 p], .live (uvc x), .dead] [.live (uvc x), .live [.int .i64 (2 * (p : Int) + b)], .live (uvc x), .dead] := by
      intro p b hp hb
      rw [hLB]
      refine roundD_of rfl rfl rfl fun K hK => ?_
      dsimp only [roundT, List.zip, List.zipWith, List.foldl, List.set]
      refine wk ?_
      exact hK _ (wkh [0, 1, 2, 3] rfl (by decide) rfl)
    clear hLB
    (refine enter Try.func70 Try.results70 Try.ntmps70 ty_ok (hw := fun F hF => ?_); simp only [List.length_cons, List.length_nil, Nat.reduceAdd, Nat.reduceSub, List.replicate_succ, List.replicate_zero, List.cons_append, List.nil_append]; apply hF; clear hF F)
    refine wk ?_
    refine aw_loopI (fun (i : Nat) => ⟨((.yld 3) :: (.ptr 2 0) :: .any :: (.int .i64 ((n : Int) - 1)) :: (.int .i64 ((n : Int) - 2 - i)) :: .any :: .any :: .any :: .any :: .any :: .any :: .any :: .any :: .any :: .any :: .any :: .any :: .any :: .any :: .any :: .any :: .any :: .any :: .any :: .any :: .any :: .any :: .any :: .any :: .any :: .any :: .any :: []), [.live (uvc x), .live [.int .i64 (partN x n i : Nat)], .live (uvc x), .loop LB]⟩) (fun i => i ≤ 3) (fun i => 3 - i) 0 (by omega) (wkt [0, 1, 2, 3] (hh := by dsimp only [renS, renH, renL, renV, renB, hbAt, List.map_cons, List.map_nil, List.getElem?_cons_zero, List.getElem?_cons_succ]; rw [hLt]; try rfl)) ?_
    intro i hi K hK
    by_cases h3 : i < 3
    · have hb2 := bitAt_lt x ((n : Int) - 2 - i)
      have hp4 : partN x n i < 4 := by
        have := partN_lt x n i
        have : 2 ^ i ≤ 2 ^ 2 := Nat.pow_le_pow_right (by omega) (by omega)
        omega
      have hr := hround _ _ hp4 hb2
      have hp1 : ((partN x n (i + 1) : Nat) : Int) = 2 * (partN x n i : Int) + (bitAt x (n - 2 - i) : Nat) := by rw [partN]; omega
      refine wk ?_
      refine aw_joinR (fun (_ : Unit) => ⟨((.yld 3) :: (.ptr 2 0) :: .any :: (.int .i64 ((n : Int) - 1)) :: (.int .i64 ((n : Int) - 2 - i)) :: (.int .i64 (bitAt x ((n : Int) - 2 - i) : Nat)) :: .any :: .any :: .any :: .any :: .any :: .any :: .any :: .any :: .any :: .any :: .any :: .any :: .any :: .any :: .any :: .any :: .any :: .any :: .any :: .any :: .any :: .any :: .any :: .any :: .any :: .any :: []), [.live (uvc x), .live [.int .i64 (partN x n i : Nat)], .live (uvc x), .loop LB]⟩) (fun _ => True) (fun K3 hK3 => ?_) (fun _ _ => ?_)
      · by_cases hk : 0 ≤ (n : Int) - 2 - i
        · obtain ⟨k, hke⟩ := Int.eq_ofNat_of_zero_le hk
          have hbk : ((bitAt x ((n : Int) - 2 - i) : Nat) : Int) = (x / 2 ^ k % 2 : Nat) := by unfold bitAt; rw [if_pos hk, hke, Int.toNat_natCast]
          rw [hbk, hke] at hK3
          rw [hke]
          clear hr hround hp1
          have hit : ((k : Int) / 64).toNat = k / 64 := by omega
          have hit2 : ((k : Int) % 64).toNat = k % 64 := by omega
          have hn2 := nth_limbs x (j := k / 64) (by omega)
          refine wk ?_
          (refine aseq_fx (fun F hF => ?_); simp only [hit, Nat.mul_one, Nat.zero_add, hn2]; apply hF; clear hF F)
          refine wk ?_
          have hb3 : x / 2 ^ k % 2 < 2 := Nat.mod_lt _ (by omega)
          rw [hit2, bit_of x k, wi64 ⟨by omega, by omega⟩]
          exact hK3 _ () trivial (wkt [0, 1, 2, 3] (hh := by dsimp only [renS, renH, renL, renV, renB, hbAt, List.map_cons, List.map_nil, List.getElem?_cons_zero, List.getElem?_cons_succ]; rw [hLt]; try rfl))
        · have hbk : bitAt x ((n : Int) - 2 - i) = 0 := by unfold bitAt; rw [if_neg hk]
          rw [hbk] at hK3
          refine wk ?_
          exact hK3 _ () trivial (wkt [0, 1, 2, 3] (hh := by dsimp only [renS, renH, renL, renV, renB, hbAt, List.map_cons, List.map_nil, List.getElem?_cons_zero, List.getElem?_cons_succ]; rw [hLt]; try rfl))
      · refine wk ?_
        refine st_yield rfl rfl rfl rfl hr ?_
        refine wk ?_
        exact hK _ (i + 1) (by omega) (wkt [0, 1, 2, 3] (hh := by dsimp only [renS, renH, renL, renV, renB, hbAt, List.map_cons, List.map_nil, List.getElem?_cons_zero, List.getElem?_cons_succ]; rw [hLt, hp1]; try rfl)) (by omega)
    · obtain rfl : i = 3 := by omega
      have hp8 := partN_lt x n 3
      refine wk ?_
      refine fin ?_
      refine ⟨rfl, ?_⟩
      try dsimp only [List.set]
      refine wk ?_
      refine fin ?_
      rfl
theorem lvN_bd {x : Nat} (hx : x < 115792089237316195423570985008687907853269984665640564039457584007913129639936) : 0 ≤ lvN x ∧ lvN x ≤ 2048 := by
  have hbl : blen x ≤ 256 := blen_le_of_lt (by simpa using hx)
  have := partN_lt x (blen x) 3
  unfold lvN
  split
  · omega
  · have hbp := blen_pos (by assumption)
    omega
theorem dist_c (x y : Nat) (hx : x < 115792089237316195423570985008687907853269984665640564039457584007913129639936) (hy : y < 115792089237316195423570985008687907853269984665640564039457584007913129639936) : Pure Try.prog 29 [uv x, uv y] (.int .i64 (lvN x - lvN y)) := by
  refine pure_ac ?_ (cleans_cons (clean_uv _) (cleans_cons (clean_uv _) cleans_nil)) (.int _ _)
  have c1 := level_c x hx
  have c2 := level_c y hy
  have b1 := lvN_bd hx
  have b2 := lvN_bd hy
  (refine enter Try.func29 Try.results29 Try.ntmps29 ty_ok (hw := fun F hF => ?_); simp only [List.length_cons, List.length_nil, Nat.reduceAdd, Nat.reduceSub, List.replicate_succ, List.replicate_zero, List.cons_append, List.nil_append]; apply hF; clear hF F)
  refine wk ?_
  refine fin ?_
  rfl
set_option maxHeartbeats 20000000 in
theorem rlevel_c (x : Nat) (hx : x < 115792089237316195423570985008687907853269984665640564039457584007913129639936) : Pure Try.prog 44 [uv x] (.int .i64 (lvN x)) := by
  refine pure_ac ?_ (cleans_cons (clean_uv _) cleans_nil) (.int _ _)
  have cb := rbits_c x hx
  have hbl : blen x ≤ 256 := blen_le_of_lt (by simpa using hx)
  unfold lvN
  by_cases h0 : x = 0
  · subst h0
    rw [if_pos rfl]
    have hb0 : blen 0 = 0 := blen_zero
    rw [hb0] at cb
    (refine enter Try.func44 Try.results44 Try.ntmps44 ty_ok (hw := fun F hF => ?_); simp only [List.length_cons, List.length_nil, Nat.reduceAdd, Nat.reduceSub, List.replicate_succ, List.replicate_zero, List.cons_append, List.nil_append]; apply hF; clear hF F)
    refine wk ?_
    refine fin ?_
    rfl
  · rw [if_neg h0]
    have hbp := blen_pos h0
    obtain ⟨n, hn⟩ : ∃ n, blen x = n := ⟨_, rfl⟩
    rw [hn] at cb hbl hbp ⊢
    (refine enter Try.func44 Try.results44 Try.ntmps44 ty_ok (hw := fun F hF => ?_); simp only [List.length_cons, List.length_nil, Nat.reduceAdd, Nat.reduceSub, List.replicate_succ, List.replicate_zero, List.cons_append, List.nil_append]; apply hF; clear hF F)
    refine wk ?_
    refine aw_loopI (fun (i : Nat) => ⟨(.any :: (.ptr 0 0) :: (.int .i64 0) :: (.int .i64 n) :: (.int .i64 (partN x n i : Nat)) :: (.int .i64 ((i : Int) + 2)) :: .any :: .any :: .any :: .any :: .any :: .any :: .any :: .any :: .any :: .any :: .any :: .any :: .any :: .any :: .any :: .any :: .any :: .any :: .any :: .any :: .any :: .any :: .any :: .any :: .any :: .any :: .any :: .any :: .any :: []), [.live (uvc x)]⟩) (fun i => i ≤ 3) (fun i => 3 - i) 0 (by omega) (wkt [0]) ?_
    intro i hi K hK
    have hpl := partN_lt x n i
    by_cases h3 : i < 3
    · have hp4 : partN x n i < 4 := by
        have : 2 ^ i ≤ 2 ^ 2 := Nat.pow_le_pow_right (by omega) (by omega)
        omega
      have hK2 := fun s' h => hK s' (i + 1) (by omega) h (by omega)
      have hp1 : ((partN x n (i + 1) : Nat) : Int) = 2 * (partN x n i : Int) + (bitAt x (n - 2 - i) : Nat) := by rw [partN]; omega
      rw [hp1] at hK2
      by_cases hk : 0 ≤ (n : Int) - 2 - i
      · obtain ⟨k, hke⟩ := Int.eq_ofNat_of_zero_le hk
        have hbk : ((bitAt x ((n : Int) - 2 - i) : Nat) : Int) = (x / 2 ^ k % 2 : Nat) := by unfold bitAt; rw [if_pos hk, hke, Int.toNat_natCast]
        have hkk : (n : Int) - ((i : Int) + 2) = k := by omega
        have cbit := rbit_c x k (by omega) (by omega)
        rw [Int.toNat_natCast, Nat.testBit_eq_decide_div_mod_eq] at cbit
        by_cases hb1 : x / 2 ^ k % 2 = 1
        · rw [decide_eq_true hb1] at cbit
          rw [hbk, hb1] at hK2
          clear hp1 hbk
          refine wk ?_
          (refine aseq_fx (fun F hF => ?_); simp only [hkk]; apply hF; clear hF F)
          refine wk ?_
          exact hK2 _ (wkt [0])
        · have hb0 : x / 2 ^ k % 2 = 0 := by omega
          rw [decide_eq_false hb1] at cbit
          rw [hbk, hb0] at hK2
          clear hp1 hbk
          refine wk ?_
          (refine aseq_fx (fun F hF => ?_); simp only [hkk]; apply hF; clear hF F)
          refine wk ?_
          exact hK2 _ (wkt [0])
      · have hbk : bitAt x ((n : Int) - 2 - i) = 0 := by unfold bitAt; rw [if_neg hk]
        rw [hbk] at hK2
        clear hp1
        have hkk : ¬ (n : Int) - ((i : Int) + 2) ≥ 0 := by omega
        refine wk ?_
        exact hK2 _ (wkt [0])
    · obtain rfl : i = 3 := by omega
      refine wk ?_
      refine fin ?_
      rfl
end Go.Abs
