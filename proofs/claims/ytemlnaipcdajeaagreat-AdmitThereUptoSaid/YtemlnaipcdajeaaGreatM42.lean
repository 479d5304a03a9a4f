/- Who is let in: the walk, where it comes to the fees and to what is covered. -/
import Derived.Test.YtemlnaipcdajeaaGreatM41
set_option linter.unusedVariables false
set_option linter.unusedSimpArgs false
namespace Go.Abs
open Go Go.Proofs

set_option maxRecDepth 20000 in
set_option maxHeartbeats 20000000 in
theorem amay_low (b : Book) (t : Tx) (o : b.whole) (h : bookOk b = true) (ot : t.fine) (hk : txOk t = true) (l : List Tx) (hl : ofA t.fr b.tx = l) (n0 : Int) (hi : t.fr.toNat < b.ac.length) (hn0 : b.ac[t.fr.toNat].no = n0) (h0 : 0 < l.length) (hm : ¬ idN t ∈ idsN b) (k : Nat) (hkl : k < l.length) (hkn : t.no = n0 + k) (hp : paysB l[k] t = false) : AC Tryz.prog 34 [bookV b, txV t] [] fun v _ => v = errV 11 := by
  have hone := one_bookc b
  have hone2 : ∀ v ∈ txc t, v.one = true := Rows.one (f := txc) t
  have c1 := txid_c t ot.took hk
  have c2 := pcheck_c b o.took
  rw [if_pos h] at c2
  obtain ⟨w1, w2, w3, w4, w5, q1, q2, q3, q4, q5⟩ := may_facts b t o h hk l hl n0 hi hn0
  have c3 := known_c b o (book_wide h) (idN t)
  rw [decide_eq_false hm] at c3
  have hfr : 0 ≤ t.fr ∧ t.fr < 8 := by have := of_decide_eq_true hk; exact ⟨this.1, by omega⟩
  have d4 := fun H => pchain_d b t.fr o h hfr hl h0 H
  have d5 := next_read l n0 q4 q5 q1 q2 q3
  have hs1 : ¬ t.no < n0 := by omega
  have hs2 : ¬ n0 + (l.length : Int) < t.no := by omega
  have hs3 : t.no < n0 + (l.length : Int) := by omega
  have hs4 : t.no - n0 = (k : Int) := by omega
  have c6 := bmay_c l[k] t (q5 _ (List.getElem_mem hkl)) ot.took (w3 _ (List.getElem_mem hkl)) hk (w5 _ (List.getElem_mem hkl)) (by rw [q3 k hkl]; omega)
  have hone3 : ∀ v ∈ txc l[k], v.one = true := Rows.one (f := txc) l[k]
  rw [if_neg (by rw [hp]; simp)] at c6
  clear o h ot hk q1 q2 q3 q4 q5 w2 w3 hl w5 hp
  (refine enter Tryz.func34 Tryz.results34 Tryz.ntmps34 ty_ok (hw := fun F hF => ?_); simp only [List.length_cons, List.length_nil, Nat.reduceAdd, Nat.reduceSub, List.replicate_succ, List.replicate_zero, List.cons_append, List.nil_append]; apply hF; clear hF F)
  refine wks ?_
  refine st_call rfl rfl (d4 _) ?_
  simp only [List.length_cons, List.length_nil, Nat.reduceAdd, List.cons_append, List.nil_append]
  refine wks ?_
  (refine aseq_fx (fun F hF => ?_); simp only [hn0]; apply hF; clear hF F)
  refine st_call rfl rfl (d5 _ 3 rfl) ?_
  refine wks ?_
  (refine aseq_fx (fun F hF => ?_); simp only [hs4]; apply hF; clear hF F)
  refine wks ?_
  refine fin ?_
  rfl
set_option maxRecDepth 20000 in
set_option maxHeartbeats 20000000 in
theorem amay_bump_y (b : Book) (t : Tx) (o : b.whole) (h : bookOk b = true) (ot : t.fine) (hk : txOk t = true) (l : List Tx) (hl : ofA t.fr b.tx = l) (n0 : Int) (hi : t.fr.toNat < b.ac.length) (hn0 : b.ac[t.fr.toNat].no = n0) (h0 : 0 < l.length) (hm : ¬ idN t ∈ idsN b) (k : Nat) (hkl : k < l.length) (hkn : t.no = n0 + k) (hp : paysB l[k] t = true) (hs : spentN (l.set k t) ≤ b.ac[t.fr.toNat].bal) : AC Tryz.prog 34 [bookV b, txV t] [] fun v _ => v = errV 0 := by
  have hone := one_bookc b
  have hone2 : ∀ v ∈ txc t, v.one = true := Rows.one (f := txc) t
  have c1 := txid_c t ot.took hk
  have c2 := pcheck_c b o.took
  rw [if_pos h] at c2
  obtain ⟨w1, w2, w3, w4, w5, q1, q2, q3, q4, q5⟩ := may_facts b t o h hk l hl n0 hi hn0
  have c3 := known_c b o (book_wide h) (idN t)
  rw [decide_eq_false hm] at c3
  have hfr : 0 ≤ t.fr ∧ t.fr < 8 := by have := of_decide_eq_true hk; exact ⟨this.1, by omega⟩
  have d4 := fun H => pchain_d b t.fr o h hfr hl h0 H
  have d5 := next_read l n0 q4 q5 q1 q2 q3
  have hs1 : ¬ t.no < n0 := by omega
  have hs2 : ¬ n0 + (l.length : Int) < t.no := by omega
  have hs3 : t.no < n0 + (l.length : Int) := by omega
  have hs4 : t.no - n0 = (k : Int) := by omega
  have c6 := bmay_c l[k] t (q5 _ (List.getElem_mem hkl)) ot.took (w3 _ (List.getElem_mem hkl)) hk (w5 _ (List.getElem_mem hkl)) (by rw [q3 k hkl]; omega)
  have hone3 : ∀ v ∈ txc l[k], v.one = true := Rows.one (f := txc) l[k]
  rw [if_pos hp] at c6
  have hset : ∀ u ∈ l.set k t, u ∈ l ∨ u = t := fun u hu => List.mem_or_eq_of_mem_set hu
  have d7 := covered_read (l.set k t) b.ac[t.fr.toNat].bal (o.took.took.ac _ (List.getElem_mem hi)).bal (by rw [List.length_set]; exact q4) (fun u hu => (hset u hu).elim (q5 u) fun e => e ▸ ot.took) (fun u hu => (hset u hu).elim (w3 u) fun e => e ▸ hk)
  rw [decide_eq_true hs, List.length_set] at d7
  have hsp := flat_set (f := txc) l k t hkl
  simp only [txc, splice] at hsp
  clear o h ot hk q1 q2 q3 q4 q5 w2 w3 hl w5 hp hset hs
  (refine enter Tryz.func34 Tryz.results34 Tryz.ntmps34 ty_ok (hw := fun F hF => ?_); simp only [List.length_cons, List.length_nil, Nat.reduceAdd, Nat.reduceSub, List.replicate_succ, List.replicate_zero, List.cons_append, List.nil_append]; apply hF; clear hF F)
  refine wks ?_
  refine st_call rfl rfl (d4 _) ?_
  simp only [List.length_cons, List.length_nil, Nat.reduceAdd, List.cons_append, List.nil_append]
  refine wks ?_
  (refine aseq_fx (fun F hF => ?_); simp only [hn0]; apply hF; clear hF F)
  refine st_call rfl rfl (d5 _ 3 rfl) ?_
  refine wks ?_
  (refine aseq_fx (fun F hF => ?_); simp only [hs4]; apply hF; clear hF F)
  refine wks ?_
  (refine aseq_fx (fun F hF => ?_); simp only [hsp]; apply hF; clear hF F)
  refine st_call rfl rfl (d7 _ 3 rfl) ?_
  refine wks ?_
  refine fin ?_
  rfl
set_option maxRecDepth 20000 in
set_option maxHeartbeats 20000000 in
theorem amay_bump_n (b : Book) (t : Tx) (o : b.whole) (h : bookOk b = true) (ot : t.fine) (hk : txOk t = true) (l : List Tx) (hl : ofA t.fr b.tx = l) (n0 : Int) (hi : t.fr.toNat < b.ac.length) (hn0 : b.ac[t.fr.toNat].no = n0) (h0 : 0 < l.length) (hm : ¬ idN t ∈ idsN b) (k : Nat) (hkl : k < l.length) (hkn : t.no = n0 + k) (hp : paysB l[k] t = true) (hs : ¬ spentN (l.set k t) ≤ b.ac[t.fr.toNat].bal) : AC Tryz.prog 34 [bookV b, txV t] [] fun v _ => v = errV 12 := by
  have hone := one_bookc b
  have hone2 : ∀ v ∈ txc t, v.one = true := Rows.one (f := txc) t
  have c1 := txid_c t ot.took hk
  have c2 := pcheck_c b o.took
  rw [if_pos h] at c2
  obtain ⟨w1, w2, w3, w4, w5, q1, q2, q3, q4, q5⟩ := may_facts b t o h hk l hl n0 hi hn0
  have c3 := known_c b o (book_wide h) (idN t)
  rw [decide_eq_false hm] at c3
  have hfr : 0 ≤ t.fr ∧ t.fr < 8 := by have := of_decide_eq_true hk; exact ⟨this.1, by omega⟩
  have d4 := fun H => pchain_d b t.fr o h hfr hl h0 H
  have d5 := next_read l n0 q4 q5 q1 q2 q3
  have hs1 : ¬ t.no < n0 := by omega
  have hs2 : ¬ n0 + (l.length : Int) < t.no := by omega
  have hs3 : t.no < n0 + (l.length : Int) := by omega
  have hs4 : t.no - n0 = (k : Int) := by omega
  have c6 := bmay_c l[k] t (q5 _ (List.getElem_mem hkl)) ot.took (w3 _ (List.getElem_mem hkl)) hk (w5 _ (List.getElem_mem hkl)) (by rw [q3 k hkl]; omega)
  have hone3 : ∀ v ∈ txc l[k], v.one = true := Rows.one (f := txc) l[k]
  rw [if_pos hp] at c6
  have hset : ∀ u ∈ l.set k t, u ∈ l ∨ u = t := fun u hu => List.mem_or_eq_of_mem_set hu
  have d7 := covered_read (l.set k t) b.ac[t.fr.toNat].bal (o.took.took.ac _ (List.getElem_mem hi)).bal (by rw [List.length_set]; exact q4) (fun u hu => (hset u hu).elim (q5 u) fun e => e ▸ ot.took) (fun u hu => (hset u hu).elim (w3 u) fun e => e ▸ hk)
  rw [decide_eq_false hs, List.length_set] at d7
  have hsp := flat_set (f := txc) l k t hkl
  simp only [txc, splice] at hsp
  clear o h ot hk q1 q2 q3 q4 q5 w2 w3 hl w5 hp hset hs
  (refine enter Tryz.func34 Tryz.results34 Tryz.ntmps34 ty_ok (hw := fun F hF => ?_); simp only [List.length_cons, List.length_nil, Nat.reduceAdd, Nat.reduceSub, List.replicate_succ, List.replicate_zero, List.cons_append, List.nil_append]; apply hF; clear hF F)
  refine wks ?_
  refine st_call rfl rfl (d4 _) ?_
  simp only [List.length_cons, List.length_nil, Nat.reduceAdd, List.cons_append, List.nil_append]
  refine wks ?_
  (refine aseq_fx (fun F hF => ?_); simp only [hn0]; apply hF; clear hF F)
  refine st_call rfl rfl (d5 _ 3 rfl) ?_
  refine wks ?_
  (refine aseq_fx (fun F hF => ?_); simp only [hs4]; apply hF; clear hF F)
  refine wks ?_
  (refine aseq_fx (fun F hF => ?_); simp only [hsp]; apply hF; clear hF F)
  refine st_call rfl rfl (d7 _ 3 rfl) ?_
  refine wks ?_
  refine fin ?_
  rfl
set_option maxRecDepth 20000 in
set_option maxHeartbeats 20000000 in
theorem amay_full (b : Book) (t : Tx) (o : b.whole) (h : bookOk b = true) (ot : t.fine) (hk : txOk t = true) (l : List Tx) (hl : ofA t.fr b.tx = l) (n0 : Int) (hi : t.fr.toNat < b.ac.length) (hn0 : b.ac[t.fr.toNat].no = n0) (h0 : 0 < l.length) (hm : ¬ idN t ∈ idsN b) (hkn : t.no = n0 + (l.length : Int)) (h6 : 6 ≤ l.length) : AC Tryz.prog 34 [bookV b, txV t] [] fun v _ => v = errV 2 := by
  have hone := one_bookc b
  have hone2 : ∀ v ∈ txc t, v.one = true := Rows.one (f := txc) t
  have c1 := txid_c t ot.took hk
  have c2 := pcheck_c b o.took
  rw [if_pos h] at c2
  obtain ⟨w1, w2, w3, w4, w5, q1, q2, q3, q4, q5⟩ := may_facts b t o h hk l hl n0 hi hn0
  have c3 := known_c b o (book_wide h) (idN t)
  rw [decide_eq_false hm] at c3
  have hfr : 0 ≤ t.fr ∧ t.fr < 8 := by have := of_decide_eq_true hk; exact ⟨this.1, by omega⟩
  have d4 := fun H => pchain_d b t.fr o h hfr hl h0 H
  have d5 := next_read l n0 q4 q5 q1 q2 q3
  have hs1 : ¬ t.no < n0 := by omega
  have hs2 : ¬ n0 + (l.length : Int) < t.no := by omega
  have hs3 : ¬ t.no < n0 + (l.length : Int) := by omega
  clear o h ot hk q1 q2 q3 q4 q5 w2 w3 hl w5
  (refine enter Tryz.func34 Tryz.results34 Tryz.ntmps34 ty_ok (hw := fun F hF => ?_); simp only [List.length_cons, List.length_nil, Nat.reduceAdd, Nat.reduceSub, List.replicate_succ, List.replicate_zero, List.cons_append, List.nil_append]; apply hF; clear hF F)
  refine wks ?_
  refine st_call rfl rfl (d4 _) ?_
  simp only [List.length_cons, List.length_nil, Nat.reduceAdd, List.cons_append, List.nil_append]
  refine wks ?_
  (refine aseq_fx (fun F hF => ?_); simp only [hn0]; apply hF; clear hF F)
  refine st_call rfl rfl (d5 _ 3 rfl) ?_
  refine wks ?_
  refine fin ?_
  rfl
set_option maxRecDepth 20000 in
set_option maxHeartbeats 20000000 in
theorem amay_add_yn (b : Book) (t : Tx) (o : b.whole) (h : bookOk b = true) (ot : t.fine) (hk : txOk t = true) (l : List Tx) (hl : ofA t.fr b.tx = l) (n0 : Int) (hi : t.fr.toNat < b.ac.length) (hn0 : b.ac[t.fr.toNat].no = n0) (hnil : l = []) (hm : ¬ idN t ∈ idsN b) (hkn : t.no = n0)  (hs : spentN (l ++ [t]) ≤ b.ac[t.fr.toNat].bal) : AC Tryz.prog 34 [bookV b, txV t] [] fun v _ => v = errV 0 := by
  have hone := one_bookc b
  have hone2 : ∀ v ∈ txc t, v.one = true := Rows.one (f := txc) t
  have c1 := txid_c t ot.took hk
  have c2 := pcheck_c b o.took
  rw [if_pos h] at c2
  obtain ⟨w1, w2, w3, w4, w5, q1, q2, q3, q4, q5⟩ := may_facts b t o h hk l hl n0 hi hn0
  have c3 := known_c b o (book_wide h) (idN t)
  rw [decide_eq_false hm] at c3
  have hfr : 0 ≤ t.fr ∧ t.fr < 8 := by have := of_decide_eq_true hk; exact ⟨this.1, by omega⟩
  subst hnil
  have d4 := pchain_nil b t.fr o h hfr hl
  have d5 := cnext_nils n0 q2
  have hs1 : ¬ t.no < n0 := by omega
  have hs2 : ¬ n0 < t.no := by omega
  have d7 := covered_read ([] ++ [t]) b.ac[t.fr.toNat].bal (o.took.took.ac _ (List.getElem_mem hi)).bal (by rw [List.length_append, List.length_singleton]; simp) (fun u hu => (List.mem_append.1 hu).elim (q5 u) fun e => (List.mem_singleton.1 e) ▸ ot.took) (fun u hu => (List.mem_append.1 hu).elim (w3 u) fun e => (List.mem_singleton.1 e) ▸ hk)
  rw [decide_eq_true hs, List.length_append, List.length_singleton] at d7
  rw [List.length_nil, Nat.zero_add, List.nil_append, flat_single] at d7
  clear o h ot hk q1 q2 q3 q4 q5 w2 w3 hl w5 hs
  (refine enter Tryz.func34 Tryz.results34 Tryz.ntmps34 ty_ok (hw := fun F hF => ?_); simp only [List.length_cons, List.length_nil, Nat.reduceAdd, Nat.reduceSub, List.replicate_succ, List.replicate_zero, List.cons_append, List.nil_append]; apply hF; clear hF F)
  refine wks ?_
  (refine aseq_fx (fun F hF => ?_); simp only [hn0]; apply hF; clear hF F)
  refine wks ?_
  (try simp only [one_eq0, if_false, List.length_cons, List.length_nil, Nat.reduceAdd, List.cons_append, List.nil_append])
  refine st_call rfl rfl (d7 _ 4 rfl) ?_
  refine wks ?_
  refine fin ?_
  rfl
set_option maxRecDepth 20000 in
set_option maxHeartbeats 20000000 in
theorem amay_add_yr (b : Book) (t : Tx) (o : b.whole) (h : bookOk b = true) (ot : t.fine) (hk : txOk t = true) (l : List Tx) (hl : ofA t.fr b.tx = l) (n0 : Int) (hi : t.fr.toNat < b.ac.length) (hn0 : b.ac[t.fr.toNat].no = n0) (h0 : 0 < l.length) (hm : ¬ idN t ∈ idsN b) (hkn : t.no = n0 + (l.length : Int)) (h6 : ¬ 6 ≤ l.length) (hs : spentN (l ++ [t]) ≤ b.ac[t.fr.toNat].bal) : AC Tryz.prog 34 [bookV b, txV t] [] fun v _ => v = errV 0 := by
  have hone := one_bookc b
  have hone2 : ∀ v ∈ txc t, v.one = true := Rows.one (f := txc) t
  have c1 := txid_c t ot.took hk
  have c2 := pcheck_c b o.took
  rw [if_pos h] at c2
  obtain ⟨w1, w2, w3, w4, w5, q1, q2, q3, q4, q5⟩ := may_facts b t o h hk l hl n0 hi hn0
  have c3 := known_c b o (book_wide h) (idN t)
  rw [decide_eq_false hm] at c3
  have hfr : 0 ≤ t.fr ∧ t.fr < 8 := by have := of_decide_eq_true hk; exact ⟨this.1, by omega⟩
  have d4 := fun H => pchain_d b t.fr o h hfr hl h0 H
  have d5 := next_read l n0 q4 q5 q1 q2 q3
  have hs1 : ¬ t.no < n0 := by omega
  have hs2 : ¬ n0 + (l.length : Int) < t.no := by omega
  have hs3 : ¬ t.no < n0 + (l.length : Int) := by omega
  have hsp : flat txc (l ++ [t]) = flat txc l ++ txc t := by rw [flat_append, flat_single]
  have d7 := covered_read (l ++ [t]) b.ac[t.fr.toNat].bal (o.took.took.ac _ (List.getElem_mem hi)).bal (by rw [List.length_append, List.length_singleton]; omega) (fun u hu => (List.mem_append.1 hu).elim (q5 u) fun e => (List.mem_singleton.1 e) ▸ ot.took) (fun u hu => (List.mem_append.1 hu).elim (w3 u) fun e => (List.mem_singleton.1 e) ▸ hk)
  rw [decide_eq_true hs, List.length_append, List.length_singleton] at d7
  rw [hsp] at d7
  clear o h ot hk q1 q2 q3 q4 q5 w2 w3 hl w5 hs
  (refine enter Tryz.func34 Tryz.results34 Tryz.ntmps34 ty_ok (hw := fun F hF => ?_); simp only [List.length_cons, List.length_nil, Nat.reduceAdd, Nat.reduceSub, List.replicate_succ, List.replicate_zero, List.cons_append, List.nil_append]; apply hF; clear hF F)
  refine wks ?_
  refine st_call rfl rfl (d4 _) ?_
  simp only [List.length_cons, List.length_nil, Nat.reduceAdd, List.cons_append, List.nil_append]
  refine wks ?_
  (refine aseq_fx (fun F hF => ?_); simp only [hn0]; apply hF; clear hF F)
  refine st_call rfl rfl (d5 _ 3 rfl) ?_
  refine wks ?_
  (try simp only [one_eq0, if_false, List.length_cons, List.length_nil, Nat.reduceAdd, List.cons_append, List.nil_append])
  refine st_call rfl rfl (d7 _ 5 rfl) ?_
  refine wks ?_
  refine fin ?_
  rfl
set_option maxRecDepth 20000 in
set_option maxHeartbeats 20000000 in
theorem amay_add_nn (b : Book) (t : Tx) (o : b.whole) (h : bookOk b = true) (ot : t.fine) (hk : txOk t = true) (l : List Tx) (hl : ofA t.fr b.tx = l) (n0 : Int) (hi : t.fr.toNat < b.ac.length) (hn0 : b.ac[t.fr.toNat].no = n0) (hnil : l = []) (hm : ¬ idN t ∈ idsN b) (hkn : t.no = n0)  (hs : ¬ spentN (l ++ [t]) ≤ b.ac[t.fr.toNat].bal) : AC Tryz.prog 34 [bookV b, txV t] [] fun v _ => v = errV 12 := by
  have hone := one_bookc b
  have hone2 : ∀ v ∈ txc t, v.one = true := Rows.one (f := txc) t
  have c1 := txid_c t ot.took hk
  have c2 := pcheck_c b o.took
  rw [if_pos h] at c2
  obtain ⟨w1, w2, w3, w4, w5, q1, q2, q3, q4, q5⟩ := may_facts b t o h hk l hl n0 hi hn0
  have c3 := known_c b o (book_wide h) (idN t)
  rw [decide_eq_false hm] at c3
  have hfr : 0 ≤ t.fr ∧ t.fr < 8 := by have := of_decide_eq_true hk; exact ⟨this.1, by omega⟩
  subst hnil
  have d4 := pchain_nil b t.fr o h hfr hl
  have d5 := cnext_nils n0 q2
  have hs1 : ¬ t.no < n0 := by omega
  have hs2 : ¬ n0 < t.no := by omega
  have d7 := covered_read ([] ++ [t]) b.ac[t.fr.toNat].bal (o.took.took.ac _ (List.getElem_mem hi)).bal (by rw [List.length_append, List.length_singleton]; simp) (fun u hu => (List.mem_append.1 hu).elim (q5 u) fun e => (List.mem_singleton.1 e) ▸ ot.took) (fun u hu => (List.mem_append.1 hu).elim (w3 u) fun e => (List.mem_singleton.1 e) ▸ hk)
  rw [decide_eq_false hs, List.length_append, List.length_singleton] at d7
  rw [List.length_nil, Nat.zero_add, List.nil_append, flat_single] at d7
  clear o h ot hk q1 q2 q3 q4 q5 w2 w3 hl w5 hs
  (refine enter Tryz.func34 Tryz.results34 Tryz.ntmps34 ty_ok (hw := fun F hF => ?_); simp only [List.length_cons, List.length_nil, Nat.reduceAdd, Nat.reduceSub, List.replicate_succ, List.replicate_zero, List.cons_append, List.nil_append]; apply hF; clear hF F)
  refine wks ?_
  (refine aseq_fx (fun F hF => ?_); simp only [hn0]; apply hF; clear hF F)
  refine wks ?_
  (try simp only [one_eq0, if_false, List.length_cons, List.length_nil, Nat.reduceAdd, List.cons_append, List.nil_append])
  refine st_call rfl rfl (d7 _ 4 rfl) ?_
  refine wks ?_
  refine fin ?_
  rfl
set_option maxRecDepth 20000 in
set_option maxHeartbeats 20000000 in
theorem amay_add_nr (b : Book) (t : Tx) (o : b.whole) (h : bookOk b = true) (ot : t.fine) (hk : txOk t = true) (l : List Tx) (hl : ofA t.fr b.tx = l) (n0 : Int) (hi : t.fr.toNat < b.ac.length) (hn0 : b.ac[t.fr.toNat].no = n0) (h0 : 0 < l.length) (hm : ¬ idN t ∈ idsN b) (hkn : t.no = n0 + (l.length : Int)) (h6 : ¬ 6 ≤ l.length) (hs : ¬ spentN (l ++ [t]) ≤ b.ac[t.fr.toNat].bal) : AC Tryz.prog 34 [bookV b, txV t] [] fun v _ => v = errV 12 := by
  have hone := one_bookc b
  have hone2 : ∀ v ∈ txc t, v.one = true := Rows.one (f := txc) t
  have c1 := txid_c t ot.took hk
  have c2 := pcheck_c b o.took
  rw [if_pos h] at c2
  obtain ⟨w1, w2, w3, w4, w5, q1, q2, q3, q4, q5⟩ := may_facts b t o h hk l hl n0 hi hn0
  have c3 := known_c b o (book_wide h) (idN t)
  rw [decide_eq_false hm] at c3
  have hfr : 0 ≤ t.fr ∧ t.fr < 8 := by have := of_decide_eq_true hk; exact ⟨this.1, by omega⟩
  have d4 := fun H => pchain_d b t.fr o h hfr hl h0 H
  have d5 := next_read l n0 q4 q5 q1 q2 q3
  have hs1 : ¬ t.no < n0 := by omega
  have hs2 : ¬ n0 + (l.length : Int) < t.no := by omega
  have hs3 : ¬ t.no < n0 + (l.length : Int) := by omega
  have hsp : flat txc (l ++ [t]) = flat txc l ++ txc t := by rw [flat_append, flat_single]
  have d7 := covered_read (l ++ [t]) b.ac[t.fr.toNat].bal (o.took.took.ac _ (List.getElem_mem hi)).bal (by rw [List.length_append, List.length_singleton]; omega) (fun u hu => (List.mem_append.1 hu).elim (q5 u) fun e => (List.mem_singleton.1 e) ▸ ot.took) (fun u hu => (List.mem_append.1 hu).elim (w3 u) fun e => (List.mem_singleton.1 e) ▸ hk)
  rw [decide_eq_false hs, List.length_append, List.length_singleton] at d7
  rw [hsp] at d7
  clear o h ot hk q1 q2 q3 q4 q5 w2 w3 hl w5 hs
  (refine enter Tryz.func34 Tryz.results34 Tryz.ntmps34 ty_ok (hw := fun F hF => ?_); simp only [List.length_cons, List.length_nil, Nat.reduceAdd, Nat.reduceSub, List.replicate_succ, List.replicate_zero, List.cons_append, List.nil_append]; apply hF; clear hF F)
  refine wks ?_
  refine st_call rfl rfl (d4 _) ?_
  simp only [List.length_cons, List.length_nil, Nat.reduceAdd, List.cons_append, List.nil_append]
  refine wks ?_
  (refine aseq_fx (fun F hF => ?_); simp only [hn0]; apply hF; clear hF F)
  refine st_call rfl rfl (d5 _ 3 rfl) ?_
  refine wks ?_
  (try simp only [one_eq0, if_false, List.length_cons, List.length_nil, Nat.reduceAdd, List.cons_append, List.nil_append])
  refine st_call rfl rfl (d7 _ 5 rfl) ?_
  refine wks ?_
  refine fin ?_
  rfl
end Go.Abs
/- Who is let in: all cases; admit wakes. -/
namespace Go.Abs
open Go Go.Proofs

/-- Who is let in: the error's number. -/
def admitN (b : Book) (t : Tx) : Nat :=
  let n0 := (b.ac.getD t.fr.toNat default).no
  let bal := (b.ac.getD t.fr.toNat default).bal
  let l := ofA t.fr b.tx
  if idN t ∈ idsN b then 4 else
  if t.no < n0 then 9 else
  if n0 + (l.length : Int) < t.no then 10 else
  if t.no < n0 + (l.length : Int) then
    if paysB (l.getD (t.no - n0).toNat default) t = true then if spentN (l.set (t.no - n0).toNat t) ≤ bal then 0 else 12 else 11
  else if 6 ≤ l.length then 2 else if spentN (l ++ [t]) ≤ bal then 0 else 12
theorem amay_c (b : Book) (t : Tx) (o : b.whole) (h : bookOk b = true) (ot : t.fine) (hk : txOk t = true) : Pure Tryz.prog 34 [bookV b, txV t] (errV (admitN b t)) := by
  refine pure_ac ?_ (cleans_cons (clean_bookV b) (cleans_cons (clean_txV t) cleans_nil)) (.int _ _)
  have hfr : 0 ≤ t.fr ∧ t.fr < 8 := by have := of_decide_eq_true hk; exact ⟨this.1, by omega⟩
  obtain ⟨w1, _⟩ := wide_parts (book_wide h)
  have hi : t.fr.toNat < b.ac.length := by omega
  unfold admitN
  dsimp only
  rw [getD_at hi]
  obtain ⟨l, hl⟩ : ∃ l, ofA t.fr b.tx = l := ⟨_, rfl⟩
  obtain ⟨n0, hn0⟩ : ∃ n, b.ac[t.fr.toNat].no = n := ⟨_, rfl⟩
  rw [hl, hn0]
  by_cases g1 : idN t ∈ idsN b
  · rw [if_pos g1]
    rcases Nat.eq_zero_or_pos l.length with h0 | h0
    · exact amay_known_n b t o h ot hk l hl n0 hi hn0 (List.length_eq_zero_iff.1 h0) g1
    · exact amay_known_r b t o h ot hk l hl n0 hi hn0 h0 g1
  rw [if_neg g1]
  by_cases g2 : t.no < n0
  · rw [if_pos g2]
    rcases Nat.eq_zero_or_pos l.length with h0 | h0
    · exact amay_stale_n b t o h ot hk l hl n0 hi hn0 (List.length_eq_zero_iff.1 h0) g1 g2
    · exact amay_stale_r b t o h ot hk l hl n0 hi hn0 h0 g1 g2
  rw [if_neg g2]
  by_cases g3 : n0 + (l.length : Int) < t.no
  · rw [if_pos g3]
    rcases Nat.eq_zero_or_pos l.length with h0 | h0
    · exact amay_gap_n b t o h ot hk l hl n0 hi hn0 (List.length_eq_zero_iff.1 h0) g1 g2 g3
    · exact amay_gap_r b t o h ot hk l hl n0 hi hn0 h0 g1 g2 g3
  rw [if_neg g3]
  by_cases g4 : t.no < n0 + (l.length : Int)
  · rw [if_pos g4]
    obtain ⟨k, hkk⟩ : ∃ k, (t.no - n0).toNat = k := ⟨_, rfl⟩
    have hkl : k < l.length := by omega
    have hkn : t.no = n0 + k := by omega
    have h0 : 0 < l.length := by omega
    rw [hkk, getD_at hkl]
    cases hp : paysB l[k] t with
    | false =>
      rw [if_neg (by simp)]
      exact amay_low b t o h ot hk l hl n0 hi hn0 h0 g1 k hkl hkn hp
    | true =>
      rw [if_pos rfl]
      by_cases hs : spentN (l.set k t) ≤ b.ac[t.fr.toNat].bal
      · rw [if_pos hs]; exact amay_bump_y b t o h ot hk l hl n0 hi hn0 h0 g1 k hkl hkn hp hs
      · rw [if_neg hs]; exact amay_bump_n b t o h ot hk l hl n0 hi hn0 h0 g1 k hkl hkn hp hs
  rw [if_neg g4]
  have hkn : t.no = n0 + (l.length : Int) := by omega
  rcases Nat.eq_zero_or_pos l.length with h0 | h0
  · have hnil := List.length_eq_zero_iff.1 h0
    rw [if_neg (by omega)]
    have hkn0 : t.no = n0 := by omega
    by_cases hs : spentN (l ++ [t]) ≤ b.ac[t.fr.toNat].bal
    · rw [if_pos hs]; exact amay_add_yn b t o h ot hk l hl n0 hi hn0 hnil g1 hkn0 hs
    · rw [if_neg hs]; exact amay_add_nn b t o h ot hk l hl n0 hi hn0 hnil g1 hkn0 hs
  · by_cases h6 : 6 ≤ l.length
    · rw [if_pos h6]; exact amay_full b t o h ot hk l hl n0 hi hn0 h0 g1 hkn h6
    · rw [if_neg h6]
      by_cases hs : spentN (l ++ [t]) ≤ b.ac[t.fr.toNat].bal
      · rw [if_pos hs]; exact amay_add_yr b t o h ot hk l hl n0 hi hn0 h0 g1 hkn h6 hs
      · rw [if_neg hs]; exact amay_add_nr b t o h ot hk l hl n0 hi hn0 h0 g1 hkn h6 hs
theorem amay_bad (b : Book) (t : Tx) (o : b.fine) (ot : t.ok) (h : ¬ (bookOk b = true ∧ txOk t = true)) : Pure Tryz.prog 34 [bookV b, txV t] (errV 1) := by
  refine pure_ac ?_ (cleans_cons (clean_bookV b) (cleans_cons (clean_txV t) cleans_nil)) (.int _ _)
  have hone := one_bookc b
  have hone2 : ∀ v ∈ txc t, v.one = true := Rows.one (f := txc) t
  cases hk : txOk t with
  | false =>
    have c1 := txid_bad t ot hk
    clear o ot h
    (refine enter Tryz.func34 Tryz.results34 Tryz.ntmps34 ty_ok (hw := fun F hF => ?_); simp only [List.length_cons, List.length_nil, Nat.reduceAdd, Nat.reduceSub, List.replicate_succ, List.replicate_zero, List.cons_append, List.nil_append]; apply hF; clear hF F)
    refine wks ?_
    refine fin ?_
    rfl
  | true =>
    have c1 := txid_c t ot hk
    have c2 := pcheck_c b o
    rw [if_neg (fun e => h ⟨e, hk⟩)] at c2
    clear o ot h hk
    (refine enter Tryz.func34 Tryz.results34 Tryz.ntmps34 ty_ok (hw := fun F hF => ?_); simp only [List.length_cons, List.length_nil, Nat.reduceAdd, Nat.reduceSub, List.replicate_succ, List.replicate_zero, List.cons_append, List.nil_append]; apply hF; clear hF F)
    refine wks ?_
    refine fin ?_
    rfl
theorem admit_there {b : Book} {t : Tx} (h : idN t ∈ idsN b) : admitN b t = 4 := by
  unfold admitN
  dsimp only
  rw [if_pos h]
theorem num17a_c (n : Int) : Pure Tryz.prog 33 [.int .i64 n] (.int .i64 n) := by
  refine pure_ac ?_ (cleans_cons (.int _ _) cleans_nil) (.int _ _)
  (refine enter Tryz.func33 Tryz.results33 Tryz.ntmps33 ty_ok (hw := fun F hF => ?_); simp only [List.length_cons, List.length_nil, Nat.reduceAdd, Nat.reduceSub, List.replicate_succ, List.replicate_zero, List.cons_append, List.nil_append]; apply hF; clear hF F)
  refine wk ?_
  refine fin ?_
  rfl
theorem adm0 : admitN (b16 1024) (mkT 1 1 2) = 10 := by decide +kernel
theorem adm1 : admitN (b16 1024) (mkT 1 0 2) = 0 := by decide +kernel
set_option maxRecDepth 20000 in
set_option maxHeartbeats 20000000 in
theorem wakes17_c : Pure Tryz.prog 35 [] (.bool true) := by
  refine pure_ac ?_ cleans_nil (.bool _)
  have c1 := b16_c 1024
  have c2 := t7m_c 1 1 2 (by omega)
  have c3 := t7m_c 1 0 2 (by omega)
  have w0 : (b16 1024).whole := b16_whole 1024 (by omega) [] (by simp) (fun t h => (List.not_mem_nil h).elim)
  have c4 := amay_c (b16 1024) (mkT 1 1 2) w0 b1024_ok (mkT_fine (by omega) (by omega) (by omega)) (mkT_ok (by omega) (by omega) (by omega))
  rw [adm0] at c4
  have c5 := amay_c (b16 1024) (mkT 1 0 2) w0 b1024_ok (mkT_fine (by omega) (by omega) (by omega)) (mkT_ok (by omega) (by omega) (by omega))
  rw [adm1] at c5
  have c6 := num17a_c 10
  have c7 := num17a_c 0
  clear w0
  have h1 := one_bookc (b16 1024)
  have h3 : ∀ v ∈ txc (mkT 1 0 2), v.one = true := Rows.one (f := txc) (mkT 1 0 2)
  have h4 : ∀ v ∈ txc (mkT 1 1 2), v.one = true := Rows.one (f := txc) (mkT 1 1 2)
  (refine enter Tryz.func35 Tryz.results35 Tryz.ntmps35 ty_ok (hw := fun F hF => ?_); simp only [List.length_cons, List.length_nil, Nat.reduceAdd, Nat.reduceSub, List.replicate_succ, List.replicate_zero, List.cons_append, List.nil_append]; apply hF; clear hF F)
  refine wks ?_
  refine fin ?_
  rfl
end Go.Abs
