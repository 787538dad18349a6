/- Contracts: effects of presses with colours. -/
import Derived.Test.YtopbfmhajbjepaaE1
namespace Go.Proofs.Ytopbfmhajbjepaa
open Go
set_option linter.unusedSimpArgs false
set_option linter.unusedVariables false

def tg (near : List Nat) (o : Bool) (i : Nat) : Nat := if o then near.getD i 0 ||| 2 ^ i else near.getD i 0
theorem tg_lt {near : List Nat} {o : Bool} {i : Nat} (h : near.getD i 0 < 65536) (hi : i < 16) : tg near o i < 65536 := by
  unfold tg
  split
  · exact Nat.or_lt_two_pow (n := 16) h (Nat.pow_lt_pow_right (by omega) hi)
  · exact h
/-- What light k shows when the first i buttons are pressed. -/
def es (near : List Nat) (o : Bool) (m : Nat) (q : List Nat) (k : Nat) : Nat → Nat
  | 0 => 0
  | i + 1 => if (tg near o i).testBit k then (es near o m q k i + q.getD i 0) % m else es near o m q k i
def efL (near : List Nat) (o : Bool) (m : Nat) (q : List Nat) : List Nat := (List.range q.length).map fun k => es near o m q k q.length
def mixL (near : List Nat) (o : Bool) (m : Nat) (q : List Nat) (n i j : Nat) : List Nat := (List.range n).map fun k => if k < j then es near o m q k (i + 1) else es near o m q k i
section
variable {near : List Nat} {o : Bool} {m : Nat} {q : List Nat}
theorem es_lt (hm : 0 < m) (k i : Nat) : es near o m q k i < m := by
  induction i with
  | zero => exact hm
  | succ i ih => rw [es]; split; exact Nat.mod_lt _ hm; exact ih
theorem mixL_length (n i j : Nat) : (mixL near o m q n i j).length = n := by simp [mixL]
theorem mixL_getD {n i j k : Nat} (h : k < n) : (mixL near o m q n i j).getD k 0 = if k < j then es near o m q k (i + 1) else es near o m q k i := by simp [mixL, List.getD, h]
theorem mixL_zero (n : Nat) : mixL near o m q n 0 0 = List.replicate n 0 := by
  refine List.ext_getElem (by simp [mixL]) fun k h1 h2 => ?_
  simp [mixL, es]
theorem mixL_row (n i : Nat) : mixL near o m q n i n = mixL near o m q n (i + 1) 0 := by
  refine List.ext_getElem (by simp [mixL]) fun k h1 h2 => ?_
  have : k < n := by simpa [mixL] using h1
  simp [mixL, this]
theorem mixL_end (n : Nat) (h : q.length = n) : mixL near o m q n n 0 = efL near o m q := by simp [mixL, efL, h]
theorem mixL_step {n i j : Nat} (hj : j < n) : mixL near o m q n i (j + 1) = (mixL near o m q n i j).set j (es near o m q j (i + 1)) := by
  refine List.ext_getElem (by simp [mixL]) fun k h1 h2 => ?_
  rw [List.getElem_set]
  by_cases e : j = k
  · subst e; rw [if_pos rfl]; simp [mixL]
  · rw [if_neg e]
    simp only [mixL, List.getElem_map, List.getElem_range]
    by_cases h : k < j
    · rw [if_pos h, if_pos (by omega)]
    · rw [if_neg h, if_neg (by omega)]
theorem mixL_skip {n i j : Nat} (hb : (tg near o i).testBit j = false) : mixL near o m q n i (j + 1) = mixL near o m q n i j := by
  refine List.ext_getElem (by simp [mixL]) fun k h1 h2 => ?_
  simp only [mixL, List.getElem_map, List.getElem_range]
  by_cases h : k < j
  · rw [if_pos h, if_pos (by omega)]
  · rw [if_neg h]
    by_cases h2 : k < j + 1
    · have : k = j := by omega
      subst this; rw [if_pos h2, es, hb]; rfl
    · rw [if_neg h2]
theorem efL_length : (efL near o m q).length = q.length := by simp [efL]
theorem efL_getD {k : Nat} (h : k < q.length) : (efL near o m q).getD k 0 = es near o m q k q.length := by simp [efL, List.getD, h]
end

theorem sl_len {H : AH} {b o n : Nat} : alen TA H 22 (.sl b o n) = some (.int .i64 n) := rfl
def Togg (f : FuncId) : Prop := ∀ (near : List Nat) (o : Bool) (i : Nat) (s : AV) (H : AH), NatsAt H s near → i < near.length → near.length ≤ 16 → (∀ i < near.length, near.getD i 0 < 65536) → E f [.agg [s, .bool o], .int .i64 i] H (Is (.int .i64 (tg near o i : Nat)) H)
theorem toggles_ok : Togg 167 := by
  intro near o i s H hs hi hn hv
  have hso := SliceAt.isOne hs
  have h1 := hv i hi
  have hp : 2 ^ i ≤ 65536 := Nat.pow_le_pow_right (n := 2) (by omega) (show i ≤ 16 by omega)
  refine Ev.enterK (fn := Try.f167) rfl Try.func167 rfl (by kernel_rfl) (by simp [Try.ntmps167]) ?_
  cases o
  · (simp (disch := first | exact dsch | kernel_rfl) only [go_sem, ↓reduceIte, Nat.reduceEqDiff, Nat.reduceLT, Nat.reduceAdd, reduceCtorEq, Int.reduceToNat, Try.ntmps167, Try.results167, hs.ix, hs.ld] <;> repeat' ((first | refine AK.drawT (by kernel_rfl) ?_ | ((first | refine ABK_mk ?_ ?_ | refine AGK_mk ?_ ?_) <;> intro hb <;> (try simp only [decide_eq_true_eq, decide_eq_false_iff_not, Bool.not_eq_true', Bool.not_eq_false', Bool.not_not] at hb) <;> (try (exfalso; omega)) <;> (try subst hb) <;> try simp only [hb, decide_true, decide_false])) <;> try simp (disch := first | exact dsch | kernel_rfl) only [go_sem, ↓reduceIte, Nat.reduceEqDiff, Nat.reduceLT, Nat.reduceAdd, reduceCtorEq, Int.reduceToNat, Try.ntmps167, Try.results167, hs.ix, hs.ld]))
    exact Is.mk rfl (by exact xt)
  · (simp (disch := first | exact dsch | kernel_rfl) only [go_sem, ↓reduceIte, Nat.reduceEqDiff, Nat.reduceLT, Nat.reduceAdd, reduceCtorEq, Int.reduceToNat, Try.ntmps167, Try.results167, hs.ix, hs.ld] <;> repeat' ((first | refine AK.drawT (by kernel_rfl) ?_ | ((first | refine ABK_mk ?_ ?_ | refine AGK_mk ?_ ?_) <;> intro hb <;> (try simp only [decide_eq_true_eq, decide_eq_false_iff_not, Bool.not_eq_true', Bool.not_eq_false', Bool.not_not] at hb) <;> (try (exfalso; omega)) <;> (try subst hb) <;> try simp only [hb, decide_true, decide_false])) <;> try simp (disch := first | exact dsch | kernel_rfl) only [go_sem, ↓reduceIte, Nat.reduceEqDiff, Nat.reduceLT, Nat.reduceAdd, reduceCtorEq, Int.reduceToNat, Try.ntmps167, Try.results167, hs.ix, hs.ld]))
    exact Is.mk rfl (by exact xt)
theorem grToggles_ok : Togg 209 := by
  intro near o i s H hs hi hn hv
  have hso := SliceAt.isOne hs
  have h1 := hv i hi
  have hp : 2 ^ i ≤ 65536 := Nat.pow_le_pow_right (n := 2) (by omega) (show i ≤ 16 by omega)
  refine Ev.enterK (fn := Try.f209) rfl Try.func209 rfl (by kernel_rfl) (by simp [Try.ntmps209]) ?_
  cases o
  · (simp (disch := first | exact dsch | kernel_rfl) only [go_sem, ↓reduceIte, Nat.reduceEqDiff, Nat.reduceLT, Nat.reduceAdd, reduceCtorEq, Int.reduceToNat, Try.ntmps209, Try.results209, hs.ix, hs.ld] <;> repeat' ((first | refine AK.drawT (by kernel_rfl) ?_ | ((first | refine ABK_mk ?_ ?_ | refine AGK_mk ?_ ?_) <;> intro hb <;> (try simp only [decide_eq_true_eq, decide_eq_false_iff_not, Bool.not_eq_true', Bool.not_eq_false', Bool.not_not] at hb) <;> (try (exfalso; omega)) <;> (try subst hb) <;> try simp only [hb, decide_true, decide_false])) <;> try simp (disch := first | exact dsch | kernel_rfl) only [go_sem, ↓reduceIte, Nat.reduceEqDiff, Nat.reduceLT, Nat.reduceAdd, reduceCtorEq, Int.reduceToNat, Try.ntmps209, Try.results209, hs.ix, hs.ld]))
    exact Is.mk rfl (by exact xt)
  · (simp (disch := first | exact dsch | kernel_rfl) only [go_sem, ↓reduceIte, Nat.reduceEqDiff, Nat.reduceLT, Nat.reduceAdd, reduceCtorEq, Int.reduceToNat, Try.ntmps209, Try.results209, hs.ix, hs.ld] <;> repeat' ((first | refine AK.drawT (by kernel_rfl) ?_ | ((first | refine ABK_mk ?_ ?_ | refine AGK_mk ?_ ?_) <;> intro hb <;> (try simp only [decide_eq_true_eq, decide_eq_false_iff_not, Bool.not_eq_true', Bool.not_eq_false', Bool.not_not] at hb) <;> (try (exfalso; omega)) <;> (try subst hb) <;> try simp only [hb, decide_true, decide_false])) <;> try simp (disch := first | exact dsch | kernel_rfl) only [go_sem, ↓reduceIte, Nat.reduceEqDiff, Nat.reduceLT, Nat.reduceAdd, reduceCtorEq, Int.reduceToNat, Try.ntmps209, Try.results209, hs.ix, hs.ld]))
    exact Is.mk rfl (by exact xt)

def Eff (f : FuncId) : Prop := ∀ (near q : List Nat) (m : Nat) (o : Bool) (s t : AV) (H : AH), NatsAt H s near → NatsAt H t q → near.length = q.length → near.length ≤ 16 → (∀ i < near.length, near.getD i 0 < 65536) → 0 < m → m ≤ 7 → (∀ i < q.length, q.getD i 0 < 1000) →
  E f [.agg [s, .bool o], .int .i64 m, t] H (Gives H fun v H' => ∃ c, v = .sl c 0 q.length ∧ H.size ≤ c ∧ RowAt H' c (efL near o m q))
set_option maxRecDepth 10000 in
theorem effectColours_ok : Eff 141 := by
  intro near q m o s t H hs ht hnq hn hv hm hm7 hq
  have hso := SliceAt.isOne hs
  refine Ev.enterK (fn := Try.f141) rfl Try.func141 rfl (by kernel_rfl) (by simp [Try.ntmps141]) ?_
  (simp (disch := first | exact dsch | kernel_rfl) only [go_sem, ↓reduceIte, Nat.reduceEqDiff, Nat.reduceLT, Nat.reduceAdd, reduceCtorEq, Int.reduceToNat, Try.ntmps141, Try.results141, ht.len] <;> repeat' ((first | (refine AOK_is (by first | exact has_ok _ _ (by omega) (by omega) _ | exact has_okz _ _ (by omega) (by omega) (by omega) (by omega) _) ?_; intro Hc hxc) | refine AK.drawT (by kernel_rfl) ?_ | ((first | refine ABK_mk ?_ ?_ | refine AGK_mk ?_ ?_) <;> intro hb <;> (try simp only [decide_eq_true_eq, decide_eq_false_iff_not, Bool.not_eq_true', Bool.not_eq_false', Bool.not_not] at hb) <;> (try (exfalso; omega)) <;> (try subst hb) <;> try simp only [hb, decide_true, decide_false])) <;> try simp (disch := first | exact dsch | kernel_rfl) only [go_sem, ↓reduceIte, Nat.reduceEqDiff, Nat.reduceLT, Nat.reduceAdd, reduceCtorEq, Int.reduceToNat, Try.ntmps141, Try.results141, ht.len]))
  generalize hcc : (H.push (.cells 2 false [s, .bool o])).size = c
  have hc0 : c = H.size + 1 := by rw [← hcc]; rfl
  have row0 : RowAt ((H.push (.cells 2 false [s, .bool o])).push (rowBlk (List.replicate q.length 0))) c (List.replicate q.length 0) := by rw [← hcc]; exact AH.push_same _ _
  have box0 : ((H.push (.cells 2 false [s, .bool o])).push (rowBlk (List.replicate q.length 0))).blk H.size = .cells 2 false [s, .bool o] := Ext.cells (H := H.push (.cells 2 false [s, .bool o])) (by exact xt) (AH.push_same _ _)
  have ext0 : Ext H ((H.push (.cells 2 false [s, .bool o])).push (rowBlk (List.replicate q.length 0))) := by exact xt
  generalize (H.push (.cells 2 false [s, .bool o])).push (rowBlk (List.replicate q.length 0)) = H0 at *
  refine (AK.count 16 [8, 9, 10, 16, 17, 18, 19, 20, 21, 22, 23, 24, 25, 26, 27, 28, 29, 30, 31, 32, 33, 34, 35, 36, 37, 38, 39, 40, 41, 42, 43] (by kernel_rfl) 0 q.length (fun i tm H' => Ext H H' ∧ H'.blk H.size = .cells 2 false [s, .bool o] ∧ RowAt H' c (mixL near o m q q.length i 0)) (by rfl) (by omega) ⟨ext0, box0, by rw [mixL_zero]; exact row0⟩ ?_)
  rintro i tm H1 K g1 g2 fr hq1 ⟨x1, bx1, r1⟩ hK
  by_cases hi : i < q.length
  · have hi' : (i : Int) < (q.length : Int) := by omega
    have hqi := hq i hi
    simp (disch := first | exact dsch | kernel_rfl) only [go_sem, ↓reduceIte, Nat.reduceEqDiff, Nat.reduceLT, Nat.reduceAdd, reduceCtorEq, Int.reduceToNat, Try.ntmps141, Try.results141, fr, hq1, hi', ht.len, ht.ix, ht.ld, sl_len]
    refine (AK.count 23 [10, 23, 24, 25, 26, 27, 28, 29, 30, 31, 32, 33, 34, 35, 36, 37, 38, 39, 40, 41, 42] (by kernel_rfl) 0 q.length (fun j tm H' => Ext H H' ∧ H'.blk H.size = .cells 2 false [s, .bool o] ∧ RowAt H' c (mixL near o m q q.length i j)) (by rfl) (by omega) ⟨x1, bx1, r1⟩ ?_)
    rintro j tm2 H2 K2 g3 g4 fr2 hq2 ⟨x2, bx2, r2⟩ hK2
    by_cases hj : j < q.length
    · have hj' : (j : Int) < (q.length : Int) := by omega
      have hil : i < near.length := by omega
      have htl := tg_lt (o := o) (hv i hil) (show i < 16 by omega)
      have hml := mixL_length (near := near) (o := o) (m := m) (q := q) q.length i j
      have hmg := mixL_getD (near := near) (o := o) (m := m) (q := q) (n := q.length) (i := i) (j := j) hj
      rw [if_neg (by omega)] at hmg
      have hel := es_lt (near := near) (o := o) (q := q) hm j i
      simp (disch := first | exact dsch | kernel_rfl) only [go_sem, ↓reduceIte, Nat.reduceEqDiff, Nat.reduceLT, Nat.reduceAdd, reduceCtorEq, Int.reduceToNat, Try.ntmps141, Try.results141, fr2, hq2, fr, hq1, hj', ld_graph bx2]
      refine AOK_is (toggles_ok near o i s H2 (SliceAt.ext hs x2) hil hn hv) ?_
      intro H3 x3
      have e1 : ((es near o m q j i : Nat) : Int) + ((q.getD i 0 : Nat) : Int) = ((es near o m q j i + q.getD i 0 : Nat) : Int) := by omega
      have e2 : ((es near o m q j i + q.getD i 0 : Nat) : Int).tmod (m : Int) = (((es near o m q j i + q.getD i 0) % m : Nat) : Int) := rfl
      have hm0 : (m : Int) ≠ 0 := by omega
      have r3 := r2.ext x3
      cases hb : (tg near o i).testBit j
      · (simp (disch := first | exact dsch | kernel_rfl) only [go_sem, ↓reduceIte, Nat.reduceEqDiff, Nat.reduceLT, Nat.reduceAdd, reduceCtorEq, Int.reduceToNat, Try.ntmps141, Try.results141, fr2, hq2, fr, hq1, hb] <;> repeat' ((first | (refine AOK_is (by first | exact has_ok _ _ (by omega) (by omega) _ | exact has_okz _ _ (by omega) (by omega) (by omega) (by omega) _) ?_; intro Hc hxc) | refine AK.drawT (by kernel_rfl) ?_ | ((first | refine ABK_mk ?_ ?_ | refine AGK_mk ?_ ?_) <;> intro hb <;> (try simp only [decide_eq_true_eq, decide_eq_false_iff_not, Bool.not_eq_true', Bool.not_eq_false', Bool.not_not] at hb) <;> (try (exfalso; omega)) <;> (try subst hb) <;> try simp only [hb, decide_true, decide_false])) <;> try simp (disch := first | exact dsch | kernel_rfl) only [go_sem, ↓reduceIte, Nat.reduceEqDiff, Nat.reduceLT, Nat.reduceAdd, reduceCtorEq, Int.reduceToNat, Try.ntmps141, Try.results141, fr2, hq2, fr, hq1, hb]))
        refine hK2 _ _ hj (by rfl) ⟨x2.trans (by exact xt), Ext.cells (H := H2) (by exact xt) bx2, ?_⟩
        rw [mixL_skip hb]; exact r2.ext (by exact xt)
      · have hjl : j < (mixL near o m q q.length i j).length := by rw [hml]; exact hj
        (simp (disch := first | exact dsch | kernel_rfl) only [go_sem, ↓reduceIte, Nat.reduceEqDiff, Nat.reduceLT, Nat.reduceAdd, reduceCtorEq, Int.reduceToNat, Try.ntmps141, Try.results141, fr2, hq2, fr, hq1, hb, r2.ld, r2.st, hmg, e1, e2] <;> repeat' ((first | (refine AOK_is (by first | exact has_ok _ _ (by omega) (by omega) _ | exact has_okz _ _ (by omega) (by omega) (by omega) (by omega) _) ?_; intro Hc hxc) | refine AK.drawT (by kernel_rfl) ?_ | ((first | refine ABK_mk ?_ ?_ | refine AGK_mk ?_ ?_) <;> intro hb <;> (try simp only [decide_eq_true_eq, decide_eq_false_iff_not, Bool.not_eq_true', Bool.not_eq_false', Bool.not_not] at hb) <;> (try (exfalso; omega)) <;> (try subst hb) <;> try simp only [hb, decide_true, decide_false])) <;> try simp (disch := first | exact dsch | kernel_rfl) only [go_sem, ↓reduceIte, Nat.reduceEqDiff, Nat.reduceLT, Nat.reduceAdd, reduceCtorEq, Int.reduceToNat, Try.ntmps141, Try.results141, fr2, hq2, fr, hq1, hb, r2.ld, r2.st, hmg, e1, e2]))
        have hes : es near o m q j (i + 1) = (es near o m q j i + q.getD i 0) % m := by rw [es, hb]; rfl
        have hx3 : Ext H2 Hc := by exact xt
        refine hK2 _ _ hj (by rfl) ⟨(x2.trans hx3).put (by omega) _, ?_, ?_⟩
        · rw [put_blk_ne (by omega)]; exact hx3.cells bx2
        · rw [mixL_step hj, hes]; exact (r2.ext hx3).put
    · have hj' : ¬ (j : Int) < (q.length : Int) := by omega
      have ej : j = q.length := by omega
      rw [ej] at r2
      simp (disch := first | exact dsch | kernel_rfl) only [go_sem, ↓reduceIte, Nat.reduceEqDiff, Nat.reduceLT, Nat.reduceAdd, reduceCtorEq, Int.reduceToNat, Try.ntmps141, Try.results141, fr2, hq2, fr, hq1, hj']
      exact hK _ _ hi (by rfl) ⟨x2, bx2, by rw [← mixL_row]; exact r2⟩
  · have hi' : ¬ (i : Int) < (q.length : Int) := by omega
    have ei : i = q.length := by omega
    rw [ei, mixL_end _ rfl] at r1
    simp (disch := first | exact dsch | kernel_rfl) only [go_sem, ↓reduceIte, Nat.reduceEqDiff, Nat.reduceLT, Nat.reduceAdd, reduceCtorEq, Int.reduceToNat, Try.ntmps141, Try.results141, fr, hq1, hi']
    exact ⟨x1, c, rfl, by omega, r1⟩
set_option maxRecDepth 10000 in
theorem clEffect_ok : Eff 145 := by
  intro near q m o s t H hs ht hnq hn hv hm hm7 hq
  have hso := SliceAt.isOne hs
  refine Ev.enterK (fn := Try.f145) rfl Try.func145 rfl (by kernel_rfl) (by simp [Try.ntmps145]) ?_
  (simp (disch := first | exact dsch | kernel_rfl) only [go_sem, ↓reduceIte, Nat.reduceEqDiff, Nat.reduceLT, Nat.reduceAdd, reduceCtorEq, Int.reduceToNat, Try.ntmps145, Try.results145, ht.len] <;> repeat' ((first | (refine AOK_is (by first | exact grIn_ok _ _ (by omega) _ | exact grIn_okz _ _ (by omega) (by omega) (by omega) _) ?_; intro Hc hxc) | refine AK.drawT (by kernel_rfl) ?_ | ((first | refine ABK_mk ?_ ?_ | refine AGK_mk ?_ ?_) <;> intro hb <;> (try simp only [decide_eq_true_eq, decide_eq_false_iff_not, Bool.not_eq_true', Bool.not_eq_false', Bool.not_not] at hb) <;> (try (exfalso; omega)) <;> (try subst hb) <;> try simp only [hb, decide_true, decide_false])) <;> try simp (disch := first | exact dsch | kernel_rfl) only [go_sem, ↓reduceIte, Nat.reduceEqDiff, Nat.reduceLT, Nat.reduceAdd, reduceCtorEq, Int.reduceToNat, Try.ntmps145, Try.results145, ht.len]))
  generalize hcc : (H.push (.cells 2 false [s, .bool o])).size = c
  have hc0 : c = H.size + 1 := by rw [← hcc]; rfl
  have row0 : RowAt ((H.push (.cells 2 false [s, .bool o])).push (rowBlk (List.replicate q.length 0))) c (List.replicate q.length 0) := by rw [← hcc]; exact AH.push_same _ _
  have box0 : ((H.push (.cells 2 false [s, .bool o])).push (rowBlk (List.replicate q.length 0))).blk H.size = .cells 2 false [s, .bool o] := Ext.cells (H := H.push (.cells 2 false [s, .bool o])) (by exact xt) (AH.push_same _ _)
  have ext0 : Ext H ((H.push (.cells 2 false [s, .bool o])).push (rowBlk (List.replicate q.length 0))) := by exact xt
  generalize (H.push (.cells 2 false [s, .bool o])).push (rowBlk (List.replicate q.length 0)) = H0 at *
  refine (AK.count 16 [8, 9, 10, 16, 17, 18, 19, 20, 21, 22, 23, 24, 25, 26, 27, 28, 29, 30, 31, 32, 33, 34, 35, 36, 37, 38, 39, 40, 41, 42, 43] (by kernel_rfl) 0 q.length (fun i tm H' => Ext H H' ∧ H'.blk H.size = .cells 2 false [s, .bool o] ∧ RowAt H' c (mixL near o m q q.length i 0)) (by rfl) (by omega) ⟨ext0, box0, by rw [mixL_zero]; exact row0⟩ ?_)
  rintro i tm H1 K g1 g2 fr hq1 ⟨x1, bx1, r1⟩ hK
  by_cases hi : i < q.length
  · have hi' : (i : Int) < (q.length : Int) := by omega
    have hqi := hq i hi
    simp (disch := first | exact dsch | kernel_rfl) only [go_sem, ↓reduceIte, Nat.reduceEqDiff, Nat.reduceLT, Nat.reduceAdd, reduceCtorEq, Int.reduceToNat, Try.ntmps145, Try.results145, fr, hq1, hi', ht.len, ht.ix, ht.ld, sl_len]
    refine (AK.count 23 [10, 23, 24, 25, 26, 27, 28, 29, 30, 31, 32, 33, 34, 35, 36, 37, 38, 39, 40, 41, 42] (by kernel_rfl) 0 q.length (fun j tm H' => Ext H H' ∧ H'.blk H.size = .cells 2 false [s, .bool o] ∧ RowAt H' c (mixL near o m q q.length i j)) (by rfl) (by omega) ⟨x1, bx1, r1⟩ ?_)
    rintro j tm2 H2 K2 g3 g4 fr2 hq2 ⟨x2, bx2, r2⟩ hK2
    by_cases hj : j < q.length
    · have hj' : (j : Int) < (q.length : Int) := by omega
      have hil : i < near.length := by omega
      have htl := tg_lt (o := o) (hv i hil) (show i < 16 by omega)
      have hml := mixL_length (near := near) (o := o) (m := m) (q := q) q.length i j
      have hmg := mixL_getD (near := near) (o := o) (m := m) (q := q) (n := q.length) (i := i) (j := j) hj
      rw [if_neg (by omega)] at hmg
      have hel := es_lt (near := near) (o := o) (q := q) hm j i
      simp (disch := first | exact dsch | kernel_rfl) only [go_sem, ↓reduceIte, Nat.reduceEqDiff, Nat.reduceLT, Nat.reduceAdd, reduceCtorEq, Int.reduceToNat, Try.ntmps145, Try.results145, fr2, hq2, fr, hq1, hj', ld_graph bx2]
      refine AOK_is (grToggles_ok near o i s H2 (SliceAt.ext hs x2) hil hn hv) ?_
      intro H3 x3
      have e1 : ((es near o m q j i : Nat) : Int) + ((q.getD i 0 : Nat) : Int) = ((es near o m q j i + q.getD i 0 : Nat) : Int) := by omega
      have e2 : ((es near o m q j i + q.getD i 0 : Nat) : Int).tmod (m : Int) = (((es near o m q j i + q.getD i 0) % m : Nat) : Int) := rfl
      have hm0 : (m : Int) ≠ 0 := by omega
      have r3 := r2.ext x3
      cases hb : (tg near o i).testBit j
      · (simp (disch := first | exact dsch | kernel_rfl) only [go_sem, ↓reduceIte, Nat.reduceEqDiff, Nat.reduceLT, Nat.reduceAdd, reduceCtorEq, Int.reduceToNat, Try.ntmps145, Try.results145, fr2, hq2, fr, hq1, hb] <;> repeat' ((first | (refine AOK_is (by first | exact grIn_ok _ _ (by omega) _ | exact grIn_okz _ _ (by omega) (by omega) (by omega) _) ?_; intro Hc hxc) | refine AK.drawT (by kernel_rfl) ?_ | ((first | refine ABK_mk ?_ ?_ | refine AGK_mk ?_ ?_) <;> intro hb <;> (try simp only [decide_eq_true_eq, decide_eq_false_iff_not, Bool.not_eq_true', Bool.not_eq_false', Bool.not_not] at hb) <;> (try (exfalso; omega)) <;> (try subst hb) <;> try simp only [hb, decide_true, decide_false])) <;> try simp (disch := first | exact dsch | kernel_rfl) only [go_sem, ↓reduceIte, Nat.reduceEqDiff, Nat.reduceLT, Nat.reduceAdd, reduceCtorEq, Int.reduceToNat, Try.ntmps145, Try.results145, fr2, hq2, fr, hq1, hb]))
        refine hK2 _ _ hj (by rfl) ⟨x2.trans (by exact xt), Ext.cells (H := H2) (by exact xt) bx2, ?_⟩
        rw [mixL_skip hb]; exact r2.ext (by exact xt)
      · have hjl : j < (mixL near o m q q.length i j).length := by rw [hml]; exact hj
        (simp (disch := first | exact dsch | kernel_rfl) only [go_sem, ↓reduceIte, Nat.reduceEqDiff, Nat.reduceLT, Nat.reduceAdd, reduceCtorEq, Int.reduceToNat, Try.ntmps145, Try.results145, fr2, hq2, fr, hq1, hb, r2.ld, r2.st, hmg, e1, e2] <;> repeat' ((first | (refine AOK_is (by first | exact grIn_ok _ _ (by omega) _ | exact grIn_okz _ _ (by omega) (by omega) (by omega) _) ?_; intro Hc hxc) | refine AK.drawT (by kernel_rfl) ?_ | ((first | refine ABK_mk ?_ ?_ | refine AGK_mk ?_ ?_) <;> intro hb <;> (try simp only [decide_eq_true_eq, decide_eq_false_iff_not, Bool.not_eq_true', Bool.not_eq_false', Bool.not_not] at hb) <;> (try (exfalso; omega)) <;> (try subst hb) <;> try simp only [hb, decide_true, decide_false])) <;> try simp (disch := first | exact dsch | kernel_rfl) only [go_sem, ↓reduceIte, Nat.reduceEqDiff, Nat.reduceLT, Nat.reduceAdd, reduceCtorEq, Int.reduceToNat, Try.ntmps145, Try.results145, fr2, hq2, fr, hq1, hb, r2.ld, r2.st, hmg, e1, e2]))
        have hes : es near o m q j (i + 1) = (es near o m q j i + q.getD i 0) % m := by rw [es, hb]; rfl
        have hx3 : Ext H2 Hc := by exact xt
        refine hK2 _ _ hj (by rfl) ⟨(x2.trans hx3).put (by omega) _, ?_, ?_⟩
        · rw [put_blk_ne (by omega)]; exact hx3.cells bx2
        · rw [mixL_step hj, hes]; exact (r2.ext hx3).put
    · have hj' : ¬ (j : Int) < (q.length : Int) := by omega
      have ej : j = q.length := by omega
      rw [ej] at r2
      simp (disch := first | exact dsch | kernel_rfl) only [go_sem, ↓reduceIte, Nat.reduceEqDiff, Nat.reduceLT, Nat.reduceAdd, reduceCtorEq, Int.reduceToNat, Try.ntmps145, Try.results145, fr2, hq2, fr, hq1, hj']
      exact hK _ _ hi (by rfl) ⟨x2, bx2, by rw [← mixL_row]; exact r2⟩
  · have hi' : ¬ (i : Int) < (q.length : Int) := by omega
    have ei : i = q.length := by omega
    rw [ei, mixL_end _ rfl] at r1
    simp (disch := first | exact dsch | kernel_rfl) only [go_sem, ↓reduceIte, Nat.reduceEqDiff, Nat.reduceLT, Nat.reduceAdd, reduceCtorEq, Int.reduceToNat, Try.ntmps145, Try.results145, fr, hq1, hi']
    exact ⟨x1, c, rfl, by omega, r1⟩

end Go.Proofs.Ytopbfmhajbjepaa
