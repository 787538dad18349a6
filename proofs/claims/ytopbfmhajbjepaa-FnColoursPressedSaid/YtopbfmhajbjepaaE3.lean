/- Contracts: words of presses with colours. -/
import Derived.Test.YtopbfmhajbjepaaE2
namespace Go.Proofs.Ytopbfmhajbjepaa
open Go
set_option linter.unusedSimpArgs false
set_option linter.unusedVariables false

def wstep (m : Nat) (out : List Nat) (x : Int) : List Nat := out.set x.toNat ((out.getD x.toNat 0 + 1) % m)
def wdL (n m : Nat) (w : List Int) : List Nat := w.foldl (wstep m) (List.replicate n 0)
theorem wdL_take {n m : Nat} {w : List Int} {i : Nat} (h : i < w.length) : wdL n m (w.take (i + 1)) = wstep m (wdL n m (w.take i)) (w.getD i 0) := by
  unfold wdL
  rw [List.take_add_one, List.foldl_append]; simp [List.getD, h]
theorem wfold_length (m : Nat) : ∀ (w : List Int) (out : List Nat), (w.foldl (wstep m) out).length = out.length
  | [], _ => rfl
  | x :: w, out => by rw [List.foldl_cons, wfold_length m w]; simp [wstep]
theorem wdL_length {n m : Nat} {w : List Int} : (wdL n m w).length = n := by unfold wdL; rw [wfold_length]; simp
theorem wfold_lt {m : Nat} (hm : 0 < m) : ∀ (w : List Int) (out : List Nat), (∀ i, out.getD i 0 < m) → ∀ i, (w.foldl (wstep m) out).getD i 0 < m
  | [], _, h => h
  | x :: w, out, h => by
    refine wfold_lt hm w _ fun i => ?_
    unfold wstep
    by_cases e : x.toNat = i
    · subst e
      by_cases hl : x.toNat < out.length
      · simp only [List.getD, List.getElem?_set_self hl, Option.getD_some]; exact Nat.mod_lt _ hm
      · simp only [List.getD, List.getElem?_eq_none (show (out.set x.toNat _).length ≤ x.toNat by simp; omega), Option.getD_none]; exact hm
    · have := h i
      simpa only [List.getD, List.getElem?_set_ne e] using this
theorem wdL_lt {n m : Nat} {w : List Int} (hm : 0 < m) (i : Nat) : (wdL n m w).getD i 0 < m := wfold_lt hm w _ (fun i => by have := zeros_lt n 0 i; simp only [Nat.pow_zero] at this; omega) i

theorem pressWord_ok (l w : List Int) (m : Nat) (o : Bool) (s t : AV) (H : AH) (hs : IntsAt H s l) (ht : IntsAt H t w) (hn : l.length ≤ 16) (hw : w.length < 1000000) (hm : 0 < m) (hm7 : m ≤ 7) (hall : ∀ i < w.length, 0 ≤ w.getD i 0 ∧ w.getD i 0 < l.length) :
    E 142 [.agg [s, .bool o], .int .i64 m, t] H (Gives H fun v H' => ∃ c, v = .sl c 0 l.length ∧ H.size ≤ c ∧ RowAt H' c (wdL l.length m w)) := by
  have hso := SliceAt.isOne hs
  refine Ev.enterK (fn := Try.f142) rfl Try.func142 rfl (by kernel_rfl) (by simp [Try.ntmps142]) ?_
  (simp (disch := first | exact dsch | kernel_rfl) only [go_sem, ↓reduceIte, Nat.reduceEqDiff, Nat.reduceLT, Nat.reduceAdd, reduceCtorEq, Int.reduceToNat, Try.ntmps142, Try.results142, hs.len, ht.len] <;> repeat' ((first | refine AK.drawT (by kernel_rfl) ?_ | ((first | refine ABK_mk ?_ ?_ | refine AGK_mk ?_ ?_) <;> intro hb <;> (try simp only [decide_eq_true_eq, decide_eq_false_iff_not, Bool.not_eq_true', Bool.not_eq_false', Bool.not_not] at hb) <;> (try (exfalso; omega)) <;> (try subst hb) <;> try simp only [hb, decide_true, decide_false])) <;> try simp (disch := first | exact dsch | kernel_rfl) only [go_sem, ↓reduceIte, Nat.reduceEqDiff, Nat.reduceLT, Nat.reduceAdd, reduceCtorEq, Int.reduceToNat, Try.ntmps142, Try.results142, hs.len, ht.len]))
  generalize hcc : (H.push (.cells 2 false [s, .bool o])).size = c at *
  have hc0 : H.size ≤ c := by first | omega | (rw [← hcc]; exact Ext.size (by exact xt))
  have row0 : RowAt ((H.push (.cells 2 false [s, .bool o])).push (rowBlk (List.replicate l.length 0))) c (List.replicate l.length 0) := by rw [← hcc]; exact AH.push_same _ _
  have ext0 : Ext H ((H.push (.cells 2 false [s, .bool o])).push (rowBlk (List.replicate l.length 0))) := by exact xt
  generalize (H.push (.cells 2 false [s, .bool o])).push (rowBlk (List.replicate l.length 0)) = H0 at *
  refine (AK.count 16 [9, 16, 17, 18, 19, 20, 21, 22, 23, 24, 25, 26, 27, 28, 29, 30] (by kernel_rfl) 0 w.length (fun i tm H' => Ext H H' ∧ RowAt H' c (wdL l.length m (w.take i))) (by rfl) (by omega) ⟨ext0, row0⟩ ?_)
  rintro i tm H1 K g1 g2 fr hq1 ⟨x1, r1⟩ hK
  by_cases hi : i < w.length
  · have hi' : (i : Int) < (w.length : Int) := by omega
    obtain ⟨y, hy⟩ := Int.eq_ofNat_of_zero_le (hall i hi).1
    have hyl : y < l.length := by have := (hall i hi).2; omega
    have hml := wdL_length (n := l.length) (m := m) (w := w.take i)
    have hyl2 : y < (wdL l.length m (w.take i)).length := by omega
    have hlt := wdL_lt (n := l.length) (w := w.take i) hm y
    have e1 : (((wdL l.length m (w.take i)).getD y 0 : Nat) : Int) + 1 = (((wdL l.length m (w.take i)).getD y 0 + 1 : Nat) : Int) := by omega
    have e2 : (((wdL l.length m (w.take i)).getD y 0 + 1 : Nat) : Int).tmod (m : Int) = ((((wdL l.length m (w.take i)).getD y 0 + 1) % m : Nat) : Int) := rfl
    have hm0 : (m : Int) ≠ 0 := by omega
    (simp (disch := first | exact dsch | kernel_rfl) only [go_sem, ↓reduceIte, Nat.reduceEqDiff, Nat.reduceLT, Nat.reduceAdd, reduceCtorEq, Int.reduceToNat, Try.ntmps142, Try.results142, fr, hq1, hi', ht.len, ht.ix, ht.ld, hy, r1.ld, r1.st, e1, e2] <;> repeat' ((first | refine AK.drawT (by kernel_rfl) ?_ | ((first | refine ABK_mk ?_ ?_ | refine AGK_mk ?_ ?_) <;> intro hb <;> (try simp only [decide_eq_true_eq, decide_eq_false_iff_not, Bool.not_eq_true', Bool.not_eq_false', Bool.not_not] at hb) <;> (try (exfalso; omega)) <;> (try subst hb) <;> try simp only [hb, decide_true, decide_false])) <;> try simp (disch := first | exact dsch | kernel_rfl) only [go_sem, ↓reduceIte, Nat.reduceEqDiff, Nat.reduceLT, Nat.reduceAdd, reduceCtorEq, Int.reduceToNat, Try.ntmps142, Try.results142, fr, hq1, hi', ht.len, ht.ix, ht.ld, hy, r1.ld, r1.st, e1, e2]))
    refine hK _ _ hi (by rfl) ⟨x1.put hc0 _, ?_⟩
    rw [wdL_take hi, hy]
    exact r1.put
  · have hi' : ¬ (i : Int) < (w.length : Int) := by omega
    have ei : i = w.length := by omega
    rw [ei, List.take_length] at r1
    simp (disch := first | exact dsch | kernel_rfl) only [go_sem, ↓reduceIte, Nat.reduceEqDiff, Nat.reduceLT, Nat.reduceAdd, reduceCtorEq, Int.reduceToNat, Try.ntmps142, Try.results142, fr, hq1, hi']
    exact ⟨x1, c, rfl, hc0, r1⟩

/-- Whether a word is one. -/
noncomputable def wordB (l : List Int) (m : Int) (w : List Int) : Bool := (colB l m && decide (w.length ≤ 200)) && w.all fun x => decide (0 ≤ x ∧ x ≤ (l.length : Int) - 1)
theorem colB_true {l : List Int} {m : Nat} (h : colB l m = true) : ∃ near, l = zs near ∧ GOK near ∧ near.length ≤ 10 ∧ (m = 2 ∨ m = 3 ∨ m = 5 ∨ m = 7) := by
  simp only [colB, Bool.and_eq_true, decide_eq_true_eq, okB_true] at h
  obtain ⟨⟨⟨near, rfl, h1⟩, h2⟩, h3⟩ := h
  exact ⟨near, rfl, h1, by simpa using h2, by unfold ModOK at h3; omega⟩
theorem wordB_true {l : List Int} {m : Nat} {w : List Int} (h : wordB l m w = true) : colB l m = true ∧ w.length ≤ 200 ∧ ∀ i < w.length, 0 ≤ w.getD i 0 ∧ w.getD i 0 < l.length := by
  simp only [wordB, Bool.and_eq_true, decide_eq_true_eq, List.all_eq_true] at h
  exact ⟨h.1.1, h.1.2, fun i hi => by have := h.2 _ (getD_mem hi); omega⟩
theorem colL_true {l q : List Int} {m : Nat} (h : colL l m q = true) : colB l m = true ∧ ∃ qn, q = zs qn ∧ qn.length = l.length ∧ ∀ i < qn.length, qn.getD i 0 < m := by
  simp only [colL, Bool.and_eq_true, decide_eq_true_eq] at h
  obtain ⟨⟨h1, h2⟩, h3⟩ := h
  have hm : 1 ≤ m := by obtain ⟨_, _, _, _, h⟩ := colB_true h1; omega
  have e : ((m : Int) - 1) = ((m - 1 : Nat) : Int) := by omega
  rw [e] at h3
  obtain ⟨qn, rfl, hq⟩ := nats_of h3
  exact ⟨h1, qn, rfl, by simpa using h2, fun i hi => by have := hq i hi; omega⟩

set_option maxRecDepth 10000 in
theorem clWord_ok (l w : List Int) (m : Nat) (o : Bool) (s t : AV) (H : AH) (hs : IntsAt H s l) (hl : l.length < 1000000) (ht : IntsAt H t w) (hw : w.length < 1000000) (hm7 : m ≤ 7) :
    E 143 [.agg [s, .bool o], .int .i64 m, t] H (Gives H fun v H' => (wordB l m w = false ∧ v = .tup [.nilsl, .bool false]) ∨ (wordB l m w = true ∧ ∃ c, v = .tup [.sl c 0 l.length, .bool true] ∧ H.size ≤ c ∧ RowAt H' c (wdL l.length m w))) := by
  have hso := SliceAt.isOne hs
  have hl9 : l.length < 9223372036854775807 := by omega
  have hw9 : w.length < 9223372036854775807 := by omega
  refine Ev.enterK (fn := Try.f143) rfl Try.func143 rfl (by kernel_rfl) (by simp [Try.ntmps143]) ?_
  have bad : wordB l m w = false → ∀ Hx : AH, Ext H Hx → Gives H (fun v H' => (wordB l m w = false ∧ v = .tup [.nilsl, .bool false]) ∨ (wordB l m w = true ∧ ∃ c, v = .tup [.sl c 0 l.length, .bool true] ∧ H.size ≤ c ∧ RowAt H' c (wdL l.length m w))) (.tup [.nilsl, .bool false]) Hx :=
    fun h Hx x => ⟨x, .inl ⟨h, rfl⟩⟩
  cases h1 : colB l m
  · (simp (disch := first | exact dsch | kernel_rfl) only [go_sem, ↓reduceIte, Nat.reduceEqDiff, Nat.reduceLT, Nat.reduceAdd, reduceCtorEq, Int.reduceToNat, Try.ntmps143, Try.results143, hs.len, ht.len, h1] <;> repeat' ((first | (refine AOK_is (by exact clGood_ok _ _ _ _ _ (by first | assumption | (refine SliceAt.ext (by assumption) ?_; exact xt)) (by first | assumption | omega)) ?_; intro Hc hxc) | (refine AOK_is (by exact l1All_ok _ _ _ _ _ (by first | assumption | (refine SliceAt.ext (by assumption) ?_; exact xt)) (by omega)) ?_; intro Hc hxc) | refine AK.drawT (by kernel_rfl) ?_ | ((first | refine ABK_mk ?_ ?_ | refine AGK_mk ?_ ?_) <;> intro hb <;> (try simp only [decide_eq_true_eq, decide_eq_false_iff_not, Bool.not_eq_true', Bool.not_eq_false', Bool.not_not] at hb) <;> (try (exfalso; omega)) <;> (try subst hb) <;> try simp only [hb, decide_true, decide_false])) <;> try simp (disch := first | exact dsch | kernel_rfl) only [go_sem, ↓reduceIte, Nat.reduceEqDiff, Nat.reduceLT, Nat.reduceAdd, reduceCtorEq, Int.reduceToNat, Try.ntmps143, Try.results143, hs.len, ht.len, h1]))
    exact bad (by simp only [wordB, h1, Bool.false_and]) _ (by exact xt)
  by_cases h200 : (200 : Int) < (w.length : Int)
  · (simp (disch := first | exact dsch | kernel_rfl) only [go_sem, ↓reduceIte, Nat.reduceEqDiff, Nat.reduceLT, Nat.reduceAdd, reduceCtorEq, Int.reduceToNat, Try.ntmps143, Try.results143, hs.len, ht.len, h1, h200] <;> repeat' ((first | (refine AOK_is (by exact clGood_ok _ _ _ _ _ (by first | assumption | (refine SliceAt.ext (by assumption) ?_; exact xt)) (by first | assumption | omega)) ?_; intro Hc hxc) | (refine AOK_is (by exact l1All_ok _ _ _ _ _ (by first | assumption | (refine SliceAt.ext (by assumption) ?_; exact xt)) (by omega)) ?_; intro Hc hxc) | refine AK.drawT (by kernel_rfl) ?_ | ((first | refine ABK_mk ?_ ?_ | refine AGK_mk ?_ ?_) <;> intro hb <;> (try simp only [decide_eq_true_eq, decide_eq_false_iff_not, Bool.not_eq_true', Bool.not_eq_false', Bool.not_not] at hb) <;> (try (exfalso; omega)) <;> (try subst hb) <;> try simp only [hb, decide_true, decide_false])) <;> try simp (disch := first | exact dsch | kernel_rfl) only [go_sem, ↓reduceIte, Nat.reduceEqDiff, Nat.reduceLT, Nat.reduceAdd, reduceCtorEq, Int.reduceToNat, Try.ntmps143, Try.results143, hs.len, ht.len, h1, h200]))
    exact bad (by simp only [wordB, h1, Bool.true_and]; rw [decide_eq_false (by omega), Bool.false_and]) _ (by exact xt)
  have e200 : decide (w.length ≤ 200) = true := decide_eq_true (by omega)
  cases hall' : w.all fun x => decide (0 ≤ x ∧ x ≤ (l.length : Int) - 1)
  · (simp (disch := first | exact dsch | kernel_rfl) only [go_sem, ↓reduceIte, Nat.reduceEqDiff, Nat.reduceLT, Nat.reduceAdd, reduceCtorEq, Int.reduceToNat, Try.ntmps143, Try.results143, hs.len, ht.len, h1, h200, hall'] <;> repeat' ((first | (refine AOK_is (by exact clGood_ok _ _ _ _ _ (by first | assumption | (refine SliceAt.ext (by assumption) ?_; exact xt)) (by first | assumption | omega)) ?_; intro Hc hxc) | (refine AOK_is (by exact l1All_ok _ _ _ _ _ (by first | assumption | (refine SliceAt.ext (by assumption) ?_; exact xt)) (by omega)) ?_; intro Hc hxc) | refine AK.drawT (by kernel_rfl) ?_ | ((first | refine ABK_mk ?_ ?_ | refine AGK_mk ?_ ?_) <;> intro hb <;> (try simp only [decide_eq_true_eq, decide_eq_false_iff_not, Bool.not_eq_true', Bool.not_eq_false', Bool.not_not] at hb) <;> (try (exfalso; omega)) <;> (try subst hb) <;> try simp only [hb, decide_true, decide_false])) <;> try simp (disch := first | exact dsch | kernel_rfl) only [go_sem, ↓reduceIte, Nat.reduceEqDiff, Nat.reduceLT, Nat.reduceAdd, reduceCtorEq, Int.reduceToNat, Try.ntmps143, Try.results143, hs.len, ht.len, h1, h200, hall']))
    exact bad (by simp only [wordB, h1, hall', Bool.and_false]) _ (by exact xt)
  have hwb : wordB l m w = true := by simp only [wordB, h1, hall', e200, Bool.and_true]
  obtain ⟨_, h2, hall⟩ := wordB_true hwb
  obtain ⟨near, hln, hg, hn10, hmm⟩ := colB_true h1
  have hm : 0 < m := by omega
  have hn : l.length ≤ 16 := by rw [hln]; simp; omega
  (simp (disch := first | exact dsch | kernel_rfl) only [go_sem, ↓reduceIte, Nat.reduceEqDiff, Nat.reduceLT, Nat.reduceAdd, reduceCtorEq, Int.reduceToNat, Try.ntmps143, Try.results143, hs.len, ht.len, h1, h200, hall'] <;> repeat' ((first | (refine AOK_is (by exact clGood_ok _ _ _ _ _ (by first | assumption | (refine SliceAt.ext (by assumption) ?_; exact xt)) (by first | assumption | omega)) ?_; intro Hc hxc) | (refine AOK_is (by exact l1All_ok _ _ _ _ _ (by first | assumption | (refine SliceAt.ext (by assumption) ?_; exact xt)) (by omega)) ?_; intro Hc hxc) | refine AK.drawT (by kernel_rfl) ?_ | ((first | refine ABK_mk ?_ ?_ | refine AGK_mk ?_ ?_) <;> intro hb <;> (try simp only [decide_eq_true_eq, decide_eq_false_iff_not, Bool.not_eq_true', Bool.not_eq_false', Bool.not_not] at hb) <;> (try (exfalso; omega)) <;> (try subst hb) <;> try simp only [hb, decide_true, decide_false])) <;> try simp (disch := first | exact dsch | kernel_rfl) only [go_sem, ↓reduceIte, Nat.reduceEqDiff, Nat.reduceLT, Nat.reduceAdd, reduceCtorEq, Int.reduceToNat, Try.ntmps143, Try.results143, hs.len, ht.len, h1, h200, hall']))
  generalize hcc : (Hc).size = c at *
  have hc0 : H.size ≤ c := by first | omega | (rw [← hcc]; exact Ext.size (by exact xt))
  have row0 : RowAt ((Hc).push (rowBlk (List.replicate l.length 0))) c (List.replicate l.length 0) := by rw [← hcc]; exact AH.push_same _ _
  have ext0 : Ext H ((Hc).push (rowBlk (List.replicate l.length 0))) := by exact xt
  generalize (Hc).push (rowBlk (List.replicate l.length 0)) = H0 at *
  refine (AK.count 35 [10, 35, 36, 37, 38, 39, 40, 41, 42, 43, 44, 45, 46, 47, 48, 49] (by kernel_rfl) 0 w.length (fun i tm H' => Ext H H' ∧ RowAt H' c (wdL l.length m (w.take i))) (by rfl) (by omega) ⟨ext0, row0⟩ ?_)
  rintro i tm H1 K g1 g2 fr hq1 ⟨x1, r1⟩ hK
  by_cases hi : i < w.length
  · have hi' : (i : Int) < (w.length : Int) := by omega
    obtain ⟨y, hy⟩ := Int.eq_ofNat_of_zero_le (hall i hi).1
    have hyl : y < l.length := by have := (hall i hi).2; omega
    have hml := wdL_length (n := l.length) (m := m) (w := w.take i)
    have hyl2 : y < (wdL l.length m (w.take i)).length := by omega
    have hlt := wdL_lt (n := l.length) (w := w.take i) hm y
    have e1 : (((wdL l.length m (w.take i)).getD y 0 : Nat) : Int) + 1 = (((wdL l.length m (w.take i)).getD y 0 + 1 : Nat) : Int) := by omega
    have e2 : (((wdL l.length m (w.take i)).getD y 0 + 1 : Nat) : Int).tmod (m : Int) = ((((wdL l.length m (w.take i)).getD y 0 + 1) % m : Nat) : Int) := rfl
    have hm0 : (m : Int) ≠ 0 := by omega
    (simp (disch := first | exact dsch | kernel_rfl) only [go_sem, ↓reduceIte, Nat.reduceEqDiff, Nat.reduceLT, Nat.reduceAdd, reduceCtorEq, Int.reduceToNat, Try.ntmps143, Try.results143, fr, hq1, hi', ht.len, ht.ix, ht.ld, hy, r1.ld, r1.st, e1, e2] <;> repeat' ((first | (refine AOK_is (by exact clGood_ok _ _ _ _ _ (by first | assumption | (refine SliceAt.ext (by assumption) ?_; exact xt)) (by first | assumption | omega)) ?_; intro Hc hxc) | (refine AOK_is (by exact l1All_ok _ _ _ _ _ (by first | assumption | (refine SliceAt.ext (by assumption) ?_; exact xt)) (by omega)) ?_; intro Hc hxc) | refine AK.drawT (by kernel_rfl) ?_ | ((first | refine ABK_mk ?_ ?_ | refine AGK_mk ?_ ?_) <;> intro hb <;> (try simp only [decide_eq_true_eq, decide_eq_false_iff_not, Bool.not_eq_true', Bool.not_eq_false', Bool.not_not] at hb) <;> (try (exfalso; omega)) <;> (try subst hb) <;> try simp only [hb, decide_true, decide_false])) <;> try simp (disch := first | exact dsch | kernel_rfl) only [go_sem, ↓reduceIte, Nat.reduceEqDiff, Nat.reduceLT, Nat.reduceAdd, reduceCtorEq, Int.reduceToNat, Try.ntmps143, Try.results143, fr, hq1, hi', ht.len, ht.ix, ht.ld, hy, r1.ld, r1.st, e1, e2]))
    refine hK _ _ hi (by rfl) ⟨x1.put hc0 _, ?_⟩
    rw [wdL_take hi, hy]
    exact r1.put
  · have hi' : ¬ (i : Int) < (w.length : Int) := by omega
    have ei : i = w.length := by omega
    rw [ei, List.take_length] at r1
    simp (disch := first | exact dsch | kernel_rfl) only [go_sem, ↓reduceIte, Nat.reduceEqDiff, Nat.reduceLT, Nat.reduceAdd, reduceCtorEq, Int.reduceToNat, Try.ntmps143, Try.results143, fr, hq1, hi']
    exact ⟨x1, .inr ⟨hwb, c, rfl, hc0, r1⟩⟩

end Go.Proofs.Ytopbfmhajbjepaa
