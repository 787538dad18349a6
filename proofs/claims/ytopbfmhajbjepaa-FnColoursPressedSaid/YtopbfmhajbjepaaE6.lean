/- Contracts: hSame and big; the plain law of words of presses. -/
import Derived.Test.YtopbfmhajbjepaaE5
namespace Go.Proofs.Ytopbfmhajbjepaa
open Go
set_option linter.unusedSimpArgs false
set_option linter.unusedVariables false

theorem big_ok (l1 l2 : List Int) (u v : AV) (H : AH) (h1 : BytesAt H u l1) (h2 : BytesAt H v l2) (n1 : l1.length < 4611686018427387904) (n2 : l2.length < 4611686018427387904) :
    E 23 [u, v] H (Is (.bool (decide (1048576 < l1.length ∨ 1048576 < l1.length + l2.length))) H) := by
  refine Ev.enterK (fn := Try.f23) rfl Try.func23 rfl (by kernel_rfl) (by simp [Try.ntmps23]) ?_
  (simp (disch := first | exact dsch | kernel_rfl) only [go_sem, ↓reduceIte, Nat.reduceEqDiff, Nat.reduceLT, Nat.reduceAdd, reduceCtorEq, Int.reduceToNat, Try.ntmps23, Try.results23, BytesAt.len h1, BytesAt.len h2] <;> repeat' ((first | refine AK.drawT (by kernel_rfl) ?_ | ((first | refine ABK_mk ?_ ?_ | refine AGK_mk ?_ ?_) <;> intro hb <;> (try simp only [decide_eq_true_eq, decide_eq_false_iff_not, Bool.not_eq_true', Bool.not_eq_false', Bool.not_not] at hb) <;> (try (exfalso; omega)) <;> (try subst hb) <;> try simp only [hb, decide_true, decide_false])) <;> try simp (disch := first | exact dsch | kernel_rfl) only [go_sem, ↓reduceIte, Nat.reduceEqDiff, Nat.reduceLT, Nat.reduceAdd, reduceCtorEq, Int.reduceToNat, Try.ntmps23, Try.results23, BytesAt.len h1, BytesAt.len h2]))
  · exact Is.mk (congrArg AV.bool (decide_eq_decide.2 (by omega))) (by exact xt)
  · exact Is.mk (congrArg AV.bool (decide_eq_true (by omega)).symm) (by exact xt)
theorem hSame_ok (l q : List Int) (s t : AV) (H : AH) (hs : IntsAt H s l) (ht : IntsAt H t q) (hl : l.length < 9223372036854775807) (hq : q.length < 9223372036854775807) : E 27 [s, t] H (Is (.bool (decide (l = q))) H) := by
  refine Ev.enterK (fn := Try.f27) rfl Try.func27 rfl (by kernel_rfl) (by simp [Try.ntmps27]) ?_
  by_cases e : (l.length : Int) = (q.length : Int)
  · (simp (disch := first | exact dsch | kernel_rfl) only [go_sem, ↓reduceIte, Nat.reduceEqDiff, Nat.reduceLT, Nat.reduceAdd, reduceCtorEq, Int.reduceToNat, Try.ntmps27, Try.results27, hs.len, ht.len, e] <;> repeat' ((first | refine AK.drawT (by kernel_rfl) ?_ | ((first | refine ABK_mk ?_ ?_ | refine AGK_mk ?_ ?_) <;> intro hb <;> (try simp only [decide_eq_true_eq, decide_eq_false_iff_not, Bool.not_eq_true', Bool.not_eq_false', Bool.not_not] at hb) <;> (try (exfalso; omega)) <;> (try subst hb) <;> try simp only [hb, decide_true, decide_false])) <;> try simp (disch := first | exact dsch | kernel_rfl) only [go_sem, ↓reduceIte, Nat.reduceEqDiff, Nat.reduceLT, Nat.reduceAdd, reduceCtorEq, Int.reduceToNat, Try.ntmps27, Try.results27, hs.len, ht.len, e]))
    refine (AK.countx 13 [4, 5, 13, 14, 15, 16, 17, 18, 19, 20, 21, 22, 23, 24, 25] (by kernel_rfl) 0 q.length (fun i tm H' => ∀ j < i, l.getD j 0 = q.getD j 0) (by rfl) (by omega) (fun j hj => by omega) ?_)
    rintro i tm H' K g1 g2 fr hq1 hx hall hK
    by_cases hi : i < q.length
    · have hi' : (i : Int) < (q.length : Int) := by omega
      by_cases e2 : l.getD i 0 = q.getD i 0
      · (simp (disch := first | exact dsch | kernel_rfl) only [go_sem, ↓reduceIte, Nat.reduceEqDiff, Nat.reduceLT, Nat.reduceAdd, reduceCtorEq, Int.reduceToNat, Try.ntmps27, Try.results27, fr, hq1, hi', hs.ix, hs.ld, ht.ix, ht.ld, e2] <;> repeat' ((first | refine AK.drawT (by kernel_rfl) ?_ | ((first | refine ABK_mk ?_ ?_ | refine AGK_mk ?_ ?_) <;> intro hb <;> (try simp only [decide_eq_true_eq, decide_eq_false_iff_not, Bool.not_eq_true', Bool.not_eq_false', Bool.not_not] at hb) <;> (try (exfalso; omega)) <;> (try subst hb) <;> try simp only [hb, decide_true, decide_false])) <;> try simp (disch := first | exact dsch | kernel_rfl) only [go_sem, ↓reduceIte, Nat.reduceEqDiff, Nat.reduceLT, Nat.reduceAdd, reduceCtorEq, Int.reduceToNat, Try.ntmps27, Try.results27, fr, hq1, hi', hs.ix, hs.ld, ht.ix, ht.ld, e2]))
        refine hK _ _ hi (by rfl) (by exact xt) fun j hj => ?_
        by_cases ej : j = i
        · subst ej; exact e2
        · exact hall j (by omega)
      · (simp (disch := first | exact dsch | kernel_rfl) only [go_sem, ↓reduceIte, Nat.reduceEqDiff, Nat.reduceLT, Nat.reduceAdd, reduceCtorEq, Int.reduceToNat, Try.ntmps27, Try.results27, fr, hq1, hi', hs.ix, hs.ld, ht.ix, ht.ld, decide_eq_false e2] <;> repeat' ((first | refine AK.drawT (by kernel_rfl) ?_ | ((first | refine ABK_mk ?_ ?_ | refine AGK_mk ?_ ?_) <;> intro hb <;> (try simp only [decide_eq_true_eq, decide_eq_false_iff_not, Bool.not_eq_true', Bool.not_eq_false', Bool.not_not] at hb) <;> (try (exfalso; omega)) <;> (try subst hb) <;> try simp only [hb, decide_true, decide_false])) <;> try simp (disch := first | exact dsch | kernel_rfl) only [go_sem, ↓reduceIte, Nat.reduceEqDiff, Nat.reduceLT, Nat.reduceAdd, reduceCtorEq, Int.reduceToNat, Try.ntmps27, Try.results27, fr, hq1, hi', hs.ix, hs.ld, ht.ix, ht.ld, decide_eq_false e2]))
        refine Is.mk ?_ (by exact xt)
        rw [decide_eq_false]
        rintro rfl
        exact e2 rfl
    · have hi' : ¬ (i : Int) < (q.length : Int) := by omega
      (simp (disch := first | exact dsch | kernel_rfl) only [go_sem, ↓reduceIte, Nat.reduceEqDiff, Nat.reduceLT, Nat.reduceAdd, reduceCtorEq, Int.reduceToNat, Try.ntmps27, Try.results27, fr, hq1, hi'] <;> repeat' ((first | refine AK.drawT (by kernel_rfl) ?_ | ((first | refine ABK_mk ?_ ?_ | refine AGK_mk ?_ ?_) <;> intro hb <;> (try simp only [decide_eq_true_eq, decide_eq_false_iff_not, Bool.not_eq_true', Bool.not_eq_false', Bool.not_not] at hb) <;> (try (exfalso; omega)) <;> (try subst hb) <;> try simp only [hb, decide_true, decide_false])) <;> try simp (disch := first | exact dsch | kernel_rfl) only [go_sem, ↓reduceIte, Nat.reduceEqDiff, Nat.reduceLT, Nat.reduceAdd, reduceCtorEq, Int.reduceToNat, Try.ntmps27, Try.results27, fr, hq1, hi']))
      refine Is.mk ?_ (by exact xt)
      rw [decide_eq_true]
      refine List.ext_getElem (by omega) fun j h1 h2 => ?_
      have := hall j (by omega)
      simpa [List.getD, h1, h2] using this
  · (simp (disch := first | exact dsch | kernel_rfl) only [go_sem, ↓reduceIte, Nat.reduceEqDiff, Nat.reduceLT, Nat.reduceAdd, reduceCtorEq, Int.reduceToNat, Try.ntmps27, Try.results27, hs.len, ht.len, decide_eq_false e] <;> repeat' ((first | refine AK.drawT (by kernel_rfl) ?_ | ((first | refine ABK_mk ?_ ?_ | refine AGK_mk ?_ ?_) <;> intro hb <;> (try simp only [decide_eq_true_eq, decide_eq_false_iff_not, Bool.not_eq_true', Bool.not_eq_false', Bool.not_not] at hb) <;> (try (exfalso; omega)) <;> (try subst hb) <;> try simp only [hb, decide_true, decide_false])) <;> try simp (disch := first | exact dsch | kernel_rfl) only [go_sem, ↓reduceIte, Nat.reduceEqDiff, Nat.reduceLT, Nat.reduceAdd, reduceCtorEq, Int.reduceToNat, Try.ntmps27, Try.results27, hs.len, ht.len, decide_eq_false e]))
    refine Is.mk ?_ (by exact xt)
    rw [decide_eq_false]
    rintro rfl
    exact e rfl
--@CON laws.hSame: exact hSame_ok _ _ _ _ _ (by first | assumption | (refine SliceAt.ext (by assumption) ?_; exact xt)) (by first | assumption | (refine SliceAt.ext (by assumption) ?_; exact xt)) (by first | assumption | omega) (by first | assumption | omega)

/- Pressing a word again and again. -/
def nwL (l : List Int) (o : Bool) (m : Nat) (q : List Nat) (w : List Int) (k : Nat) : List Nat := (List.range q.length).map fun j => (q.getD j 0 + k * (effW l o m w).getD j 0) % m
section
variable {l : List Int} {o : Bool} {m : Nat} {q : List Nat} {w : List Int}
theorem nwL_length (k : Nat) : (nwL l o m q w k).length = q.length := by simp [nwL]
theorem nwL_getD {k j : Nat} (h : j < q.length) : (nwL l o m q w k).getD j 0 = (q.getD j 0 + k * (effW l o m w).getD j 0) % m := by simp [nwL, List.getD, h]
theorem nwL_lt (hm : 0 < m) {k j : Nat} (h : j < q.length) : (nwL l o m q w k).getD j 0 < m := by rw [nwL_getD h]; exact Nat.mod_lt _ hm
theorem nwL_zero (hq : ∀ i < q.length, q.getD i 0 < m) : nwL l o m q w 0 = q := by
  refine List.ext_getElem (by simp [nwL]) fun j h1 h2 => ?_
  have := hq j h2
  simp only [nwL, List.getElem_map, List.getElem_range, Nat.zero_mul, Nat.add_zero]
  rw [Nat.mod_eq_of_lt this]
  simp [List.getD, h2]
theorem prL_nwL (k : Nat) : prL (nn l) o m (nwL l o m q w k) w = nwL l o m q w (k + 1) := by
  unfold prL
  rw [nwL_length]
  refine List.ext_getElem (by simp [nwL]) fun j h1 h2 => ?_
  have hj : j < q.length := by simpa using h1
  simp only [List.getElem_map, List.getElem_range]
  rw [nwL_getD hj]
  show ((effW l o m w).getD j 0 + _) % m = _
  simp only [nwL, List.getElem_map, List.getElem_range]
  rw [Nat.add_mod_mod]
  congr 1
  rw [Nat.succ_mul]
  omega
theorem nwL_one (hq : ∀ i < q.length, q.getD i 0 < m) (h : perN l o m w = 1) (hm : 1 < m) : nwL l o m q w 1 = q := by
  refine List.ext_getElem (by simp [nwL]) fun j h1 h2 => ?_
  have := hq j h2
  have he : (effW l o m w).getD j 0 = 0 := by
    unfold perN at h
    split at h
    · rename_i h0
      rw [List.all_eq_true] at h0
      by_cases hj : j < (effW l o m w).length
      · have := of_decide_eq_true (h0 _ (List.getElem_mem hj))
        simpa [List.getD, hj] using this
      · simp [List.getD, hj]
    · omega
  simp only [nwL, List.getElem_map, List.getElem_range, he, Nat.mul_zero, Nat.add_zero]
  rw [Nat.mod_eq_of_lt this]
  simp [List.getD, h2]
theorem nwL_m (hq : ∀ i < q.length, q.getD i 0 < m) : nwL l o m q w m = q := by
  refine List.ext_getElem (by simp [nwL]) fun j h1 h2 => ?_
  have := hq j h2
  simp only [nwL, List.getElem_map, List.getElem_range]
  rw [Nat.add_mul_mod_self_left, Nat.mod_eq_of_lt this]
  simp [List.getD, h2]
def mfree (m : Nat) : Bool := (List.range m).all fun k => (List.range m).all fun e => (List.range m).all fun q => k == 0 || e == 0 || (q + k * e) % m != q
theorem mfree_all : mfree 2 = true ∧ mfree 3 = true ∧ mfree 5 = true ∧ mfree 7 = true := ⟨by decide, by decide, by kernel_rfl, by kernel_rfl⟩
theorem mod_free {m k e q : Nat} (hm : m = 2 ∨ m = 3 ∨ m = 5 ∨ m = 7) (hk : k < m) (he : e < m) (hq : q < m) (k0 : k ≠ 0) (e0 : e ≠ 0) : (q + k * e) % m ≠ q := by
  have h : mfree m = true := by
    obtain ⟨h2, h3, h5, h7⟩ := mfree_all
    rcases hm with rfl | rfl | rfl | rfl <;> assumption
  simp only [mfree, List.all_eq_true, List.mem_range] at h
  have := h k hk e he q hq
  simpa [k0, e0] using this
theorem nwL_ne (hq : ∀ i < q.length, q.getD i 0 < m) (hm : m = 2 ∨ m = 3 ∨ m = 5 ∨ m = 7) (hl : (effW l o m w).length = q.length) (he : ∀ i, (effW l o m w).getD i 0 < m) {k : Nat} (h0 : 0 < k) (hk : k < perN l o m w) : nwL l o m q w k ≠ q := by
  intro e
  unfold perN at hk
  split at hk
  · omega
  · rename_i hall
    rw [List.all_eq_true] at hall
    refine hall fun x hx => decide_eq_true ?_
    obtain ⟨j, hj, rfl⟩ := List.getElem_of_mem hx
    have hj2 : j < q.length := by omega
    have h1 := congrArg (fun l => l.getD j 0) e
    have h1 : (nwL l o m q w k).getD j 0 = q.getD j 0 := h1
    rw [nwL_getD hj2] at h1
    by_cases h3 : (effW l o m w).getD j 0 = 0
    · simpa [List.getD, hj] using h3
    · exact (mod_free hm hk (he j) (hq j hj2) (by omega) h3 h1).elim
end

end Go.Proofs.Ytopbfmhajbjepaa
