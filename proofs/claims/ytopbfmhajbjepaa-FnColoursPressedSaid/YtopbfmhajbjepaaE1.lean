/- Contracts: colours. -/
import Derived.Test.YtopbfmhajbjepaaD9
import Derived.Test.YtopbfmhajbjepaaC3
namespace Go.Proofs.Ytopbfmhajbjepaa
open Go
set_option linter.unusedSimpArgs false
set_option linter.unusedVariables false

def ModOK (m : Int) : Prop := m = 2 ∨ m = 3 ∨ m = 5 ∨ m = 7
instance (m : Int) : Decidable (ModOK m) := by unfold ModOK; infer_instance
open Classical in
noncomputable def okB (l : List Int) : Bool := decide (GOKz l)
theorem okB_true {l : List Int} : okB l = true ↔ GOKz l := by simp [okB]
noncomputable def colB (l : List Int) (m : Int) : Bool := (okB l && decide (l.length ≤ 10)) && decide (ModOK m)
noncomputable def colL (l : List Int) (m : Int) (q : List Int) : Bool := (colB l m && decide (q.length = l.length)) && q.all fun x => decide (0 ≤ x ∧ x ≤ m - 1)
noncomputable def wrdB (l w : List Int) : Bool := okB l && w.all fun x => decide (0 ≤ x ∧ x ≤ (l.length : Int) - 1)

theorem isModulus_ok (m : Int) (H : AH) : E 210 [.int .i64 m] H (Is (.bool (decide (ModOK m))) H) := by
  refine Ev.enterK (fn := Try.f210) rfl Try.func210 rfl (by kernel_rfl) (by simp [Try.ntmps210]) ?_
  (simp (disch := first | exact dsch | kernel_rfl) only [go_sem, ↓reduceIte, Nat.reduceEqDiff, Nat.reduceLT, Nat.reduceAdd, reduceCtorEq, Int.reduceToNat, Try.ntmps210, Try.results210] <;> repeat' ((first | refine AK.drawT (by kernel_rfl) ?_ | ((first | refine ABK_mk ?_ ?_ | refine AGK_mk ?_ ?_) <;> intro hb <;> (try simp only [decide_eq_true_eq, decide_eq_false_iff_not, Bool.not_eq_true', Bool.not_eq_false', Bool.not_not] at hb) <;> (try (exfalso; omega)) <;> (try subst hb) <;> try simp only [hb, decide_true, decide_false])) <;> try simp (disch := first | exact dsch | kernel_rfl) only [go_sem, ↓reduceIte, Nat.reduceEqDiff, Nat.reduceLT, Nat.reduceAdd, reduceCtorEq, Int.reduceToNat, Try.ntmps210, Try.results210]))
  · refine Is.mk ?_ (by exact xt)
    rw [decide_eq_decide.2 (show ModOK m ↔ m = 7 from ⟨fun h => by unfold ModOK at h; omega, fun h => .inr (.inr (.inr h))⟩)]
  all_goals exact Is.mk rfl (by exact xt)
--@CON impl.isModulus: exact isModulus_ok _ _
theorem l1Has_ok (l : List Int) (x : Int) (s : AV) (H : AH) (hs : IntsAt H s l) (hl : l.length < 9223372036854775807) : E 232 [s, .int .i64 x] H (Is (.bool (decide (x ∈ l))) H) := by
  refine Ev.enterK (fn := Try.f232) rfl Try.func232 rfl (by kernel_rfl) (by simp [Try.ntmps232]) ?_
  (simp (disch := first | exact dsch | kernel_rfl) only [go_sem, ↓reduceIte, Nat.reduceEqDiff, Nat.reduceLT, Nat.reduceAdd, reduceCtorEq, Int.reduceToNat, Try.ntmps232, Try.results232, hs.len] <;> repeat' ((first | refine AK.drawT (by kernel_rfl) ?_ | ((first | refine ABK_mk ?_ ?_ | refine AGK_mk ?_ ?_) <;> intro hb <;> (try simp only [decide_eq_true_eq, decide_eq_false_iff_not, Bool.not_eq_true', Bool.not_eq_false', Bool.not_not] at hb) <;> (try (exfalso; omega)) <;> (try subst hb) <;> try simp only [hb, decide_true, decide_false])) <;> try simp (disch := first | exact dsch | kernel_rfl) only [go_sem, ↓reduceIte, Nat.reduceEqDiff, Nat.reduceLT, Nat.reduceAdd, reduceCtorEq, Int.reduceToNat, Try.ntmps232, Try.results232, hs.len]))
  refine (AK.countx 9 [4, 6, 9, 10, 11, 12, 13, 14, 15, 16] (by kernel_rfl) 0 l.length (fun i tm H' => ∀ j < i, l.getD j 0 ≠ x) (by rfl) (by omega) (fun j h => by omega) ?_)
  rintro i tm H' K g1 g2 fr hq hx hall hK
  by_cases hi : i < l.length
  · have hi' : (i : Int) < (l.length : Int) := by omega
    by_cases e : l.getD i 0 = x
    · (simp (disch := first | exact dsch | kernel_rfl) only [go_sem, ↓reduceIte, Nat.reduceEqDiff, Nat.reduceLT, Nat.reduceAdd, reduceCtorEq, Int.reduceToNat, Try.ntmps232, Try.results232, fr, hq, hs.ix, hs.ld, hi', e] <;> repeat' ((first | refine AK.drawT (by kernel_rfl) ?_ | ((first | refine ABK_mk ?_ ?_ | refine AGK_mk ?_ ?_) <;> intro hb <;> (try simp only [decide_eq_true_eq, decide_eq_false_iff_not, Bool.not_eq_true', Bool.not_eq_false', Bool.not_not] at hb) <;> (try (exfalso; omega)) <;> (try subst hb) <;> try simp only [hb, decide_true, decide_false])) <;> try simp (disch := first | exact dsch | kernel_rfl) only [go_sem, ↓reduceIte, Nat.reduceEqDiff, Nat.reduceLT, Nat.reduceAdd, reduceCtorEq, Int.reduceToNat, Try.ntmps232, Try.results232, fr, hq, hs.ix, hs.ld, hi', e]))
      exact Is.mk (by rw [decide_eq_true (by rw [← e]; exact getD_mem hi)]) (by exact xt)
    · (simp (disch := first | exact dsch | kernel_rfl) only [go_sem, ↓reduceIte, Nat.reduceEqDiff, Nat.reduceLT, Nat.reduceAdd, reduceCtorEq, Int.reduceToNat, Try.ntmps232, Try.results232, fr, hq, hs.ix, hs.ld, hi', decide_eq_false e] <;> repeat' ((first | refine AK.drawT (by kernel_rfl) ?_ | ((first | refine ABK_mk ?_ ?_ | refine AGK_mk ?_ ?_) <;> intro hb <;> (try simp only [decide_eq_true_eq, decide_eq_false_iff_not, Bool.not_eq_true', Bool.not_eq_false', Bool.not_not] at hb) <;> (try (exfalso; omega)) <;> (try subst hb) <;> try simp only [hb, decide_true, decide_false])) <;> try simp (disch := first | exact dsch | kernel_rfl) only [go_sem, ↓reduceIte, Nat.reduceEqDiff, Nat.reduceLT, Nat.reduceAdd, reduceCtorEq, Int.reduceToNat, Try.ntmps232, Try.results232, fr, hq, hs.ix, hs.ld, hi', decide_eq_false e]))
      refine hK _ _ hi (by rfl) (by exact xt) fun j hj => ?_
      by_cases e2 : j = i
      · subst e2; exact e
      · exact hall j (by omega)
  · have hi' : ¬ (i : Int) < (l.length : Int) := by omega
    (simp (disch := first | exact dsch | kernel_rfl) only [go_sem, ↓reduceIte, Nat.reduceEqDiff, Nat.reduceLT, Nat.reduceAdd, reduceCtorEq, Int.reduceToNat, Try.ntmps232, Try.results232, fr, hq, hi'] <;> repeat' ((first | refine AK.drawT (by kernel_rfl) ?_ | ((first | refine ABK_mk ?_ ?_ | refine AGK_mk ?_ ?_) <;> intro hb <;> (try simp only [decide_eq_true_eq, decide_eq_false_iff_not, Bool.not_eq_true', Bool.not_eq_false', Bool.not_not] at hb) <;> (try (exfalso; omega)) <;> (try subst hb) <;> try simp only [hb, decide_true, decide_false])) <;> try simp (disch := first | exact dsch | kernel_rfl) only [go_sem, ↓reduceIte, Nat.reduceEqDiff, Nat.reduceLT, Nat.reduceAdd, reduceCtorEq, Int.reduceToNat, Try.ntmps232, Try.results232, fr, hq, hi']))
    refine Is.mk ?_ (by exact xt)
    rw [decide_eq_false]
    intro hm
    obtain ⟨j, hj, rfl⟩ := List.getElem_of_mem hm
    exact hall j (by omega) (by simp [List.getD, hj])
theorem clPrime_ok (m : Int) (H : AH) : E 211 [.int .i64 m] H (Is (.bool (decide (ModOK m))) H) := by
  refine Ev.enterK (fn := Try.f211) rfl Try.func211 rfl (by kernel_rfl) (by simp [Try.ntmps211]) ?_
  (simp (disch := first | exact dsch | kernel_rfl) only [go_sem, ↓reduceIte, Nat.reduceEqDiff, Nat.reduceLT, Nat.reduceAdd, reduceCtorEq, Int.reduceToNat, Try.ntmps211, Try.results211] <;> repeat' ((first | refine AK.drawT (by kernel_rfl) ?_ | ((first | refine ABK_mk ?_ ?_ | refine AGK_mk ?_ ?_) <;> intro hb <;> (try simp only [decide_eq_true_eq, decide_eq_false_iff_not, Bool.not_eq_true', Bool.not_eq_false', Bool.not_not] at hb) <;> (try (exfalso; omega)) <;> (try subst hb) <;> try simp only [hb, decide_true, decide_false])) <;> try simp (disch := first | exact dsch | kernel_rfl) only [go_sem, ↓reduceIte, Nat.reduceEqDiff, Nat.reduceLT, Nat.reduceAdd, reduceCtorEq, Int.reduceToNat, Try.ntmps211, Try.results211]))
  refine AOK_is (l1Has_ok [2, 3, 5, 7] m _ _ (.inr ⟨_, _, _, _, _, rfl, AH.push_same _ _, by simp, by simp⟩) (by simp)) ?_
  intro H1 x1
  (simp (disch := first | exact dsch | kernel_rfl) only [go_sem, ↓reduceIte, Nat.reduceEqDiff, Nat.reduceLT, Nat.reduceAdd, reduceCtorEq, Int.reduceToNat, Try.ntmps211, Try.results211] <;> repeat' ((first | refine AK.drawT (by kernel_rfl) ?_ | ((first | refine ABK_mk ?_ ?_ | refine AGK_mk ?_ ?_) <;> intro hb <;> (try simp only [decide_eq_true_eq, decide_eq_false_iff_not, Bool.not_eq_true', Bool.not_eq_false', Bool.not_not] at hb) <;> (try (exfalso; omega)) <;> (try subst hb) <;> try simp only [hb, decide_true, decide_false])) <;> try simp (disch := first | exact dsch | kernel_rfl) only [go_sem, ↓reduceIte, Nat.reduceEqDiff, Nat.reduceLT, Nat.reduceAdd, reduceCtorEq, Int.reduceToNat, Try.ntmps211, Try.results211]))
  refine Is.mk ?_ (by exact xt)
  rw [decide_eq_decide.2 (show m ∈ [2, 3, 5, 7] ↔ ModOK m by simp [ModOK])]
--@CON spec.clPrime: exact clPrime_ok _ _
theorem isGraphB_ok (l : List Int) (o : Bool) (s : AV) (H : AH) (hs : IntsAt H s l) (hl : l.length < 9223372036854775807) : E 121 [.agg [s, .bool o]] H (Is (.bool (okB l)) H) := isGraph_ok l o s H hs hl
theorem grGoodB_ok (l : List Int) (o : Bool) (s : AV) (H : AH) (hs : IntsAt H s l) (hl : l.length < 9223372036854775807) : E 117 [.agg [s, .bool o]] H (Is (.bool (okB l)) H) := grGood_ok l o s H hs hl

theorem isColoured_ok (l : List Int) (o : Bool) (m : Int) (s : AV) (H : AH) (hs : IntsAt H s l) (hl : l.length < 1000000) : E 146 [.agg [s, .bool o], .int .i64 m] H (Is (.bool (colB l m)) H) := by
  have hso := hs.isOne
  refine Ev.enterK (fn := Try.f146) rfl Try.func146 rfl (by kernel_rfl) (by simp [Try.ntmps146]) ?_
  have e10 : ((l.length : Int) ≤ 10) ↔ l.length ≤ 10 := by omega
  (simp (disch := first | exact dsch | kernel_rfl) only [go_sem, ↓reduceIte, Nat.reduceEqDiff, Nat.reduceLT, Nat.reduceAdd, reduceCtorEq, Int.reduceToNat, Try.ntmps146, Try.results146, hs.len] <;> repeat' ((first | (refine AOK_is (by exact isGraph_ok _ _ _ _ (by first | assumption | (refine SliceAt.ext (by assumption) ?_; exact xt)) (by omega)) ?_; intro Hc hxc) | (refine AOK_is (by exact isModulus_ok _ _) ?_; intro Hc hxc) | refine AK.drawT (by kernel_rfl) ?_ | ((first | refine ABK_mk ?_ ?_ | refine AGK_mk ?_ ?_) <;> intro hb <;> (try simp only [decide_eq_true_eq, decide_eq_false_iff_not, Bool.not_eq_true', Bool.not_eq_false', Bool.not_not] at hb) <;> (try (exfalso; omega)) <;> (try subst hb) <;> try simp only [hb, decide_true, decide_false])) <;> try simp (disch := first | exact dsch | kernel_rfl) only [go_sem, ↓reduceIte, Nat.reduceEqDiff, Nat.reduceLT, Nat.reduceAdd, reduceCtorEq, Int.reduceToNat, Try.ntmps146, Try.results146, hs.len]))
  all_goals
    refine Is.mk ?_ (by exact xt)
    simp only [e10] at *
    simp [colB, okB, *]
--@CON impl.isColoured: exact isColoured_ok _ _ _ _ _ (by first | assumption | (refine SliceAt.ext (by assumption) ?_; exact xt)) (by first | assumption | omega)
theorem clGood_ok (l : List Int) (o : Bool) (m : Int) (s : AV) (H : AH) (hs : IntsAt H s l) (hl : l.length < 1000000) : E 148 [.agg [s, .bool o], .int .i64 m] H (Is (.bool (colB l m)) H) := by
  have hso := hs.isOne
  refine Ev.enterK (fn := Try.f148) rfl Try.func148 rfl (by kernel_rfl) (by simp [Try.ntmps148]) ?_
  have e10 : ((l.length : Int) ≤ 10) ↔ l.length ≤ 10 := by omega
  (simp (disch := first | exact dsch | kernel_rfl) only [go_sem, ↓reduceIte, Nat.reduceEqDiff, Nat.reduceLT, Nat.reduceAdd, reduceCtorEq, Int.reduceToNat, Try.ntmps148, Try.results148, hs.len] <;> repeat' ((first | (refine AOK_is (by exact clPrime_ok _ _) ?_; intro Hc hxc) | (refine AOK_is (by exact grGood_ok _ _ _ _ (by first | assumption | (refine SliceAt.ext (by assumption) ?_; exact xt)) (by omega)) ?_; intro Hc hxc) | refine AK.drawT (by kernel_rfl) ?_ | ((first | refine ABK_mk ?_ ?_ | refine AGK_mk ?_ ?_) <;> intro hb <;> (try simp only [decide_eq_true_eq, decide_eq_false_iff_not, Bool.not_eq_true', Bool.not_eq_false', Bool.not_not] at hb) <;> (try (exfalso; omega)) <;> (try subst hb) <;> try simp only [hb, decide_true, decide_false])) <;> try simp (disch := first | exact dsch | kernel_rfl) only [go_sem, ↓reduceIte, Nat.reduceEqDiff, Nat.reduceLT, Nat.reduceAdd, reduceCtorEq, Int.reduceToNat, Try.ntmps148, Try.results148, hs.len]))
  all_goals
    refine Is.mk ?_ (by exact xt)
    simp only [e10] at *
    simp [colB, okB, *]
--@CON spec.clGood: exact clGood_ok _ _ _ _ _ (by first | assumption | (refine SliceAt.ext (by assumption) ?_; exact xt)) (by first | assumption | omega)

theorem areColours1_ok (x m : Int) (b : Nat) (H : AH) (hb : H.blk b = .cells 1 false [.int .i64 m]) (hm : 0 ≤ m) (hm2 : m < 1000) : E 207 [.int .i64 x, .ptr b 0] H (Is (.bool (!decide (0 ≤ x ∧ x ≤ m - 1))) H) := by
  have ld : ∀ {Hx : AH}, Ext H Hx → aload1 TA Hx 3 (.ptr b 0) = some (.int .i64 m, Hx) := fun x => aload_cell (t := 3) rfl rfl (x.cells hb) rfl
  refine Ev.enterK (fn := Try.f207) rfl Try.func207 rfl (by kernel_rfl) (by simp [Try.ntmps207]) ?_
  (simp (disch := first | exact dsch | kernel_rfl) only [go_sem, ↓reduceIte, Nat.reduceEqDiff, Nat.reduceLT, Nat.reduceAdd, reduceCtorEq, Int.reduceToNat, Try.ntmps207, Try.results207, ld] <;> repeat' ((first | (refine AOK_is (by exact in_ok _ _ _ _) ?_; intro Hc hxc) | refine AK.drawT (by kernel_rfl) ?_ | ((first | refine ABK_mk ?_ ?_ | refine AGK_mk ?_ ?_) <;> intro hb <;> (try simp only [decide_eq_true_eq, decide_eq_false_iff_not, Bool.not_eq_true', Bool.not_eq_false', Bool.not_not] at hb) <;> (try (exfalso; omega)) <;> (try subst hb) <;> try simp only [hb, decide_true, decide_false])) <;> try simp (disch := first | exact dsch | kernel_rfl) only [go_sem, ↓reduceIte, Nat.reduceEqDiff, Nat.reduceLT, Nat.reduceAdd, reduceCtorEq, Int.reduceToNat, Try.ntmps207, Try.results207, ld]))
  exact Is.mk rfl (by exact xt)
theorem hasButton1_ok (x : Int) (b : Nat) (l : List Int) (s : AV) (o : Bool) (H : AH) (hb : H.blk b = .cells 2 false [s, .bool o]) (hs : IntsAt H s l) (hl : l.length < 1000000) : E 208 [.int .i64 x, .ptr b 0] H (Is (.bool (!decide (0 ≤ x ∧ x ≤ (l.length : Int) - 1))) H) := by
  have ld : ∀ {Hx : AH}, Ext H Hx → aload1 TA Hx 22 (.ptr b 0) = some (s, Hx) := fun x => aload_cell (t := 22) rfl rfl (x.cells hb) rfl
  refine Ev.enterK (fn := Try.f208) rfl Try.func208 rfl (by kernel_rfl) (by simp [Try.ntmps208]) ?_
  (simp (disch := first | exact dsch | kernel_rfl) only [go_sem, ↓reduceIte, Nat.reduceEqDiff, Nat.reduceLT, Nat.reduceAdd, reduceCtorEq, Int.reduceToNat, Try.ntmps208, Try.results208, ld, hs.len] <;> repeat' ((first | (refine AOK_is (by exact in_ok _ _ _ _) ?_; intro Hc hxc) | refine AK.drawT (by kernel_rfl) ?_ | ((first | refine ABK_mk ?_ ?_ | refine AGK_mk ?_ ?_) <;> intro hb <;> (try simp only [decide_eq_true_eq, decide_eq_false_iff_not, Bool.not_eq_true', Bool.not_eq_false', Bool.not_not] at hb) <;> (try (exfalso; omega)) <;> (try subst hb) <;> try simp only [hb, decide_true, decide_false])) <;> try simp (disch := first | exact dsch | kernel_rfl) only [go_sem, ↓reduceIte, Nat.reduceEqDiff, Nat.reduceLT, Nat.reduceAdd, reduceCtorEq, Int.reduceToNat, Try.ntmps208, Try.results208, ld, hs.len]))
  exact Is.mk rfl (by exact xt)

theorem hasButton_ok (l w : List Int) (o : Bool) (s t : AV) (H : AH) (hs : IntsAt H s l) (hl : l.length < 1000000) (ht : IntsAt H t w) (hw : w.length < 1000000) : E 140 [.agg [s, .bool o], t] H (Is (.bool (wrdB l w)) H) := by
  have hso := hs.isOne
  refine Ev.enterK (fn := Try.f140) rfl Try.func140 rfl (by kernel_rfl) (by simp [Try.ntmps140]) ?_
  (simp (disch := first | exact dsch | kernel_rfl) only [go_sem, ↓reduceIte, Nat.reduceEqDiff, Nat.reduceLT, Nat.reduceAdd, reduceCtorEq, Int.reduceToNat, Try.ntmps140, Try.results140] <;> repeat' ((first | (refine AOK_is (by exact isGraph_ok _ _ _ _ (by first | assumption | (refine SliceAt.ext (by assumption) ?_; exact xt)) (by omega)) ?_; intro Hc hxc) | refine AK.drawT (by kernel_rfl) ?_ | ((first | refine ABK_mk ?_ ?_ | refine AGK_mk ?_ ?_) <;> intro hb <;> (try simp only [decide_eq_true_eq, decide_eq_false_iff_not, Bool.not_eq_true', Bool.not_eq_false', Bool.not_not] at hb) <;> (try (exfalso; omega)) <;> (try subst hb) <;> try simp only [hb, decide_true, decide_false])) <;> try simp (disch := first | exact dsch | kernel_rfl) only [go_sem, ↓reduceIte, Nat.reduceEqDiff, Nat.reduceLT, Nat.reduceAdd, reduceCtorEq, Int.reduceToNat, Try.ntmps140, Try.results140]))
  · refine AOK_is (containsFunc_ok w t _ [.ptr H.size 0] (fun x => !decide (0 ≤ x ∧ x ≤ (l.length : Int) - 1)) _ (SliceAt.ext ht (by exact xt)) (by omega) fun x _ H1 x1 => hasButton1_ok x H.size l s o H1 ?_ ?_ hl) ?_
    · exact Ext.cells (H := H.push (.cells 2 false [s, .bool o])) (by exact xt) (AH.push_same _ _)
    · exact SliceAt.ext hs (by exact xt)
    intro H1 x1
    (simp (disch := first | exact dsch | kernel_rfl) only [go_sem, ↓reduceIte, Nat.reduceEqDiff, Nat.reduceLT, Nat.reduceAdd, reduceCtorEq, Int.reduceToNat, Try.ntmps140, Try.results140] <;> repeat' ((first | (refine AOK_is (by exact isGraph_ok _ _ _ _ (by first | assumption | (refine SliceAt.ext (by assumption) ?_; exact xt)) (by omega)) ?_; intro Hc hxc) | refine AK.drawT (by kernel_rfl) ?_ | ((first | refine ABK_mk ?_ ?_ | refine AGK_mk ?_ ?_) <;> intro hb <;> (try simp only [decide_eq_true_eq, decide_eq_false_iff_not, Bool.not_eq_true', Bool.not_eq_false', Bool.not_not] at hb) <;> (try (exfalso; omega)) <;> (try subst hb) <;> try simp only [hb, decide_true, decide_false])) <;> try simp (disch := first | exact dsch | kernel_rfl) only [go_sem, ↓reduceIte, Nat.reduceEqDiff, Nat.reduceLT, Nat.reduceAdd, reduceCtorEq, Int.reduceToNat, Try.ntmps140, Try.results140]))
    refine Is.mk ?_ (by exact xt)
    have e : GOKz l := by assumption
    simp only [wrdB, okB_true.2 e, Bool.true_and, List.all_eq_not_any_not]
  · refine Is.mk ?_ (by exact xt)
    have e : ¬ GOKz l := by assumption
    simp [wrdB, okB, e]
theorem areColours_ok (l q : List Int) (m : Int) (o : Bool) (s t : AV) (H : AH) (hs : IntsAt H s l) (hl : l.length < 1000000) (ht : IntsAt H t q) (hq : q.length < 1000000) (hm : 0 ≤ m) (hm2 : m < 1000) : E 139 [.agg [s, .bool o], .int .i64 m, t] H (Is (.bool (colL l m q)) H) := by
  have hso := hs.isOne
  have eq0 : ((q.length : Int) = (l.length : Int)) ↔ q.length = l.length := by omega
  refine Ev.enterK (fn := Try.f139) rfl Try.func139 rfl (by kernel_rfl) (by simp [Try.ntmps139]) ?_
  (simp (disch := first | exact dsch | kernel_rfl) only [go_sem, ↓reduceIte, Nat.reduceEqDiff, Nat.reduceLT, Nat.reduceAdd, reduceCtorEq, Int.reduceToNat, Try.ntmps139, Try.results139, hs.len, ht.len] <;> repeat' ((first | (refine AOK_is (by exact isColoured_ok _ _ _ _ _ (by first | assumption | (refine SliceAt.ext (by assumption) ?_; exact xt)) (by first | assumption | omega)) ?_; intro Hc hxc) | refine AK.drawT (by kernel_rfl) ?_ | ((first | refine ABK_mk ?_ ?_ | refine AGK_mk ?_ ?_) <;> intro hb <;> (try simp only [decide_eq_true_eq, decide_eq_false_iff_not, Bool.not_eq_true', Bool.not_eq_false', Bool.not_not] at hb) <;> (try (exfalso; omega)) <;> (try subst hb) <;> try simp only [hb, decide_true, decide_false])) <;> try simp (disch := first | exact dsch | kernel_rfl) only [go_sem, ↓reduceIte, Nat.reduceEqDiff, Nat.reduceLT, Nat.reduceAdd, reduceCtorEq, Int.reduceToNat, Try.ntmps139, Try.results139, hs.len, ht.len]))
  · refine AOK_is (containsFunc_ok q t _ [.ptr (H.push (.cells 2 false [s, .bool o])).size 0] (fun x => !decide (0 ≤ x ∧ x ≤ m - 1)) _ (SliceAt.ext ht (by exact xt)) (by omega) fun x _ H1 x1 => areColours1_ok x m _ H1 ?_ hm hm2) ?_
    · exact Ext.cells (H := (H.push (.cells 2 false [s, .bool o])).push (.cells 1 false [.int .i64 m])) (by exact xt) (AH.push_same _ _)
    intro H1 x1
    (simp (disch := first | exact dsch | kernel_rfl) only [go_sem, ↓reduceIte, Nat.reduceEqDiff, Nat.reduceLT, Nat.reduceAdd, reduceCtorEq, Int.reduceToNat, Try.ntmps139, Try.results139] <;> repeat' ((first | (refine AOK_is (by exact isColoured_ok _ _ _ _ _ (by first | assumption | (refine SliceAt.ext (by assumption) ?_; exact xt)) (by first | assumption | omega)) ?_; intro Hc hxc) | refine AK.drawT (by kernel_rfl) ?_ | ((first | refine ABK_mk ?_ ?_ | refine AGK_mk ?_ ?_) <;> intro hb <;> (try simp only [decide_eq_true_eq, decide_eq_false_iff_not, Bool.not_eq_true', Bool.not_eq_false', Bool.not_not] at hb) <;> (try (exfalso; omega)) <;> (try subst hb) <;> try simp only [hb, decide_true, decide_false])) <;> try simp (disch := first | exact dsch | kernel_rfl) only [go_sem, ↓reduceIte, Nat.reduceEqDiff, Nat.reduceLT, Nat.reduceAdd, reduceCtorEq, Int.reduceToNat, Try.ntmps139, Try.results139]))
    refine Is.mk ?_ (by exact xt)
    have e1 : colB l m = true := by assumption
    simp only [colL, e1, Bool.true_and, List.all_eq_not_any_not]
    rw [decide_eq_true (by omega), Bool.true_and]
  · refine Is.mk ?_ (by exact xt)
    have e1 : colB l m = true := by assumption
    simp only [colL, e1, Bool.true_and]
    rw [decide_eq_false (by omega), Bool.false_and]
  · refine Is.mk ?_ (by exact xt)
    have e1 : colB l m = false := by assumption
    simp only [colL, e1, Bool.false_and]
--@CON impl.areColours: exact areColours_ok _ _ _ _ _ _ _ (by first | assumption | (refine SliceAt.ext (by assumption) ?_; exact xt)) (by first | assumption | omega) (by first | assumption | (refine SliceAt.ext (by assumption) ?_; exact xt)) (by first | assumption | omega) (by omega) (by omega)
theorem clList_ok (l q : List Int) (m : Int) (o : Bool) (s t : AV) (H : AH) (hs : IntsAt H s l) (hl : l.length < 1000000) (ht : IntsAt H t q) (hq : q.length < 1000000) (hm : 0 ≤ m) (hm2 : m < 1000) : E 144 [.agg [s, .bool o], .int .i64 m, t] H (Is (.bool (colL l m q)) H) := by
  have hso := hs.isOne
  have eq0 : ((q.length : Int) = (l.length : Int)) ↔ q.length = l.length := by omega
  refine Ev.enterK (fn := Try.f144) rfl Try.func144 rfl (by kernel_rfl) (by simp [Try.ntmps144]) ?_
  (simp (disch := first | exact dsch | kernel_rfl) only [go_sem, ↓reduceIte, Nat.reduceEqDiff, Nat.reduceLT, Nat.reduceAdd, reduceCtorEq, Int.reduceToNat, Try.ntmps144, Try.results144, hs.len, ht.len] <;> repeat' ((first | (refine AOK_is (by exact clGood_ok _ _ _ _ _ (by first | assumption | (refine SliceAt.ext (by assumption) ?_; exact xt)) (by first | assumption | omega)) ?_; intro Hc hxc) | (refine AOK_is (by exact l1All_ok _ _ _ _ _ (by first | assumption | (refine SliceAt.ext (by assumption) ?_; exact xt)) (by omega)) ?_; intro Hc hxc) | refine AK.drawT (by kernel_rfl) ?_ | ((first | refine ABK_mk ?_ ?_ | refine AGK_mk ?_ ?_) <;> intro hb <;> (try simp only [decide_eq_true_eq, decide_eq_false_iff_not, Bool.not_eq_true', Bool.not_eq_false', Bool.not_not] at hb) <;> (try (exfalso; omega)) <;> (try subst hb) <;> try simp only [hb, decide_true, decide_false])) <;> try simp (disch := first | exact dsch | kernel_rfl) only [go_sem, ↓reduceIte, Nat.reduceEqDiff, Nat.reduceLT, Nat.reduceAdd, reduceCtorEq, Int.reduceToNat, Try.ntmps144, Try.results144, hs.len, ht.len]))
  · refine Is.mk ?_ (by exact xt)
    have e1 : colB l m = true := by assumption
    simp only [colL, e1, Bool.true_and]
    rw [decide_eq_true (by omega), Bool.true_and]
  · refine Is.mk ?_ (by exact xt)
    have e1 : colB l m = true := by assumption
    simp only [colL, e1, Bool.true_and]
    rw [decide_eq_false (by omega), Bool.false_and]
  · refine Is.mk ?_ (by exact xt)
    have e1 : colB l m = false := by assumption
    simp only [colL, e1, Bool.false_and]
--@CON spec.clList: exact clList_ok _ _ _ _ _ _ _ (by first | assumption | (refine SliceAt.ext (by assumption) ?_; exact xt)) (by first | assumption | omega) (by first | assumption | (refine SliceAt.ext (by assumption) ?_; exact xt)) (by first | assumption | omega) (by omega) (by omega)
--@CON impl.hasButton: exact hasButton_ok _ _ _ _ _ _ (by first | assumption | (refine SliceAt.ext (by assumption) ?_; exact xt)) (by first | assumption | omega) (by first | assumption | (refine SliceAt.ext (by assumption) ?_; exact xt)) (by first | assumption | omega)

/-- IsColours, on both sides. -/
def IsCol (f : FuncId) : Prop := ∀ (l q : List Int) (m : Int) (o : Bool) (s t : AV) (H : AH), IntsAt H s l → l.length < 1000000 → IntsAt H t q → q.length < 1000000 → 0 ≤ m → m < 1000 →
  E f [.agg [s, .bool o], .int .i64 m, t] H (Is (.tup [.bool (colB l m && colL l m q), .bool (colB l m)]) H)
theorem implIsColours_ok : IsCol 32 := by
  intro l q m o s t H hs hl ht hq hm hm2
  have hso := hs.isOne
  refine Ev.enterK (fn := Try.f32) rfl Try.func32 rfl (by kernel_rfl) (by simp [Try.ntmps32]) ?_
  (simp (disch := first | exact dsch | kernel_rfl) only [go_sem, ↓reduceIte, Nat.reduceEqDiff, Nat.reduceLT, Nat.reduceAdd, reduceCtorEq, Int.reduceToNat, Try.ntmps32, Try.results32] <;> repeat' ((first | (refine AOK_is (by exact areColours_ok _ _ _ _ _ _ _ (by first | assumption | (refine SliceAt.ext (by assumption) ?_; exact xt)) (by first | assumption | omega) (by first | assumption | (refine SliceAt.ext (by assumption) ?_; exact xt)) (by first | assumption | omega) (by omega) (by omega)) ?_; intro Hc hxc) | (refine AOK_is (by exact isColoured_ok _ _ _ _ _ (by first | assumption | (refine SliceAt.ext (by assumption) ?_; exact xt)) (by first | assumption | omega)) ?_; intro Hc hxc) | refine AK.drawT (by kernel_rfl) ?_ | ((first | refine ABK_mk ?_ ?_ | refine AGK_mk ?_ ?_) <;> intro hb <;> (try simp only [decide_eq_true_eq, decide_eq_false_iff_not, Bool.not_eq_true', Bool.not_eq_false', Bool.not_not] at hb) <;> (try (exfalso; omega)) <;> (try subst hb) <;> try simp only [hb, decide_true, decide_false])) <;> try simp (disch := first | exact dsch | kernel_rfl) only [go_sem, ↓reduceIte, Nat.reduceEqDiff, Nat.reduceLT, Nat.reduceAdd, reduceCtorEq, Int.reduceToNat, Try.ntmps32, Try.results32]))
  all_goals
    refine Is.mk ?_ (by exact xt)
    simp [*]
theorem specIsColours_ok : IsCol 33 := by
  intro l q m o s t H hs hl ht hq hm hm2
  have hso := hs.isOne
  refine Ev.enterK (fn := Try.f33) rfl Try.func33 rfl (by kernel_rfl) (by simp [Try.ntmps33]) ?_
  (simp (disch := first | exact dsch | kernel_rfl) only [go_sem, ↓reduceIte, Nat.reduceEqDiff, Nat.reduceLT, Nat.reduceAdd, reduceCtorEq, Int.reduceToNat, Try.ntmps33, Try.results33] <;> repeat' ((first | (refine AOK_is (by exact clGood_ok _ _ _ _ _ (by first | assumption | (refine SliceAt.ext (by assumption) ?_; exact xt)) (by first | assumption | omega)) ?_; intro Hc hxc) | (refine AOK_is (by exact clList_ok _ _ _ _ _ _ _ (by first | assumption | (refine SliceAt.ext (by assumption) ?_; exact xt)) (by first | assumption | omega) (by first | assumption | (refine SliceAt.ext (by assumption) ?_; exact xt)) (by first | assumption | omega) (by omega) (by omega)) ?_; intro Hc hxc) | refine AK.drawT (by kernel_rfl) ?_ | ((first | refine ABK_mk ?_ ?_ | refine AGK_mk ?_ ?_) <;> intro hb <;> (try simp only [decide_eq_true_eq, decide_eq_false_iff_not, Bool.not_eq_true', Bool.not_eq_false', Bool.not_not] at hb) <;> (try (exfalso; omega)) <;> (try subst hb) <;> try simp only [hb, decide_true, decide_false])) <;> try simp (disch := first | exact dsch | kernel_rfl) only [go_sem, ↓reduceIte, Nat.reduceEqDiff, Nat.reduceLT, Nat.reduceAdd, reduceCtorEq, Int.reduceToNat, Try.ntmps33, Try.results33]))
  all_goals
    refine Is.mk ?_ (by exact xt)
    simp [*]

end Go.Proofs.Ytopbfmhajbjepaa
