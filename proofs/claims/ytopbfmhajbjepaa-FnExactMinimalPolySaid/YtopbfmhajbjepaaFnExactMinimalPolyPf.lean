/- The law FnExactMinimalPoly over the abstract memory. -/
import Derived.Test.YtopbfmhajbjepaaC10
import Derived.Test.YtopbfmhajbjepaaC18
namespace Go.Proofs.Ytopbfmhajbjepaa
open Go
set_option linter.unusedSimpArgs false
set_option linter.unusedVariables false

theorem bool_self_ne (b : Bool) : (b != b) = false := by cases b <;> rfl
theorem mpOut_form (l : List Int) : ∃ (z : Int) (b : Bool), mpOut l = .tup [.int .i64 z, .bool b] := by
  unfold mpOut; split
  · exact ⟨_, _, rfl⟩
  · exact ⟨_, _, rfl⟩
theorem law_FnExactMinimalPoly (l0 : List Int) (v0 : AV) (H : AH) (h0 : IntsAt H v0 l0) (n0 : l0.length ≤ 140737488351232) (f0 : ∀ n ∈ l0, (Lit.int .i64 n).wf = true) :
    E 4 [v0] H fun v _ => v = .bool true := by
  obtain ⟨z, b, ez⟩ := mpOut_form l0
  have i0 : IntsAt H v0 l0 := h0
  refine Ev.enterK (fn := Try.f4) rfl Try.func4 rfl (by kernel_rfl) (by simp [Try.ntmps4]) ?_
  (simp (disch := first | exact dsch | kernel_rfl) only [go_sem, ↓reduceIte, Nat.reduceEqDiff, Nat.reduceLT, Nat.reduceAdd, reduceCtorEq, Int.reduceToNat, Try.ntmps4, Try.results4, i0.len] <;> repeat' ((first | (refine AOK_is (by exact eqIntS_ok _ _ _ _ _ (by first | assumption | (refine SliceAt.ext (by assumption) ?_; exact xt)) (by first | assumption | (refine SliceAt.ext (by assumption) ?_; exact xt)) (by omega) (by omega)) ?_; intro Hc hxc) | refine AK.drawT (by kernel_rfl) ?_ | ((first | refine ABK_mk ?_ ?_ | refine AGK_mk ?_ ?_) <;> intro hb <;> (try simp only [decide_eq_true_eq, decide_eq_false_iff_not, Bool.not_eq_true', Bool.not_eq_false', Bool.not_not] at hb) <;> (try (exfalso; omega)) <;> (try subst hb) <;> try simp only [hb, decide_true, decide_false])) <;> try simp (disch := first | exact dsch | kernel_rfl) only [go_sem, ↓reduceIte, Nat.reduceEqDiff, Nat.reduceLT, Nat.reduceAdd, reduceCtorEq, Int.reduceToNat, Try.ntmps4, Try.results4, i0.len]))
  · refine AOK_gives (toIntS_ok l0 v0 _ h0 (by omega)) ?_
    intro u1 H1 x1 o1
    simp (disch := first | exact dsch | kernel_rfl) only [go_sem, ↓reduceIte, Nat.reduceEqDiff, Nat.reduceLT, Nat.reduceAdd, reduceCtorEq, Int.reduceToNat, Try.ntmps4, Try.results4]
    refine AOK_is (specMinimal_ok l0 u1 _ o1.slice (by omega)) ?_
    intro H2 x2
    rw [ez]
    simp (disch := first | exact dsch | kernel_rfl) only [go_sem, ↓reduceIte, Nat.reduceEqDiff, Nat.reduceLT, Nat.reduceAdd, reduceCtorEq, Int.reduceToNat, Try.ntmps4, Try.results4]
    refine AOK_gives (toIntS_ok l0 v0 _ (SliceAt.ext h0 (by exact xt)) (by omega)) ?_
    intro u2 H3 x3 o3
    have o3s : IntsAt H3 u2 l0 := o3.slice
    simp (disch := first | exact dsch | kernel_rfl) only [go_sem, ↓reduceIte, Nat.reduceEqDiff, Nat.reduceLT, Nat.reduceAdd, reduceCtorEq, Int.reduceToNat, Try.ntmps4, Try.results4]
    refine AOK_is (implMinimal_ok l0 u2 _ o3s (by omega)) ?_
    intro H4 x4
    rw [ez]
    simp (disch := first | exact dsch | kernel_rfl) only [go_sem, ↓reduceIte, Nat.reduceEqDiff, Nat.reduceLT, Nat.reduceAdd, reduceCtorEq, Int.reduceToNat, Try.ntmps4, Try.results4]
    refine AOK_gives (toIntS_ok l0 v0 _ (SliceAt.ext h0 (by exact xt)) (by omega)) ?_
    intro u3 H5 x5 o5
    have o5s : IntsAt H5 u3 l0 := o5.slice
    (simp (disch := first | exact dsch | kernel_rfl) only [go_sem, ↓reduceIte, Nat.reduceEqDiff, Nat.reduceLT, Nat.reduceAdd, reduceCtorEq, Int.reduceToNat, Try.ntmps4, Try.results4] <;> repeat' ((first | (refine AOK_is (by exact eqIntS_ok _ _ _ _ _ (by first | assumption | (refine SliceAt.ext (by assumption) ?_; exact xt)) (by first | assumption | (refine SliceAt.ext (by assumption) ?_; exact xt)) (by omega) (by omega)) ?_; intro Hc hxc) | refine AK.drawT (by kernel_rfl) ?_ | ((first | refine ABK_mk ?_ ?_ | refine AGK_mk ?_ ?_) <;> intro hb <;> (try simp only [decide_eq_true_eq, decide_eq_false_iff_not, Bool.not_eq_true', Bool.not_eq_false', Bool.not_not] at hb) <;> (try (exfalso; omega)) <;> (try subst hb) <;> try simp only [hb, decide_true, decide_false])) <;> try simp (disch := first | exact dsch | kernel_rfl) only [go_sem, ↓reduceIte, Nat.reduceEqDiff, Nat.reduceLT, Nat.reduceAdd, reduceCtorEq, Int.reduceToNat, Try.ntmps4, Try.results4]))
    all_goals rfl

end Go.Proofs.Ytopbfmhajbjepaa
