/- Contracts: small words on numbers. -/
import Derived.Test.YtopbfmhajbjepaaSl
namespace Go.Proofs.Ytopbfmhajbjepaa
open Go
set_option linter.unusedSimpArgs false
set_option linter.unusedVariables false

theorem in_ok (n lo hi : Int) (H : AH) : E 156 [.int .i64 n, .int .i64 lo, .int .i64 hi] H (Is (.bool (decide (lo ≤ n ∧ n ≤ hi))) H) := by
  refine Ev.enterK (fn := Try.f156) rfl Try.func156 rfl (by kernel_rfl) (by simp [Try.ntmps156]) ?_
  (simp (disch := first | exact dsch | kernel_rfl) only [go_sem, ↓reduceIte, Nat.reduceEqDiff, Nat.reduceLT, Nat.reduceAdd, reduceCtorEq, Int.reduceToNat, Try.ntmps156, Try.results156] <;> repeat' ((first | refine AK.drawT (by kernel_rfl) ?_ | ((first | refine ABK_mk ?_ ?_ | refine AGK_mk ?_ ?_) <;> intro hb <;> (try simp only [decide_eq_true_eq, decide_eq_false_iff_not, Bool.not_eq_true', Bool.not_eq_false', Bool.not_not] at hb) <;> (try (exfalso; omega)) <;> (try subst hb) <;> try simp only [hb, decide_true, decide_false])) <;> try simp (disch := first | exact dsch | kernel_rfl) only [go_sem, ↓reduceIte, Nat.reduceEqDiff, Nat.reduceLT, Nat.reduceAdd, reduceCtorEq, Int.reduceToNat, Try.ntmps156, Try.results156])) <;> refine Is.mk ?_ (by exact xt) <;> simp <;> omega
--@CON impl.in: exact in_ok _ _ _ _

theorem l1In_ok (n lo hi : Int) (H : AH) : E 153 [.int .i64 n, .int .i64 lo, .int .i64 hi] H (Is (.bool (decide (lo ≤ n ∧ n ≤ hi))) H) := by
  refine Ev.enterK (fn := Try.f153) rfl Try.func153 rfl (by kernel_rfl) (by simp [Try.ntmps153]) ?_
  (simp (disch := first | exact dsch | kernel_rfl) only [go_sem, ↓reduceIte, Nat.reduceEqDiff, Nat.reduceLT, Nat.reduceAdd, reduceCtorEq, Int.reduceToNat, Try.ntmps153, Try.results153] <;> repeat' ((first | refine AK.drawT (by kernel_rfl) ?_ | ((first | refine ABK_mk ?_ ?_ | refine AGK_mk ?_ ?_) <;> intro hb <;> (try simp only [decide_eq_true_eq, decide_eq_false_iff_not, Bool.not_eq_true', Bool.not_eq_false', Bool.not_not] at hb) <;> (try (exfalso; omega)) <;> (try subst hb) <;> try simp only [hb, decide_true, decide_false])) <;> try simp (disch := first | exact dsch | kernel_rfl) only [go_sem, ↓reduceIte, Nat.reduceEqDiff, Nat.reduceLT, Nat.reduceAdd, reduceCtorEq, Int.reduceToNat, Try.ntmps153, Try.results153])) <;> refine Is.mk ?_ (by exact xt) <;> simp <;> omega
--@CON spec.l1In: exact l1In_ok _ _ _ _

theorem has_ok (s i : Nat) (hs : s < 9223372036854775808) (hi : i < 64) (H : AH) : E 174 [.int .i64 s, .int .i64 i] H (Is (.bool (s.testBit i)) H) := by
  refine Ev.enterK (fn := Try.f174) rfl Try.func174 rfl (by kernel_rfl) (by simp [Try.ntmps174]) ?_
  (simp (disch := first | exact dsch | kernel_rfl) only [go_sem, ↓reduceIte, Nat.reduceEqDiff, Nat.reduceLT, Nat.reduceAdd, reduceCtorEq, Int.reduceToNat, Try.ntmps174, Try.results174] <;> repeat' ((first | refine AK.drawT (by kernel_rfl) ?_ | ((first | refine ABK_mk ?_ ?_ | refine AGK_mk ?_ ?_) <;> intro hb <;> (try simp only [decide_eq_true_eq, decide_eq_false_iff_not, Bool.not_eq_true', Bool.not_eq_false', Bool.not_not] at hb) <;> (try (exfalso; omega)) <;> (try subst hb) <;> try simp only [hb, decide_true, decide_false])) <;> try simp (disch := first | exact dsch | kernel_rfl) only [go_sem, ↓reduceIte, Nat.reduceEqDiff, Nat.reduceLT, Nat.reduceAdd, reduceCtorEq, Int.reduceToNat, Try.ntmps174, Try.results174])) ; exact Is.mk rfl (by exact xt)
theorem has_okz (s i : Int) (h0 : 0 ≤ s) (hs : s < 9223372036854775808) (h1 : 0 ≤ i) (hi : i < 64) (H : AH) : E 174 [.int .i64 s, .int .i64 i] H (Is (.bool (s.toNat.testBit i.toNat)) H) := by
  have := has_ok s.toNat i.toNat (by omega) (by omega) H
  rwa [Int.toNat_of_nonneg h0, Int.toNat_of_nonneg h1] at this
--@CON impl.has: first | exact has_ok _ _ (by omega) (by omega) _ | exact has_okz _ _ (by omega) (by omega) (by omega) (by omega) _

theorem grIn_ok (s i : Nat) (hi : i < 64) (H : AH) : E 193 [.int .i64 s, .int .i64 i] H (Is (.bool (s.testBit i)) H) := by
  refine Ev.enterK (fn := Try.f193) rfl Try.func193 rfl (by kernel_rfl) (by simp [Try.ntmps193]) ?_
  (simp (disch := first | exact dsch | kernel_rfl) only [go_sem, ↓reduceIte, Nat.reduceEqDiff, Nat.reduceLT, Nat.reduceAdd, reduceCtorEq, Int.reduceToNat, Try.ntmps193, Try.results193] <;> repeat' ((first | refine AK.drawT (by kernel_rfl) ?_ | ((first | refine ABK_mk ?_ ?_ | refine AGK_mk ?_ ?_) <;> intro hb <;> (try simp only [decide_eq_true_eq, decide_eq_false_iff_not, Bool.not_eq_true', Bool.not_eq_false', Bool.not_not] at hb) <;> (try (exfalso; omega)) <;> (try subst hb) <;> try simp only [hb, decide_true, decide_false])) <;> try simp (disch := first | exact dsch | kernel_rfl) only [go_sem, ↓reduceIte, Nat.reduceEqDiff, Nat.reduceLT, Nat.reduceAdd, reduceCtorEq, Int.reduceToNat, Try.ntmps193, Try.results193])) ; exact Is.mk rfl (by exact xt)
theorem grIn_okz (s i : Int) (h0 : 0 ≤ s) (h1 : 0 ≤ i) (hi : i < 64) (H : AH) : E 193 [.int .i64 s, .int .i64 i] H (Is (.bool (s.toNat.testBit i.toNat)) H) := by
  have := grIn_ok s.toNat i.toNat (by omega) H
  rwa [Int.toNat_of_nonneg h0, Int.toNat_of_nonneg h1] at this
--@CON spec.grIn: first | exact grIn_ok _ _ (by omega) _ | exact grIn_okz _ _ (by omega) (by omega) (by omega) _

theorem whole_ok (n : Nat) (hn : n < 63) (H : AH) : E 164 [.int .i64 n] H (Is (.int .i64 (2 ^ n - 1 : Nat)) H) := by
  refine Ev.enterK (fn := Try.f164) rfl Try.func164 rfl (by kernel_rfl) (by simp [Try.ntmps164]) ?_
  (simp (disch := first | exact dsch | kernel_rfl) only [go_sem, ↓reduceIte, Nat.reduceEqDiff, Nat.reduceLT, Nat.reduceAdd, reduceCtorEq, Int.reduceToNat, Try.ntmps164, Try.results164] <;> repeat' ((first | refine AK.drawT (by kernel_rfl) ?_ | ((first | refine ABK_mk ?_ ?_ | refine AGK_mk ?_ ?_) <;> intro hb <;> (try simp only [decide_eq_true_eq, decide_eq_false_iff_not, Bool.not_eq_true', Bool.not_eq_false', Bool.not_not] at hb) <;> (try (exfalso; omega)) <;> (try subst hb) <;> try simp only [hb, decide_true, decide_false])) <;> try simp (disch := first | exact dsch | kernel_rfl) only [go_sem, ↓reduceIte, Nat.reduceEqDiff, Nat.reduceLT, Nat.reduceAdd, reduceCtorEq, Int.reduceToNat, Try.ntmps164, Try.results164])) ; exact Is.mk rfl (by exact xt)
--@CON impl.whole: exact whole_ok _ (by omega) _

theorem isCount_ok (n : Int) (H : AH) : E 160 [.int .i64 n] H (Is (.bool (decide (1 ≤ n ∧ n ≤ 16))) H) := by
  refine Ev.enterK (fn := Try.f160) rfl Try.func160 rfl (by kernel_rfl) (by simp [Try.ntmps160]) ?_
  (simp (disch := first | exact dsch | kernel_rfl) only [go_sem, ↓reduceIte, Nat.reduceEqDiff, Nat.reduceLT, Nat.reduceAdd, reduceCtorEq, Int.reduceToNat, Try.ntmps160, Try.results160] <;> repeat' ((first | (refine AOK_is (by exact in_ok _ _ _ _) ?_; intro Hc hxc) | refine AK.drawT (by kernel_rfl) ?_ | ((first | refine ABK_mk ?_ ?_ | refine AGK_mk ?_ ?_) <;> intro hb <;> (try simp only [decide_eq_true_eq, decide_eq_false_iff_not, Bool.not_eq_true', Bool.not_eq_false', Bool.not_not] at hb) <;> (try (exfalso; omega)) <;> (try subst hb) <;> try simp only [hb, decide_true, decide_false])) <;> try simp (disch := first | exact dsch | kernel_rfl) only [go_sem, ↓reduceIte, Nat.reduceEqDiff, Nat.reduceLT, Nat.reduceAdd, reduceCtorEq, Int.reduceToNat, Try.ntmps160, Try.results160])) ; exact Is.mk rfl (by exact xt)
--@CON impl.isCount: exact isCount_ok _ _

theorem grSize_ok (n : Int) (H : AH) : E 118 [.int .i64 n] H (Is (.bool (decide (1 ≤ n ∧ n ≤ 16))) H) := by
  refine Ev.enterK (fn := Try.f118) rfl Try.func118 rfl (by kernel_rfl) (by simp [Try.ntmps118]) ?_
  (simp (disch := first | exact dsch | kernel_rfl) only [go_sem, ↓reduceIte, Nat.reduceEqDiff, Nat.reduceLT, Nat.reduceAdd, reduceCtorEq, Int.reduceToNat, Try.ntmps118, Try.results118] <;> repeat' ((first | (refine AOK_is (by exact l1In_ok _ _ _ _) ?_; intro Hc hxc) | refine AK.drawT (by kernel_rfl) ?_ | ((first | refine ABK_mk ?_ ?_ | refine AGK_mk ?_ ?_) <;> intro hb <;> (try simp only [decide_eq_true_eq, decide_eq_false_iff_not, Bool.not_eq_true', Bool.not_eq_false', Bool.not_not] at hb) <;> (try (exfalso; omega)) <;> (try subst hb) <;> try simp only [hb, decide_true, decide_false])) <;> try simp (disch := first | exact dsch | kernel_rfl) only [go_sem, ↓reduceIte, Nat.reduceEqDiff, Nat.reduceLT, Nat.reduceAdd, reduceCtorEq, Int.reduceToNat, Try.ntmps118, Try.results118])) ; exact Is.mk rfl (by exact xt)
--@CON spec.grSize: exact grSize_ok _ _

end Go.Proofs.Ytopbfmhajbjepaa
