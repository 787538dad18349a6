/- Contracts: polynomials over two elements. -/
import Derived.Test.YtopbfmhajbjepaaC11
namespace Go.Proofs.Ytopbfmhajbjepaa
open Go
set_option linter.unusedSimpArgs false
set_option linter.unusedVariables false

theorem bit_le {q i b : Nat} (h : q.testBit i = true) (hq : q < 2 ^ (b + 1)) : i ≤ b := by
  have := Nat.ge_two_pow_of_testBit h
  rcases Nat.lt_or_ge b i with k | k
  · have := Nat.pow_le_pow_right (n := 2) (by omega) (show b + 1 ≤ i by omega); omega
  · exact k
theorem mul_pow_lt {p a i b : Nat} (hp : p < 2 ^ a) (hi : i ≤ b) : p * 2 ^ i < 2 ^ (a + b) := by
  refine Nat.lt_of_lt_of_le (Nat.mul_lt_mul_of_pos_right hp (Nat.two_pow_pos i)) ?_
  rw [← Nat.pow_add]; exact Nat.pow_le_pow_right (by omega) (by omega)
theorem i_gt0 (a : Nat) : ((0 : Int) < (a : Int)) = (0 < a) := propext (by omega)
theorem xs_succ (f : Nat → Nat) (s k : Nat) : xs f s (k + 1) = xs f s k ^^^ (if s.testBit k then f k else 0) := rfl

theorem times_ok (p q a b : Nat) (hp : p < 2 ^ a) (hq : q < 2 ^ (b + 1)) (hab : a + b ≤ 62) (H : AH) : E 135 [.int .i64 p, .int .i64 q] H (Is (.int .i64 (pm p q : Nat)) H) := by
  have hq63 := lt63_of hq (by omega)
  have hx : ∀ i, i ≤ b + 1 → xs (fun k => p * 2 ^ k) q i < 9223372036854775808 := fun i hi =>
    lt63_of (n := a + b) (xs_lt fun k hk hb => mul_pow_lt hp (bit_le hb hq)) (by omega)
  have hl := bl_le hq
  refine Ev.enterK (fn := Try.f135) rfl Try.func135 rfl (by kernel_rfl) (by simp [Try.ntmps135]) ?_
  (simp (disch := first | exact dsch | kernel_rfl) only [go_sem, ↓reduceIte, Nat.reduceEqDiff, Nat.reduceLT, Nat.reduceAdd, reduceCtorEq, Int.reduceToNat, Try.ntmps135, Try.results135] <;> repeat' ((first | (refine AOK_is (by first | exact has_ok _ _ (by omega) (by omega) _ | exact has_okz _ _ (by omega) (by omega) (by omega) (by omega) _) ?_; intro Hc hxc) | refine AK.drawT (by kernel_rfl) ?_ | ((first | refine ABK_mk ?_ ?_ | refine AGK_mk ?_ ?_) <;> intro hb <;> (try simp only [decide_eq_true_eq, decide_eq_false_iff_not, Bool.not_eq_true', Bool.not_eq_false', Bool.not_not] at hb) <;> (try (exfalso; omega)) <;> (try subst hb) <;> try simp only [hb, decide_true, decide_false])) <;> try simp (disch := first | exact dsch | kernel_rfl) only [go_sem, ↓reduceIte, Nat.reduceEqDiff, Nat.reduceLT, Nat.reduceAdd, reduceCtorEq, Int.reduceToNat, Try.ntmps135, Try.results135]))
  refine (AK.countx 6 [5, 6, 7, 8, 9, 10, 11, 12, 13, 14, 15, 16, 17, 18, 19, 20] (by kernel_rfl) 0 (bl q) (fun i tm H' => tm 5 = .int .i64 (xs (fun k => p * 2 ^ k) q i : Nat)) (by rfl) (by omega) (by simp [go_sem, xs]) ?_)
  rintro i tm H' K h1 h2 fr hq2 hx2 h5 hK
  have hxi := hx i (by omega)
  have hqi := div_lt63 (j := i) hq63
  by_cases hbit : q.testBit i = true
  · have hpi := lt63_of (n := a + b) (mul_pow_lt (i := i) hp (bit_le hbit hq)) (by omega)
    (simp (disch := first | exact dsch | kernel_rfl) only [go_sem, ↓reduceIte, Nat.reduceEqDiff, Nat.reduceLT, Nat.reduceAdd, reduceCtorEq, Int.reduceToNat, Try.ntmps135, Try.results135, fr, hq2, h5, i_shr, i_shl, i_gt0, hbit] <;> repeat' ((first | (refine AOK_is (by first | exact has_ok _ _ (by omega) (by omega) _ | exact has_okz _ _ (by omega) (by omega) (by omega) (by omega) _) ?_; intro Hc hxc) | refine AK.drawT (by kernel_rfl) ?_ | ((first | refine ABK_mk ?_ ?_ | refine AGK_mk ?_ ?_) <;> intro hb <;> (try simp only [decide_eq_true_eq, decide_eq_false_iff_not, Bool.not_eq_true', Bool.not_eq_false', Bool.not_not] at hb) <;> (try (exfalso; omega)) <;> (try subst hb) <;> try simp only [hb, decide_true, decide_false])) <;> try simp (disch := first | exact dsch | kernel_rfl) only [go_sem, ↓reduceIte, Nat.reduceEqDiff, Nat.reduceLT, Nat.reduceAdd, reduceCtorEq, Int.reduceToNat, Try.ntmps135, Try.results135, fr, hq2, h5, i_shr, i_shl, i_gt0, hbit]))
    · have hlt : i < bl q := by
        rcases Nat.lt_or_ge i (bl q) with k | k
        · exact k
        · have := Nat.div_eq_of_lt (Nat.lt_of_lt_of_le (lt_bl q) (Nat.pow_le_pow_right (n := 2) (by omega) k)); omega
      refine hK _ _ hlt (by rfl) (by exact xt) ?_
      simp only [go_sem, ↓reduceIte, Nat.reduceEqDiff, AV.int.injEq, true_and, xs_succ, hbit]
    · have := bl_zero_div (s := q) (j := i) (Nat.eq_zero_of_not_pos hb)
      exact absurd (bit_le (b := i - 1) hbit (Nat.lt_of_lt_of_le this (Nat.pow_le_pow_right (by omega) (by omega)))) (by have := Nat.ge_two_pow_of_testBit hbit; omega)
  · (simp (disch := first | exact dsch | kernel_rfl) only [go_sem, ↓reduceIte, Nat.reduceEqDiff, Nat.reduceLT, Nat.reduceAdd, reduceCtorEq, Int.reduceToNat, Try.ntmps135, Try.results135, fr, hq2, h5, i_shr, i_shl, i_gt0, hbit] <;> repeat' ((first | (refine AOK_is (by first | exact has_ok _ _ (by omega) (by omega) _ | exact has_okz _ _ (by omega) (by omega) (by omega) (by omega) _) ?_; intro Hc hxc) | refine AK.drawT (by kernel_rfl) ?_ | ((first | refine ABK_mk ?_ ?_ | refine AGK_mk ?_ ?_) <;> intro hb <;> (try simp only [decide_eq_true_eq, decide_eq_false_iff_not, Bool.not_eq_true', Bool.not_eq_false', Bool.not_not] at hb) <;> (try (exfalso; omega)) <;> (try subst hb) <;> try simp only [hb, decide_true, decide_false])) <;> try simp (disch := first | exact dsch | kernel_rfl) only [go_sem, ↓reduceIte, Nat.reduceEqDiff, Nat.reduceLT, Nat.reduceAdd, reduceCtorEq, Int.reduceToNat, Try.ntmps135, Try.results135, fr, hq2, h5, i_shr, i_shl, i_gt0, hbit]))
    · have hlt : i < bl q := by
        rcases Nat.lt_or_ge i (bl q) with k | k
        · exact k
        · have := Nat.div_eq_of_lt (Nat.lt_of_lt_of_le (lt_bl q) (Nat.pow_le_pow_right (n := 2) (by omega) k)); omega
      refine hK _ _ hlt (by rfl) (by exact xt) ?_
      simp [go_sem, xs_succ, hbit, h5]
    · refine Is.mk ?_ (by exact xt)
      rw [pm, X_xs (bl_zero_div (s := q) (j := i) (Nat.eq_zero_of_not_pos hb))]
--@CON impl.times: exact times_ok _ _ _ _ (by assumption) (by assumption) (by omega) _

theorem poTimes_ok (p q a b : Nat) (hp : p < 2 ^ a) (hq : q < 2 ^ (b + 1)) (hab : a + b ≤ 61) (H : AH) : E 130 [.int .i64 p, .int .i64 q] H (Is (.int .i64 (pm p q : Nat)) H) := by
  have hq63 := lt63_of hq (by omega)
  have hx : ∀ i, i ≤ b + 1 → xs (fun k => p * 2 ^ k) q i < 9223372036854775808 := fun i hi =>
    lt63_of (n := a + b) (xs_lt fun k hk hb => mul_pow_lt hp (bit_le hb hq)) (by omega)
  refine Ev.enterK (fn := Try.f130) rfl Try.func130 rfl (by kernel_rfl) (by simp [Try.ntmps130]) ?_
  (simp (disch := first | exact dsch | kernel_rfl) only [go_sem, ↓reduceIte, Nat.reduceEqDiff, Nat.reduceLT, Nat.reduceAdd, reduceCtorEq, Int.reduceToNat, Try.ntmps130, Try.results130] <;> repeat' ((first | refine AK.drawT (by kernel_rfl) ?_ | ((first | refine ABK_mk ?_ ?_ | refine AGK_mk ?_ ?_) <;> intro hb <;> (try simp only [decide_eq_true_eq, decide_eq_false_iff_not, Bool.not_eq_true', Bool.not_eq_false', Bool.not_not] at hb) <;> (try (exfalso; omega)) <;> (try subst hb) <;> try simp only [hb, decide_true, decide_false])) <;> try simp (disch := first | exact dsch | kernel_rfl) only [go_sem, ↓reduceIte, Nat.reduceEqDiff, Nat.reduceLT, Nat.reduceAdd, reduceCtorEq, Int.reduceToNat, Try.ntmps130, Try.results130]))
  refine (AK.whilex [0, 1, 5, 6, 7, 8, 9, 10, 11, 12, 13, 14, 15, 16, 17] (by kernel_rfl) (fun k tm H' => ∃ j : Nat, k = q / 2 ^ j ∧ tm 1 = .int .i64 (q / 2 ^ j : Nat) ∧ tm 0 = .int .i64 (p * 2 ^ j : Nat) ∧ tm 5 = .int .i64 (xs (fun k => p * 2 ^ k) q j : Nat) ∧ j ≤ bl q) q
    ⟨0, by simp, by simp [go_sem], by simp [go_sem], by simp [go_sem, xs], by omega⟩ ?_)
  rintro k tm H' K fr hxx ⟨j, rfl, h1, h0, h5, hj⟩ hK
  have hl := bl_le hq
  have hxi := hx j (by omega)
  have hd := div_lt63 (j := j) hq63
  have hp0 : p * 2 ^ j < 9223372036854775808 := lt63_of (n := a + (b + 1)) (mul_pow_lt (i := j) hp (by omega)) (by omega)
  by_cases hz : q / 2 ^ j = 0
  · (simp (disch := first | exact dsch | kernel_rfl) only [go_sem, ↓reduceIte, Nat.reduceEqDiff, Nat.reduceLT, Nat.reduceAdd, reduceCtorEq, Int.reduceToNat, Try.ntmps130, Try.results130, fr, h0, h1, h5, hz, i_gt0] <;> repeat' ((first | refine AK.drawT (by kernel_rfl) ?_ | ((first | refine ABK_mk ?_ ?_ | refine AGK_mk ?_ ?_) <;> intro hb <;> (try simp only [decide_eq_true_eq, decide_eq_false_iff_not, Bool.not_eq_true', Bool.not_eq_false', Bool.not_not] at hb) <;> (try (exfalso; omega)) <;> (try subst hb) <;> try simp only [hb, decide_true, decide_false])) <;> try simp (disch := first | exact dsch | kernel_rfl) only [go_sem, ↓reduceIte, Nat.reduceEqDiff, Nat.reduceLT, Nat.reduceAdd, reduceCtorEq, Int.reduceToNat, Try.ntmps130, Try.results130, fr, h0, h1, h5, hz, i_gt0]))
    refine Is.mk ?_ (by exact xt)
    rw [pm, X_xs (bl_zero_div (s := q) (j := j) hz)]
  · have hlt : j < bl q := by
      rcases Nat.lt_or_ge j (bl q) with k | k
      · exact k
      · have := Nat.div_eq_of_lt (Nat.lt_of_lt_of_le (lt_bl q) (Nat.pow_le_pow_right (n := 2) (by omega) k)); omega
    have hpos : 0 < q / 2 ^ j := Nat.pos_of_ne_zero hz
    have hp1 : p * 2 ^ j * 2 < 9223372036854775808 := by
      have := lt63_of (n := a + (b + 1)) (mul_pow_lt (i := j + 1) hp (by omega)) (by omega)
      rwa [Nat.pow_succ, ← Nat.mul_assoc] at this
    have e1 : q / 2 ^ j / 2 = q / 2 ^ (j + 1) := by rw [Nat.pow_succ, Nat.div_div_eq_div_mul]
    have e2 : p * 2 ^ j * 2 = p * 2 ^ (j + 1) := by rw [Nat.pow_succ, Nat.mul_assoc]
    (simp (disch := first | exact dsch | kernel_rfl) only [go_sem, ↓reduceIte, Nat.reduceEqDiff, Nat.reduceLT, Nat.reduceAdd, reduceCtorEq, Int.reduceToNat, Try.ntmps130, Try.results130, fr, h0, h1, h5, i_gt0, hpos, i_half, i_mod2, i_shl1] <;> repeat' ((first | refine AK.drawT (by kernel_rfl) ?_ | ((first | refine ABK_mk ?_ ?_ | refine AGK_mk ?_ ?_) <;> intro hb <;> (try simp only [decide_eq_true_eq, decide_eq_false_iff_not, Bool.not_eq_true', Bool.not_eq_false', Bool.not_not] at hb) <;> (try (exfalso; omega)) <;> (try subst hb) <;> try simp only [hb, decide_true, decide_false])) <;> try simp (disch := first | exact dsch | kernel_rfl) only [go_sem, ↓reduceIte, Nat.reduceEqDiff, Nat.reduceLT, Nat.reduceAdd, reduceCtorEq, Int.reduceToNat, Try.ntmps130, Try.results130, fr, h0, h1, h5, i_gt0, hpos, i_half, i_mod2, i_shl1]))
    · refine hK _ _ _ ?_ (by exact xt) ⟨j + 1, rfl, ?_, ?_, ?_, by omega⟩
      · rw [← e1]; exact Nat.div_lt_self hpos (by omega)
      · simp only [go_sem, ↓reduceIte, Nat.reduceEqDiff, e1]
      · simp only [go_sem, ↓reduceIte, Nat.reduceEqDiff, e2]
      · have : q.testBit j = true := (testBit_mod q j).1 (by omega)
        simp only [go_sem, ↓reduceIte, Nat.reduceEqDiff, xs_succ, this]
    · refine hK _ _ _ ?_ (by exact xt) ⟨j + 1, rfl, ?_, ?_, ?_, by omega⟩
      · rw [← e1]; exact Nat.div_lt_self hpos (by omega)
      · simp only [go_sem, ↓reduceIte, Nat.reduceEqDiff, e1]
      · simp only [go_sem, ↓reduceIte, Nat.reduceEqDiff, e2]
      · have : ¬ q.testBit j = true := fun h => hb (by have := (testBit_mod q j).2 h; omega)
        simp [go_sem, xs_succ, this, h5]
--@CON spec.poTimes: exact poTimes_ok _ _ _ _ (by assumption) (by assumption) (by omega) _

end Go.Proofs.Ytopbfmhajbjepaa
