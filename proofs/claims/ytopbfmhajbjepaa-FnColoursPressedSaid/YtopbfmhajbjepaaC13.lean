/- Contracts: polynomials are divided, and their greatest common divisors. -/
import Derived.Test.YtopbfmhajbjepaaC12
namespace Go.Proofs.Ytopbfmhajbjepaa
open Go
set_option linter.unusedSimpArgs false
set_option linter.unusedVariables false

theorem or_xor {a k : Nat} (h : a.testBit k = false) : a ||| 2 ^ k = a ^^^ 2 ^ k := by
  refine Nat.eq_of_testBit_eq fun i => ?_
  rw [Nat.testBit_or, Nat.testBit_xor]
  by_cases e : k = i
  · subst e; rw [h]; simp
  · rw [Nat.testBit_two_pow_of_ne e]; simp
theorem deg_mulpow {q d k : Nat} (h : Deg q d) : Deg (q * 2 ^ k) (d + k) := by
  have := h.pm (b := k) (q := 2 ^ k) ⟨Nat.testBit_two_pow_self, Nat.pow_lt_pow_right (by omega) (by omega)⟩
  rwa [pm_pow] at this
/-- One step of a division. -/
theorem div_step {p q d k out p0 : Nat} (hq : Deg q d) (hp : Deg p (k + d)) (h : p0 = pm q out ^^^ p) : p0 = pm q (out ^^^ 2 ^ k) ^^^ (p ^^^ q * 2 ^ k) ∧ p ^^^ q * 2 ^ k < 2 ^ (k + d) := by
  refine ⟨?_, ?_⟩
  · rw [pm_addR, pm_pow, h]
    rw [show pm q out ^^^ q * 2 ^ k ^^^ (p ^^^ q * 2 ^ k) = (q * 2 ^ k ^^^ (q * 2 ^ k ^^^ (pm q out ^^^ p))) by ac_rfl, xor_can]
  · have := deg_mulpow (k := k) hq
    rw [Nat.add_comm] at this
    exact hp.same this

theorem divide_ok (p0 q d : Nat) (hp : p0 < 9223372036854775808) (hq : Deg q d) (hq63 : q < 9223372036854775808) (H : AH) :
    E 133 [.int .i64 p0, .int .i64 q] H (Is (.tup [.int .i64 (pdiv p0 q : Nat), .int .i64 (pmod p0 q : Nat)]) H) := by
  have htq := tp_deg hq
  have hd63 : d < 63 := by
    have := hq.ge
    rcases Nat.lt_or_ge d 63 with k | k
    · exact k
    · have := Nat.pow_le_pow_right (n := 2) (by omega) k; rw [pow63] at this; omega
  refine Ev.enterK (fn := Try.f133) rfl Try.func133 rfl (by kernel_rfl) (by simp [Try.ntmps133]) ?_
  (simp (disch := first | exact dsch | kernel_rfl) only [go_sem, ↓reduceIte, Nat.reduceEqDiff, Nat.reduceLT, Nat.reduceAdd, reduceCtorEq, Int.reduceToNat, Try.ntmps133, Try.results133] <;> repeat' ((first | (refine AOK_is (by exact degree_ok _ (by first | assumption | omega) _) ?_; intro Hc hxc) | refine AK.drawT (by kernel_rfl) ?_ | ((first | refine ABK_mk ?_ ?_ | refine AGK_mk ?_ ?_) <;> intro hb <;> (try simp only [decide_eq_true_eq, decide_eq_false_iff_not, Bool.not_eq_true', Bool.not_eq_false', Bool.not_not] at hb) <;> (try (exfalso; omega)) <;> (try subst hb) <;> try simp only [hb, decide_true, decide_false])) <;> try simp (disch := first | exact dsch | kernel_rfl) only [go_sem, ↓reduceIte, Nat.reduceEqDiff, Nat.reduceLT, Nat.reduceAdd, reduceCtorEq, Int.reduceToNat, Try.ntmps133, Try.results133]))
  refine (AK.whilex [0, 6, 7, 8, 9, 10, 11, 12, 13, 14, 15, 16, 17, 18, 19, 20, 21, 22, 23, 24, 25, 26] (by kernel_rfl) (fun k tm H' => ∃ out : Nat, tm 0 = .int .i64 k ∧ tm 6 = .int .i64 out ∧ p0 = pm q out ^^^ k ∧ k < 9223372036854775808 ∧ out < 2 ^ 63 ∧ (k ≠ 0 → ∀ i, i + d ≤ k.log2 → out.testBit i = false)) p0
    ⟨0, by simp [go_sem], by simp [go_sem], by rw [pm_zeroR, Nat.zero_xor], hp, by decide, fun _ _ _ => Nat.zero_testBit _⟩ ?_)
  rintro p tm H' K fr hx ⟨out, h0, h6, he, hp63, ho, hb6⟩ hK
  by_cases hlt : p < 2 ^ d
  · have htp : ¬ ((d : Int) ≤ tp p) := by
      unfold tp; split
      · omega
      · rename_i e; have := (Nat.log2_lt e).2 hlt; omega
    (simp (disch := first | exact dsch | kernel_rfl) only [go_sem, ↓reduceIte, Nat.reduceEqDiff, Nat.reduceLT, Nat.reduceAdd, reduceCtorEq, Int.reduceToNat, Try.ntmps133, Try.results133, fr, h0, h6, htq, htp] <;> repeat' ((first | (refine AOK_is (by exact degree_ok _ (by first | assumption | omega) _) ?_; intro Hc hxc) | refine AK.drawT (by kernel_rfl) ?_ | ((first | refine ABK_mk ?_ ?_ | refine AGK_mk ?_ ?_) <;> intro hb <;> (try simp only [decide_eq_true_eq, decide_eq_false_iff_not, Bool.not_eq_true', Bool.not_eq_false', Bool.not_not] at hb) <;> (try (exfalso; omega)) <;> (try subst hb) <;> try simp only [hb, decide_true, decide_false])) <;> try simp (disch := first | exact dsch | kernel_rfl) only [go_sem, ↓reduceIte, Nat.reduceEqDiff, Nat.reduceLT, Nat.reduceAdd, reduceCtorEq, Int.reduceToNat, Try.ntmps133, Try.results133, fr, h0, h6, htq, htp]))
    obtain ⟨a, b⟩ := pdm_of hq hlt he
    exact Is.mk (by rw [a, b]) (by exact xt)
  · have hpne : p ≠ 0 := by have := Nat.two_pow_pos d; omega
    have hdp := Deg.of hpne
    have hge : d ≤ p.log2 := by
      rcases Nat.lt_or_ge p.log2 d with k | k
      · exact absurd ((Nat.log2_lt hpne).1 k) hlt
      · exact k
    obtain ⟨k, hk⟩ : ∃ k, p.log2 = k + d := ⟨p.log2 - d, by omega⟩
    have hl63 : p.log2 < 63 := (Nat.log2_lt hpne).2 (by rw [pow63]; exact hp63)
    rw [hk] at hdp
    have htp := tp_deg hdp
    have hle : (d : Int) ≤ ((k + d : Nat) : Int) := by omega
    have hsub : ((k + d : Nat) : Int) - (d : Int) = (k : Int) := by omega
    obtain ⟨s1, s2⟩ := div_step hq hdp he
    have hout := hb6 hpne k (by omega)
    have hqk : q * 2 ^ k < 9223372036854775808 := lt63_of (n := d + k + 1) (deg_mulpow hq).lt (by omega)
    have hpk := two_pow_lt (j := k) (by omega)
    have ho63 : out < 9223372036854775808 := by rw [← pow63]; exact ho
    (simp (disch := first | exact dsch | kernel_rfl) only [go_sem, ↓reduceIte, Nat.reduceEqDiff, Nat.reduceLT, Nat.reduceAdd, reduceCtorEq, Int.reduceToNat, Try.ntmps133, Try.results133, fr, h0, h6, htq, htp, hle, hsub, i_shl] <;> repeat' ((first | (refine AOK_is (by exact degree_ok _ (by first | assumption | omega) _) ?_; intro Hc hxc) | refine AK.drawT (by kernel_rfl) ?_ | ((first | refine ABK_mk ?_ ?_ | refine AGK_mk ?_ ?_) <;> intro hb <;> (try simp only [decide_eq_true_eq, decide_eq_false_iff_not, Bool.not_eq_true', Bool.not_eq_false', Bool.not_not] at hb) <;> (try (exfalso; omega)) <;> (try subst hb) <;> try simp only [hb, decide_true, decide_false])) <;> try simp (disch := first | exact dsch | kernel_rfl) only [go_sem, ↓reduceIte, Nat.reduceEqDiff, Nat.reduceLT, Nat.reduceAdd, reduceCtorEq, Int.reduceToNat, Try.ntmps133, Try.results133, fr, h0, h6, htq, htp, hle, hsub, i_shl]))
    refine hK _ _ _ ?_ (by exact xt) ⟨out ^^^ 2 ^ k, by simp only [go_sem, ↓reduceIte, Nat.reduceEqDiff], by simp only [go_sem, ↓reduceIte, Nat.reduceEqDiff, or_xor hout], s1, ?_, ?_, ?_⟩
    · exact Nat.lt_of_lt_of_le s2 hdp.ge
    · exact lt63_of s2 (by omega)
    · exact Nat.xor_lt_two_pow ho (Nat.pow_lt_pow_right (by omega) (by omega))
    · intro hne i hi
      have hl := (Nat.log2_lt hne).2 s2
      rw [Nat.testBit_xor, hb6 hpne i (by omega), Nat.testBit_two_pow_of_ne (by omega)]; rfl
--@CON impl.divide: exact divide_ok _ _ _ (by first | assumption | omega) (by assumption) (by first | assumption | omega) _

theorem poDivide_ok (p0 q d : Nat) (hp : p0 < 9223372036854775808) (hq : Deg q d) (hq63 : q < 9223372036854775808) (H : AH) :
    E 128 [.int .i64 p0, .int .i64 q] H (Is (.tup [.int .i64 (pdiv p0 q : Nat), .int .i64 (pmod p0 q : Nat)]) H) := by
  have htq := tp_deg hq
  have hd63 : d < 63 := by
    have := hq.ge
    rcases Nat.lt_or_ge d 63 with k | k
    · exact k
    · have := Nat.pow_le_pow_right (n := 2) (by omega) k; rw [pow63] at this; omega
  have htp : -1 ≤ tp p0 ∧ tp p0 ≤ 62 := by
    have := bl_le (n := 63) (by rw [pow63]; exact hp)
    rw [tp_bl]; omega
  have hp0 : p0 < 2 ^ (tp p0 + 1).toNat := by
    have := lt_bl p0
    rw [tp_bl]; rwa [show ((bl p0 : Int) - 1 + 1).toNat = bl p0 by omega]
  refine Ev.enterK (fn := Try.f128) rfl Try.func128 rfl (by kernel_rfl) (by simp [Try.ntmps128]) ?_
  (simp (disch := first | exact dsch | kernel_rfl) only [go_sem, ↓reduceIte, Nat.reduceEqDiff, Nat.reduceLT, Nat.reduceAdd, reduceCtorEq, Int.reduceToNat, Try.ntmps128, Try.results128, htq] <;> repeat' ((first | (refine AOK_is (by first | exact grIn_ok _ _ (by omega) _ | exact grIn_okz _ _ (by omega) (by omega) (by omega) _) ?_; intro Hc hxc) | (refine AOK_is (by exact poDegree_ok _ (by first | assumption | omega) _) ?_; intro Hc hxc) | refine AK.drawT (by kernel_rfl) ?_ | ((first | refine ABK_mk ?_ ?_ | refine AGK_mk ?_ ?_) <;> intro hb <;> (try simp only [decide_eq_true_eq, decide_eq_false_iff_not, Bool.not_eq_true', Bool.not_eq_false', Bool.not_not] at hb) <;> (try (exfalso; omega)) <;> (try subst hb) <;> try simp only [hb, decide_true, decide_false])) <;> try simp (disch := first | exact dsch | kernel_rfl) only [go_sem, ↓reduceIte, Nat.reduceEqDiff, Nat.reduceLT, Nat.reduceAdd, reduceCtorEq, Int.reduceToNat, Try.ntmps128, Try.results128, htq]))
  refine (AK.whilex [0, 6, 7, 13, 14, 15, 16, 17, 18, 19, 20, 21, 22, 23, 24, 25, 26, 27, 28, 29, 30, 31] (by kernel_rfl) (fun m tm H' => ∃ (out p : Nat) (z : Int), tm 0 = .int .i64 p ∧ tm 6 = .int .i64 out ∧ tm 7 = .int .i64 z ∧ (z = (m : Int) - 1 ∨ m = 0 ∧ -100 < z ∧ z < 0) ∧ p0 = pm q out ^^^ p ∧ p < 2 ^ (m + d) ∧ m + d ≤ 63 ∧ out < 2 ^ 63 ∧ (∀ i < m, out.testBit i = false)) (tp p0 - d + 1).toNat
    ⟨0, p0, tp p0 - d, by simp [go_sem], by simp [go_sem], by simp [go_sem], by omega, by rw [pm_zeroR, Nat.zero_xor], Nat.lt_of_lt_of_le hp0 (Nat.pow_le_pow_right (by omega) (by omega)), by omega, by decide, fun _ _ => Nat.zero_testBit _⟩ ?_)
  rintro m tm H' K fr hx ⟨out, p, z, h0, h6, h7, hz, he, hpm, hmd, ho, hb6⟩ hK
  have ho63 : out < 9223372036854775808 := by rw [← pow63]; exact ho
  have hp63 := lt63_of hpm hmd
  rcases Nat.eq_zero_or_pos m with hm | hm
  · subst hm
    have hz0 : ¬ (0 ≤ z) := by omega
    (simp (disch := first | exact dsch | kernel_rfl) only [go_sem, ↓reduceIte, Nat.reduceEqDiff, Nat.reduceLT, Nat.reduceAdd, reduceCtorEq, Int.reduceToNat, Try.ntmps128, Try.results128, fr, h0, h6, h7, htq, hz0] <;> repeat' ((first | (refine AOK_is (by first | exact grIn_ok _ _ (by omega) _ | exact grIn_okz _ _ (by omega) (by omega) (by omega) _) ?_; intro Hc hxc) | (refine AOK_is (by exact poDegree_ok _ (by first | assumption | omega) _) ?_; intro Hc hxc) | refine AK.drawT (by kernel_rfl) ?_ | ((first | refine ABK_mk ?_ ?_ | refine AGK_mk ?_ ?_) <;> intro hb <;> (try simp only [decide_eq_true_eq, decide_eq_false_iff_not, Bool.not_eq_true', Bool.not_eq_false', Bool.not_not] at hb) <;> (try (exfalso; omega)) <;> (try subst hb) <;> try simp only [hb, decide_true, decide_false])) <;> try simp (disch := first | exact dsch | kernel_rfl) only [go_sem, ↓reduceIte, Nat.reduceEqDiff, Nat.reduceLT, Nat.reduceAdd, reduceCtorEq, Int.reduceToNat, Try.ntmps128, Try.results128, fr, h0, h6, h7, htq, hz0]))
    rw [Nat.zero_add] at hpm
    obtain ⟨a, b⟩ := pdm_of hq hpm he
    exact Is.mk (by rw [a, b]) (by exact xt)
  · obtain ⟨k, rfl⟩ : ∃ k, m = k + 1 := ⟨m - 1, by omega⟩
    obtain rfl : z = (k : Int) := by omega
    have hkd : (k : Int) + (d : Int) = ((k + d : Nat) : Int) := by omega
    have hk0 : (0 : Int) ≤ (k : Int) := by omega
    by_cases hbit : p.testBit (k + d) = true
    · have hdp : Deg p (k + d) := ⟨hbit, by rwa [show k + d + 1 = k + 1 + d by omega]⟩
      obtain ⟨s1, s2⟩ := div_step hq hdp he
      have hout := hb6 k (by omega)
      have hqk : q * 2 ^ k < 9223372036854775808 := lt63_of (n := d + k + 1) (deg_mulpow hq).lt (by omega)
      have hpk := two_pow_lt (j := k) (by omega)
      (simp (disch := first | exact dsch | kernel_rfl) only [go_sem, ↓reduceIte, Nat.reduceEqDiff, Nat.reduceLT, Nat.reduceAdd, reduceCtorEq, Int.reduceToNat, Try.ntmps128, Try.results128, fr, h0, h6, h7, htq, hkd, hk0, hbit, i_shl] <;> repeat' ((first | (refine AOK_is (by first | exact grIn_ok _ _ (by omega) _ | exact grIn_okz _ _ (by omega) (by omega) (by omega) _) ?_; intro Hc hxc) | (refine AOK_is (by exact poDegree_ok _ (by first | assumption | omega) _) ?_; intro Hc hxc) | refine AK.drawT (by kernel_rfl) ?_ | ((first | refine ABK_mk ?_ ?_ | refine AGK_mk ?_ ?_) <;> intro hb <;> (try simp only [decide_eq_true_eq, decide_eq_false_iff_not, Bool.not_eq_true', Bool.not_eq_false', Bool.not_not] at hb) <;> (try (exfalso; omega)) <;> (try subst hb) <;> try simp only [hb, decide_true, decide_false])) <;> try simp (disch := first | exact dsch | kernel_rfl) only [go_sem, ↓reduceIte, Nat.reduceEqDiff, Nat.reduceLT, Nat.reduceAdd, reduceCtorEq, Int.reduceToNat, Try.ntmps128, Try.results128, fr, h0, h6, h7, htq, hkd, hk0, hbit, i_shl]))
      refine hK k _ _ (by omega) (by exact xt) ⟨out ^^^ 2 ^ k, _, (k : Int) - 1, by rfl, by simp only [go_sem, ↓reduceIte, Nat.reduceEqDiff, or_xor hout], by simp only [go_sem, ↓reduceIte, Nat.reduceEqDiff], .inl rfl, s1, s2, by omega, ?_, ?_⟩
      · exact Nat.xor_lt_two_pow ho (Nat.pow_lt_pow_right (by omega) (by omega))
      · intro i hi
        rw [Nat.testBit_xor, hb6 i (by omega), Nat.testBit_two_pow_of_ne (by omega)]; rfl
    · (simp (disch := first | exact dsch | kernel_rfl) only [go_sem, ↓reduceIte, Nat.reduceEqDiff, Nat.reduceLT, Nat.reduceAdd, reduceCtorEq, Int.reduceToNat, Try.ntmps128, Try.results128, fr, h0, h6, h7, htq, hkd, hk0, hbit, i_shl] <;> repeat' ((first | (refine AOK_is (by first | exact grIn_ok _ _ (by omega) _ | exact grIn_okz _ _ (by omega) (by omega) (by omega) _) ?_; intro Hc hxc) | (refine AOK_is (by exact poDegree_ok _ (by first | assumption | omega) _) ?_; intro Hc hxc) | refine AK.drawT (by kernel_rfl) ?_ | ((first | refine ABK_mk ?_ ?_ | refine AGK_mk ?_ ?_) <;> intro hb <;> (try simp only [decide_eq_true_eq, decide_eq_false_iff_not, Bool.not_eq_true', Bool.not_eq_false', Bool.not_not] at hb) <;> (try (exfalso; omega)) <;> (try subst hb) <;> try simp only [hb, decide_true, decide_false])) <;> try simp (disch := first | exact dsch | kernel_rfl) only [go_sem, ↓reduceIte, Nat.reduceEqDiff, Nat.reduceLT, Nat.reduceAdd, reduceCtorEq, Int.reduceToNat, Try.ntmps128, Try.results128, fr, h0, h6, h7, htq, hkd, hk0, hbit, i_shl]))
      refine hK k _ _ (by omega) (by exact xt) ⟨out, p, (k : Int) - 1, by simp [go_sem, h0], by simp [go_sem, h6], by simp only [go_sem, ↓reduceIte, Nat.reduceEqDiff], .inl rfl, he, ?_, by omega, ho, fun i hi => hb6 i (by omega)⟩
      refine Nat.lt_pow_two_of_testBit _ fun i hi => ?_
      by_cases e2 : i = k + d
      · subst e2; simpa using hbit
      · exact Nat.testBit_lt_two_pow (Nat.lt_of_lt_of_le hpm (Nat.pow_le_pow_right (by omega) (by omega)))
--@CON spec.poDivide: exact poDivide_ok _ _ _ (by first | assumption | omega) (by assumption) (by first | assumption | omega) _

theorem modulo_ok (p0 q d : Nat) (hp : p0 < 9223372036854775808) (hq : Deg q d) (hq63 : q < 9223372036854775808) (H : AH) :
    E 205 [.int .i64 p0, .int .i64 q] H (Is (.int .i64 (pmod p0 q : Nat)) H) := by
  refine Ev.enterK (fn := Try.f205) rfl Try.func205 rfl (by kernel_rfl) (by simp [Try.ntmps205]) ?_
  (simp (disch := first | exact dsch | kernel_rfl) only [go_sem, ↓reduceIte, Nat.reduceEqDiff, Nat.reduceLT, Nat.reduceAdd, reduceCtorEq, Int.reduceToNat, Try.ntmps205, Try.results205] <;> repeat' ((first | (refine AOK_is (by exact divide_ok _ _ _ (by first | assumption | omega) (by assumption) (by first | assumption | omega) _) ?_; intro Hc hxc) | refine AK.drawT (by kernel_rfl) ?_ | ((first | refine ABK_mk ?_ ?_ | refine AGK_mk ?_ ?_) <;> intro hb <;> (try simp only [decide_eq_true_eq, decide_eq_false_iff_not, Bool.not_eq_true', Bool.not_eq_false', Bool.not_not] at hb) <;> (try (exfalso; omega)) <;> (try subst hb) <;> try simp only [hb, decide_true, decide_false])) <;> try simp (disch := first | exact dsch | kernel_rfl) only [go_sem, ↓reduceIte, Nat.reduceEqDiff, Nat.reduceLT, Nat.reduceAdd, reduceCtorEq, Int.reduceToNat, Try.ntmps205, Try.results205]))
  exact Is.mk rfl (by exact xt)
--@CON impl.modulo: exact modulo_ok _ _ _ (by first | assumption | omega) (by assumption) (by first | assumption | omega) _

theorem pgF_zero (n p : Nat) : pgF n p 0 = p := by cases n <;> simp [pgF]
theorem gcd_ok (p0 q0 : Nat) (hp : p0 < 9223372036854775808) (hq63 : q0 < 9223372036854775808) (H : AH) :
    E 134 [.int .i64 p0, .int .i64 q0] H (Is (.int .i64 (pg p0 q0 : Nat)) H) := by
  refine Ev.enterK (fn := Try.f134) rfl Try.func134 rfl (by kernel_rfl) (by simp [Try.ntmps134]) ?_
  (simp (disch := first | exact dsch | kernel_rfl) only [go_sem, ↓reduceIte, Nat.reduceEqDiff, Nat.reduceLT, Nat.reduceAdd, reduceCtorEq, Int.reduceToNat, Try.ntmps134, Try.results134] <;> repeat' ((first | (refine AOK_is (by exact modulo_ok _ _ _ (by first | assumption | omega) (by assumption) (by first | assumption | omega) _) ?_; intro Hc hxc) | refine AK.drawT (by kernel_rfl) ?_ | ((first | refine ABK_mk ?_ ?_ | refine AGK_mk ?_ ?_) <;> intro hb <;> (try simp only [decide_eq_true_eq, decide_eq_false_iff_not, Bool.not_eq_true', Bool.not_eq_false', Bool.not_not] at hb) <;> (try (exfalso; omega)) <;> (try subst hb) <;> try simp only [hb, decide_true, decide_false])) <;> try simp (disch := first | exact dsch | kernel_rfl) only [go_sem, ↓reduceIte, Nat.reduceEqDiff, Nat.reduceLT, Nat.reduceAdd, reduceCtorEq, Int.reduceToNat, Try.ntmps134, Try.results134]))
  refine (AK.whilex [0, 1, 5, 6, 7, 8, 9, 10] (by kernel_rfl) (fun k tm H' => ∃ p n : Nat, tm 0 = .int .i64 p ∧ tm 1 = .int .i64 k ∧ pgF n p k = pg p0 q0 ∧ (k = 0 ∨ k.log2 + 2 ≤ n) ∧ p < 9223372036854775808 ∧ k < 9223372036854775808) q0
    ⟨p0, q0.log2 + 2, by simp [go_sem], by simp [go_sem], rfl, .inr (Nat.le_refl _), hp, hq63⟩ ?_)
  rintro q tm H' K fr hx ⟨p, n, h0, h1, hg, hn, hp', hq'⟩ hK
  by_cases hz : q = 0
  · subst hz
    (simp (disch := first | exact dsch | kernel_rfl) only [go_sem, ↓reduceIte, Nat.reduceEqDiff, Nat.reduceLT, Nat.reduceAdd, reduceCtorEq, Int.reduceToNat, Try.ntmps134, Try.results134, fr, h0, h1, Int.natCast_eq_zero] <;> repeat' ((first | (refine AOK_is (by exact modulo_ok _ _ _ (by first | assumption | omega) (by assumption) (by first | assumption | omega) _) ?_; intro Hc hxc) | refine AK.drawT (by kernel_rfl) ?_ | ((first | refine ABK_mk ?_ ?_ | refine AGK_mk ?_ ?_) <;> intro hb <;> (try simp only [decide_eq_true_eq, decide_eq_false_iff_not, Bool.not_eq_true', Bool.not_eq_false', Bool.not_not] at hb) <;> (try (exfalso; omega)) <;> (try subst hb) <;> try simp only [hb, decide_true, decide_false])) <;> try simp (disch := first | exact dsch | kernel_rfl) only [go_sem, ↓reduceIte, Nat.reduceEqDiff, Nat.reduceLT, Nat.reduceAdd, reduceCtorEq, Int.reduceToNat, Try.ntmps134, Try.results134, fr, h0, h1, Int.natCast_eq_zero]))
    rw [pgF_zero] at hg
    exact Is.mk (by rw [hg]) (by exact xt)
  · have hd := Deg.of hz
    obtain ⟨n', rfl⟩ : ∃ n', n = n' + 1 := ⟨n - 1, by omega⟩
    simp only [pgF, if_neg hz] at hg
    have hm := (pdm (p := p) hd).2
    (simp (disch := first | exact dsch | kernel_rfl) only [go_sem, ↓reduceIte, Nat.reduceEqDiff, Nat.reduceLT, Nat.reduceAdd, reduceCtorEq, Int.reduceToNat, Try.ntmps134, Try.results134, fr, h0, h1, Int.natCast_eq_zero, hz] <;> repeat' ((first | (refine AOK_is (by exact modulo_ok _ _ _ (by first | assumption | omega) (by assumption) (by first | assumption | omega) _) ?_; intro Hc hxc) | refine AK.drawT (by kernel_rfl) ?_ | ((first | refine ABK_mk ?_ ?_ | refine AGK_mk ?_ ?_) <;> intro hb <;> (try simp only [decide_eq_true_eq, decide_eq_false_iff_not, Bool.not_eq_true', Bool.not_eq_false', Bool.not_not] at hb) <;> (try (exfalso; omega)) <;> (try subst hb) <;> try simp only [hb, decide_true, decide_false])) <;> try simp (disch := first | exact dsch | kernel_rfl) only [go_sem, ↓reduceIte, Nat.reduceEqDiff, Nat.reduceLT, Nat.reduceAdd, reduceCtorEq, Int.reduceToNat, Try.ntmps134, Try.results134, fr, h0, h1, Int.natCast_eq_zero, hz]))
    have hlt := Nat.lt_of_lt_of_le hm hd.ge
    refine hK _ _ _ hlt (by exact xt) ⟨q, n', by simp only [go_sem, ↓reduceIte, Nat.reduceEqDiff], by simp only [go_sem, ↓reduceIte, Nat.reduceEqDiff], hg, ?_, hq', by omega⟩
    by_cases z : pmod p q = 0
    · exact .inl z
    · have := (Nat.log2_lt z).2 hm; omega
--@CON impl.gcd: exact gcd_ok _ _ (by first | assumption | omega) (by first | assumption | omega) _

theorem poGcd_ok (p0 q0 : Nat) (hp : p0 < 9223372036854775808) (hq63 : q0 < 9223372036854775808) (H : AH) :
    E 129 [.int .i64 p0, .int .i64 q0] H (Is (.int .i64 (pg p0 q0 : Nat)) H) := by
  refine Ev.enterK (fn := Try.f129) rfl Try.func129 rfl (by kernel_rfl) (by simp [Try.ntmps129]) ?_
  (simp (disch := first | exact dsch | kernel_rfl) only [go_sem, ↓reduceIte, Nat.reduceEqDiff, Nat.reduceLT, Nat.reduceAdd, reduceCtorEq, Int.reduceToNat, Try.ntmps129, Try.results129] <;> repeat' ((first | (refine AOK_is (by exact poDivide_ok _ _ _ (by first | assumption | omega) (by assumption) (by first | assumption | omega) _) ?_; intro Hc hxc) | refine AK.drawT (by kernel_rfl) ?_ | ((first | refine ABK_mk ?_ ?_ | refine AGK_mk ?_ ?_) <;> intro hb <;> (try simp only [decide_eq_true_eq, decide_eq_false_iff_not, Bool.not_eq_true', Bool.not_eq_false', Bool.not_not] at hb) <;> (try (exfalso; omega)) <;> (try subst hb) <;> try simp only [hb, decide_true, decide_false])) <;> try simp (disch := first | exact dsch | kernel_rfl) only [go_sem, ↓reduceIte, Nat.reduceEqDiff, Nat.reduceLT, Nat.reduceAdd, reduceCtorEq, Int.reduceToNat, Try.ntmps129, Try.results129]))
  refine (AK.whilex [0, 1, 5, 6, 7, 8, 9, 10, 11, 12, 13, 14, 15, 16] (by kernel_rfl) (fun k tm H' => ∃ p n : Nat, tm 0 = .int .i64 p ∧ tm 1 = .int .i64 k ∧ pgF n p k = pg p0 q0 ∧ (k = 0 ∨ k.log2 + 2 ≤ n) ∧ p < 9223372036854775808 ∧ k < 9223372036854775808) q0
    ⟨p0, q0.log2 + 2, by simp [go_sem], by simp [go_sem], rfl, .inr (Nat.le_refl _), hp, hq63⟩ ?_)
  rintro q tm H' K fr hx ⟨p, n, h0, h1, hg, hn, hp', hq'⟩ hK
  by_cases hz : q = 0
  · subst hz
    (simp (disch := first | exact dsch | kernel_rfl) only [go_sem, ↓reduceIte, Nat.reduceEqDiff, Nat.reduceLT, Nat.reduceAdd, reduceCtorEq, Int.reduceToNat, Try.ntmps129, Try.results129, fr, h0, h1, i_gt0] <;> repeat' ((first | (refine AOK_is (by exact poDivide_ok _ _ _ (by first | assumption | omega) (by assumption) (by first | assumption | omega) _) ?_; intro Hc hxc) | refine AK.drawT (by kernel_rfl) ?_ | ((first | refine ABK_mk ?_ ?_ | refine AGK_mk ?_ ?_) <;> intro hb <;> (try simp only [decide_eq_true_eq, decide_eq_false_iff_not, Bool.not_eq_true', Bool.not_eq_false', Bool.not_not] at hb) <;> (try (exfalso; omega)) <;> (try subst hb) <;> try simp only [hb, decide_true, decide_false])) <;> try simp (disch := first | exact dsch | kernel_rfl) only [go_sem, ↓reduceIte, Nat.reduceEqDiff, Nat.reduceLT, Nat.reduceAdd, reduceCtorEq, Int.reduceToNat, Try.ntmps129, Try.results129, fr, h0, h1, i_gt0]))
    rw [pgF_zero] at hg
    exact Is.mk (by rw [hg]) (by exact xt)
  · have hd := Deg.of hz
    obtain ⟨n', rfl⟩ : ∃ n', n = n' + 1 := ⟨n - 1, by omega⟩
    simp only [pgF, if_neg hz] at hg
    have hm := (pdm (p := p) hd).2
    have hpos : 0 < q := by omega
    (simp (disch := first | exact dsch | kernel_rfl) only [go_sem, ↓reduceIte, Nat.reduceEqDiff, Nat.reduceLT, Nat.reduceAdd, reduceCtorEq, Int.reduceToNat, Try.ntmps129, Try.results129, fr, h0, h1, i_gt0, hpos] <;> repeat' ((first | (refine AOK_is (by exact poDivide_ok _ _ _ (by first | assumption | omega) (by assumption) (by first | assumption | omega) _) ?_; intro Hc hxc) | refine AK.drawT (by kernel_rfl) ?_ | ((first | refine ABK_mk ?_ ?_ | refine AGK_mk ?_ ?_) <;> intro hb <;> (try simp only [decide_eq_true_eq, decide_eq_false_iff_not, Bool.not_eq_true', Bool.not_eq_false', Bool.not_not] at hb) <;> (try (exfalso; omega)) <;> (try subst hb) <;> try simp only [hb, decide_true, decide_false])) <;> try simp (disch := first | exact dsch | kernel_rfl) only [go_sem, ↓reduceIte, Nat.reduceEqDiff, Nat.reduceLT, Nat.reduceAdd, reduceCtorEq, Int.reduceToNat, Try.ntmps129, Try.results129, fr, h0, h1, i_gt0, hpos]))
    have hlt := Nat.lt_of_lt_of_le hm hd.ge
    refine hK _ _ _ hlt (by exact xt) ⟨q, n', by simp only [go_sem, ↓reduceIte, Nat.reduceEqDiff], by simp only [go_sem, ↓reduceIte, Nat.reduceEqDiff], hg, ?_, hq', by omega⟩
    by_cases z : pmod p q = 0
    · exact .inl z
    · have := (Nat.log2_lt z).2 hm; omega
--@CON spec.poGcd: exact poGcd_ok _ _ (by first | assumption | omega) (by first | assumption | omega) _

end Go.Proofs.Ytopbfmhajbjepaa
