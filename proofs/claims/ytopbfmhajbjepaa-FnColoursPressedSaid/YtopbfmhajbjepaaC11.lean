/- Contracts: greatest elements of sets; polynomials. -/
import Derived.Test.YtopbfmhajbjepaaC1
import Derived.Test.YtopbfmhajbjepaaG2
namespace Go.Proofs.Ytopbfmhajbjepaa
open Go
set_option linter.unusedSimpArgs false
set_option linter.unusedVariables false

/-- The greatest element of a set, or -1. -/
def tp (s : Nat) : Int := if s = 0 then -1 else s.log2
/-- How many binary digits. -/
def bl (s : Nat) : Nat := if s = 0 then 0 else s.log2 + 1
theorem tp_bl (s : Nat) : tp s = (bl s : Int) - 1 := by unfold tp bl; split <;> omega
theorem lt_bl (s : Nat) : s < 2 ^ bl s := by
  unfold bl; split
  · rename_i h; subst h; decide
  · exact lt_log2 s
theorem bl_le {s n : Nat} (h : s < 2 ^ n) : bl s ≤ n := by
  unfold bl; split
  · omega
  · rename_i e; exact (Nat.log2_lt e).2 h
theorem bl_div {s k : Nat} (h : 2 ^ k ≤ s) : bl s = k + bl (s / 2 ^ k) := by
  have hp := Nat.two_pow_pos k
  have h0 : s ≠ 0 := by omega
  have h1 : s / 2 ^ k ≠ 0 := by have := Nat.div_pos h hp; omega
  unfold bl
  rw [if_neg h0, if_neg h1]
  have : s.log2 = k + (s / 2 ^ k).log2 := by
    refine (Nat.log2_eq_iff h0).2 ⟨?_, ?_⟩
    · have := Nat.log2_self_le h1
      rw [Nat.pow_add, Nat.mul_comm]
      exact Nat.le_trans (Nat.mul_le_mul_right _ this) (Nat.div_mul_le_self _ _)
    · have := lt_log2 (s / 2 ^ k)
      rw [Nat.add_assoc, Nat.pow_add, Nat.mul_comm]
      exact (Nat.div_lt_iff_lt_mul hp).1 this
  omega
theorem bl_zero_div {s j : Nat} (h : s / 2 ^ j = 0) : s < 2 ^ j := by
  rcases Nat.lt_or_ge s (2 ^ j) with k | k
  · exact k
  · have := Nat.div_pos k (Nat.two_pow_pos j); omega
theorem tp_deg {q d : Nat} (h : Deg q d) : tp q = (d : Int) := by unfold tp; rw [if_neg h.ne, h.log2]
theorem tp_of {s j : Nat} (h : s / 2 ^ j = 0) (k : j = 0 ∨ s / 2 ^ (j - 1) ≠ 0) : tp s = (j : Int) - 1 := by
  have h1 := bl_zero_div h
  rcases k with k | k
  · subst k; have : s = 0 := by simpa using h1
    subst this; rfl
  · have h2 : 2 ^ (j - 1) ≤ s := by
      rcases Nat.lt_or_ge s (2 ^ (j - 1)) with q | q
      · exact absurd (Nat.div_eq_of_lt q) k
      · exact q
    have hj : j ≠ 0 := by
      rintro rfl; simp at h1; subst h1; simp at k
    have h0 : s ≠ 0 := by have := Nat.two_pow_pos (j - 1); omega
    have e : s.log2 = j - 1 := (Nat.log2_eq_iff h0).2 ⟨h2, by rwa [Nat.sub_add_cancel (by omega)]⟩
    unfold tp; rw [if_neg h0, e]; omega

theorem i_half {a : Nat} (h : a < 9223372036854775808) : IntKind.i64.wrap ((a : Int).tdiv 2) = ((a / 2 : Nat) : Int) := by
  rw [show (a : Int).tdiv 2 = ((a / 2 : Nat) : Int) from rfl]
  exact wrap64_nat (Nat.lt_of_le_of_lt (Nat.div_le_self _ _) h)
theorem i_mod2 (a : Nat) : (a : Int).tmod 2 = ((a % 2 : Nat) : Int) := rfl
theorem i_shl1 {a : Nat} (h : a * 2 < 9223372036854775808) : ishl .i64 (a : Int) 1 = ((a * 2 : Nat) : Int) := by
  have := i_shl (a := a) (j := 1) (by omega) (by simpa using h)
  simpa using this
theorem pow63 : (2 : Nat) ^ 63 = 9223372036854775808 := by decide
theorem lt63_of {s n : Nat} (h : s < 2 ^ n) (hn : n ≤ 63) : s < 9223372036854775808 := Nat.lt_of_lt_of_le h (by rw [← pow63]; exact Nat.pow_le_pow_right (by omega) hn)

theorem soTop_ok (s : Nat) (hs : s < 9223372036854775808) (H : AH) : E 196 [.int .i64 s] H (Is (.int .i64 (tp s)) H) := by
  refine Ev.enterK (fn := Try.f196) rfl Try.func196 rfl (by kernel_rfl) (by simp [Try.ntmps196]) ?_
  (simp (disch := first | exact dsch | kernel_rfl) only [go_sem, ↓reduceIte, Nat.reduceEqDiff, Nat.reduceLT, Nat.reduceAdd, reduceCtorEq, Int.reduceToNat, Try.ntmps196, Try.results196] <;> repeat' ((first | refine AK.drawT (by kernel_rfl) ?_ | ((first | refine ABK_mk ?_ ?_ | refine AGK_mk ?_ ?_) <;> intro hb <;> (try simp only [decide_eq_true_eq, decide_eq_false_iff_not, Bool.not_eq_true', Bool.not_eq_false', Bool.not_not] at hb) <;> (try (exfalso; omega)) <;> (try subst hb) <;> try simp only [hb, decide_true, decide_false])) <;> try simp (disch := first | exact dsch | kernel_rfl) only [go_sem, ↓reduceIte, Nat.reduceEqDiff, Nat.reduceLT, Nat.reduceAdd, reduceCtorEq, Int.reduceToNat, Try.ntmps196, Try.results196]))
  refine (AK.whilex [0, 3, 4, 5, 6, 7, 8, 9] (by kernel_rfl) (fun k tm H' => ∃ j : Nat, k = s / 2 ^ j ∧ tm 0 = .int .i64 (s / 2 ^ j : Nat) ∧ tm 3 = .int .i64 ((j : Int) - 1) ∧ (j = 0 ∨ s / 2 ^ (j - 1) ≠ 0)) s ⟨0, by simp, by simp [go_sem], by simp [go_sem], .inl rfl⟩ ?_)
  rintro k tm H' K fr hx ⟨j, rfl, h0, h3, hj⟩ hK
  have hj63 : j ≤ 63 := by
    rcases hj with hj | hj
    · omega
    · rcases Nat.lt_or_ge (j - 1) 63 with q | q
      · omega
      · exact absurd (Nat.div_eq_of_lt (Nat.lt_of_lt_of_le (by rw [pow63]; exact hs) (Nat.pow_le_pow_right (n := 2) (by omega) q))) hj
  have hd := div_lt63 (j := j) hs
  (simp (disch := first | exact dsch | kernel_rfl) only [go_sem, ↓reduceIte, Nat.reduceEqDiff, Nat.reduceLT, Nat.reduceAdd, reduceCtorEq, Int.reduceToNat, Try.ntmps196, Try.results196, fr, h0, h3, i_half, Int.natCast_pos] <;> repeat' ((first | refine AK.drawT (by kernel_rfl) ?_ | ((first | refine ABK_mk ?_ ?_ | refine AGK_mk ?_ ?_) <;> intro hb <;> (try simp only [decide_eq_true_eq, decide_eq_false_iff_not, Bool.not_eq_true', Bool.not_eq_false', Bool.not_not] at hb) <;> (try (exfalso; omega)) <;> (try subst hb) <;> try simp only [hb, decide_true, decide_false])) <;> try simp (disch := first | exact dsch | kernel_rfl) only [go_sem, ↓reduceIte, Nat.reduceEqDiff, Nat.reduceLT, Nat.reduceAdd, reduceCtorEq, Int.reduceToNat, Try.ntmps196, Try.results196, fr, h0, h3, i_half, Int.natCast_pos]))
  · refine hK _ _ _ ?_ (by exact xt) ⟨j + 1, rfl, ?_, ?_, .inr (by rw [Nat.add_sub_cancel]; omega)⟩
    · rw [Nat.pow_succ, ← Nat.div_div_eq_div_mul]; omega
    · simp only [go_sem, ↓reduceIte, AV.int.injEq, true_and, Nat.pow_succ, ← Nat.div_div_eq_div_mul]
    · simp only [go_sem, ↓reduceIte, Nat.reduceEqDiff, AV.int.injEq, true_and]; omega
  · exact Is.mk (by rw [tp_of (Nat.eq_zero_of_not_pos (by simpa using hb)) hj]) (by exact xt)
--@CON spec.soTop: exact soTop_ok _ (by first | assumption | omega) _

theorem poDegree_ok (s : Nat) (hs : s < 9223372036854775808) (H : AH) : E 199 [.int .i64 s] H (Is (.int .i64 (tp s)) H) := by
  refine Ev.enterK (fn := Try.f199) rfl Try.func199 rfl (by kernel_rfl) (by simp [Try.ntmps199]) ?_
  (simp (disch := first | exact dsch | kernel_rfl) only [go_sem, ↓reduceIte, Nat.reduceEqDiff, Nat.reduceLT, Nat.reduceAdd, reduceCtorEq, Int.reduceToNat, Try.ntmps199, Try.results199] <;> repeat' ((first | (refine AOK_is (by exact soTop_ok _ (by first | assumption | omega) _) ?_; intro Hc hxc) | refine AK.drawT (by kernel_rfl) ?_ | ((first | refine ABK_mk ?_ ?_ | refine AGK_mk ?_ ?_) <;> intro hb <;> (try simp only [decide_eq_true_eq, decide_eq_false_iff_not, Bool.not_eq_true', Bool.not_eq_false', Bool.not_not] at hb) <;> (try (exfalso; omega)) <;> (try subst hb) <;> try simp only [hb, decide_true, decide_false])) <;> try simp (disch := first | exact dsch | kernel_rfl) only [go_sem, ↓reduceIte, Nat.reduceEqDiff, Nat.reduceLT, Nat.reduceAdd, reduceCtorEq, Int.reduceToNat, Try.ntmps199, Try.results199]))
  exact Is.mk rfl (by exact xt)
--@CON spec.poDegree: exact poDegree_ok _ (by first | assumption | omega) _


def len8 : List UInt8 := ([0, 1, 2, 2, 3, 3, 3, 3, 4, 4, 4, 4, 4, 4, 4, 4, 5, 5, 5, 5, 5, 5, 5, 5, 5, 5, 5, 5, 5, 5, 5, 5, 6, 6, 6, 6, 6, 6, 6, 6, 6, 6, 6, 6, 6, 6, 6, 6, 6, 6, 6, 6, 6, 6, 6, 6, 6, 6, 6, 6, 6, 6, 6, 6] ++ [7, 7, 7, 7, 7, 7, 7, 7, 7, 7, 7, 7, 7, 7, 7, 7, 7, 7, 7, 7, 7, 7, 7, 7, 7, 7, 7, 7, 7, 7, 7, 7, 7, 7, 7, 7, 7, 7, 7, 7, 7, 7, 7, 7, 7, 7, 7, 7, 7, 7, 7, 7, 7, 7, 7, 7, 7, 7, 7, 7, 7, 7, 7, 7]) ++ ([8, 8, 8, 8, 8, 8, 8, 8, 8, 8, 8, 8, 8, 8, 8, 8, 8, 8, 8, 8, 8, 8, 8, 8, 8, 8, 8, 8, 8, 8, 8, 8, 8, 8, 8, 8, 8, 8, 8, 8, 8, 8, 8, 8, 8, 8, 8, 8, 8, 8, 8, 8, 8, 8, 8, 8, 8, 8, 8, 8, 8, 8, 8, 8] ++ [8, 8, 8, 8, 8, 8, 8, 8, 8, 8, 8, 8, 8, 8, 8, 8, 8, 8, 8, 8, 8, 8, 8, 8, 8, 8, 8, 8, 8, 8, 8, 8, 8, 8, 8, 8, 8, 8, 8, 8, 8, 8, 8, 8, 8, 8, 8, 8, 8, 8, 8, 8, 8, 8, 8, 8, 8, 8, 8, 8, 8, 8, 8, 8])
theorem len8_bl : ∀ n < 256, (⟨len8.toArray⟩ : ByteArray)[n]?.map (·.toNat) = some (bl n) := by decide +kernel
theorem len8_ix {S : ByteArray} (hS : S.data = len8.toArray) {k : IntKind} {n : Nat} (h : n < 256) : aindex TA 9 (.str S) (.int k (n : Int)) = some (.int .u8 (bl n : Nat)) := by
  have e1 := len8_bl n h
  have e0 : S = ⟨len8.toArray⟩ := by cases S; simp only at hS; rw [hS]
  rw [← e0] at e1
  have e2 : aindex TA 9 (.str S) (.int k (n : Int)) = match S[n]? with | some b => some (.int .u8 b.toNat) | none => none := by
    have : (if (0 : Int) ≤ n then (match S[n]? with | some b => some (AV.int .u8 b.toNat) | none => none) else none) = match S[n]? with | some b => some (AV.int .u8 b.toNat) | none => none := if_pos (by omega)
    exact this
  rw [e2]
  cases hb : S[n]? with
  | none => rw [hb] at e1; cases e1
  | some b => rw [hb] at e1; simp at e1; simp [e1]

theorem u64_shr (a : Nat) {j : Nat} (h : j ≤ 64) : ishr .u64 (a : Int) (j : Int) = ((a / 2 ^ j : Nat) : Int) := by
  unfold ishr
  rw [Int.toNat_natCast, show min j IntKind.u64.bits = j from Nat.min_eq_left h]
  have : ((2 : Int) ^ j) = ((2 ^ j : Nat) : Int) := by simp
  rw [this, Int.ofNat_fdiv]
theorem u64_shr32 (a : Nat) : ishr .u64 (a : Int) 32 = ((a / 4294967296 : Nat) : Int) := u64_shr a (j := 32) (by omega)
theorem u64_shr16 (a : Nat) : ishr .u64 (a : Int) 16 = ((a / 65536 : Nat) : Int) := u64_shr a (j := 16) (by omega)
theorem u64_shr8 (a : Nat) : ishr .u64 (a : Int) 8 = ((a / 256 : Nat) : Int) := u64_shr a (j := 8) (by omega)
theorem wrap_u8 {n : Nat} (h : n < 256) : IntKind.u8.wrap (n : Int) = n := by
  unfold IntKind.wrap; simp [IntKind.signed, IntKind.bits]; omega
theorem wrap_u64 {n : Nat} (h : n < 18446744073709551616) : IntKind.u64.wrap (n : Int) = n := by
  unfold IntKind.wrap; simp [IntKind.signed, IntKind.bits]; omega
@[go_sem] theorem cv_u64_u8 {H : AH} {k : IntKind} {n : Int} : aconv TA H 97 5 (.int k n) = some (.int .u8 (IntKind.u8.wrap n)) := rfl
@[go_sem] theorem cv_u8_int {H : AH} {k : IntKind} {n : Int} : aconv TA H 5 3 (.int k n) = some (.int .i64 (IntKind.i64.wrap n)) := rfl
theorem len64_ok (n : Nat) (hn : n < 18446744073709551616) (H : AH) : E 245 [.int .u64 n] H (Is (.int .i64 (bl n : Nat)) H) := by
  have b1 : 4294967296 ≤ n → bl n = 32 + bl (n / 4294967296) := fun h => bl_div (k := 32) h
  have b2 : ∀ n, 65536 ≤ n → bl n = 16 + bl (n / 65536) := fun n h => bl_div (k := 16) h
  have b3 : ∀ n, 256 ≤ n → bl n = 8 + bl (n / 256) := fun n h => bl_div (k := 8) h
  have b4 : ∀ n, n < 256 → bl n ≤ 8 := fun n h => bl_le (n := 8) h
  refine Ev.enterK (fn := Try.f245) rfl Try.func245 rfl (by kernel_rfl) (by simp [Try.ntmps245]) ?_
  generalize hS : (ByteArray.mk _) = S
  have hS' : S.data = len8.toArray := by rw [← hS]; rfl
  clear hS
  (simp (disch := first | exact dsch | kernel_rfl) only [go_sem, ↓reduceIte, Nat.reduceEqDiff, Nat.reduceLT, Nat.reduceAdd, reduceCtorEq, Int.reduceToNat, Try.ntmps245, Try.results245, u64_shr32, u64_shr16, u64_shr8, wrap_u8, len8_ix hS'] <;> repeat' ((first | refine AK.drawT (by kernel_rfl) ?_ | ((first | refine ABK_mk ?_ ?_ | refine AGK_mk ?_ ?_) <;> intro hb <;> (try simp only [decide_eq_true_eq, decide_eq_false_iff_not, Bool.not_eq_true', Bool.not_eq_false', Bool.not_not] at hb) <;> (try (exfalso; omega)) <;> (try subst hb) <;> try simp only [hb, decide_true, decide_false])) <;> try simp (disch := first | exact dsch | kernel_rfl) only [go_sem, ↓reduceIte, Nat.reduceEqDiff, Nat.reduceLT, Nat.reduceAdd, reduceCtorEq, Int.reduceToNat, Try.ntmps245, Try.results245, u64_shr32, u64_shr16, u64_shr8, wrap_u8, len8_ix hS']))
  all_goals refine Is.mk ?_ (by exact xt)
  all_goals simp only [AV.int.injEq, true_and]
  · have := b1 (by omega); have := b2 _ (show 65536 ≤ n / 4294967296 by omega); have := b3 _ (show 256 ≤ n / 4294967296 / 65536 by omega); have := b4 (n / 4294967296 / 65536 / 256) (by omega)
    rw [wrap64_nat (by omega), wrap_i64 (by omega) (by omega)]; omega
  · have := b1 (by omega); have := b2 _ (show 65536 ≤ n / 4294967296 by omega); have := b4 (n / 4294967296 / 65536) (by omega)
    rw [wrap64_nat (by omega), wrap_i64 (by omega) (by omega)]; omega
  · have := b1 (by omega); have := b3 _ (show 256 ≤ n / 4294967296 by omega); have := b4 (n / 4294967296 / 256) (by omega)
    rw [wrap64_nat (by omega), wrap_i64 (by omega) (by omega)]; omega
  · have := b1 (by omega); have := b4 (n / 4294967296) (by omega)
    rw [wrap64_nat (by omega), wrap_i64 (by omega) (by omega)]; omega
  · have := b2 n (by omega); have := b3 _ (show 256 ≤ n / 65536 by omega); have := b4 (n / 65536 / 256) (by omega)
    rw [wrap64_nat (by omega), wrap_i64 (by omega) (by omega)]; omega
  · have := b2 n (by omega); have := b4 (n / 65536) (by omega)
    rw [wrap64_nat (by omega), wrap_i64 (by omega) (by omega)]; omega
  · have := b3 n (by omega); have := b4 (n / 256) (by omega)
    rw [wrap64_nat (by omega), wrap_i64 (by omega) (by omega)]; omega
  · have := b4 n (by omega)
    rw [wrap64_nat (by omega), wrap_i64 (by omega) (by omega)]; omega
--@CON math/bits.Len64: exact len64_ok _ (by first | assumption | omega) _

theorem len_ok (n : Nat) (hn : n < 18446744073709551616) (H : AH) : E 240 [.int .u64 n] H (Is (.int .i64 (bl n : Nat)) H) := by
  refine Ev.enterK (fn := Try.f240) rfl Try.func240 rfl (by kernel_rfl) (by simp [Try.ntmps240]) ?_
  (simp (disch := first | exact dsch | kernel_rfl) only [go_sem, ↓reduceIte, Nat.reduceEqDiff, Nat.reduceLT, Nat.reduceAdd, reduceCtorEq, Int.reduceToNat, Try.ntmps240, Try.results240] <;> repeat' ((first | (refine AOK_is (by exact len64_ok _ (by first | assumption | omega) _) ?_; intro Hc hxc) | refine AK.drawT (by kernel_rfl) ?_ | ((first | refine ABK_mk ?_ ?_ | refine AGK_mk ?_ ?_) <;> intro hb <;> (try simp only [decide_eq_true_eq, decide_eq_false_iff_not, Bool.not_eq_true', Bool.not_eq_false', Bool.not_not] at hb) <;> (try (exfalso; omega)) <;> (try subst hb) <;> try simp only [hb, decide_true, decide_false])) <;> try simp (disch := first | exact dsch | kernel_rfl) only [go_sem, ↓reduceIte, Nat.reduceEqDiff, Nat.reduceLT, Nat.reduceAdd, reduceCtorEq, Int.reduceToNat, Try.ntmps240, Try.results240]))
  exact Is.mk rfl (by exact xt)
--@CON math/bits.Len: exact len_ok _ (by first | assumption | omega) _

@[go_sem] theorem cv_int_uint {H : AH} {k : IntKind} {n : Int} : aconv TA H 3 130 (.int k n) = some (.int .u64 (IntKind.u64.wrap n)) := rfl
theorem top_ok (s : Nat) (hs : s < 9223372036854775808) (H : AH) : E 231 [.int .i64 s] H (Is (.int .i64 (tp s)) H) := by
  have := bl_le (n := 63) (by rw [pow63]; exact hs)
  refine Ev.enterK (fn := Try.f231) rfl Try.func231 rfl (by kernel_rfl) (by simp [Try.ntmps231]) ?_
  (simp (disch := first | exact dsch | kernel_rfl) only [go_sem, ↓reduceIte, Nat.reduceEqDiff, Nat.reduceLT, Nat.reduceAdd, reduceCtorEq, Int.reduceToNat, Try.ntmps231, Try.results231, wrap_u64] <;> repeat' ((first | (refine AOK_is (by exact len_ok _ (by first | assumption | omega) _) ?_; intro Hc hxc) | refine AK.drawT (by kernel_rfl) ?_ | ((first | refine ABK_mk ?_ ?_ | refine AGK_mk ?_ ?_) <;> intro hb <;> (try simp only [decide_eq_true_eq, decide_eq_false_iff_not, Bool.not_eq_true', Bool.not_eq_false', Bool.not_not] at hb) <;> (try (exfalso; omega)) <;> (try subst hb) <;> try simp only [hb, decide_true, decide_false])) <;> try simp (disch := first | exact dsch | kernel_rfl) only [go_sem, ↓reduceIte, Nat.reduceEqDiff, Nat.reduceLT, Nat.reduceAdd, reduceCtorEq, Int.reduceToNat, Try.ntmps231, Try.results231, wrap_u64]))
  exact Is.mk (by rw [tp_bl]) (by exact xt)
--@CON impl.top: exact top_ok _ (by first | assumption | omega) _

theorem degree_ok (s : Nat) (hs : s < 9223372036854775808) (H : AH) : E 204 [.int .i64 s] H (Is (.int .i64 (tp s)) H) := by
  refine Ev.enterK (fn := Try.f204) rfl Try.func204 rfl (by kernel_rfl) (by simp [Try.ntmps204]) ?_
  (simp (disch := first | exact dsch | kernel_rfl) only [go_sem, ↓reduceIte, Nat.reduceEqDiff, Nat.reduceLT, Nat.reduceAdd, reduceCtorEq, Int.reduceToNat, Try.ntmps204, Try.results204] <;> repeat' ((first | (refine AOK_is (by exact top_ok _ (by first | assumption | omega) _) ?_; intro Hc hxc) | refine AK.drawT (by kernel_rfl) ?_ | ((first | refine ABK_mk ?_ ?_ | refine AGK_mk ?_ ?_) <;> intro hb <;> (try simp only [decide_eq_true_eq, decide_eq_false_iff_not, Bool.not_eq_true', Bool.not_eq_false', Bool.not_not] at hb) <;> (try (exfalso; omega)) <;> (try subst hb) <;> try simp only [hb, decide_true, decide_false])) <;> try simp (disch := first | exact dsch | kernel_rfl) only [go_sem, ↓reduceIte, Nat.reduceEqDiff, Nat.reduceLT, Nat.reduceAdd, reduceCtorEq, Int.reduceToNat, Try.ntmps204, Try.results204]))
  exact Is.mk rfl (by exact xt)
--@CON impl.degree: exact degree_ok _ (by first | assumption | omega) _

end Go.Proofs.Ytopbfmhajbjepaa
