/- Contracts: what a graph is, of the program. -/
import Derived.Test.YtopbfmhajbjepaaC2
namespace Go.Proofs.Ytopbfmhajbjepaa
open Go
set_option linter.unusedSimpArgs false
set_option linter.unusedVariables false

/-- A row that is within its bounds, names not itself, and agrees with the rows before it. -/
def GPre (l : List Int) (i : Nat) : Prop := (0 ≤ l.getD i 0 ∧ l.getD i 0 ≤ ((2 ^ l.length - 1 : Nat) : Int)) ∧ (l.getD i 0).toNat.testBit i = false ∧ ∀ j < i, (l.getD i 0).toNat.testBit j = (l.getD j 0).toNat.testBit i

theorem GOKz_pre {l : List Int} (h : 1 ≤ l.length ∧ l.length ≤ 16) : GOKz l ↔ ∀ i < l.length, GPre l i := by
  constructor
  · rintro ⟨a, rfl, h1, h2, h3⟩ i hi
    rw [zs_length] at hi
    unfold GPre
    rw [zs_getD, zs_length]
    have := h2 i hi
    refine ⟨by omega, ?_, fun j hj => ?_⟩
    · rw [Int.toNat_natCast]
      cases e : (a.getD i 0).testBit i with
      | false => rfl
      | true => exact absurd rfl (h3 i hi i hi e).1
    · rw [zs_getD, Int.toNat_natCast, Int.toNat_natCast, Bool.eq_iff_iff]
      exact ⟨fun e => (h3 i hi j (by omega) e).2, fun e => (h3 j (by omega) i hi e).2⟩
  · intro g
    obtain ⟨a, rfl, ha⟩ := nats_of (all_of fun j hj => (g j hj).1)
    rw [zs_length] at *
    have g' : ∀ i < a.length, (a.getD i 0).testBit i = false ∧ ∀ j < i, (a.getD i 0).testBit j = (a.getD j 0).testBit i := by
      intro i hi
      have := g i hi
      unfold GPre at this
      rw [zs_getD, Int.toNat_natCast] at this
      refine ⟨this.2.1, fun j hj => ?_⟩
      have := this.2.2 j hj
      rwa [zs_getD, Int.toNat_natCast] at this
    refine ⟨a, rfl, h, fun i hi => by have := ha i hi; have := Nat.one_le_two_pow (n := a.length); omega, fun i hi j hj e => ?_⟩
    rcases Nat.lt_trichotomy i j with k | k | k
    · exact ⟨by omega, by rw [(g' j hj).2 i k, e]⟩
    · subst k; rw [(g' i hi).1] at e; cases e
    · exact ⟨by omega, by rw [← (g' i hi).2 j k, e]⟩

open Classical in
theorem isGraph_ok (l : List Int) (o : Bool) (s : AV) (H : AH) (hs : IntsAt H s l) (hl : l.length < 9223372036854775807) :
    E 121 [.agg [s, .bool o]] H (Is (.bool (decide (GOKz l))) H) := by
  refine Ev.enterK (fn := Try.f121) rfl Try.func121 rfl (by kernel_rfl) (by simp [Try.ntmps121]) ?_
  (simp (disch := first | exact dsch | kernel_rfl) only [go_sem, ↓reduceIte, Nat.reduceEqDiff, Nat.reduceLT, Nat.reduceAdd, reduceCtorEq, Int.reduceToNat, Try.ntmps121, Try.results121, hs.len] <;> repeat' ((first | (refine AOK_is (by first | exact has_ok _ _ (by omega) (by omega) _ | exact has_okz _ _ (by omega) (by omega) (by omega) (by omega) _) ?_; intro Hc hxc) | (refine AOK_is (by exact in_ok _ _ _ _) ?_; intro Hc hxc) | (refine AOK_is (by exact isCount_ok _ _) ?_; intro Hc hxc) | (refine AOK_is (by exact whole_ok _ (by omega) _) ?_; intro Hc hxc) | refine AK.drawT (by kernel_rfl) ?_ | ((first | refine ABK_mk ?_ ?_ | refine AGK_mk ?_ ?_) <;> intro hb <;> (try simp only [decide_eq_true_eq, decide_eq_false_iff_not, Bool.not_eq_true', Bool.not_eq_false', Bool.not_not] at hb) <;> (try (exfalso; omega)) <;> (try subst hb) <;> try simp only [hb, decide_true, decide_false])) <;> try simp (disch := first | exact dsch | kernel_rfl) only [go_sem, ↓reduceIte, Nat.reduceEqDiff, Nat.reduceLT, Nat.reduceAdd, reduceCtorEq, Int.reduceToNat, Try.ntmps121, Try.results121, hs.len]))
  · have hlen : 1 ≤ l.length ∧ l.length ≤ 16 := by omega
    rw [show decide (GOKz l) = decide (∀ i < l.length, GPre l i) from decide_eq_decide.2 (GOKz_pre hlen)]
    refine (AK.countx 16 [2, 4, 5, 6, 16, 17, 18, 19, 20, 21, 22, 23, 24, 25, 26, 27, 28, 29, 30, 31, 32, 33, 34, 35, 36, 37, 38, 39, 40, 41, 42, 43, 44, 45, 46, 47] (by kernel_rfl) 0 l.length (fun i tm H' => ∀ i' < i, GPre l i') (by rfl) (by omega) (fun i h => by omega) ?_)
    rintro i tm H' K h1 h2 fr hq hx ha hK
    have hp : 2 ^ l.length ≤ 65536 := Nat.pow_le_pow_right (n := 2) (by omega) hlen.2
    (simp (disch := first | exact dsch | kernel_rfl) only [go_sem, ↓reduceIte, Nat.reduceEqDiff, Nat.reduceLT, Nat.reduceAdd, reduceCtorEq, Int.reduceToNat, Try.ntmps121, Try.results121, fr, hq, hs.len, hs.ix, hs.ld, Int.ofNat_lt] <;> repeat' ((first | (refine AOK_is (by first | exact has_ok _ _ (by omega) (by omega) _ | exact has_okz _ _ (by omega) (by omega) (by omega) (by omega) _) ?_; intro Hc hxc) | (refine AOK_is (by exact in_ok _ _ _ _) ?_; intro Hc hxc) | (refine AOK_is (by exact isCount_ok _ _) ?_; intro Hc hxc) | (refine AOK_is (by exact whole_ok _ (by omega) _) ?_; intro Hc hxc) | refine AK.drawT (by kernel_rfl) ?_ | ((first | refine ABK_mk ?_ ?_ | refine AGK_mk ?_ ?_) <;> intro hb <;> (try simp only [decide_eq_true_eq, decide_eq_false_iff_not, Bool.not_eq_true', Bool.not_eq_false', Bool.not_not] at hb) <;> (try (exfalso; omega)) <;> (try subst hb) <;> try simp only [hb, decide_true, decide_false])) <;> try simp (disch := first | exact dsch | kernel_rfl) only [go_sem, ↓reduceIte, Nat.reduceEqDiff, Nat.reduceLT, Nat.reduceAdd, reduceCtorEq, Int.reduceToNat, Try.ntmps121, Try.results121, fr, hq, hs.len, hs.ix, hs.ld, Int.ofNat_lt]))
    · refine Is.mk ?_ (by exact xt)
      rw [decide_eq_false fun h => ?_]
      rw [(h i (by omega)).2.1] at hb; cases hb
    · rename_i hi _ _ hin _ _
      refine (AK.countx 32 [2, 6, 32, 33, 34, 35, 36, 37, 38, 39, 40, 41, 42, 43, 44, 45, 46] (by kernel_rfl) 0 i (fun j tm H' => ∀ j' < j, (l.getD i 0).toNat.testBit j' = (l.getD j' 0).toNat.testBit i) (by rfl) (by omega) (fun i h => by omega) ?_)
      rintro j tm2 H2 K2 g1 g2 fr2 hq2 hx2 ha2 hK2
      have hj : j < i → 0 ≤ l.getD j 0 ∧ l.getD j 0 ≤ ((2 ^ l.length - 1 : Nat) : Int) := fun h => (ha j h).1
      (simp (disch := first | exact dsch | kernel_rfl) only [go_sem, ↓reduceIte, Nat.reduceEqDiff, Nat.reduceLT, Nat.reduceAdd, reduceCtorEq, Int.reduceToNat, Try.ntmps121, Try.results121, fr2, hq2, fr, hq, hs.len, hs.ix, hs.ld, Int.ofNat_lt] <;> repeat' ((first | (refine AOK_is (by first | exact has_ok _ _ (by omega) (by omega) _ | exact has_okz _ _ (by omega) (by omega) (by omega) (by omega) _) ?_; intro Hc hxc) | (refine AOK_is (by exact in_ok _ _ _ _) ?_; intro Hc hxc) | (refine AOK_is (by exact isCount_ok _ _) ?_; intro Hc hxc) | (refine AOK_is (by exact whole_ok _ (by omega) _) ?_; intro Hc hxc) | refine AK.drawT (by kernel_rfl) ?_ | ((first | refine ABK_mk ?_ ?_ | refine AGK_mk ?_ ?_) <;> intro hb <;> (try simp only [decide_eq_true_eq, decide_eq_false_iff_not, Bool.not_eq_true', Bool.not_eq_false', Bool.not_not] at hb) <;> (try (exfalso; omega)) <;> (try subst hb) <;> try simp only [hb, decide_true, decide_false])) <;> try simp (disch := first | exact dsch | kernel_rfl) only [go_sem, ↓reduceIte, Nat.reduceEqDiff, Nat.reduceLT, Nat.reduceAdd, reduceCtorEq, Int.reduceToNat, Try.ntmps121, Try.results121, fr2, hq2, fr, hq, hs.len, hs.ix, hs.ld, Int.ofNat_lt]))
      · refine hK2 _ _ (by omega) (by rfl) (by exact xt) fun j' hj' => ?_
        by_cases e : j' = j
        · subst e; exact hb
        · exact ha2 j' (by omega)
      · refine Is.mk ?_ (by exact xt)
        rw [decide_eq_false fun h => ?_]
        exact hb ((h i hi).2.2 j (by omega))
      · refine hK _ _ (by omega) (by rfl) (by exact xt) fun i' hi' => ?_
        by_cases e : i' = i
        · subst e; exact ⟨by omega, by assumption, fun j' hj' => ha2 j' (by omega)⟩
        · exact ha i' (by omega)
    · refine Is.mk ?_ (by exact xt)
      rw [decide_eq_false fun h => ?_]
      exact hb (h i (by omega)).1
    · refine Is.mk ?_ (by exact xt)
      rw [decide_eq_true fun i' hi' => ha i' (by omega)]
  · refine Is.mk ?_ (by exact xt)
    rw [decide_eq_false fun h => hb (by have := h.size; omega)]

--@CON impl.isGraph: exact isGraph_ok _ _ _ _ (by first | assumption | (refine SliceAt.ext (by assumption) ?_; exact xt)) (by omega)

end Go.Proofs.Ytopbfmhajbjepaa
