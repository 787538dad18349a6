/- Contracts: what a graph is. -/
import Derived.Test.YtopbfmhajbjepaaC1
namespace Go.Proofs.Ytopbfmhajbjepaa
open Go
set_option linter.unusedSimpArgs false
set_option linter.unusedVariables false

theorem all_of {l : List Int} {lo hi : Int} (h : ∀ j < l.length, lo ≤ l.getD j 0 ∧ l.getD j 0 ≤ hi) : (l.all fun x => decide (lo ≤ x ∧ x ≤ hi)) = true := by
  rw [List.all_eq_true]
  intro x hx
  obtain ⟨i, hi, rfl⟩ := mem_getD (d := 0) hx
  simpa using h i hi
theorem all_not {l : List Int} {lo hi : Int} {j : Nat} (hj : j < l.length) (h : ¬(lo ≤ l.getD j 0 ∧ l.getD j 0 ≤ hi)) : (l.all fun x => decide (lo ≤ x ∧ x ≤ hi)) = false := by
  rw [← Bool.not_eq_true, List.all_eq_true]
  intro hx
  exact h (by simpa using hx _ (getD_mem hj))

theorem l1All_ok (l : List Int) (lo hi : Int) (s : AV) (H : AH) (hs : IntsAt H s l) (hl : l.length < 9223372036854775807) :
    E 149 [s, .int .i64 lo, .int .i64 hi] H (Is (.bool (l.all fun x => decide (lo ≤ x ∧ x ≤ hi))) H) := by
  refine Ev.enterK (fn := Try.f149) rfl Try.func149 rfl (by kernel_rfl) (by simp [Try.ntmps149]) ?_
  (simp (disch := first | exact dsch | kernel_rfl) only [go_sem, ↓reduceIte, Nat.reduceEqDiff, Nat.reduceLT, Nat.reduceAdd, reduceCtorEq, Int.reduceToNat, Try.ntmps149, Try.results149, hs.len] <;> repeat' ((first | (refine AOK_is (by exact l1In_ok _ _ _ _) ?_; intro Hc hxc) | refine AK.drawT (by kernel_rfl) ?_ | ((first | refine ABK_mk ?_ ?_ | refine AGK_mk ?_ ?_) <;> intro hb <;> (try simp only [decide_eq_true_eq, decide_eq_false_iff_not, Bool.not_eq_true', Bool.not_eq_false', Bool.not_not] at hb) <;> (try (exfalso; omega)) <;> (try subst hb) <;> try simp only [hb, decide_true, decide_false])) <;> try simp (disch := first | exact dsch | kernel_rfl) only [go_sem, ↓reduceIte, Nat.reduceEqDiff, Nat.reduceLT, Nat.reduceAdd, reduceCtorEq, Int.reduceToNat, Try.ntmps149, Try.results149, hs.len]))
  refine (AK.countx 11 [6, 8, 11, 12, 13, 14, 15, 16, 17, 18, 19, 20] (by kernel_rfl) 0 l.length (fun i tm H' => ∀ j < i, lo ≤ l.getD j 0 ∧ l.getD j 0 ≤ hi) (by rfl) (by omega) (fun j h => by omega) ?_)
  rintro i tm H' K h1 h2 fr hq hx ha hK
  (simp (disch := first | exact dsch | kernel_rfl) only [go_sem, ↓reduceIte, Nat.reduceEqDiff, Nat.reduceLT, Nat.reduceAdd, reduceCtorEq, Int.reduceToNat, Try.ntmps149, Try.results149, fr, hq, hs.len, hs.ix, hs.ld, Int.ofNat_lt] <;> repeat' ((first | (refine AOK_is (by exact l1In_ok _ _ _ _) ?_; intro Hc hxc) | refine AK.drawT (by kernel_rfl) ?_ | ((first | refine ABK_mk ?_ ?_ | refine AGK_mk ?_ ?_) <;> intro hb <;> (try simp only [decide_eq_true_eq, decide_eq_false_iff_not, Bool.not_eq_true', Bool.not_eq_false', Bool.not_not] at hb) <;> (try (exfalso; omega)) <;> (try subst hb) <;> try simp only [hb, decide_true, decide_false])) <;> try simp (disch := first | exact dsch | kernel_rfl) only [go_sem, ↓reduceIte, Nat.reduceEqDiff, Nat.reduceLT, Nat.reduceAdd, reduceCtorEq, Int.reduceToNat, Try.ntmps149, Try.results149, fr, hq, hs.len, hs.ix, hs.ld, Int.ofNat_lt]))
  · refine hK _ _ (by omega) (by rfl) (by exact xt) fun j hj => ?_
    by_cases e : j = i
    · subst e; exact hb
    · exact ha j (by omega)
  · exact Is.mk (by rw [all_not (by assumption) hb]) (by exact xt)
  · exact Is.mk (by rw [all_of fun j hj => ha j (by omega)]) (by exact xt)
--@CON spec.l1All: exact l1All_ok _ _ _ _ _ (by first | assumption | (refine SliceAt.ext (by assumption) ?_; exact xt)) (by omega)

/-- What a graph is: each button's row of neighbours. -/
def GOK (l : List Nat) : Prop := (1 ≤ l.length ∧ l.length ≤ 16) ∧ (∀ i < l.length, l.getD i 0 < 2 ^ l.length) ∧ ∀ i < l.length, ∀ j < l.length, (l.getD i 0).testBit j = true → i ≠ j ∧ (l.getD j 0).testBit i = true
def GOKz (l : List Int) : Prop := ∃ near, l = zs near ∧ GOK near

theorem nats_of {l : List Int} {M : Nat} (h : (l.all fun x => decide (0 ≤ x ∧ x ≤ (M : Int))) = true) : ∃ near, l = zs near ∧ ∀ i < near.length, near.getD i 0 ≤ M := by
  have h' : ∀ x ∈ l, 0 ≤ x ∧ x ≤ (M : Int) := by simpa using h
  have e : l = zs (l.map Int.toNat) := by
    rw [zs, List.map_map]
    conv => lhs; rw [← List.map_id l]
    apply List.map_congr_left
    intro x hx
    have := h' x hx
    simp; omega
  refine ⟨_, e, fun i hi => ?_⟩
  have hi' : i < l.length := by simpa using hi
  have := h' _ (getD_mem hi')
  rw [e, zs_getD] at this
  omega

theorem zs_inj {a b : List Nat} (h : zs a = zs b) : a = b := by
  have := congrArg (List.map Int.toNat) h
  simpa [zs, Function.comp_def] using this
theorem GOKz_zs {a : List Nat} : GOKz (zs a) ↔ GOK a := ⟨fun ⟨b, h, g⟩ => zs_inj h ▸ g, fun h => ⟨a, rfl, h⟩⟩
theorem GOKz.size {l : List Int} (h : GOKz l) : 1 ≤ l.length ∧ l.length ≤ 16 := by
  obtain ⟨a, rfl, h⟩ := h; simpa using h.1
theorem GOKz.all {l : List Int} (h : GOKz l) : (l.all fun x => decide (0 ≤ x ∧ x ≤ ((2 ^ l.length - 1 : Nat) : Int))) = true := by
  obtain ⟨a, rfl, h⟩ := h
  refine all_of fun j hj => ?_
  rw [zs_getD, zs_length]
  have := h.2.1 j (by simpa using hj)
  omega

/-- Row by row. -/
def GRow (near : List Nat) (i : Nat) : Prop := ∀ j < near.length, (near.getD i 0).testBit j = true → i ≠ j ∧ (near.getD j 0).testBit i = true

open Classical in
theorem grGood_ok (l : List Int) (o : Bool) (s : AV) (H : AH) (hs : IntsAt H s l) (hl : l.length < 9223372036854775807) :
    E 117 [.agg [s, .bool o]] H (Is (.bool (decide (GOKz l))) H) := by
  refine Ev.enterK (fn := Try.f117) rfl Try.func117 rfl (by kernel_rfl) (by simp [Try.ntmps117]) ?_
  (simp (disch := first | exact dsch | kernel_rfl) only [go_sem, ↓reduceIte, Nat.reduceEqDiff, Nat.reduceLT, Nat.reduceAdd, reduceCtorEq, Int.reduceToNat, Try.ntmps117, Try.results117, hs.len] <;> repeat' ((first | (refine AOK_is (by first | exact grIn_ok _ _ (by omega) _ | exact grIn_okz _ _ (by omega) (by omega) (by omega) _) ?_; intro Hc hxc) | (refine AOK_is (by exact grSize_ok _ _) ?_; intro Hc hxc) | (refine AOK_is (by exact l1All_ok _ _ _ _ _ (by first | assumption | (refine SliceAt.ext (by assumption) ?_; exact xt)) (by omega)) ?_; intro Hc hxc) | refine AK.drawT (by kernel_rfl) ?_ | ((first | refine ABK_mk ?_ ?_ | refine AGK_mk ?_ ?_) <;> intro hb <;> (try simp only [decide_eq_true_eq, decide_eq_false_iff_not, Bool.not_eq_true', Bool.not_eq_false', Bool.not_not] at hb) <;> (try (exfalso; omega)) <;> (try subst hb) <;> try simp only [hb, decide_true, decide_false])) <;> try simp (disch := first | exact dsch | kernel_rfl) only [go_sem, ↓reduceIte, Nat.reduceEqDiff, Nat.reduceLT, Nat.reduceAdd, reduceCtorEq, Int.reduceToNat, Try.ntmps117, Try.results117, hs.len]))
  · rename_i Hc0 hxc0 hlen
    obtain ⟨near, rfl, hM⟩ := nats_of hb
    have hn : NatsAt H s near := hs
    rw [zs_length] at hlen hM
    refine (AK.countx 25 [2, 4, 5, 6, 25, 26, 27, 28, 29, 30, 31, 32, 33, 34, 35, 36, 37, 38, 39, 40, 41, 42, 43, 44, 45, 46, 47, 48, 49, 50, 51, 52, 53, 54, 55] (by kernel_rfl) 0 near.length (fun i tm H' => ∀ i' < i, GRow near i') (by rfl) (by omega) (fun i h => by omega) ?_)
    rintro i tm H' K h1 h2 fr hq hx ha hK
    (simp (disch := first | exact dsch | kernel_rfl) only [go_sem, ↓reduceIte, Nat.reduceEqDiff, Nat.reduceLT, Nat.reduceAdd, reduceCtorEq, Int.reduceToNat, Try.ntmps117, Try.results117, fr, hq, hn.len, hn.ix, hn.ld, Int.ofNat_lt, zs_length] <;> repeat' ((first | (refine AOK_is (by first | exact grIn_ok _ _ (by omega) _ | exact grIn_okz _ _ (by omega) (by omega) (by omega) _) ?_; intro Hc hxc) | (refine AOK_is (by exact grSize_ok _ _) ?_; intro Hc hxc) | (refine AOK_is (by exact l1All_ok _ _ _ _ _ (by first | assumption | (refine SliceAt.ext (by assumption) ?_; exact xt)) (by omega)) ?_; intro Hc hxc) | refine AK.drawT (by kernel_rfl) ?_ | ((first | refine ABK_mk ?_ ?_ | refine AGK_mk ?_ ?_) <;> intro hb <;> (try simp only [decide_eq_true_eq, decide_eq_false_iff_not, Bool.not_eq_true', Bool.not_eq_false', Bool.not_not] at hb) <;> (try (exfalso; omega)) <;> (try subst hb) <;> try simp only [hb, decide_true, decide_false])) <;> try simp (disch := first | exact dsch | kernel_rfl) only [go_sem, ↓reduceIte, Nat.reduceEqDiff, Nat.reduceLT, Nat.reduceAdd, reduceCtorEq, Int.reduceToNat, Try.ntmps117, Try.results117, fr, hq, hn.len, hn.ix, hn.ld, Int.ofNat_lt, zs_length]))
    · refine (AK.countx 33 [2, 6, 33, 34, 35, 36, 37, 38, 39, 40, 41, 42, 43, 44, 45, 46, 47, 48, 49, 50, 51, 52, 53, 54] (by kernel_rfl) 0 near.length (fun j tm H' => ∀ j' < j, (near.getD i 0).testBit j' = true → i ≠ j' ∧ (near.getD j' 0).testBit i = true) (by rfl) (by omega) (fun i h => by omega) ?_)
      rintro j tm2 H2 K2 g1 g2 fr2 hq2 hx2 ha2 hK2
      rename_i hi
      (simp (disch := first | exact dsch | kernel_rfl) only [go_sem, ↓reduceIte, Nat.reduceEqDiff, Nat.reduceLT, Nat.reduceAdd, reduceCtorEq, Int.reduceToNat, Try.ntmps117, Try.results117, fr2, hq2, fr, hq, hn.len, hn.ix, hn.ld, Int.ofNat_lt, zs_length] <;> repeat' ((first | (refine AOK_is (by first | exact grIn_ok _ _ (by omega) _ | exact grIn_okz _ _ (by omega) (by omega) (by omega) _) ?_; intro Hc hxc) | (refine AOK_is (by exact grSize_ok _ _) ?_; intro Hc hxc) | (refine AOK_is (by exact l1All_ok _ _ _ _ _ (by first | assumption | (refine SliceAt.ext (by assumption) ?_; exact xt)) (by omega)) ?_; intro Hc hxc) | refine AK.drawT (by kernel_rfl) ?_ | ((first | refine ABK_mk ?_ ?_ | refine AGK_mk ?_ ?_) <;> intro hb <;> (try simp only [decide_eq_true_eq, decide_eq_false_iff_not, Bool.not_eq_true', Bool.not_eq_false', Bool.not_not] at hb) <;> (try (exfalso; omega)) <;> (try subst hb) <;> try simp only [hb, decide_true, decide_false])) <;> try simp (disch := first | exact dsch | kernel_rfl) only [go_sem, ↓reduceIte, Nat.reduceEqDiff, Nat.reduceLT, Nat.reduceAdd, reduceCtorEq, Int.reduceToNat, Try.ntmps117, Try.results117, fr2, hq2, fr, hq, hn.len, hn.ix, hn.ld, Int.ofNat_lt, zs_length]))
      · refine hK2 _ _ (by omega) (by rfl) (by exact xt) fun j' hj' hb' => ?_
        by_cases e : j' = j
        · subst e; exact ⟨by omega, by assumption⟩
        · exact ha2 j' (by omega) hb'
      · refine Is.mk ?_ (by exact xt)
        rw [decide_eq_false fun h => ?_]
        have := (GOKz_zs.1 h).2.2 i (by omega) j (by omega) (by assumption)
        rw [this.2] at hb; cases hb
      · refine Is.mk ?_ (by exact xt)
        rw [decide_eq_false fun h => ?_]
        have := (GOKz_zs.1 h).2.2 i (by omega) j (by omega) (by assumption)
        omega
      · refine hK2 _ _ (by omega) (by rfl) (by exact xt) fun j' hj' hb' => ?_
        by_cases e : j' = j
        · subst e; rw [hb] at hb'; cases hb'
        · exact ha2 j' (by omega) hb'
      · refine hK _ _ (by omega) (by rfl) (by exact xt) fun i' hi' => ?_
        by_cases e : i' = i
        · subst e; exact fun j' hj' => ha2 j' (by omega)
        · exact ha i' (by omega)
    · refine Is.mk ?_ (by exact xt)
      rw [decide_eq_true (GOKz_zs.2 ⟨by omega, fun i hi => by have := hM i hi; have := Nat.one_le_two_pow (n := near.length); omega, fun i' hi' => ha i' (by omega)⟩)]
  · rename_i Hc0 hxc0 hlen
    refine Is.mk ?_ (by exact xt)
    rw [decide_eq_false fun h => ?_]
    rw [h.all] at hb; cases hb
  · refine Is.mk ?_ (by exact xt)
    rw [decide_eq_false fun h => hb (by have := h.size; omega)]

--@CON spec.grGood: exact grGood_ok _ _ _ _ (by first | assumption | (refine SliceAt.ext (by assumption) ?_; exact xt)) (by omega)

end Go.Proofs.Ytopbfmhajbjepaa
