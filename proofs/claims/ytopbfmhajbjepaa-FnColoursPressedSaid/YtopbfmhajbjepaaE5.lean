/- Contracts: PeriodOf on both sides. -/
import Derived.Test.YtopbfmhajbjepaaE4
namespace Go.Proofs.Ytopbfmhajbjepaa
open Go
set_option linter.unusedSimpArgs false
set_option linter.unusedVariables false

def effW (l : List Int) (o : Bool) (m : Nat) (w : List Int) : List Nat := efL (nn l) o m (wdL (nn l).length m w)
def perN (l : List Int) (o : Bool) (m : Nat) (w : List Int) : Nat := if (effW l o m w).all (fun x => decide (x = 0)) then 1 else m
noncomputable def perV (l : List Int) (o : Bool) (m : Nat) (w : List Int) : AV := if wordB l m w then .tup [.int .i64 (perN l o m w), .bool true] else .tup [.int .i64 0, .bool false]
def PerC (f : FuncId) : Prop := ∀ (l w : List Int) (m : Nat) (o : Bool) (s u : AV) (H : AH), IntsAt H s l → l.length < 1000000 → IntsAt H u w → w.length < 1000000 → m ≤ 7 →
  E f [.agg [s, .bool o], .int .i64 m, u] H (Is (perV l o m w) H)
theorem perV_true {l : List Int} {o : Bool} {m : Nat} {w : List Int} (h : wordB l m w = true) : perV l o m w = .tup [.int .i64 (perN l o m w), .bool true] := by unfold perV; rw [if_pos h]
theorem perV_false {l : List Int} {o : Bool} {m : Nat} {w : List Int} (h : wordB l m w = false) : perV l o m w = .tup [.int .i64 0, .bool false] := by unfold perV; rw [h]; rfl
theorem perN_one {l : List Int} {o : Bool} {m : Nat} {w : List Int} (h : ∀ i < (effW l o m w).length, (effW l o m w).getD i 0 = 0) : perN l o m w = 1 := by
  unfold perN; rw [if_pos]
  rw [List.all_eq_true]
  intro x hx
  obtain ⟨i, hi, rfl⟩ := List.getElem_of_mem hx
  have := h i hi
  simpa [List.getD, hi] using this
theorem perN_m {l : List Int} {o : Bool} {m : Nat} {w : List Int} {i : Nat} (hi : i < (effW l o m w).length) (h : (effW l o m w).getD i 0 ≠ 0) : perN l o m w = m := by
  unfold perN; rw [if_neg]
  rw [List.all_eq_true]
  intro hall
  have := hall _ (List.getElem_mem hi)
  have := of_decide_eq_true this
  exact h (by simpa [List.getD, hi] using this)

set_option maxRecDepth 10000 in
theorem implPeriod_ok : PerC 29 := by
  intro l w m o s u H hs hl hu hw hm7
  have hso := SliceAt.isOne hs
  refine Ev.enterK (fn := Try.f29) rfl Try.func29 rfl (by kernel_rfl) (by simp [Try.ntmps29]) ?_
  have bad : wordB l m w = false → ∀ Hx : AH, Ext H Hx → Is (perV l o m w) H (.tup [.int .i64 0, .bool false]) Hx := fun h Hx x => ⟨(perV_false h).symm, x⟩
  cases hcb : colB l m
  · (simp (disch := first | exact dsch | kernel_rfl) only [go_sem, ↓reduceIte, Nat.reduceEqDiff, Nat.reduceLT, Nat.reduceAdd, reduceCtorEq, Int.reduceToNat, Try.ntmps29, Try.results29, hcb] <;> repeat' ((first | (refine AOK_is (by exact hasButton_ok _ _ _ _ _ _ (by first | assumption | (refine SliceAt.ext (by assumption) ?_; exact xt)) (by first | assumption | omega) (by first | assumption | (refine SliceAt.ext (by assumption) ?_; exact xt)) (by first | assumption | omega)) ?_; intro Hc hxc) | (refine AOK_is (by exact isColoured_ok _ _ _ _ _ (by first | assumption | (refine SliceAt.ext (by assumption) ?_; exact xt)) (by first | assumption | omega)) ?_; intro Hc hxc) | refine AK.drawT (by kernel_rfl) ?_ | ((first | refine ABK_mk ?_ ?_ | refine AGK_mk ?_ ?_) <;> intro hb <;> (try simp only [decide_eq_true_eq, decide_eq_false_iff_not, Bool.not_eq_true', Bool.not_eq_false', Bool.not_not] at hb) <;> (try (exfalso; omega)) <;> (try subst hb) <;> try simp only [hb, decide_true, decide_false])) <;> try simp (disch := first | exact dsch | kernel_rfl) only [go_sem, ↓reduceIte, Nat.reduceEqDiff, Nat.reduceLT, Nat.reduceAdd, reduceCtorEq, Int.reduceToNat, Try.ntmps29, Try.results29, hcb]))
    exact bad (by simp only [wordB, hcb, Bool.false_and]) _ (by exact xt)
  have hok : okB l = true := by simp only [colB, Bool.and_eq_true] at hcb; exact hcb.1.1
  by_cases h200 : (200 : Int) < (w.length : Int)
  · (simp (disch := first | exact dsch | kernel_rfl) only [go_sem, ↓reduceIte, Nat.reduceEqDiff, Nat.reduceLT, Nat.reduceAdd, reduceCtorEq, Int.reduceToNat, Try.ntmps29, Try.results29, hcb, hu.len, h200] <;> repeat' ((first | (refine AOK_is (by exact hasButton_ok _ _ _ _ _ _ (by first | assumption | (refine SliceAt.ext (by assumption) ?_; exact xt)) (by first | assumption | omega) (by first | assumption | (refine SliceAt.ext (by assumption) ?_; exact xt)) (by first | assumption | omega)) ?_; intro Hc hxc) | (refine AOK_is (by exact isColoured_ok _ _ _ _ _ (by first | assumption | (refine SliceAt.ext (by assumption) ?_; exact xt)) (by first | assumption | omega)) ?_; intro Hc hxc) | refine AK.drawT (by kernel_rfl) ?_ | ((first | refine ABK_mk ?_ ?_ | refine AGK_mk ?_ ?_) <;> intro hb <;> (try simp only [decide_eq_true_eq, decide_eq_false_iff_not, Bool.not_eq_true', Bool.not_eq_false', Bool.not_not] at hb) <;> (try (exfalso; omega)) <;> (try subst hb) <;> try simp only [hb, decide_true, decide_false])) <;> try simp (disch := first | exact dsch | kernel_rfl) only [go_sem, ↓reduceIte, Nat.reduceEqDiff, Nat.reduceLT, Nat.reduceAdd, reduceCtorEq, Int.reduceToNat, Try.ntmps29, Try.results29, hcb, hu.len, h200]))
    exact bad (by simp only [wordB, hcb, Bool.true_and]; rw [decide_eq_false (by omega)]; rfl) _ (by exact xt)
  have e200 : decide (w.length ≤ 200) = true := decide_eq_true (by omega)
  cases h3 : wrdB l w
  · (simp (disch := first | exact dsch | kernel_rfl) only [go_sem, ↓reduceIte, Nat.reduceEqDiff, Nat.reduceLT, Nat.reduceAdd, reduceCtorEq, Int.reduceToNat, Try.ntmps29, Try.results29, hcb, hu.len, h200, h3] <;> repeat' ((first | (refine AOK_is (by exact hasButton_ok _ _ _ _ _ _ (by first | assumption | (refine SliceAt.ext (by assumption) ?_; exact xt)) (by first | assumption | omega) (by first | assumption | (refine SliceAt.ext (by assumption) ?_; exact xt)) (by first | assumption | omega)) ?_; intro Hc hxc) | (refine AOK_is (by exact isColoured_ok _ _ _ _ _ (by first | assumption | (refine SliceAt.ext (by assumption) ?_; exact xt)) (by first | assumption | omega)) ?_; intro Hc hxc) | refine AK.drawT (by kernel_rfl) ?_ | ((first | refine ABK_mk ?_ ?_ | refine AGK_mk ?_ ?_) <;> intro hb <;> (try simp only [decide_eq_true_eq, decide_eq_false_iff_not, Bool.not_eq_true', Bool.not_eq_false', Bool.not_not] at hb) <;> (try (exfalso; omega)) <;> (try subst hb) <;> try simp only [hb, decide_true, decide_false])) <;> try simp (disch := first | exact dsch | kernel_rfl) only [go_sem, ↓reduceIte, Nat.reduceEqDiff, Nat.reduceLT, Nat.reduceAdd, reduceCtorEq, Int.reduceToNat, Try.ntmps29, Try.results29, hcb, hu.len, h200, h3]))
    exact bad (by simp only [wrdB, hok, Bool.true_and] at h3; simp only [wordB, h3, Bool.and_false]) _ (by exact xt)
  have h4 := h3
  simp only [wrdB, hok, Bool.true_and] at h4
  have hwb : wordB l m w = true := by simp only [wordB, hcb, e200, h4, Bool.and_true]
  have K := colB_ok hcb
  have hm := K.mod
  have hm0 : 0 < m := by omega
  have h10 := K.n10
  have hle := K.len
  obtain ⟨_, _, hall⟩ := wordB_true hwb
  (simp (disch := first | exact dsch | kernel_rfl) only [go_sem, ↓reduceIte, Nat.reduceEqDiff, Nat.reduceLT, Nat.reduceAdd, reduceCtorEq, Int.reduceToNat, Try.ntmps29, Try.results29, hcb, hu.len, h200, h3] <;> repeat' ((first | (refine AOK_is (by exact hasButton_ok _ _ _ _ _ _ (by first | assumption | (refine SliceAt.ext (by assumption) ?_; exact xt)) (by first | assumption | omega) (by first | assumption | (refine SliceAt.ext (by assumption) ?_; exact xt)) (by first | assumption | omega)) ?_; intro Hc hxc) | (refine AOK_is (by exact isColoured_ok _ _ _ _ _ (by first | assumption | (refine SliceAt.ext (by assumption) ?_; exact xt)) (by first | assumption | omega)) ?_; intro Hc hxc) | refine AK.drawT (by kernel_rfl) ?_ | ((first | refine ABK_mk ?_ ?_ | refine AGK_mk ?_ ?_) <;> intro hb <;> (try simp only [decide_eq_true_eq, decide_eq_false_iff_not, Bool.not_eq_true', Bool.not_eq_false', Bool.not_not] at hb) <;> (try (exfalso; omega)) <;> (try subst hb) <;> try simp only [hb, decide_true, decide_false])) <;> try simp (disch := first | exact dsch | kernel_rfl) only [go_sem, ↓reduceIte, Nat.reduceEqDiff, Nat.reduceLT, Nat.reduceAdd, reduceCtorEq, Int.reduceToNat, Try.ntmps29, Try.results29, hcb, hu.len, h200, h3]))
  have ln : NatsAt H s (nn l) := NatsAt.of hs K.zs
  apply AOK_gives (hi := by rfl)
  · exact pressWord_ok l w m o s u _ (SliceAt.ext hs (by exact xt)) (SliceAt.ext hu (by exact xt)) (by omega) hw hm0 hm7 hall
  rintro _ H2 x2 ⟨c2, rfl, hc2, r2⟩
  simp (disch := first | exact dsch | kernel_rfl) only [go_sem, ↓reduceIte, Nat.reduceEqDiff, Nat.reduceLT, Nat.reduceAdd, reduceCtorEq, Int.reduceToNat, Try.ntmps29, Try.results29]
  have t2 : NatsAt H2 (.sl c2 0 l.length) (wdL (nn l).length m w) := by have := r2.nats; rw [wdL_length] at this; rwa [hle]
  have wl : (wdL (nn l).length m w).length = (nn l).length := wdL_length
  apply AOK_gives (hi := by rfl)
  · exact effectColours_ok (nn l) (wdL (nn l).length m w) m o s (.sl c2 0 l.length) _ (ln.ext (by exact xt)) t2 (by omega) (by omega) K.lt hm0 hm7 (fun i _ => by have := wdL_lt (n := (nn l).length) (w := w) hm0 i; omega)
  rintro _ H3 x3 ⟨c, rfl, hc, r⟩
  have hel : (effW l o m w).length = (nn l).length := by unfold effW; rw [efL_length, wl]
  have r' : RowAt H3 c (effW l o m w) := r
  have hx3 : Ext H H3 := by exact xt
  simp (disch := first | exact dsch | kernel_rfl) only [go_sem, ↓reduceIte, Nat.reduceEqDiff, Nat.reduceLT, Nat.reduceAdd, reduceCtorEq, Int.reduceToNat, Try.ntmps29, Try.results29, sl_len, wl]
  refine (AK.countx 33 [6, 7, 9, 33, 34, 35, 36, 37, 38, 39, 40] (by kernel_rfl) 0 (nn l).length (fun i tm H' => ∀ j < i, (effW l o m w).getD j 0 = 0) (by rfl) (by omega) (fun j hj => by omega) ?_)
  rintro i tm H' K2 g1 g2 fr hq hx hall2 hK
  by_cases hi : i < (nn l).length
  · have hi' : (i : Int) < ((nn l).length : Int) := by omega
    have hil : i < (effW l o m w).length := by omega
    by_cases e : (effW l o m w).getD i 0 = 0
    · (simp (disch := first | exact dsch | kernel_rfl) only [go_sem, ↓reduceIte, Nat.reduceEqDiff, Nat.reduceLT, Nat.reduceAdd, reduceCtorEq, Int.reduceToNat, Try.ntmps29, Try.results29, fr, hq, hi', r'.ld, e] <;> repeat' ((first | (refine AOK_is (by exact hasButton_ok _ _ _ _ _ _ (by first | assumption | (refine SliceAt.ext (by assumption) ?_; exact xt)) (by first | assumption | omega) (by first | assumption | (refine SliceAt.ext (by assumption) ?_; exact xt)) (by first | assumption | omega)) ?_; intro Hc hxc) | (refine AOK_is (by exact isColoured_ok _ _ _ _ _ (by first | assumption | (refine SliceAt.ext (by assumption) ?_; exact xt)) (by first | assumption | omega)) ?_; intro Hc hxc) | refine AK.drawT (by kernel_rfl) ?_ | ((first | refine ABK_mk ?_ ?_ | refine AGK_mk ?_ ?_) <;> intro hb <;> (try simp only [decide_eq_true_eq, decide_eq_false_iff_not, Bool.not_eq_true', Bool.not_eq_false', Bool.not_not] at hb) <;> (try (exfalso; omega)) <;> (try subst hb) <;> try simp only [hb, decide_true, decide_false])) <;> try simp (disch := first | exact dsch | kernel_rfl) only [go_sem, ↓reduceIte, Nat.reduceEqDiff, Nat.reduceLT, Nat.reduceAdd, reduceCtorEq, Int.reduceToNat, Try.ntmps29, Try.results29, fr, hq, hi', r'.ld, e]))
      refine hK _ _ hi (by rfl) (by exact xt) fun j hj => ?_
      by_cases ej : j = i
      · subst ej; exact e
      · exact hall2 j (by omega)
    · have e' : ¬ (((effW l o m w).getD i 0 : Nat) : Int) = 0 := by omega
      (simp (disch := first | exact dsch | kernel_rfl) only [go_sem, ↓reduceIte, Nat.reduceEqDiff, Nat.reduceLT, Nat.reduceAdd, reduceCtorEq, Int.reduceToNat, Try.ntmps29, Try.results29, fr, hq, hi', r'.ld, e'] <;> repeat' ((first | (refine AOK_is (by exact hasButton_ok _ _ _ _ _ _ (by first | assumption | (refine SliceAt.ext (by assumption) ?_; exact xt)) (by first | assumption | omega) (by first | assumption | (refine SliceAt.ext (by assumption) ?_; exact xt)) (by first | assumption | omega)) ?_; intro Hc hxc) | (refine AOK_is (by exact isColoured_ok _ _ _ _ _ (by first | assumption | (refine SliceAt.ext (by assumption) ?_; exact xt)) (by first | assumption | omega)) ?_; intro Hc hxc) | refine AK.drawT (by kernel_rfl) ?_ | ((first | refine ABK_mk ?_ ?_ | refine AGK_mk ?_ ?_) <;> intro hb <;> (try simp only [decide_eq_true_eq, decide_eq_false_iff_not, Bool.not_eq_true', Bool.not_eq_false', Bool.not_not] at hb) <;> (try (exfalso; omega)) <;> (try subst hb) <;> try simp only [hb, decide_true, decide_false])) <;> try simp (disch := first | exact dsch | kernel_rfl) only [go_sem, ↓reduceIte, Nat.reduceEqDiff, Nat.reduceLT, Nat.reduceAdd, reduceCtorEq, Int.reduceToNat, Try.ntmps29, Try.results29, fr, hq, hi', r'.ld, e']))
      exact Is.mk (by rw [perV_true hwb, perN_m hil e]) (by exact xt)
  · have hi' : ¬ (i : Int) < ((nn l).length : Int) := by omega
    (simp (disch := first | exact dsch | kernel_rfl) only [go_sem, ↓reduceIte, Nat.reduceEqDiff, Nat.reduceLT, Nat.reduceAdd, reduceCtorEq, Int.reduceToNat, Try.ntmps29, Try.results29, fr, hq, hi'] <;> repeat' ((first | (refine AOK_is (by exact hasButton_ok _ _ _ _ _ _ (by first | assumption | (refine SliceAt.ext (by assumption) ?_; exact xt)) (by first | assumption | omega) (by first | assumption | (refine SliceAt.ext (by assumption) ?_; exact xt)) (by first | assumption | omega)) ?_; intro Hc hxc) | (refine AOK_is (by exact isColoured_ok _ _ _ _ _ (by first | assumption | (refine SliceAt.ext (by assumption) ?_; exact xt)) (by first | assumption | omega)) ?_; intro Hc hxc) | refine AK.drawT (by kernel_rfl) ?_ | ((first | refine ABK_mk ?_ ?_ | refine AGK_mk ?_ ?_) <;> intro hb <;> (try simp only [decide_eq_true_eq, decide_eq_false_iff_not, Bool.not_eq_true', Bool.not_eq_false', Bool.not_not] at hb) <;> (try (exfalso; omega)) <;> (try subst hb) <;> try simp only [hb, decide_true, decide_false])) <;> try simp (disch := first | exact dsch | kernel_rfl) only [go_sem, ↓reduceIte, Nat.reduceEqDiff, Nat.reduceLT, Nat.reduceAdd, reduceCtorEq, Int.reduceToNat, Try.ntmps29, Try.results29, fr, hq, hi']))
    exact Is.mk (by rw [perV_true hwb, perN_one fun j hj => hall2 j (by omega)]; rfl) (by exact xt)

set_option maxRecDepth 10000 in
theorem specPeriod_ok : PerC 35 := by
  intro l w m o s u H hs hl hu hw hm7
  have hso := SliceAt.isOne hs
  refine Ev.enterK (fn := Try.f35) rfl Try.func35 rfl (by kernel_rfl) (by simp [Try.ntmps35]) ?_
  (simp (disch := first | exact dsch | kernel_rfl) only [go_sem, ↓reduceIte, Nat.reduceEqDiff, Nat.reduceLT, Nat.reduceAdd, reduceCtorEq, Int.reduceToNat, Try.ntmps35, Try.results35] <;> repeat' ((first | (refine AOK_is (by exact l1All_ok _ _ _ _ _ (by first | assumption | (refine SliceAt.ext (by assumption) ?_; exact xt)) (by omega)) ?_; intro Hc hxc) | refine AK.drawT (by kernel_rfl) ?_ | ((first | refine ABK_mk ?_ ?_ | refine AGK_mk ?_ ?_) <;> intro hb <;> (try simp only [decide_eq_true_eq, decide_eq_false_iff_not, Bool.not_eq_true', Bool.not_eq_false', Bool.not_not] at hb) <;> (try (exfalso; omega)) <;> (try subst hb) <;> try simp only [hb, decide_true, decide_false])) <;> try simp (disch := first | exact dsch | kernel_rfl) only [go_sem, ↓reduceIte, Nat.reduceEqDiff, Nat.reduceLT, Nat.reduceAdd, reduceCtorEq, Int.reduceToNat, Try.ntmps35, Try.results35]))
  refine AOK_gives (clWord_ok l w m o s u _ (SliceAt.ext hs (by exact xt)) hl (SliceAt.ext hu (by exact xt)) hw hm7) ?_
  rintro _ H1 x1 (⟨hwb, rfl⟩ | ⟨hwb, c2, rfl, hc2, r2⟩)
  · (simp (disch := first | exact dsch | kernel_rfl) only [go_sem, ↓reduceIte, Nat.reduceEqDiff, Nat.reduceLT, Nat.reduceAdd, reduceCtorEq, Int.reduceToNat, Try.ntmps35, Try.results35] <;> repeat' ((first | (refine AOK_is (by exact l1All_ok _ _ _ _ _ (by first | assumption | (refine SliceAt.ext (by assumption) ?_; exact xt)) (by omega)) ?_; intro Hc hxc) | refine AK.drawT (by kernel_rfl) ?_ | ((first | refine ABK_mk ?_ ?_ | refine AGK_mk ?_ ?_) <;> intro hb <;> (try simp only [decide_eq_true_eq, decide_eq_false_iff_not, Bool.not_eq_true', Bool.not_eq_false', Bool.not_not] at hb) <;> (try (exfalso; omega)) <;> (try subst hb) <;> try simp only [hb, decide_true, decide_false])) <;> try simp (disch := first | exact dsch | kernel_rfl) only [go_sem, ↓reduceIte, Nat.reduceEqDiff, Nat.reduceLT, Nat.reduceAdd, reduceCtorEq, Int.reduceToNat, Try.ntmps35, Try.results35]))
    exact ⟨(perV_false hwb).symm, by exact xt⟩
  have hcb := (wordB_true hwb).1
  have K := colB_ok hcb
  have hm := K.mod
  have hm0 : 0 < m := by omega
  have h10 := K.n10
  have hle := K.len
  (simp (disch := first | exact dsch | kernel_rfl) only [go_sem, ↓reduceIte, Nat.reduceEqDiff, Nat.reduceLT, Nat.reduceAdd, reduceCtorEq, Int.reduceToNat, Try.ntmps35, Try.results35] <;> repeat' ((first | (refine AOK_is (by exact l1All_ok _ _ _ _ _ (by first | assumption | (refine SliceAt.ext (by assumption) ?_; exact xt)) (by omega)) ?_; intro Hc hxc) | refine AK.drawT (by kernel_rfl) ?_ | ((first | refine ABK_mk ?_ ?_ | refine AGK_mk ?_ ?_) <;> intro hb <;> (try simp only [decide_eq_true_eq, decide_eq_false_iff_not, Bool.not_eq_true', Bool.not_eq_false', Bool.not_not] at hb) <;> (try (exfalso; omega)) <;> (try subst hb) <;> try simp only [hb, decide_true, decide_false])) <;> try simp (disch := first | exact dsch | kernel_rfl) only [go_sem, ↓reduceIte, Nat.reduceEqDiff, Nat.reduceLT, Nat.reduceAdd, reduceCtorEq, Int.reduceToNat, Try.ntmps35, Try.results35]))
  have ln : NatsAt H s (nn l) := NatsAt.of hs K.zs
  have t2 : NatsAt H1 (.sl c2 0 l.length) (wdL (nn l).length m w) := by have := r2.nats; rw [wdL_length] at this; rwa [hle]
  have wl : (wdL (nn l).length m w).length = (nn l).length := wdL_length
  refine AOK_gives (clEffect_ok (nn l) (wdL (nn l).length m w) m o s (.sl c2 0 l.length) _ (ln.ext (by exact xt)) t2 (by omega) (by omega) K.lt hm0 hm7 (fun i _ => by have := wdL_lt (n := (nn l).length) (w := w) hm0 i; omega)) ?_
  rintro _ H3 x3 ⟨c, rfl, hc, r⟩
  have hel : (effW l o m w).length = (nn l).length := by unfold effW; rw [efL_length, wl]
  have r' : RowAt H3 c (effW l o m w) := r
  have hx3 : Ext H H3 := by exact xt
  have na := r'.nats
  simp (disch := first | exact dsch | kernel_rfl) only [go_sem, ↓reduceIte, Nat.reduceEqDiff, Nat.reduceLT, Nat.reduceAdd, reduceCtorEq, Int.reduceToNat, Try.ntmps35, Try.results35]
  refine AOK_is (l1All_ok (zs (effW l o m w)) 0 0 _ H3 (by rw [wl, ← hel]; exact na) (by simp; omega)) ?_
  intro H4 x4
  have eall : ((zs (effW l o m w)).all fun x => decide (0 ≤ x ∧ x ≤ 0)) = (effW l o m w).all (fun x => decide (x = 0)) := by
    rw [zs, List.all_map]
    congr 1
    funext x
    exact decide_eq_decide.2 ⟨fun h => by have := h.2; simp only [Int.ofNat_eq_natCast] at this; omega, fun h => by subst h; exact ⟨Int.le_refl _, Int.le_refl _⟩⟩
  rw [eall]
  cases ha : (effW l o m w).all (fun x => decide (x = 0))
  · (simp (disch := first | exact dsch | kernel_rfl) only [go_sem, ↓reduceIte, Nat.reduceEqDiff, Nat.reduceLT, Nat.reduceAdd, reduceCtorEq, Int.reduceToNat, Try.ntmps35, Try.results35] <;> repeat' ((first | (refine AOK_is (by exact l1All_ok _ _ _ _ _ (by first | assumption | (refine SliceAt.ext (by assumption) ?_; exact xt)) (by omega)) ?_; intro Hc hxc) | refine AK.drawT (by kernel_rfl) ?_ | ((first | refine ABK_mk ?_ ?_ | refine AGK_mk ?_ ?_) <;> intro hb <;> (try simp only [decide_eq_true_eq, decide_eq_false_iff_not, Bool.not_eq_true', Bool.not_eq_false', Bool.not_not] at hb) <;> (try (exfalso; omega)) <;> (try subst hb) <;> try simp only [hb, decide_true, decide_false])) <;> try simp (disch := first | exact dsch | kernel_rfl) only [go_sem, ↓reduceIte, Nat.reduceEqDiff, Nat.reduceLT, Nat.reduceAdd, reduceCtorEq, Int.reduceToNat, Try.ntmps35, Try.results35]))
    exact Is.mk (by rw [perV_true hwb, perN, ha]; rfl) (by exact xt)
  · (simp (disch := first | exact dsch | kernel_rfl) only [go_sem, ↓reduceIte, Nat.reduceEqDiff, Nat.reduceLT, Nat.reduceAdd, reduceCtorEq, Int.reduceToNat, Try.ntmps35, Try.results35] <;> repeat' ((first | (refine AOK_is (by exact l1All_ok _ _ _ _ _ (by first | assumption | (refine SliceAt.ext (by assumption) ?_; exact xt)) (by omega)) ?_; intro Hc hxc) | refine AK.drawT (by kernel_rfl) ?_ | ((first | refine ABK_mk ?_ ?_ | refine AGK_mk ?_ ?_) <;> intro hb <;> (try simp only [decide_eq_true_eq, decide_eq_false_iff_not, Bool.not_eq_true', Bool.not_eq_false', Bool.not_not] at hb) <;> (try (exfalso; omega)) <;> (try subst hb) <;> try simp only [hb, decide_true, decide_false])) <;> try simp (disch := first | exact dsch | kernel_rfl) only [go_sem, ↓reduceIte, Nat.reduceEqDiff, Nat.reduceLT, Nat.reduceAdd, reduceCtorEq, Int.reduceToNat, Try.ntmps35, Try.results35]))
    exact Is.mk (by rw [perV_true hwb, perN, ha]; rfl) (by exact xt)

end Go.Proofs.Ytopbfmhajbjepaa
