/- Contracts: EffectColours, PressColours, PeriodOf on both sides. -/
import Derived.Test.YtopbfmhajbjepaaE3
namespace Go.Proofs.Ytopbfmhajbjepaa
open Go
set_option linter.unusedSimpArgs false
set_option linter.unusedVariables false

abbrev nn (l : List Int) : List Nat := l.map Int.toNat
theorem nn_zs (l : List Nat) : nn (zs l) = l := by
  unfold nn zs
  rw [List.map_map]
  exact (List.map_congr_left (g := id) fun x _ => rfl).trans (List.map_id l)
theorem zs_length' (l : List Nat) : (zs l).length = l.length := by simp [zs]
/-- What a graph with colours is. -/
structure ColOK (l : List Int) (m : Nat) : Prop where
  zs : l = zs (nn l)
  n10 : (nn l).length ≤ 10
  len : (nn l).length = l.length
  lt : ∀ i < (nn l).length, (nn l).getD i 0 < 65536
  mod : m = 2 ∨ m = 3 ∨ m = 5 ∨ m = 7
theorem colB_ok {l : List Int} {m : Nat} (h : colB l m = true) : ColOK l m := by
  obtain ⟨near, rfl, hg, h10, hm⟩ := colB_true h
  refine ⟨by rw [nn_zs], by rw [nn_zs]; exact h10, by simp, ?_, hm⟩
  rw [nn_zs]
  intro i hi
  have hp : 2 ^ near.length ≤ 65536 := Nat.pow_le_pow_right (n := 2) (by omega) (show near.length ≤ 16 by omega)
  have := hg.2.1 i hi
  omega
structure ListOK (l q : List Int) (m : Nat) : Prop extends ColOK l m where
  qzs : q = Go.Proofs.Ytopbfmhajbjepaa.zs (nn q)
  qlen : (nn q).length = q.length
  ql : q.length = l.length
  qlt : ∀ i < (nn q).length, (nn q).getD i 0 < m
theorem colL_ok {l q : List Int} {m : Nat} (h : colL l m q = true) : ListOK l q m := by
  obtain ⟨h1, qn, rfl, h2, h3⟩ := colL_true h
  exact { colB_ok h1 with qzs := by rw [nn_zs], qlen := by simp, ql := by simpa using h2, qlt := by rw [nn_zs]; exact h3 }
theorem NatsAt.of {H : AH} {v : AV} {l : List Int} (h : IntsAt H v l) (e : l = zs (nn l)) : NatsAt H v (nn l) := by unfold NatsAt; rw [← e]; exact h

def EffR (n0 : Nat) (l : List Int) (o : Bool) (m : Nat) (q : List Int) (v : AV) (H : AH) : Prop :=
  (colL l m q = false ∧ v = .tup [.nilsl, .bool false]) ∨ (colL l m q = true ∧ ∃ c, v = .tup [.sl c 0 q.length, .bool true] ∧ n0 ≤ c ∧ RowAt H c (efL (nn l) o m (nn q)))
def EffC (f : FuncId) : Prop := ∀ (l q : List Int) (m : Nat) (o : Bool) (s t : AV) (H : AH), IntsAt H s l → l.length < 1000000 → IntsAt H t q → q.length < 1000000 → m ≤ 7 →
  E f [.agg [s, .bool o], .int .i64 m, t] H (Gives H (EffR H.size l o m q))
theorem implEffect_ok : EffC 28 := by
  intro l q m o s t H hs hl ht hq hm7
  have hso := SliceAt.isOne hs
  refine Ev.enterK (fn := Try.f28) rfl Try.func28 rfl (by kernel_rfl) (by simp [Try.ntmps28]) ?_
  cases hb : colL l m q
  · (simp (disch := first | exact dsch | kernel_rfl) only [go_sem, ↓reduceIte, Nat.reduceEqDiff, Nat.reduceLT, Nat.reduceAdd, reduceCtorEq, Int.reduceToNat, Try.ntmps28, Try.results28, hb] <;> repeat' ((first | (refine AOK_is (by exact areColours_ok _ _ _ _ _ _ _ (by first | assumption | (refine SliceAt.ext (by assumption) ?_; exact xt)) (by first | assumption | omega) (by first | assumption | (refine SliceAt.ext (by assumption) ?_; exact xt)) (by first | assumption | omega) (by omega) (by omega)) ?_; intro Hc hxc) | refine AK.drawT (by kernel_rfl) ?_ | ((first | refine ABK_mk ?_ ?_ | refine AGK_mk ?_ ?_) <;> intro hb <;> (try simp only [decide_eq_true_eq, decide_eq_false_iff_not, Bool.not_eq_true', Bool.not_eq_false', Bool.not_not] at hb) <;> (try (exfalso; omega)) <;> (try subst hb) <;> try simp only [hb, decide_true, decide_false])) <;> try simp (disch := first | exact dsch | kernel_rfl) only [go_sem, ↓reduceIte, Nat.reduceEqDiff, Nat.reduceLT, Nat.reduceAdd, reduceCtorEq, Int.reduceToNat, Try.ntmps28, Try.results28, hb]))
    exact ⟨by exact xt, .inl ⟨hb, rfl⟩⟩
  · have K := colL_ok hb
    have hm := K.mod
    have hql := K.qlen
    have h10 := K.n10
    have hle := K.len
    have hqe := K.ql
    (simp (disch := first | exact dsch | kernel_rfl) only [go_sem, ↓reduceIte, Nat.reduceEqDiff, Nat.reduceLT, Nat.reduceAdd, reduceCtorEq, Int.reduceToNat, Try.ntmps28, Try.results28, hb] <;> repeat' ((first | (refine AOK_is (by exact areColours_ok _ _ _ _ _ _ _ (by first | assumption | (refine SliceAt.ext (by assumption) ?_; exact xt)) (by first | assumption | omega) (by first | assumption | (refine SliceAt.ext (by assumption) ?_; exact xt)) (by first | assumption | omega) (by omega) (by omega)) ?_; intro Hc hxc) | refine AK.drawT (by kernel_rfl) ?_ | ((first | refine ABK_mk ?_ ?_ | refine AGK_mk ?_ ?_) <;> intro hb <;> (try simp only [decide_eq_true_eq, decide_eq_false_iff_not, Bool.not_eq_true', Bool.not_eq_false', Bool.not_not] at hb) <;> (try (exfalso; omega)) <;> (try subst hb) <;> try simp only [hb, decide_true, decide_false])) <;> try simp (disch := first | exact dsch | kernel_rfl) only [go_sem, ↓reduceIte, Nat.reduceEqDiff, Nat.reduceLT, Nat.reduceAdd, reduceCtorEq, Int.reduceToNat, Try.ntmps28, Try.results28, hb]))
    refine AOK_gives (effectColours_ok (nn l) (nn q) m o s t _ (NatsAt.of (SliceAt.ext hs (by exact xt)) K.zs) (NatsAt.of (SliceAt.ext ht (by exact xt)) K.qzs) (by omega) (by omega) K.lt (by omega) hm7 (fun i hi => by have := K.qlt i hi; omega)) ?_
    rintro _ H2 x2 ⟨c, rfl, hc, r⟩
    (simp (disch := first | exact dsch | kernel_rfl) only [go_sem, ↓reduceIte, Nat.reduceEqDiff, Nat.reduceLT, Nat.reduceAdd, reduceCtorEq, Int.reduceToNat, Try.ntmps28, Try.results28] <;> repeat' ((first | (refine AOK_is (by exact areColours_ok _ _ _ _ _ _ _ (by first | assumption | (refine SliceAt.ext (by assumption) ?_; exact xt)) (by first | assumption | omega) (by first | assumption | (refine SliceAt.ext (by assumption) ?_; exact xt)) (by first | assumption | omega) (by omega) (by omega)) ?_; intro Hc hxc) | refine AK.drawT (by kernel_rfl) ?_ | ((first | refine ABK_mk ?_ ?_ | refine AGK_mk ?_ ?_) <;> intro hb <;> (try simp only [decide_eq_true_eq, decide_eq_false_iff_not, Bool.not_eq_true', Bool.not_eq_false', Bool.not_not] at hb) <;> (try (exfalso; omega)) <;> (try subst hb) <;> try simp only [hb, decide_true, decide_false])) <;> try simp (disch := first | exact dsch | kernel_rfl) only [go_sem, ↓reduceIte, Nat.reduceEqDiff, Nat.reduceLT, Nat.reduceAdd, reduceCtorEq, Int.reduceToNat, Try.ntmps28, Try.results28]))
    refine ⟨by exact xt, .inr ⟨hb, c, by rw [hql], ?_, r⟩⟩
    have := Ext.size (show Ext H Hc by exact xt)
    omega
theorem specEffect_ok : EffC 31 := by
  intro l q m o s t H hs hl ht hq hm7
  have hso := SliceAt.isOne hs
  refine Ev.enterK (fn := Try.f31) rfl Try.func31 rfl (by kernel_rfl) (by simp [Try.ntmps31]) ?_
  cases hb : colL l m q
  · (simp (disch := first | exact dsch | kernel_rfl) only [go_sem, ↓reduceIte, Nat.reduceEqDiff, Nat.reduceLT, Nat.reduceAdd, reduceCtorEq, Int.reduceToNat, Try.ntmps31, Try.results31, hb] <;> repeat' ((first | (refine AOK_is (by exact clList_ok _ _ _ _ _ _ _ (by first | assumption | (refine SliceAt.ext (by assumption) ?_; exact xt)) (by first | assumption | omega) (by first | assumption | (refine SliceAt.ext (by assumption) ?_; exact xt)) (by first | assumption | omega) (by omega) (by omega)) ?_; intro Hc hxc) | refine AK.drawT (by kernel_rfl) ?_ | ((first | refine ABK_mk ?_ ?_ | refine AGK_mk ?_ ?_) <;> intro hb <;> (try simp only [decide_eq_true_eq, decide_eq_false_iff_not, Bool.not_eq_true', Bool.not_eq_false', Bool.not_not] at hb) <;> (try (exfalso; omega)) <;> (try subst hb) <;> try simp only [hb, decide_true, decide_false])) <;> try simp (disch := first | exact dsch | kernel_rfl) only [go_sem, ↓reduceIte, Nat.reduceEqDiff, Nat.reduceLT, Nat.reduceAdd, reduceCtorEq, Int.reduceToNat, Try.ntmps31, Try.results31, hb]))
    exact ⟨by exact xt, .inl ⟨hb, rfl⟩⟩
  · have K := colL_ok hb
    have hm := K.mod
    have hql := K.qlen
    have h10 := K.n10
    have hle := K.len
    have hqe := K.ql
    (simp (disch := first | exact dsch | kernel_rfl) only [go_sem, ↓reduceIte, Nat.reduceEqDiff, Nat.reduceLT, Nat.reduceAdd, reduceCtorEq, Int.reduceToNat, Try.ntmps31, Try.results31, hb] <;> repeat' ((first | (refine AOK_is (by exact clList_ok _ _ _ _ _ _ _ (by first | assumption | (refine SliceAt.ext (by assumption) ?_; exact xt)) (by first | assumption | omega) (by first | assumption | (refine SliceAt.ext (by assumption) ?_; exact xt)) (by first | assumption | omega) (by omega) (by omega)) ?_; intro Hc hxc) | refine AK.drawT (by kernel_rfl) ?_ | ((first | refine ABK_mk ?_ ?_ | refine AGK_mk ?_ ?_) <;> intro hb <;> (try simp only [decide_eq_true_eq, decide_eq_false_iff_not, Bool.not_eq_true', Bool.not_eq_false', Bool.not_not] at hb) <;> (try (exfalso; omega)) <;> (try subst hb) <;> try simp only [hb, decide_true, decide_false])) <;> try simp (disch := first | exact dsch | kernel_rfl) only [go_sem, ↓reduceIte, Nat.reduceEqDiff, Nat.reduceLT, Nat.reduceAdd, reduceCtorEq, Int.reduceToNat, Try.ntmps31, Try.results31, hb]))
    refine AOK_gives (clEffect_ok (nn l) (nn q) m o s t _ (NatsAt.of (SliceAt.ext hs (by exact xt)) K.zs) (NatsAt.of (SliceAt.ext ht (by exact xt)) K.qzs) (by omega) (by omega) K.lt (by omega) hm7 (fun i hi => by have := K.qlt i hi; omega)) ?_
    rintro _ H2 x2 ⟨c, rfl, hc, r⟩
    (simp (disch := first | exact dsch | kernel_rfl) only [go_sem, ↓reduceIte, Nat.reduceEqDiff, Nat.reduceLT, Nat.reduceAdd, reduceCtorEq, Int.reduceToNat, Try.ntmps31, Try.results31] <;> repeat' ((first | (refine AOK_is (by exact clList_ok _ _ _ _ _ _ _ (by first | assumption | (refine SliceAt.ext (by assumption) ?_; exact xt)) (by first | assumption | omega) (by first | assumption | (refine SliceAt.ext (by assumption) ?_; exact xt)) (by first | assumption | omega) (by omega) (by omega)) ?_; intro Hc hxc) | refine AK.drawT (by kernel_rfl) ?_ | ((first | refine ABK_mk ?_ ?_ | refine AGK_mk ?_ ?_) <;> intro hb <;> (try simp only [decide_eq_true_eq, decide_eq_false_iff_not, Bool.not_eq_true', Bool.not_eq_false', Bool.not_not] at hb) <;> (try (exfalso; omega)) <;> (try subst hb) <;> try simp only [hb, decide_true, decide_false])) <;> try simp (disch := first | exact dsch | kernel_rfl) only [go_sem, ↓reduceIte, Nat.reduceEqDiff, Nat.reduceLT, Nat.reduceAdd, reduceCtorEq, Int.reduceToNat, Try.ntmps31, Try.results31]))
    refine ⟨by exact xt, .inr ⟨hb, c, by rw [hql], ?_, r⟩⟩
    have := Ext.size (show Ext H Hc by exact xt)
    omega

/- A row that is turned one by one. -/
def upL (n : Nat) (a b : Nat → Nat) (i : Nat) : List Nat := (List.range n).map fun k => if k < i then b k else a k
section
variable {n : Nat} {a b : Nat → Nat}
theorem upL_length (i : Nat) : (upL n a b i).length = n := by simp [upL]
theorem upL_getD {i k : Nat} (h : k < n) : (upL n a b i).getD k 0 = if k < i then b k else a k := by simp [upL, List.getD, h]
theorem upL_zero : upL n a b 0 = (List.range n).map a := by simp [upL]
theorem upL_end : upL n a b n = (List.range n).map b := by
  refine List.ext_getElem (by simp [upL]) fun k h1 h2 => ?_
  have : k < n := by simpa [upL] using h1
  simp [upL, this]
theorem upL_step {i : Nat} (hi : i < n) : upL n a b (i + 1) = (upL n a b i).set i (b i) := by
  refine List.ext_getElem (by simp [upL]) fun k h1 h2 => ?_
  rw [List.getElem_set]
  by_cases e : i = k
  · subst e; rw [if_pos rfl]; simp [upL]
  · rw [if_neg e]
    simp only [upL, List.getElem_map, List.getElem_range]
    by_cases h : k < i
    · rw [if_pos h, if_pos (by omega)]
    · rw [if_neg h, if_neg (by omega)]
end
theorem range_getD (l : List Nat) : (List.range l.length).map (fun k => l.getD k 0) = l := by
  refine List.ext_getElem (by simp) fun k h1 h2 => ?_
  simp [List.getD, h2]

/-- What the lights show behind a word. -/
def prL (near : List Nat) (o : Bool) (m : Nat) (q : List Nat) (w : List Int) : List Nat := (List.range q.length).map fun k => ((efL near o m (wdL near.length m w)).getD k 0 + q.getD k 0) % m
noncomputable def pressB (l : List Int) (m : Nat) (q w : List Int) : Bool := wordB l m w && colL l m q
def PrR (n0 : Nat) (l : List Int) (o : Bool) (m : Nat) (q w : List Int) (v : AV) (H : AH) : Prop :=
  (pressB l m q w = false ∧ v = .tup [.nilsl, .bool false]) ∨ (pressB l m q w = true ∧ ∃ c, v = .tup [.sl c 0 q.length, .bool true] ∧ n0 ≤ c ∧ RowAt H c (prL (nn l) o m (nn q) w))
def Prs (f : FuncId) : Prop := ∀ (l q w : List Int) (m : Nat) (o : Bool) (s t u : AV) (H : AH), IntsAt H s l → l.length < 1000000 → IntsAt H t q → q.length < 1000000 → IntsAt H u w → w.length < 1000000 → m ≤ 7 →
  E f [.agg [s, .bool o], .int .i64 m, t, u] H (Gives H (PrR H.size l o m q w))
set_option maxRecDepth 10000 in
theorem implPress_ok : Prs 25 := by
  intro l q w m o s t u H hs hl ht hq hu hw hm7
  have hso := SliceAt.isOne hs
  refine Ev.enterK (fn := Try.f25) rfl Try.func25 rfl (by kernel_rfl) (by simp [Try.ntmps25]) ?_
  have bad : pressB l m q w = false → ∀ Hx : AH, Ext H Hx → Gives H (PrR H.size l o m q w) (.tup [.nilsl, .bool false]) Hx := fun h Hx x => ⟨x, .inl ⟨h, rfl⟩⟩
  cases h1 : colL l m q
  · (simp (disch := first | exact dsch | kernel_rfl) only [go_sem, ↓reduceIte, Nat.reduceEqDiff, Nat.reduceLT, Nat.reduceAdd, reduceCtorEq, Int.reduceToNat, Try.ntmps25, Try.results25, h1] <;> repeat' ((first | (refine AOK_is (by exact areColours_ok _ _ _ _ _ _ _ (by first | assumption | (refine SliceAt.ext (by assumption) ?_; exact xt)) (by first | assumption | omega) (by first | assumption | (refine SliceAt.ext (by assumption) ?_; exact xt)) (by first | assumption | omega) (by omega) (by omega)) ?_; intro Hc hxc) | (refine AOK_is (by exact hasButton_ok _ _ _ _ _ _ (by first | assumption | (refine SliceAt.ext (by assumption) ?_; exact xt)) (by first | assumption | omega) (by first | assumption | (refine SliceAt.ext (by assumption) ?_; exact xt)) (by first | assumption | omega)) ?_; intro Hc hxc) | refine AK.drawT (by kernel_rfl) ?_ | ((first | refine ABK_mk ?_ ?_ | refine AGK_mk ?_ ?_) <;> intro hb <;> (try simp only [decide_eq_true_eq, decide_eq_false_iff_not, Bool.not_eq_true', Bool.not_eq_false', Bool.not_not] at hb) <;> (try (exfalso; omega)) <;> (try subst hb) <;> try simp only [hb, decide_true, decide_false])) <;> try simp (disch := first | exact dsch | kernel_rfl) only [go_sem, ↓reduceIte, Nat.reduceEqDiff, Nat.reduceLT, Nat.reduceAdd, reduceCtorEq, Int.reduceToNat, Try.ntmps25, Try.results25, h1]))
    exact bad (by simp only [pressB, h1, Bool.and_false]) _ (by exact xt)
  have K := colL_ok h1
  have hcb := (colL_true h1).1
  have hok : okB l = true := by simp only [colB, Bool.and_eq_true] at hcb; exact hcb.1.1
  by_cases h200 : (200 : Int) < (w.length : Int)
  · (simp (disch := first | exact dsch | kernel_rfl) only [go_sem, ↓reduceIte, Nat.reduceEqDiff, Nat.reduceLT, Nat.reduceAdd, reduceCtorEq, Int.reduceToNat, Try.ntmps25, Try.results25, h1, hu.len, h200] <;> repeat' ((first | (refine AOK_is (by exact areColours_ok _ _ _ _ _ _ _ (by first | assumption | (refine SliceAt.ext (by assumption) ?_; exact xt)) (by first | assumption | omega) (by first | assumption | (refine SliceAt.ext (by assumption) ?_; exact xt)) (by first | assumption | omega) (by omega) (by omega)) ?_; intro Hc hxc) | (refine AOK_is (by exact hasButton_ok _ _ _ _ _ _ (by first | assumption | (refine SliceAt.ext (by assumption) ?_; exact xt)) (by first | assumption | omega) (by first | assumption | (refine SliceAt.ext (by assumption) ?_; exact xt)) (by first | assumption | omega)) ?_; intro Hc hxc) | refine AK.drawT (by kernel_rfl) ?_ | ((first | refine ABK_mk ?_ ?_ | refine AGK_mk ?_ ?_) <;> intro hb <;> (try simp only [decide_eq_true_eq, decide_eq_false_iff_not, Bool.not_eq_true', Bool.not_eq_false', Bool.not_not] at hb) <;> (try (exfalso; omega)) <;> (try subst hb) <;> try simp only [hb, decide_true, decide_false])) <;> try simp (disch := first | exact dsch | kernel_rfl) only [go_sem, ↓reduceIte, Nat.reduceEqDiff, Nat.reduceLT, Nat.reduceAdd, reduceCtorEq, Int.reduceToNat, Try.ntmps25, Try.results25, h1, hu.len, h200]))
    exact bad (by simp only [pressB, wordB, hcb, Bool.true_and]; rw [decide_eq_false (by omega)]; rfl) _ (by exact xt)
  have e200 : decide (w.length ≤ 200) = true := decide_eq_true (by omega)
  cases h3 : wrdB l w
  · (simp (disch := first | exact dsch | kernel_rfl) only [go_sem, ↓reduceIte, Nat.reduceEqDiff, Nat.reduceLT, Nat.reduceAdd, reduceCtorEq, Int.reduceToNat, Try.ntmps25, Try.results25, h1, hu.len, h200, h3] <;> repeat' ((first | (refine AOK_is (by exact areColours_ok _ _ _ _ _ _ _ (by first | assumption | (refine SliceAt.ext (by assumption) ?_; exact xt)) (by first | assumption | omega) (by first | assumption | (refine SliceAt.ext (by assumption) ?_; exact xt)) (by first | assumption | omega) (by omega) (by omega)) ?_; intro Hc hxc) | (refine AOK_is (by exact hasButton_ok _ _ _ _ _ _ (by first | assumption | (refine SliceAt.ext (by assumption) ?_; exact xt)) (by first | assumption | omega) (by first | assumption | (refine SliceAt.ext (by assumption) ?_; exact xt)) (by first | assumption | omega)) ?_; intro Hc hxc) | refine AK.drawT (by kernel_rfl) ?_ | ((first | refine ABK_mk ?_ ?_ | refine AGK_mk ?_ ?_) <;> intro hb <;> (try simp only [decide_eq_true_eq, decide_eq_false_iff_not, Bool.not_eq_true', Bool.not_eq_false', Bool.not_not] at hb) <;> (try (exfalso; omega)) <;> (try subst hb) <;> try simp only [hb, decide_true, decide_false])) <;> try simp (disch := first | exact dsch | kernel_rfl) only [go_sem, ↓reduceIte, Nat.reduceEqDiff, Nat.reduceLT, Nat.reduceAdd, reduceCtorEq, Int.reduceToNat, Try.ntmps25, Try.results25, h1, hu.len, h200, h3]))
    exact bad (by simp only [wrdB, hok, Bool.true_and] at h3; simp only [pressB, wordB, h3, Bool.and_false, Bool.false_and]) _ (by exact xt)
  have h4 := h3
  simp only [wrdB, hok, Bool.true_and] at h4
  have hwb : wordB l m w = true := by simp only [wordB, hcb, e200, h4, Bool.and_true]
  have hpb : pressB l m q w = true := by simp only [pressB, hwb, h1, Bool.and_true]
  have hm := K.mod
  have hm0 : 0 < m := by omega
  have hql := K.qlen
  have h10 := K.n10
  have hle := K.len
  have hqe := K.ql
  obtain ⟨_, _, hall⟩ := wordB_true hwb
  (simp (disch := first | exact dsch | kernel_rfl) only [go_sem, ↓reduceIte, Nat.reduceEqDiff, Nat.reduceLT, Nat.reduceAdd, reduceCtorEq, Int.reduceToNat, Try.ntmps25, Try.results25, h1, hu.len, h200, h3] <;> repeat' ((first | (refine AOK_is (by exact areColours_ok _ _ _ _ _ _ _ (by first | assumption | (refine SliceAt.ext (by assumption) ?_; exact xt)) (by first | assumption | omega) (by first | assumption | (refine SliceAt.ext (by assumption) ?_; exact xt)) (by first | assumption | omega) (by omega) (by omega)) ?_; intro Hc hxc) | (refine AOK_is (by exact hasButton_ok _ _ _ _ _ _ (by first | assumption | (refine SliceAt.ext (by assumption) ?_; exact xt)) (by first | assumption | omega) (by first | assumption | (refine SliceAt.ext (by assumption) ?_; exact xt)) (by first | assumption | omega)) ?_; intro Hc hxc) | refine AK.drawT (by kernel_rfl) ?_ | ((first | refine ABK_mk ?_ ?_ | refine AGK_mk ?_ ?_) <;> intro hb <;> (try simp only [decide_eq_true_eq, decide_eq_false_iff_not, Bool.not_eq_true', Bool.not_eq_false', Bool.not_not] at hb) <;> (try (exfalso; omega)) <;> (try subst hb) <;> try simp only [hb, decide_true, decide_false])) <;> try simp (disch := first | exact dsch | kernel_rfl) only [go_sem, ↓reduceIte, Nat.reduceEqDiff, Nat.reduceLT, Nat.reduceAdd, reduceCtorEq, Int.reduceToNat, Try.ntmps25, Try.results25, h1, hu.len, h200, h3]))
  have ln : NatsAt H s (nn l) := NatsAt.of hs K.zs
  apply AOK_gives (hi := by rfl)
  · exact pressWord_ok l w m o s u _ (SliceAt.ext hs (by exact xt)) (SliceAt.ext hu (by exact xt)) (by omega) hw hm0 hm7 hall
  rintro _ H2 x2 ⟨c2, rfl, hc2, r2⟩
  simp (disch := first | exact dsch | kernel_rfl) only [go_sem, ↓reduceIte, Nat.reduceEqDiff, Nat.reduceLT, Nat.reduceAdd, reduceCtorEq, Int.reduceToNat, Try.ntmps25, Try.results25]
  have t2 : NatsAt H2 (.sl c2 0 l.length) (wdL (nn l).length m w) := by have := r2.nats; rw [wdL_length] at this; rwa [hle]
  have wl : (wdL (nn l).length m w).length = (nn l).length := wdL_length
  apply AOK_gives (hi := by rfl)
  · exact effectColours_ok (nn l) (wdL (nn l).length m w) m o s (.sl c2 0 l.length) _ (ln.ext (by exact xt)) t2 (by omega) (by omega) K.lt hm0 hm7 (fun i _ => by have := wdL_lt (n := (nn l).length) (w := w) hm0 i; omega)
  rintro _ H3 x3 ⟨c, rfl, hc, r⟩
  have hcs := Ext.size (show Ext H H2 by exact xt)
  (simp (disch := first | exact dsch | kernel_rfl) only [go_sem, ↓reduceIte, Nat.reduceEqDiff, Nat.reduceLT, Nat.reduceAdd, reduceCtorEq, Int.reduceToNat, Try.ntmps25, Try.results25, ht.len] <;> repeat' ((first | (refine AOK_is (by exact areColours_ok _ _ _ _ _ _ _ (by first | assumption | (refine SliceAt.ext (by assumption) ?_; exact xt)) (by first | assumption | omega) (by first | assumption | (refine SliceAt.ext (by assumption) ?_; exact xt)) (by first | assumption | omega) (by omega) (by omega)) ?_; intro Hc hxc) | (refine AOK_is (by exact hasButton_ok _ _ _ _ _ _ (by first | assumption | (refine SliceAt.ext (by assumption) ?_; exact xt)) (by first | assumption | omega) (by first | assumption | (refine SliceAt.ext (by assumption) ?_; exact xt)) (by first | assumption | omega)) ?_; intro Hc hxc) | refine AK.drawT (by kernel_rfl) ?_ | ((first | refine ABK_mk ?_ ?_ | refine AGK_mk ?_ ?_) <;> intro hb <;> (try simp only [decide_eq_true_eq, decide_eq_false_iff_not, Bool.not_eq_true', Bool.not_eq_false', Bool.not_not] at hb) <;> (try (exfalso; omega)) <;> (try subst hb) <;> try simp only [hb, decide_true, decide_false])) <;> try simp (disch := first | exact dsch | kernel_rfl) only [go_sem, ↓reduceIte, Nat.reduceEqDiff, Nat.reduceLT, Nat.reduceAdd, reduceCtorEq, Int.reduceToNat, Try.ntmps25, Try.results25, ht.len]))
  have hef : (efL (nn l) o m (wdL (nn l).length m w)).length = (nn q).length := by rw [efL_length, wdL_length]; omega
  have el : ∀ k, (efL (nn l) o m (wdL (nn l).length m w)).getD k 0 < m := by
    intro k
    by_cases hk : k < (wdL (nn l).length m w).length
    · rw [efL_getD hk]; exact es_lt hm0 _ _
    · have : (efL (nn l) o m (wdL (nn l).length m w)).length ≤ k := by rw [efL_length]; omega
      simp only [List.getD, List.getElem?_eq_none this, Option.getD_none]; exact hm0
  have tq : NatsAt H t (nn q) := NatsAt.of ht K.qzs
  have r0 : RowAt H3 c (upL (nn q).length (fun k => (efL (nn l) o m (wdL (nn l).length m w)).getD k 0) (fun k => ((efL (nn l) o m (wdL (nn l).length m w)).getD k 0 + (nn q).getD k 0) % m) 0) := by
    rw [upL_zero, ← hef, range_getD]; exact r
  refine (AK.count 38 [11, 12, 38, 39, 40, 41, 42, 43, 44, 45, 46, 47, 48, 49, 50, 51, 52, 53, 54] (by kernel_rfl) 0 (nn q).length (fun i tm H' => Ext H H' ∧ RowAt H' c (upL (nn q).length (fun k => (efL (nn l) o m (wdL (nn l).length m w)).getD k 0) (fun k => ((efL (nn l) o m (wdL (nn l).length m w)).getD k 0 + (nn q).getD k 0) % m) i)) (by rfl) (by omega) ⟨(show Ext H H3 by exact xt), r0⟩ ?_)
  rintro i tm H1 K1 g1 g2 fr hq1 ⟨x1, r1⟩ hK
  have hml := upL_length (n := (nn q).length) (a := fun k => (efL (nn l) o m (wdL (nn l).length m w)).getD k 0) (b := fun k => ((efL (nn l) o m (wdL (nn l).length m w)).getD k 0 + (nn q).getD k 0) % m) i
  by_cases hi : i < (nn q).length
  · have hi' : (i : Int) < (q.length : Int) := by omega
    have hmg := upL_getD (n := (nn q).length) (a := fun k => (efL (nn l) o m (wdL (nn l).length m w)).getD k 0) (b := fun k => ((efL (nn l) o m (wdL (nn l).length m w)).getD k 0 + (nn q).getD k 0) % m) (i := i) hi
    rw [if_neg (by omega)] at hmg
    have hst := upL_step (a := fun k => (efL (nn l) o m (wdL (nn l).length m w)).getD k 0) (b := fun k => ((efL (nn l) o m (wdL (nn l).length m w)).getD k 0 + (nn q).getD k 0) % m) hi
    have eli := el i
    have qli := K.qlt i hi
    generalize upL (nn q).length (fun k => (efL (nn l) o m (wdL (nn l).length m w)).getD k 0) (fun k => ((efL (nn l) o m (wdL (nn l).length m w)).getD k 0 + (nn q).getD k 0) % m) i = row at *
    try simp only at hmg
    try simp only at hst
    generalize (efL (nn l) o m (wdL (nn l).length m w)).getD i 0 = x at *
    have hil : i < row.length := by omega
    have e1 : (x : Int) + (((nn q).getD i 0 : Nat) : Int) = ((x + (nn q).getD i 0 : Nat) : Int) := by omega
    have e2 : ((x + (nn q).getD i 0 : Nat) : Int).tmod (m : Int) = (((x + (nn q).getD i 0) % m : Nat) : Int) := rfl
    have hmi : (m : Int) ≠ 0 := by omega
    (simp (disch := first | exact dsch | kernel_rfl) only [go_sem, ↓reduceIte, Nat.reduceEqDiff, Nat.reduceLT, Nat.reduceAdd, reduceCtorEq, Int.reduceToNat, Try.ntmps25, Try.results25, fr, hq1, hi', tq.ix, tq.ld, r1.ld, r1.st, hmg, e1, e2] <;> repeat' ((first | (refine AOK_is (by exact areColours_ok _ _ _ _ _ _ _ (by first | assumption | (refine SliceAt.ext (by assumption) ?_; exact xt)) (by first | assumption | omega) (by first | assumption | (refine SliceAt.ext (by assumption) ?_; exact xt)) (by first | assumption | omega) (by omega) (by omega)) ?_; intro Hc hxc) | (refine AOK_is (by exact hasButton_ok _ _ _ _ _ _ (by first | assumption | (refine SliceAt.ext (by assumption) ?_; exact xt)) (by first | assumption | omega) (by first | assumption | (refine SliceAt.ext (by assumption) ?_; exact xt)) (by first | assumption | omega)) ?_; intro Hc hxc) | refine AK.drawT (by kernel_rfl) ?_ | ((first | refine ABK_mk ?_ ?_ | refine AGK_mk ?_ ?_) <;> intro hb <;> (try simp only [decide_eq_true_eq, decide_eq_false_iff_not, Bool.not_eq_true', Bool.not_eq_false', Bool.not_not] at hb) <;> (try (exfalso; omega)) <;> (try subst hb) <;> try simp only [hb, decide_true, decide_false])) <;> try simp (disch := first | exact dsch | kernel_rfl) only [go_sem, ↓reduceIte, Nat.reduceEqDiff, Nat.reduceLT, Nat.reduceAdd, reduceCtorEq, Int.reduceToNat, Try.ntmps25, Try.results25, fr, hq1, hi', tq.ix, tq.ld, r1.ld, r1.st, hmg, e1, e2]))
    refine hK _ _ hi (by rfl) ⟨x1.put (by omega) _, ?_⟩
    rw [hst]; exact r1.put
  · have hi' : ¬ (i : Int) < (q.length : Int) := by omega
    have ei : i = (nn q).length := by omega
    rw [ei, upL_end] at r1
    simp (disch := first | exact dsch | kernel_rfl) only [go_sem, ↓reduceIte, Nat.reduceEqDiff, Nat.reduceLT, Nat.reduceAdd, reduceCtorEq, Int.reduceToNat, Try.ntmps25, Try.results25, fr, hq1, hi']
    exact ⟨x1, .inr ⟨hpb, c, (by rw [wl, hqe, hle]), by omega, r1⟩⟩
set_option maxRecDepth 10000 in
theorem specPress_ok : Prs 26 := by
  intro l q w m o s t u H hs hl ht hq hu hw hm7
  have hso := SliceAt.isOne hs
  refine Ev.enterK (fn := Try.f26) rfl Try.func26 rfl (by kernel_rfl) (by simp [Try.ntmps26]) ?_
  have bad : pressB l m q w = false → ∀ Hx : AH, Ext H Hx → Gives H (PrR H.size l o m q w) (.tup [.nilsl, .bool false]) Hx := fun h Hx x => ⟨x, .inl ⟨h, rfl⟩⟩
  (simp (disch := first | exact dsch | kernel_rfl) only [go_sem, ↓reduceIte, Nat.reduceEqDiff, Nat.reduceLT, Nat.reduceAdd, reduceCtorEq, Int.reduceToNat, Try.ntmps26, Try.results26] <;> repeat' ((first | (refine AOK_is (by exact clList_ok _ _ _ _ _ _ _ (by first | assumption | (refine SliceAt.ext (by assumption) ?_; exact xt)) (by first | assumption | omega) (by first | assumption | (refine SliceAt.ext (by assumption) ?_; exact xt)) (by first | assumption | omega) (by omega) (by omega)) ?_; intro Hc hxc) | refine AK.drawT (by kernel_rfl) ?_ | ((first | refine ABK_mk ?_ ?_ | refine AGK_mk ?_ ?_) <;> intro hb <;> (try simp only [decide_eq_true_eq, decide_eq_false_iff_not, Bool.not_eq_true', Bool.not_eq_false', Bool.not_not] at hb) <;> (try (exfalso; omega)) <;> (try subst hb) <;> try simp only [hb, decide_true, decide_false])) <;> try simp (disch := first | exact dsch | kernel_rfl) only [go_sem, ↓reduceIte, Nat.reduceEqDiff, Nat.reduceLT, Nat.reduceAdd, reduceCtorEq, Int.reduceToNat, Try.ntmps26, Try.results26]))
  refine AOK_gives (clWord_ok l w m o s u _ (SliceAt.ext hs (by exact xt)) hl (SliceAt.ext hu (by exact xt)) hw hm7) ?_
  rintro _ H1 x1 (⟨hwb, rfl⟩ | ⟨hwb, c2, rfl, hc2, r2⟩)
  · (simp (disch := first | exact dsch | kernel_rfl) only [go_sem, ↓reduceIte, Nat.reduceEqDiff, Nat.reduceLT, Nat.reduceAdd, reduceCtorEq, Int.reduceToNat, Try.ntmps26, Try.results26] <;> repeat' ((first | (refine AOK_is (by exact clList_ok _ _ _ _ _ _ _ (by first | assumption | (refine SliceAt.ext (by assumption) ?_; exact xt)) (by first | assumption | omega) (by first | assumption | (refine SliceAt.ext (by assumption) ?_; exact xt)) (by first | assumption | omega) (by omega) (by omega)) ?_; intro Hc hxc) | refine AK.drawT (by kernel_rfl) ?_ | ((first | refine ABK_mk ?_ ?_ | refine AGK_mk ?_ ?_) <;> intro hb <;> (try simp only [decide_eq_true_eq, decide_eq_false_iff_not, Bool.not_eq_true', Bool.not_eq_false', Bool.not_not] at hb) <;> (try (exfalso; omega)) <;> (try subst hb) <;> try simp only [hb, decide_true, decide_false])) <;> try simp (disch := first | exact dsch | kernel_rfl) only [go_sem, ↓reduceIte, Nat.reduceEqDiff, Nat.reduceLT, Nat.reduceAdd, reduceCtorEq, Int.reduceToNat, Try.ntmps26, Try.results26]))
    exact bad (by simp only [pressB, hwb, Bool.false_and]) _ (by exact xt)
  cases h1 : colL l m q
  · (simp (disch := first | exact dsch | kernel_rfl) only [go_sem, ↓reduceIte, Nat.reduceEqDiff, Nat.reduceLT, Nat.reduceAdd, reduceCtorEq, Int.reduceToNat, Try.ntmps26, Try.results26, h1] <;> repeat' ((first | (refine AOK_is (by exact clList_ok _ _ _ _ _ _ _ (by first | assumption | (refine SliceAt.ext (by assumption) ?_; exact xt)) (by first | assumption | omega) (by first | assumption | (refine SliceAt.ext (by assumption) ?_; exact xt)) (by first | assumption | omega) (by omega) (by omega)) ?_; intro Hc hxc) | refine AK.drawT (by kernel_rfl) ?_ | ((first | refine ABK_mk ?_ ?_ | refine AGK_mk ?_ ?_) <;> intro hb <;> (try simp only [decide_eq_true_eq, decide_eq_false_iff_not, Bool.not_eq_true', Bool.not_eq_false', Bool.not_not] at hb) <;> (try (exfalso; omega)) <;> (try subst hb) <;> try simp only [hb, decide_true, decide_false])) <;> try simp (disch := first | exact dsch | kernel_rfl) only [go_sem, ↓reduceIte, Nat.reduceEqDiff, Nat.reduceLT, Nat.reduceAdd, reduceCtorEq, Int.reduceToNat, Try.ntmps26, Try.results26, h1]))
    exact bad (by simp only [pressB, h1, Bool.and_false]) _ (by exact xt)
  have hpb : pressB l m q w = true := by simp only [pressB, hwb, h1, Bool.and_true]
  have K := colL_ok h1
  have hm := K.mod
  have hm0 : 0 < m := by omega
  have hql := K.qlen
  have h10 := K.n10
  have hle := K.len
  have hqe := K.ql
  (simp (disch := first | exact dsch | kernel_rfl) only [go_sem, ↓reduceIte, Nat.reduceEqDiff, Nat.reduceLT, Nat.reduceAdd, reduceCtorEq, Int.reduceToNat, Try.ntmps26, Try.results26, h1] <;> repeat' ((first | (refine AOK_is (by exact clList_ok _ _ _ _ _ _ _ (by first | assumption | (refine SliceAt.ext (by assumption) ?_; exact xt)) (by first | assumption | omega) (by first | assumption | (refine SliceAt.ext (by assumption) ?_; exact xt)) (by first | assumption | omega) (by omega) (by omega)) ?_; intro Hc hxc) | refine AK.drawT (by kernel_rfl) ?_ | ((first | refine ABK_mk ?_ ?_ | refine AGK_mk ?_ ?_) <;> intro hb <;> (try simp only [decide_eq_true_eq, decide_eq_false_iff_not, Bool.not_eq_true', Bool.not_eq_false', Bool.not_not] at hb) <;> (try (exfalso; omega)) <;> (try subst hb) <;> try simp only [hb, decide_true, decide_false])) <;> try simp (disch := first | exact dsch | kernel_rfl) only [go_sem, ↓reduceIte, Nat.reduceEqDiff, Nat.reduceLT, Nat.reduceAdd, reduceCtorEq, Int.reduceToNat, Try.ntmps26, Try.results26, h1]))
  have ln : NatsAt H s (nn l) := NatsAt.of hs K.zs
  have hx1 : Ext H1 Hc := by exact xt
  have t2 : NatsAt Hc (.sl c2 0 l.length) (wdL (nn l).length m w) := by have := (r2.ext hx1).nats; rw [wdL_length] at this; rwa [hle]
  have wl : (wdL (nn l).length m w).length = (nn l).length := wdL_length
  refine AOK_gives (clEffect_ok (nn l) (wdL (nn l).length m w) m o s (.sl c2 0 l.length) _ (ln.ext (by exact xt)) t2 (by omega) (by omega) K.lt hm0 hm7 (fun i _ => by have := wdL_lt (n := (nn l).length) (w := w) hm0 i; omega)) ?_
  rintro _ H3 x3 ⟨c, rfl, hc, r⟩
  have hcs := Ext.size (show Ext H Hc by exact xt)
  (simp (disch := first | exact dsch | kernel_rfl) only [go_sem, ↓reduceIte, Nat.reduceEqDiff, Nat.reduceLT, Nat.reduceAdd, reduceCtorEq, Int.reduceToNat, Try.ntmps26, Try.results26, ht.len] <;> repeat' ((first | (refine AOK_is (by exact clList_ok _ _ _ _ _ _ _ (by first | assumption | (refine SliceAt.ext (by assumption) ?_; exact xt)) (by first | assumption | omega) (by first | assumption | (refine SliceAt.ext (by assumption) ?_; exact xt)) (by first | assumption | omega) (by omega) (by omega)) ?_; intro Hc hxc) | refine AK.drawT (by kernel_rfl) ?_ | ((first | refine ABK_mk ?_ ?_ | refine AGK_mk ?_ ?_) <;> intro hb <;> (try simp only [decide_eq_true_eq, decide_eq_false_iff_not, Bool.not_eq_true', Bool.not_eq_false', Bool.not_not] at hb) <;> (try (exfalso; omega)) <;> (try subst hb) <;> try simp only [hb, decide_true, decide_false])) <;> try simp (disch := first | exact dsch | kernel_rfl) only [go_sem, ↓reduceIte, Nat.reduceEqDiff, Nat.reduceLT, Nat.reduceAdd, reduceCtorEq, Int.reduceToNat, Try.ntmps26, Try.results26, ht.len]))
  have hef : (efL (nn l) o m (wdL (nn l).length m w)).length = (nn q).length := by rw [efL_length, wdL_length]; omega
  have el : ∀ k, (efL (nn l) o m (wdL (nn l).length m w)).getD k 0 < m := by
    intro k
    by_cases hk : k < (wdL (nn l).length m w).length
    · rw [efL_getD hk]; exact es_lt hm0 _ _
    · have : (efL (nn l) o m (wdL (nn l).length m w)).length ≤ k := by rw [efL_length]; omega
      simp only [List.getD, List.getElem?_eq_none this, Option.getD_none]; exact hm0
  have tq : NatsAt H t (nn q) := NatsAt.of ht K.qzs
  have r0 : RowAt H3 c (upL (nn q).length (fun k => (efL (nn l) o m (wdL (nn l).length m w)).getD k 0) (fun k => ((efL (nn l) o m (wdL (nn l).length m w)).getD k 0 + (nn q).getD k 0) % m) 0) := by
    rw [upL_zero, ← hef, range_getD]; exact r
  refine (AK.count 37 [13, 14, 37, 38, 39, 40, 41, 42, 43, 44, 45, 46, 47, 48, 49, 50, 51, 52, 53] (by kernel_rfl) 0 (nn q).length (fun i tm H' => Ext H H' ∧ RowAt H' c (upL (nn q).length (fun k => (efL (nn l) o m (wdL (nn l).length m w)).getD k 0) (fun k => ((efL (nn l) o m (wdL (nn l).length m w)).getD k 0 + (nn q).getD k 0) % m) i)) (by rfl) (by omega) ⟨(show Ext H H3 by exact xt), r0⟩ ?_)
  rintro i tm H1 K1 g1 g2 fr hq1 ⟨x1, r1⟩ hK
  have hml := upL_length (n := (nn q).length) (a := fun k => (efL (nn l) o m (wdL (nn l).length m w)).getD k 0) (b := fun k => ((efL (nn l) o m (wdL (nn l).length m w)).getD k 0 + (nn q).getD k 0) % m) i
  by_cases hi : i < (nn q).length
  · have hi' : (i : Int) < (q.length : Int) := by omega
    have hmg := upL_getD (n := (nn q).length) (a := fun k => (efL (nn l) o m (wdL (nn l).length m w)).getD k 0) (b := fun k => ((efL (nn l) o m (wdL (nn l).length m w)).getD k 0 + (nn q).getD k 0) % m) (i := i) hi
    rw [if_neg (by omega)] at hmg
    have hst := upL_step (a := fun k => (efL (nn l) o m (wdL (nn l).length m w)).getD k 0) (b := fun k => ((efL (nn l) o m (wdL (nn l).length m w)).getD k 0 + (nn q).getD k 0) % m) hi
    have eli := el i
    have qli := K.qlt i hi
    generalize upL (nn q).length (fun k => (efL (nn l) o m (wdL (nn l).length m w)).getD k 0) (fun k => ((efL (nn l) o m (wdL (nn l).length m w)).getD k 0 + (nn q).getD k 0) % m) i = row at *
    try simp only at hmg
    try simp only at hst
    generalize (efL (nn l) o m (wdL (nn l).length m w)).getD i 0 = x at *
    have hil : i < row.length := by omega
    have e1 : (x : Int) + (((nn q).getD i 0 : Nat) : Int) = ((x + (nn q).getD i 0 : Nat) : Int) := by omega
    have e2 : ((x + (nn q).getD i 0 : Nat) : Int).tmod (m : Int) = (((x + (nn q).getD i 0) % m : Nat) : Int) := rfl
    have hmi : (m : Int) ≠ 0 := by omega
    (simp (disch := first | exact dsch | kernel_rfl) only [go_sem, ↓reduceIte, Nat.reduceEqDiff, Nat.reduceLT, Nat.reduceAdd, reduceCtorEq, Int.reduceToNat, Try.ntmps26, Try.results26, fr, hq1, hi', tq.ix, tq.ld, r1.ld, r1.st, hmg, e1, e2] <;> repeat' ((first | (refine AOK_is (by exact clList_ok _ _ _ _ _ _ _ (by first | assumption | (refine SliceAt.ext (by assumption) ?_; exact xt)) (by first | assumption | omega) (by first | assumption | (refine SliceAt.ext (by assumption) ?_; exact xt)) (by first | assumption | omega) (by omega) (by omega)) ?_; intro Hc hxc) | refine AK.drawT (by kernel_rfl) ?_ | ((first | refine ABK_mk ?_ ?_ | refine AGK_mk ?_ ?_) <;> intro hb <;> (try simp only [decide_eq_true_eq, decide_eq_false_iff_not, Bool.not_eq_true', Bool.not_eq_false', Bool.not_not] at hb) <;> (try (exfalso; omega)) <;> (try subst hb) <;> try simp only [hb, decide_true, decide_false])) <;> try simp (disch := first | exact dsch | kernel_rfl) only [go_sem, ↓reduceIte, Nat.reduceEqDiff, Nat.reduceLT, Nat.reduceAdd, reduceCtorEq, Int.reduceToNat, Try.ntmps26, Try.results26, fr, hq1, hi', tq.ix, tq.ld, r1.ld, r1.st, hmg, e1, e2]))
    refine hK _ _ hi (by rfl) ⟨x1.put (by omega) _, ?_⟩
    rw [hst]; exact r1.put
  · have hi' : ¬ (i : Int) < (q.length : Int) := by omega
    have ei : i = (nn q).length := by omega
    rw [ei, upL_end] at r1
    simp (disch := first | exact dsch | kernel_rfl) only [go_sem, ↓reduceIte, Nat.reduceEqDiff, Nat.reduceLT, Nat.reduceAdd, reduceCtorEq, Int.reduceToNat, Try.ntmps26, Try.results26, fr, hq1, hi']
    exact ⟨x1, .inr ⟨hpb, c, (by rw [wl, hqe, hle]), by omega, r1⟩⟩

end Go.Proofs.Ytopbfmhajbjepaa
