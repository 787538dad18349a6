/- Contracts: the first that is found; pairs of effects and presses, and what they reach. -/
import Derived.Test.YtopbfmhajbjepaaC15
namespace Go.Proofs.Ytopbfmhajbjepaa
open Go
set_option linter.unusedSimpArgs false
set_option linter.unusedVariables false

/-- The place of the first, or -1. -/
def fidx {α : Type} (p : α → Bool) (l : List α) : Int := match l.findIdx? p with | some i => (i : Int) | none => -1
theorem fidx_some {α : Type} {p : α → Bool} {l : List α} {i : Nat} (hi : i < l.length) (h : p l[i] = true) (k : ∀ j (hj : j < i), p (l[j]'(by omega)) = false) : fidx p l = (i : Int) := by
  have : l.findIdx? p = some i := List.findIdx?_eq_some_iff_getElem.2 ⟨hi, h, fun j hj => by rw [k j hj]; simp⟩
  unfold fidx; rw [this]
theorem fidx_none {α : Type} {p : α → Bool} {l : List α} (k : ∀ j (hj : j < l.length), p l[j] = false) : fidx p l = -1 := by
  have : l.findIdx? p = none := List.findIdx?_eq_none_iff.2 fun x hx => by obtain ⟨j, hj, rfl⟩ := List.getElem_of_mem hx; exact k j hj
  unfold fidx; rw [this]
theorem fidx_ge {α : Type} {p : α → Bool} {l : List α} : decide (0 ≤ fidx p l) = l.any p := by
  unfold fidx
  cases h : l.findIdx? p with
  | none => rw [List.findIdx?_eq_none_iff] at h; simp; intro x hx; simpa using h x hx
  | some i =>
    obtain ⟨hi, h1, _⟩ := List.findIdx?_eq_some_iff_getElem.1 h
    simp; exact ⟨_, List.getElem_mem hi, h1⟩
theorem fidx_cases {α : Type} (p : α → Bool) (l : List α) : (fidx p l = -1 ∧ ∀ x ∈ l, p x = false) ∨ ∃ i, ∃ hi : i < l.length, fidx p l = (i : Int) ∧ p l[i] = true ∧ l.find? p = some l[i] := by
  unfold fidx
  cases h : l.findIdx? p with
  | none => left; rw [List.findIdx?_eq_none_iff] at h; exact ⟨rfl, fun x hx => by simpa using h x hx⟩
  | some i =>
    right
    obtain ⟨hi, h1, h2⟩ := List.findIdx?_eq_some_iff_getElem.1 h
    refine ⟨i, hi, rfl, h1, ?_⟩
    exact List.find?_eq_some_iff_getElem.2 ⟨h1, i, hi, rfl, fun j hj => by simpa using h2 j hj⟩

theorem getD_getElem (l : List Int) {i : Nat} (hi : i < l.length) : l.getD i 0 = l[i] := by simp [List.getD, hi]

theorem indexFunc_ok (l : List Int) (s : AV) (g : FuncId) (cap : List AV) (p : Int → Bool) (H : AH) (hs : IntsAt H s l) (hl : l.length < 9223372036854775807)
    (hg : ∀ x ∈ l, ∀ H1, Ext H H1 → E g (.int .i64 x :: cap) H1 (Is (.bool (p x)) H1)) : E 228 [s, .fn g cap] H (Is (.int .i64 (fidx p l)) H) := by
  refine Ev.enterK (fn := Try.f228) rfl Try.func228 rfl (by kernel_rfl) (by simp [Try.ntmps228]) ?_
  (simp (disch := first | exact dsch | kernel_rfl) only [go_sem, ↓reduceIte, Nat.reduceEqDiff, Nat.reduceLT, Nat.reduceAdd, reduceCtorEq, Int.reduceToNat, Try.ntmps228, Try.results228, hs.len] <;> repeat' ((first | refine AK.drawT (by kernel_rfl) ?_ | ((first | refine ABK_mk ?_ ?_ | refine AGK_mk ?_ ?_) <;> intro hb <;> (try simp only [decide_eq_true_eq, decide_eq_false_iff_not, Bool.not_eq_true', Bool.not_eq_false', Bool.not_not] at hb) <;> (try (exfalso; omega)) <;> (try subst hb) <;> try simp only [hb, decide_true, decide_false])) <;> try simp (disch := first | exact dsch | kernel_rfl) only [go_sem, ↓reduceIte, Nat.reduceEqDiff, Nat.reduceLT, Nat.reduceAdd, reduceCtorEq, Int.reduceToNat, Try.ntmps228, Try.results228, hs.len]))
  refine (AK.countx 8 [4, 5, 8, 9, 10, 11, 12, 13, 14, 15, 16, 17, 18] (by kernel_rfl) 0 l.length (fun i tm H' => ∀ j (hj : j < i) (hj' : j < l.length), p l[j] = false) (by rfl) (by omega) (fun j h => by omega) ?_)
  rintro i tm H' K h1 h2 fr hq hx ha hK
  by_cases hi : i < l.length
  · have hi' : (i : Int) < (l.length : Int) := by omega
    (simp (disch := first | exact dsch | kernel_rfl) only [go_sem, ↓reduceIte, Nat.reduceEqDiff, Nat.reduceLT, Nat.reduceAdd, reduceCtorEq, Int.reduceToNat, Try.ntmps228, Try.results228, fr, hq, hs.len, hs.ix, hs.ld, hi'] <;> repeat' ((first | refine AK.drawT (by kernel_rfl) ?_ | ((first | refine ABK_mk ?_ ?_ | refine AGK_mk ?_ ?_) <;> intro hb <;> (try simp only [decide_eq_true_eq, decide_eq_false_iff_not, Bool.not_eq_true', Bool.not_eq_false', Bool.not_not] at hb) <;> (try (exfalso; omega)) <;> (try subst hb) <;> try simp only [hb, decide_true, decide_false])) <;> try simp (disch := first | exact dsch | kernel_rfl) only [go_sem, ↓reduceIte, Nat.reduceEqDiff, Nat.reduceLT, Nat.reduceAdd, reduceCtorEq, Int.reduceToNat, Try.ntmps228, Try.results228, fr, hq, hs.len, hs.ix, hs.ld, hi']))
    have he := getD_getElem l hi
    refine AOK_fnis (g := g) (cap := cap) (X := .bool (p l[i])) ?_ ?_ ?_
    · simp (disch := first | exact dsch | kernel_rfl) only [go_sem, ↓reduceIte, Nat.reduceEqDiff, Nat.reduceLT, Nat.reduceAdd, reduceCtorEq, Int.reduceToNat, Try.ntmps228, Try.results228, fr]
    · have := hg l[i] (List.getElem_mem hi) H' hx
      rw [← he] at this ⊢
      simpa [go_sem] using this
    · intro H1 x1
      (simp (disch := first | exact dsch | kernel_rfl) only [go_sem, ↓reduceIte, Nat.reduceEqDiff, Nat.reduceLT, Nat.reduceAdd, reduceCtorEq, Int.reduceToNat, Try.ntmps228, Try.results228, fr, hq] <;> repeat' ((first | refine AK.drawT (by kernel_rfl) ?_ | ((first | refine ABK_mk ?_ ?_ | refine AGK_mk ?_ ?_) <;> intro hb <;> (try simp only [decide_eq_true_eq, decide_eq_false_iff_not, Bool.not_eq_true', Bool.not_eq_false', Bool.not_not] at hb) <;> (try (exfalso; omega)) <;> (try subst hb) <;> try simp only [hb, decide_true, decide_false])) <;> try simp (disch := first | exact dsch | kernel_rfl) only [go_sem, ↓reduceIte, Nat.reduceEqDiff, Nat.reduceLT, Nat.reduceAdd, reduceCtorEq, Int.reduceToNat, Try.ntmps228, Try.results228, fr, hq]))
      · exact Is.mk (by rw [fidx_some hi hb fun j hj => ha j hj (by omega)]) (by exact xt)
      · refine hK _ _ (by omega) (by rfl) (by exact xt) fun j hj hj' => ?_
        by_cases e : j = i
        · subst e; exact hb
        · exact ha j (by omega) hj'
  · have hi' : ¬ (i : Int) < (l.length : Int) := by omega
    (simp (disch := first | exact dsch | kernel_rfl) only [go_sem, ↓reduceIte, Nat.reduceEqDiff, Nat.reduceLT, Nat.reduceAdd, reduceCtorEq, Int.reduceToNat, Try.ntmps228, Try.results228, fr, hq, hi'] <;> repeat' ((first | refine AK.drawT (by kernel_rfl) ?_ | ((first | refine ABK_mk ?_ ?_ | refine AGK_mk ?_ ?_) <;> intro hb <;> (try simp only [decide_eq_true_eq, decide_eq_false_iff_not, Bool.not_eq_true', Bool.not_eq_false', Bool.not_not] at hb) <;> (try (exfalso; omega)) <;> (try subst hb) <;> try simp only [hb, decide_true, decide_false])) <;> try simp (disch := first | exact dsch | kernel_rfl) only [go_sem, ↓reduceIte, Nat.reduceEqDiff, Nat.reduceLT, Nat.reduceAdd, reduceCtorEq, Int.reduceToNat, Try.ntmps228, Try.results228, fr, hq, hi']))
    exact Is.mk (by rw [fidx_none fun j hj => ha j (by omega) hj]) (by exact xt)

theorem containsFunc_ok (l : List Int) (s : AV) (g : FuncId) (cap : List AV) (p : Int → Bool) (H : AH) (hs : IntsAt H s l) (hl : l.length < 9223372036854775807)
    (hg : ∀ x ∈ l, ∀ H1, Ext H H1 → E g (.int .i64 x :: cap) H1 (Is (.bool (p x)) H1)) : E 200 [s, .fn g cap] H (Is (.bool (l.any p)) H) := by
  refine Ev.enterK (fn := Try.f200) rfl Try.func200 rfl (by kernel_rfl) (by simp [Try.ntmps200]) ?_
  simp (disch := first | exact dsch | kernel_rfl) only [go_sem, ↓reduceIte, Nat.reduceEqDiff, Nat.reduceLT, Nat.reduceAdd, reduceCtorEq, Int.reduceToNat, Try.ntmps200, Try.results200]
  refine AOK_is (indexFunc_ok l s g cap p H hs hl hg) ?_
  intro H1 x1
  (simp (disch := first | exact dsch | kernel_rfl) only [go_sem, ↓reduceIte, Nat.reduceEqDiff, Nat.reduceLT, Nat.reduceAdd, reduceCtorEq, Int.reduceToNat, Try.ntmps200, Try.results200] <;> repeat' ((first | refine AK.drawT (by kernel_rfl) ?_ | ((first | refine ABK_mk ?_ ?_ | refine AGK_mk ?_ ?_) <;> intro hb <;> (try simp only [decide_eq_true_eq, decide_eq_false_iff_not, Bool.not_eq_true', Bool.not_eq_false', Bool.not_not] at hb) <;> (try (exfalso; omega)) <;> (try subst hb) <;> try simp only [hb, decide_true, decide_false])) <;> try simp (disch := first | exact dsch | kernel_rfl) only [go_sem, ↓reduceIte, Nat.reduceEqDiff, Nat.reduceLT, Nat.reduceAdd, reduceCtorEq, Int.reduceToNat, Try.ntmps200, Try.results200]))
  exact Is.mk (by rw [fidx_ge]) (by exact xt)

/- Pairs. -/
def pcs (ps : List (Nat × Nat)) : List AV := ps.flatMap fun x => [.int .i64 (x.1 : Nat), .int .i64 (x.2 : Nat)]
theorem pcs_nil : pcs [] = [] := rfl
theorem pcs_cons (x : Nat × Nat) (ps : List (Nat × Nat)) : pcs (x :: ps) = .int .i64 (x.1 : Nat) :: .int .i64 (x.2 : Nat) :: pcs ps := rfl
theorem pcs_append (a b : List (Nat × Nat)) : pcs (a ++ b) = pcs a ++ pcs b := by simp [pcs]
theorem pcs_length : ∀ ps : List (Nat × Nat), (pcs ps).length = 2 * ps.length
  | [] => rfl
  | x :: ps => by rw [pcs_cons]; simp [pcs_length ps]; omega
theorem pcs_one : ∀ ps : List (Nat × Nat), (pcs ps).all AV.one = true
  | [] => rfl
  | x :: ps => by rw [pcs_cons]; simp only [List.all_cons, AV.one, Bool.true_and]; exact pcs_one ps
theorem pcs_get : ∀ {ps : List (Nat × Nat)} {i : Nat} (h : i < ps.length), (pcs ps)[2 * i]? = some (.int .i64 (ps[i].1 : Nat)) ∧ (pcs ps)[2 * i + 1]? = some (.int .i64 (ps[i].2 : Nat))
  | x :: ps, 0, _ => by rw [pcs_cons]; simp
  | x :: ps, i + 1, h => by
    have := pcs_get (ps := ps) (i := i) (by simpa using h)
    rw [pcs_cons, show 2 * (i + 1) = 2 * i + 1 + 1 by omega]
    simpa using this
abbrev PairsAt (H : AH) (v : AV) (ps : List (Nat × Nat)) : Prop := SliceAt H v 2 (pcs ps)
section
variable {H H' : AH} {v : AV} {ps : List (Nat × Nat)}
theorem PairsAt.len (h : PairsAt H v ps) (_ : Ext H H') : alen TA H' 112 v = some (.int .i64 ps.length) := by
  rcases h with ⟨rfl, h⟩ | ⟨b, o, n, ro, xs, rfl, h2, h3, h4⟩
  · have := congrArg List.length h; rw [pcs_length] at this
    have : ps = [] := List.length_eq_zero_iff.1 (by simp at this; omega)
    subst this; rfl
  · have := congrArg List.length h4
    rw [pcs_length, List.length_take, List.length_drop] at this
    have : n = ps.length := by omega
    subst this; rfl
theorem PairsAt.ix (h : PairsAt H v ps) {i : Int} (h0 : 0 ≤ i) (hi : i < ps.length) : aindexAddr TA 112 v (.int .i64 i) = some (.ptr v.sb (v.so + i.toNat * 2)) := by
  rcases h with ⟨rfl, h⟩ | ⟨b, o, n, ro, xs, rfl, h2, h3, h4⟩
  · have := congrArg List.length h; rw [pcs_length] at this; simp at this; omega
  · have := congrArg List.length h4
    rw [pcs_length, List.length_take, List.length_drop] at this
    have hn : n = ps.length := by omega
    show (if 0 ≤ i ∧ i < (n : Int) then some (AV.ptr b (o + i.toNat * 2)) else none) = _
    rw [if_pos ⟨h0, by omega⟩]; rfl
theorem PairsAt.at (h : PairsAt H v ps) {i : Nat} (hi : i < ps.length) : ∃ ro xs, H.blk v.sb = .cells 2 ro xs ∧ xs[v.so + i * 2]? = some (.int .i64 (ps[i].1 : Nat)) ∧ xs[v.so + (i * 2 + 1)]? = some (.int .i64 (ps[i].2 : Nat)) ∧ v.so + i * 2 + 2 ≤ xs.length := by
  rcases h with ⟨rfl, h⟩ | ⟨b, o, n, ro, xs, rfl, h2, h3, h4⟩
  · have := congrArg List.length h; rw [pcs_length] at this; simp at this; omega
  · have hl := congrArg List.length h4
    rw [pcs_length, List.length_take, List.length_drop] at hl
    obtain ⟨g1, g2⟩ := pcs_get hi
    rw [← h4, List.getElem?_take_of_lt (by omega), List.getElem?_drop] at g1 g2
    refine ⟨ro, xs, h2, ?_, ?_, ?_⟩
    · simp only [AV.so]; rw [← g1]; congr 1; omega
    · simp only [AV.so]; rw [← g2]; congr 1; omega
    · simp only [AV.so]; omega
theorem PairsAt.ld (h : PairsAt H v ps) (x : Ext H H') {i : Nat} (hi : i < ps.length) : aload1 TA H' 134 (.ptr v.sb (v.so + i * 2)) = some (.agg [.int .i64 ((ps.getD i (0, 0)).1 : Nat), .int .i64 ((ps.getD i (0, 0)).2 : Nat)], H') := by
  obtain ⟨ro, xs, h1, h2, h3, h4⟩ := h.at hi
  have e : ps.getD i (0, 0) = ps[i] := by simp [List.getD, hi]
  rw [e, aload_agg (t := 134) (d := td134) rfl rfl (x.cells h1) h4]
  have a1 : v.so + i * 2 < xs.length := by omega
  have a2 : v.so + i * 2 + 1 < xs.length := by omega
  rw [List.drop_eq_getElem_cons a1, List.drop_eq_getElem_cons a2]
  rw [List.getElem?_eq_getElem a1] at h2
  rw [← Nat.add_assoc, List.getElem?_eq_getElem a2] at h3
  simp only [Option.some.injEq] at h2 h3
  rw [h2, h3]; rfl
theorem PairsAt.ld0 (h : PairsAt H v ps) (x : Ext H H') {i : Nat} (hi : i < ps.length) : aload1 TA H' 3 (.ptr v.sb (v.so + i * 2)) = some (.int .i64 ((ps.getD i (0, 0)).1 : Nat), H') := by
  obtain ⟨ro, xs, h1, h2, h3, h4⟩ := h.at hi
  have e : ps.getD i (0, 0) = ps[i] := by simp [List.getD, hi]
  rw [e]; exact aload_cell (t := 3) rfl rfl (x.cells h1) h2
theorem PairsAt.ld1 (h : PairsAt H v ps) (x : Ext H H') {i : Nat} (hi : i < ps.length) : aload1 TA H' 3 (.ptr v.sb (v.so + i * 2 + 1)) = some (.int .i64 ((ps.getD i (0, 0)).2 : Nat), H') := by
  obtain ⟨ro, xs, h1, h2, h3, h4⟩ := h.at hi
  have e : ps.getD i (0, 0) = ps[i] := by simp [List.getD, hi]
  rw [e, Nat.add_assoc]; exact aload_cell (t := 3) rfl rfl (x.cells h1) h3
end
@[go_sem] theorem pair_f0 {b o : Nat} : afieldAddr TA 134 (.ptr b o) 0 = some (.ptr b o) := rfl
@[go_sem] theorem pair_f1 {b o : Nat} : afieldAddr TA 134 (.ptr b o) 1 = some (.ptr b (o + 1)) := rfl
@[go_sem] theorem solver_f0 {b o : Nat} : afieldAddr TA 114 (.ptr b o) 0 = some (.ptr b o) := rfl
@[go_sem] theorem solver_f1 {b o : Nat} : afieldAddr TA 114 (.ptr b o) 1 = some (.ptr b (o + 1)) := rfl
@[go_sem] theorem solver_f2 {b o : Nat} : afieldAddr TA 114 (.ptr b o) 2 = some (.ptr b (o + 2)) := rfl
@[go_sem] theorem pair_box {H : AH} {i j : IntKind} {x y : Int} : abox H (.agg [.int i x, .int j y]) = some (.ptr H.size 0, H.push (.cells 2 false [.int i x, .int j y])) := rfl
@[go_sem] theorem int_box {H : AH} {i : IntKind} {x : Int} : abox H (.int i x) = some (.ptr H.size 0, H.push (.cells 1 false [.int i x])) := rfl
@[go_sem] theorem pair_mk {x y : Int} : abuild TA 134 [(0, .int .i64 x), (1, .int .i64 y)] = some (.agg [.int .i64 x, .int .i64 y]) := rfl
@[go_sem] theorem solver_mk : abuild TA 114 [] = some (.agg [.nilsl, .nilsl, .nilsl]) := rfl
@[go_sem] theorem pairs_mk1 {H : AH} {x y : Int} : abuildSlice TA H 112 1 [(0, .agg [.int .i64 x, .int .i64 y])] = some (.sl H.size 0 1, H.push (.cells 2 false [.int .i64 x, .int .i64 y])) := rfl

theorem indexPair_ok (ps : List (Nat × Nat)) (s : AV) (g : FuncId) (cap : List AV) (p : Nat × Nat → Bool) (H : AH) (hs : PairsAt H s ps) (hl : ps.length < 9223372036854775807)
    (hg : ∀ x ∈ ps, ∀ H1, Ext H H1 → E g (.agg [.int .i64 (x.1 : Nat), .int .i64 (x.2 : Nat)] :: cap) H1 (Is (.bool (p x)) H1)) : E 229 [s, .fn g cap] H (Is (.int .i64 (fidx p ps)) H) := by
  refine Ev.enterK (fn := Try.f229) rfl Try.func229 rfl (by kernel_rfl) (by simp [Try.ntmps229]) ?_
  (simp (disch := first | exact dsch | kernel_rfl) only [go_sem, ↓reduceIte, Nat.reduceEqDiff, Nat.reduceLT, Nat.reduceAdd, reduceCtorEq, Int.reduceToNat, Try.ntmps229, Try.results229, hs.len] <;> repeat' ((first | refine AK.drawT (by kernel_rfl) ?_ | ((first | refine ABK_mk ?_ ?_ | refine AGK_mk ?_ ?_) <;> intro hb <;> (try simp only [decide_eq_true_eq, decide_eq_false_iff_not, Bool.not_eq_true', Bool.not_eq_false', Bool.not_not] at hb) <;> (try (exfalso; omega)) <;> (try subst hb) <;> try simp only [hb, decide_true, decide_false])) <;> try simp (disch := first | exact dsch | kernel_rfl) only [go_sem, ↓reduceIte, Nat.reduceEqDiff, Nat.reduceLT, Nat.reduceAdd, reduceCtorEq, Int.reduceToNat, Try.ntmps229, Try.results229, hs.len]))
  refine (AK.countx 8 [4, 5, 8, 9, 10, 11, 12, 13, 14, 15, 16, 17, 18] (by kernel_rfl) 0 ps.length (fun i tm H' => ∀ j (hj : j < i) (hj' : j < ps.length), p ps[j] = false) (by rfl) (by omega) (fun j h => by omega) ?_)
  rintro i tm H' K h1 h2 fr hq hx ha hK
  by_cases hi : i < ps.length
  · have hi' : (i : Int) < (ps.length : Int) := by omega
    (simp (disch := first | exact dsch | kernel_rfl) only [go_sem, ↓reduceIte, Nat.reduceEqDiff, Nat.reduceLT, Nat.reduceAdd, reduceCtorEq, Int.reduceToNat, Try.ntmps229, Try.results229, fr, hq, hs.len, hs.ix, hs.ld, hi'] <;> repeat' ((first | refine AK.drawT (by kernel_rfl) ?_ | ((first | refine ABK_mk ?_ ?_ | refine AGK_mk ?_ ?_) <;> intro hb <;> (try simp only [decide_eq_true_eq, decide_eq_false_iff_not, Bool.not_eq_true', Bool.not_eq_false', Bool.not_not] at hb) <;> (try (exfalso; omega)) <;> (try subst hb) <;> try simp only [hb, decide_true, decide_false])) <;> try simp (disch := first | exact dsch | kernel_rfl) only [go_sem, ↓reduceIte, Nat.reduceEqDiff, Nat.reduceLT, Nat.reduceAdd, reduceCtorEq, Int.reduceToNat, Try.ntmps229, Try.results229, fr, hq, hs.len, hs.ix, hs.ld, hi']))
    have he : ps.getD i (0, 0) = ps[i] := by simp [List.getD, hi]
    refine AOK_fnis (g := g) (cap := cap) (X := .bool (p ps[i])) ?_ ?_ ?_
    · simp (disch := first | exact dsch | kernel_rfl) only [go_sem, ↓reduceIte, Nat.reduceEqDiff, Nat.reduceLT, Nat.reduceAdd, reduceCtorEq, Int.reduceToNat, Try.ntmps229, Try.results229, fr]
    · have := hg ps[i] (List.getElem_mem hi) H' hx
      rw [← he] at this ⊢
      simpa [go_sem] using this
    · intro H1 x1
      (simp (disch := first | exact dsch | kernel_rfl) only [go_sem, ↓reduceIte, Nat.reduceEqDiff, Nat.reduceLT, Nat.reduceAdd, reduceCtorEq, Int.reduceToNat, Try.ntmps229, Try.results229, fr, hq] <;> repeat' ((first | refine AK.drawT (by kernel_rfl) ?_ | ((first | refine ABK_mk ?_ ?_ | refine AGK_mk ?_ ?_) <;> intro hb <;> (try simp only [decide_eq_true_eq, decide_eq_false_iff_not, Bool.not_eq_true', Bool.not_eq_false', Bool.not_not] at hb) <;> (try (exfalso; omega)) <;> (try subst hb) <;> try simp only [hb, decide_true, decide_false])) <;> try simp (disch := first | exact dsch | kernel_rfl) only [go_sem, ↓reduceIte, Nat.reduceEqDiff, Nat.reduceLT, Nat.reduceAdd, reduceCtorEq, Int.reduceToNat, Try.ntmps229, Try.results229, fr, hq]))
      · exact Is.mk (by rw [fidx_some hi hb fun j hj => ha j hj (by omega)]) (by exact xt)
      · refine hK _ _ (by omega) (by rfl) (by exact xt) fun j hj hj' => ?_
        by_cases e : j = i
        · subst e; exact hb
        · exact ha j (by omega) hj'
  · have hi' : ¬ (i : Int) < (ps.length : Int) := by omega
    (simp (disch := first | exact dsch | kernel_rfl) only [go_sem, ↓reduceIte, Nat.reduceEqDiff, Nat.reduceLT, Nat.reduceAdd, reduceCtorEq, Int.reduceToNat, Try.ntmps229, Try.results229, fr, hq, hi'] <;> repeat' ((first | refine AK.drawT (by kernel_rfl) ?_ | ((first | refine ABK_mk ?_ ?_ | refine AGK_mk ?_ ?_) <;> intro hb <;> (try simp only [decide_eq_true_eq, decide_eq_false_iff_not, Bool.not_eq_true', Bool.not_eq_false', Bool.not_not] at hb) <;> (try (exfalso; omega)) <;> (try subst hb) <;> try simp only [hb, decide_true, decide_false])) <;> try simp (disch := first | exact dsch | kernel_rfl) only [go_sem, ↓reduceIte, Nat.reduceEqDiff, Nat.reduceLT, Nat.reduceAdd, reduceCtorEq, Int.reduceToNat, Try.ntmps229, Try.results229, fr, hq, hi']))
    exact Is.mk (by rw [fidx_none fun j hj => ha j (by omega) hj]) (by exact xt)

theorem closure_reach_ok (e q l b : Nat) (H : AH) (ro : Bool) (hb : H.blk b = .cells 1 ro [.int .i64 l]) (he : e < 9223372036854775808) (hl : l < 9223372036854775808) :
    E 230 [.agg [.int .i64 e, .int .i64 q], .ptr b 0] H (Is (.bool (decide (tp e = tp l))) H) := by
  have hld : ∀ H', Ext H H' → aload1 TA H' 3 (.ptr b 0) = some (.int .i64 l, H') := fun H' x => aload_cell (t := 3) rfl rfl (x.cells hb) rfl
  refine Ev.enterK (fn := Try.f230) rfl Try.func230 rfl (by kernel_rfl) (by simp [Try.ntmps230]) ?_
  (simp (disch := first | exact dsch | kernel_rfl) only [go_sem, ↓reduceIte, Nat.reduceEqDiff, Nat.reduceLT, Nat.reduceAdd, reduceCtorEq, Int.reduceToNat, Try.ntmps230, Try.results230, hld] <;> repeat' ((first | (refine AOK_is (by exact top_ok _ (by first | assumption | omega) _) ?_; intro Hc hxc) | refine AK.drawT (by kernel_rfl) ?_ | ((first | refine ABK_mk ?_ ?_ | refine AGK_mk ?_ ?_) <;> intro hb <;> (try simp only [decide_eq_true_eq, decide_eq_false_iff_not, Bool.not_eq_true', Bool.not_eq_false', Bool.not_not] at hb) <;> (try (exfalso; omega)) <;> (try subst hb) <;> try simp only [hb, decide_true, decide_false])) <;> try simp (disch := first | exact dsch | kernel_rfl) only [go_sem, ↓reduceIte, Nat.reduceEqDiff, Nat.reduceLT, Nat.reduceAdd, reduceCtorEq, Int.reduceToNat, Try.ntmps230, Try.results230, hld]))
  exact Is.mk rfl (by exact xt)

/-- What is left of lights, and the presses: pairs are added, each at the greatest light. -/
def rchF (ps : List (Nat × Nat)) : Nat → Nat → Nat → Nat × Nat
  | 0, l, p => (l, p)
  | n + 1, l, p => if l = 0 then (l, p) else match ps.find? (fun x => tp x.1 == tp l) with | none => (l, p) | some x => rchF ps n (l ^^^ x.1) (p ^^^ x.2)
def rch (ps : List (Nat × Nat)) (l : Nat) : Nat × Nat := rchF ps (bl l) l 0

end Go.Proofs.Ytopbfmhajbjepaa
