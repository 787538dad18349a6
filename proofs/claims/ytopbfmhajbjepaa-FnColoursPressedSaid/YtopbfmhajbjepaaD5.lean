/- Contracts: colours and words that are drawn. -/
import Derived.Test.YtopbfmhajbjepaaD4
namespace Go.Proofs.Ytopbfmhajbjepaa
open Go
set_option linter.unusedSimpArgs false
set_option linter.unusedVariables false

theorem OwnC.but {b : Nat} {H H1 H2 : AH} {v : AV} {cs : List AV} (h : OwnC H H1 v cs) (k : But b H1 H2) (hb : b < H.size) : OwnC H H2 v cs :=
  h.imp id fun ⟨c, h1, h2, h3⟩ => ⟨c, h1, h2, k.cells (by omega) h3⟩
theorem OwnC.far {b : Nat} {H H1 : AH} {v : AV} {cs : List AV} (h : OwnC H H1 v cs) (hb : b < H.size) : v = .nilsl ∨ v.sb ≠ b :=
  h.imp (·.1) fun ⟨c, h1, h2, _⟩ => by rw [h1]; show c ≠ b; omega
/-- One number more, beside a cursor. -/
theorem OwnC.appB {b A : Nat} {H H1 : AH} {v : AV} {l : List Int} (h : OwnC H H1 v (ints l)) (k : But b H H1) (c : Cur H1 b A) (x : Int) (hb : b < H.size) (hl : l.length < 1000000) :
    ∃ v' H2, aappend2 TA (H1.push (.cells 1 false [.int .i64 x])) 22 22 v (.sl H1.size 0 1) = some (v', H2) ∧ OwnC H H2 v' (ints (l ++ [x])) ∧ But b H H2 ∧ Cur H2 b A := by
  refine ⟨_, _, h.app_ints (k := .i64) (n := x) (ints_one _) (by rw [ints_length]; omega) (Ext.refl H1), ?_, ?_, ?_⟩
  · have e : ((H1.push (.cells 1 false [.int .i64 x])).sans v).size = H1.size + 1 := by cases v <;> rfl
    have := OwnC.new (H0 := H) (H := (H1.push (.cells 1 false [.int .i64 x])).sans v) (by rw [e]; have := k.size; omega) (ints l ++ [.int .i64 x])
    rw [show ints (l ++ [x]) = ints l ++ [.int .i64 x] by simp [ints]]
    rwa [List.length_append, List.length_singleton] at this
  · have k1 : But b H (H1.push (.cells 1 false [.int .i64 x])) := k.trans ((Ext.push _ _).but b)
    refine But.trans ?_ ((Ext.push _ _).but b)
    rcases h with ⟨rfl, _⟩ | ⟨c, rfl, h2, h3⟩
    · exact k1
    · exact k1.putnew h2 _
  · have c1 : Cur (H1.push (.cells 1 false [.int .i64 x])) b A := c.ext (Ext.push _ _)
    refine Cur.ext ?_ (Ext.push _ _)
    rcases h with ⟨rfl, _⟩ | ⟨c, rfl, h2, h3⟩
    · exact c1
    · exact c1.put (by omega) _
theorem OwnC.setB {b A : Nat} {H H1 : AH} {v : AV} {l : List Int} (h : OwnC H H1 v (ints l)) (k : But b H H1) (c : Cur H1 b A) (hb : b < H.size) (i : Nat) (hi : i < l.length) (x : Int) :
    ∃ H2, aindexAddr TA 22 v (.int .i64 i) = some (.ptr v.sb i) ∧ astore1 TA H1 3 (.ptr v.sb i) (.int .i64 x) = some (.undef, H2) ∧ OwnC H H2 v (ints (l.set i x)) ∧ But b H H2 ∧ Cur H2 b A := by
  rcases h with ⟨rfl, h⟩ | ⟨c', rfl, h2, h3⟩
  · simp [ints] at h; subst h; simp at hi
  · refine ⟨_, ?_, astore_cell (t := 3) rfl rfl rfl h3 (by simpa using hi) rfl, ?_, k.putnew h2 _, c.put (by show b < c'; omega) _⟩
    · have := sl_ix (t := 22) (te := 3) rfl rfl rfl rfl (b := c') (o := 0) (n := (ints l).length) (i := (i : Int)) (by omega) (by simp; omega)
      simpa [AV.sb] using this
    · refine .inr ⟨c', by simp, h2, ?_⟩
      have : ints (l.set i x) = (ints l).set i (.int .i64 x) := by simp [ints, List.map_set]
      rw [this]
      exact put_blk_same (AH.cells_lt h3)

theorem coloured_ok (b A : Nat) (H : AH) (hc : Cur H b A) (hA : A < 4611686018427360000) : E 136 [.ptr b 0] H (Draws b A 600 H fun v H' => ∃ g, ∃ m : Nat, v = .tup [g, .int .i64 m] ∧ m ≤ 7 ∧ DrawnW H.size H' g) := by
  have hbH := hc.lt
  refine Ev.enterK (fn := Try.f136) rfl Try.func136 rfl (by kernel_rfl) (by simp [Try.ntmps136]) ?_
  simp (disch := first | exact dsch | kernel_rfl) only [go_sem, ↓reduceIte, Nat.reduceEqDiff, Nat.reduceLT, Nat.reduceAdd, reduceCtorEq, Int.reduceToNat, Try.ntmps136, Try.results136]
  generalize hH : H.push (.cells 2 false [.nilsl, .bool false]) = Hc
  have hHs : Hc.size = H.size + 1 := by rw [← hH]; rfl
  have hHx : Ext H Hc := by rw [← hH]; exact Ext.push _ _
  have hHb : Hc.blk H.size = .cells 2 false [.nilsl, .bool false] := by rw [← hH]; exact AH.push_same _ _
  have n4 : H.size ≠ b := by omega
  generalize hH1 : Hc.push (.cells 1 false (ints [4, 6, 8, 11])) = H1
  have x1 : Ext Hc H1 := by rw [← hH1]; exact Ext.push _ _
  have i1 : IntsAt H1 (.sl Hc.size 0 4) [4, 6, 8, 11] := by rw [← hH1]; exact .inr ⟨_, _, _, _, _, rfl, AH.push_same _ _, by simp, by simp⟩
  refine AOK_calls (among_ok b A _ _ H1 (hc.ext (hHx.trans x1)) (by omega) i1 (.inr (by show Hc.size ≠ b; omega)) (by simp) (by simp)) ?_
  rintro _ H2 ⟨b2, c2, z, rfl, hz⟩
  obtain ⟨q, rfl, hq1, hq2⟩ : ∃ q : Nat, z = (q : Int) ∧ 1 ≤ q ∧ q ≤ 14 := by simp at hz; exact ⟨z.toNat, by omega, by omega, by omega⟩
  simp (disch := first | exact dsch | kernel_rfl) only [go_sem, ↓reduceIte, Nat.reduceEqDiff, Nat.reduceLT, Nat.reduceAdd, reduceCtorEq, Int.reduceToNat, Try.ntmps136, Try.results136]
  refine AOK_calls (graph_ok b (A + 2) q H2 c2 (by omega) hq1 hq2) ?_
  rintro g H3 ⟨b3, c3, hg⟩
  simp (disch := first | exact dsch | kernel_rfl) only [go_sem, ↓reduceIte, Nat.reduceEqDiff, Nat.reduceLT, Nat.reduceAdd, reduceCtorEq, Int.reduceToNat, Try.ntmps136, Try.results136]
  generalize hH4 : H3.push (.cells 1 false (ints [2, 3, 5, 7, 3, 5, 3, 4, 1, 0])) = H4
  have x4 : Ext H3 H4 := by rw [← hH4]; exact Ext.push _ _
  have i4 : IntsAt H4 (.sl H3.size 0 10) [2, 3, 5, 7, 3, 5, 3, 4, 1, 0] := by rw [← hH4]; exact .inr ⟨_, _, _, _, _, rfl, AH.push_same _ _, by simp, by simp⟩
  refine AOK_calls (among_ok b (A + 2 + 500) _ _ H4 (c3.ext x4) (by omega) i4 (.inr (by show H3.size ≠ b; have := c3.lt; omega)) (by simp) (by simp)) ?_
  rintro _ H5 ⟨b5, c5, w, rfl, hw⟩
  obtain ⟨m, rfl, hm⟩ : ∃ m : Nat, w = (m : Int) ∧ m ≤ 7 := by simp at hw; exact ⟨w.toNat, by omega, by omega⟩
  have hx1 := x1.size
  have hs2 := b2.size
  have hs3 := b3.size
  have k5 : H5.blk H.size = .cells 2 false [.nilsl, .bool false] := b5.cells n4 (x4.cells (b3.cells n4 (b2.cells n4 (x1.cells hHb))))
  have hg5 : DrawnW H2.size H5 g := (hg.ext x4).but b5 (by omega)
  obtain ⟨s, o, l, rfl, h1, h2, h3⟩ := hg5
  have hs : s.one = true := SliceAt.isOne h1
  have bb : But b H H5 := ((((hHx.trans x1).but b).trans b2).trans ((b3.trans (x4.but b)).trans b5))
  have hl5 : H.size < H5.size := AH.cells_lt k5
  (simp (disch := first | exact dsch | kernel_rfl) only [go_sem, ↓reduceIte, Nat.reduceEqDiff, Nat.reduceLT, Nat.reduceAdd, reduceCtorEq, Int.reduceToNat, Try.ntmps136, Try.results136, st_graph (o := o) k5 hs] <;> repeat' ((first | refine AK.drawT (by kernel_rfl) ?_ | ((first | refine ABK_mk ?_ ?_ | refine AGK_mk ?_ ?_) <;> intro hb <;> (try simp only [decide_eq_true_eq, decide_eq_false_iff_not, Bool.not_eq_true', Bool.not_eq_false', Bool.not_not] at hb) <;> (try (exfalso; omega)) <;> (try subst hb) <;> try simp only [hb, decide_true, decide_false])) <;> try simp (disch := first | exact dsch | kernel_rfl) only [go_sem, ↓reduceIte, Nat.reduceEqDiff, Nat.reduceLT, Nat.reduceAdd, reduceCtorEq, Int.reduceToNat, Try.ntmps136, Try.results136, st_graph (o := o) k5 hs]))
  refine ⟨bb.putnew (Nat.le_refl _) _, (c5.put (by omega) _).le (by omega), _, m, rfl, hm, s, o, l, rfl, ?_, h2, h3.imp id fun h => by omega⟩
  exact (But.put H.size H5 _).slice (h3.imp id fun h => by omega) h1

/-- A new list of integers. -/
def NewL (n0 : Nat) (H : AH) (v : AV) (k : Nat) : Prop := ∃ l, IntsAt H v l ∧ l.length ≤ k ∧ (v = .nilsl ∨ n0 ≤ v.sb)
theorem OwnC.newL {H H1 : AH} {v : AV} {l : List Int} {k : Nat} (h : OwnC H H1 v (ints l)) (hk : l.length ≤ k) : NewL H.size H1 v k :=
  ⟨l, h.slice, hk, h.imp (·.1) fun ⟨c, h1, h2, _⟩ => by rw [h1]; exact h2⟩
theorem NewL.but {n0 b k : Nat} {H H' : AH} {v : AV} (h : NewL n0 H v k) (x : But b H H') (hb : b < n0) : NewL n0 H' v k := by
  obtain ⟨l, h2, h3, h4⟩ := h
  exact ⟨l, x.slice (h4.imp id fun h => by omega) h2, h3, h4⟩
theorem NewL.ext {n0 k : Nat} {H H' : AH} {v : AV} (h : NewL n0 H v k) (x : Ext H H') : NewL n0 H' v k := by
  obtain ⟨l, h2, h3, h4⟩ := h
  exact ⟨l, h2.ext x, h3, h4⟩

set_option maxRecDepth 10000 in
theorem colours_ok (b A m : Nat) (s : AV) (o : Bool) (l : List Int) (H : AH) (hc : Cur H b A) (hA : A < 4611686018427360000) (hs : IntsAt H s l) (hl : l.length ≤ 17) (hm : m ≤ 7) :
    E 137 [.ptr b 0, .agg [s, .bool o], .int .i64 m] H (Draws b A 100 H fun v H' => NewL H.size H' v 18) := by
  have hbH := hc.lt
  refine Ev.enterK (fn := Try.f137) rfl Try.func137 rfl (by kernel_rfl) (by simp [Try.ntmps137]) ?_
  simp (disch := first | exact dsch | kernel_rfl) only [go_sem, ↓reduceIte, Nat.reduceEqDiff, Nat.reduceLT, Nat.reduceAdd, reduceCtorEq, Int.reduceToNat, Try.ntmps137, Try.results137]
  generalize hH : H.push (.cells 2 false [s, .bool o]) = Hc
  have hHs : Hc.size = H.size + 1 := by rw [← hH]; rfl
  have hHx : Ext H Hc := by rw [← hH]; exact Ext.push _ _
  have hHb : Hc.blk H.size = .cells 2 false [s, .bool o] := by rw [← hH]; exact AH.push_same _ _
  have ldg : aload1 TA Hc 22 (.ptr H.size 0) = some (s, Hc) := aload_cell (t := 22) rfl rfl hHb rfl
  simp (disch := first | exact dsch | kernel_rfl) only [go_sem, ↓reduceIte, Nat.reduceEqDiff, Nat.reduceLT, Nat.reduceAdd, reduceCtorEq, Int.reduceToNat, Try.ntmps137, Try.results137, IntsAt.len (hs.ext hHx)]
  refine (AK.count 11 [7, 11, 12, 13, 14, 15, 16, 17, 18, 19, 20] (by kernel_rfl) 0 l.length (fun i tm H' => ∃ v q, tm 7 = v ∧ OwnC H H' v (ints q) ∧ q.length = i ∧ But b H H' ∧ Cur H' b (A + 2 * i)) (by rfl) (by omega) ⟨.nilsl, [], by simp [go_sem], OwnC.nil, rfl, hHx.but b, hc.ext hHx⟩ ?_)
  rintro i tm H' K g1 g2 fr hq ⟨v, q, h7, ho, hql, hb1, hc1⟩ hK
  by_cases hi : i < l.length
  · have hi' : (i : Int) < (l.length : Int) := by omega
    simp (disch := first | exact dsch | kernel_rfl) only [go_sem, ↓reduceIte, Nat.reduceEqDiff, Nat.reduceLT, Nat.reduceAdd, reduceCtorEq, Int.reduceToNat, Try.ntmps137, Try.results137, fr, hq, h7, hi']
    refine AOK_is (l1Most_ok _ _ _) ?_
    intro H1 x1
    simp (disch := first | exact dsch | kernel_rfl) only [go_sem, ↓reduceIte, Nat.reduceEqDiff, Nat.reduceLT, Nat.reduceAdd, reduceCtorEq, Int.reduceToNat, Try.ntmps137, Try.results137, fr, hq, h7, hi']
    refine AOK_calls (pick_ok b (A + 2 * i) _ H1 (hc1.ext x1) (by omega)) ?_
    rintro _ H2 ⟨b2, c2, y, rfl, hy, _⟩
    obtain ⟨v', H3, ap, ho3, b3, c3⟩ := OwnC.appB ((ho.ext x1).but b2 hbH) ((hb1.trans (x1.but b)).trans b2) c2 (y : Int) hbH (by omega)
    simp (disch := first | exact dsch | kernel_rfl) only [go_sem, ↓reduceIte, Nat.reduceEqDiff, Nat.reduceLT, Nat.reduceAdd, reduceCtorEq, Int.reduceToNat, Try.ntmps137, Try.results137, fr, hq, h7, hi', ap]
    exact hK _ _ (by omega) (by rfl) ⟨v', _, by simp [go_sem], ho3, by simp [hql], b3, c3.le (by omega)⟩
  · have hi' : ¬ (i : Int) < (l.length : Int) := by omega
    have ei : i = l.length := by omega
    have hlen := SliceAt.len ho.slice rfl (t := 22) rfl rfl (Ext.refl H')
    rw [ints_length] at hlen
    simp (disch := first | exact dsch | kernel_rfl) only [go_sem, ↓reduceIte, Nat.reduceEqDiff, Nat.reduceLT, Nat.reduceAdd, reduceCtorEq, Int.reduceToNat, Try.ntmps137, Try.results137, fr, hq, h7, hi', hlen]
    by_cases hq0 : 0 < q.length
    · have d0 : decide ((0 : Int) < (q.length : Int)) = true := decide_eq_true (by omega)
      simp (disch := first | exact dsch | kernel_rfl) only [go_sem, ↓reduceIte, Nat.reduceEqDiff, Nat.reduceLT, Nat.reduceAdd, reduceCtorEq, Int.reduceToNat, Try.ntmps137, Try.results137, fr, hq, h7, d0]
      refine AOK_calls (one_ok b (A + 2 * i) 14 _ hc1 (by omega)) ?_
      rintro _ H1 ⟨b1, c1, t1, rfl⟩
      have ho1 := ho.but b1 hbH
      have bb1 := hb1.trans b1
      cases t1
      · simp (disch := first | exact dsch | kernel_rfl) only [go_sem, ↓reduceIte, Nat.reduceEqDiff, Nat.reduceLT, Nat.reduceAdd, reduceCtorEq, Int.reduceToNat, Try.ntmps137, Try.results137, fr, hq, h7, d0]
        refine AOK_calls (one_ok b (A + 2 * i + 2) 20 _ c1 (by omega)) ?_
        rintro _ H9 ⟨b9, c9, t9, rfl⟩
        have ho9 := OwnC.but ho1 b9 hbH
        cases t9
        · simp (disch := first | exact dsch | kernel_rfl) only [go_sem, ↓reduceIte, Nat.reduceEqDiff, Nat.reduceLT, Nat.reduceAdd, reduceCtorEq, Int.reduceToNat, Try.ntmps137, Try.results137, fr, hq, h7]
          exact ⟨bb1.trans b9, c9.le (by omega), ho9.newL (by omega)⟩
        · obtain ⟨v', H10, ap, ho10, b10, c10⟩ := OwnC.appB ho9 (bb1.trans b9) c9 0 hbH (by omega)
          simp (disch := first | exact dsch | kernel_rfl) only [go_sem, ↓reduceIte, Nat.reduceEqDiff, Nat.reduceLT, Nat.reduceAdd, reduceCtorEq, Int.reduceToNat, Try.ntmps137, Try.results137, fr, hq, h7, ap]
          exact ⟨b10, c10.le (by omega), ho10.newL (by simp; omega)⟩
      · have hlen1 := SliceAt.len ho1.slice rfl (t := 22) rfl rfl (Ext.refl H1)
        rw [ints_length] at hlen1
        simp (disch := first | exact dsch | kernel_rfl) only [go_sem, ↓reduceIte, Nat.reduceEqDiff, Nat.reduceLT, Nat.reduceAdd, reduceCtorEq, Int.reduceToNat, Try.ntmps137, Try.results137, fr, hq, h7, d0, hlen1]
        refine AOK_calls (pick_ok b (A + 2 * i + 2) _ H1 c1 (by omega)) ?_
        rintro _ H2 ⟨b2, c2, y, rfl, hy, _⟩
        have hy' : y < q.length := by omega
        simp (disch := first | exact dsch | kernel_rfl) only [go_sem, ↓reduceIte, Nat.reduceEqDiff, Nat.reduceLT, Nat.reduceAdd, reduceCtorEq, Int.reduceToNat, Try.ntmps137, Try.results137, fr, hq, h7, d0]
        generalize hH3 : H2.push (.cells 1 false (ints [-1, (m : Int), 9, 4611686018427387904])) = H3
        have x3 : Ext H2 H3 := by rw [← hH3]; exact Ext.push _ _
        have i3 : IntsAt H3 (.sl H2.size 0 4) [-1, (m : Int), 9, 4611686018427387904] := by rw [← hH3]; exact .inr ⟨_, _, _, _, _, rfl, AH.push_same _ _, by simp, by simp⟩
        refine AOK_calls (among_ok b (A + 2 * i + 2 + 2) _ _ H3 (c2.ext x3) (by omega) i3 (.inr (by show H2.size ≠ b; have := c2.lt; omega)) (by simp) (by simp)) ?_
        rintro _ H4 ⟨b4, c4, z, rfl, hz⟩
        obtain ⟨H5, ix5, st5, ho5, bb5, c5⟩ := OwnC.setB (((ho1.but b2 hbH).ext x3).but b4 hbH) (((bb1.trans b2).trans (x3.but b)).trans b4) c4 hbH y hy' z
        simp (disch := first | exact dsch | kernel_rfl) only [go_sem, ↓reduceIte, Nat.reduceEqDiff, Nat.reduceLT, Nat.reduceAdd, reduceCtorEq, Int.reduceToNat, Try.ntmps137, Try.results137, fr, hq, h7, d0, ix5, st5]
        have hql2 : (q.set y z).length = i := by simp [hql]
        refine AOK_calls (one_ok b (A + 2 * i + 2 + 2 + 2) 20 _ c5 (by omega)) ?_
        rintro _ H9 ⟨b9, c9, t9, rfl⟩
        have ho9 := OwnC.but ho5 b9 hbH
        cases t9
        · simp (disch := first | exact dsch | kernel_rfl) only [go_sem, ↓reduceIte, Nat.reduceEqDiff, Nat.reduceLT, Nat.reduceAdd, reduceCtorEq, Int.reduceToNat, Try.ntmps137, Try.results137, fr, hq, h7]
          exact ⟨bb5.trans b9, c9.le (by omega), ho9.newL (by omega)⟩
        · obtain ⟨v', H10, ap, ho10, b10, c10⟩ := OwnC.appB ho9 (bb5.trans b9) c9 0 hbH (by omega)
          simp (disch := first | exact dsch | kernel_rfl) only [go_sem, ↓reduceIte, Nat.reduceEqDiff, Nat.reduceLT, Nat.reduceAdd, reduceCtorEq, Int.reduceToNat, Try.ntmps137, Try.results137, fr, hq, h7, ap]
          exact ⟨b10, c10.le (by omega), ho10.newL (by simp; omega)⟩
    · have d0 : decide ((0 : Int) < (q.length : Int)) = false := decide_eq_false (by omega)
      simp (disch := first | exact dsch | kernel_rfl) only [go_sem, ↓reduceIte, Nat.reduceEqDiff, Nat.reduceLT, Nat.reduceAdd, reduceCtorEq, Int.reduceToNat, Try.ntmps137, Try.results137, fr, hq, h7, d0]
      refine AOK_calls (one_ok b (A + 2 * i) 20 _ hc1 (by omega)) ?_
      rintro _ H9 ⟨b9, c9, t9, rfl⟩
      have ho9 := OwnC.but ho b9 hbH
      cases t9
      · simp (disch := first | exact dsch | kernel_rfl) only [go_sem, ↓reduceIte, Nat.reduceEqDiff, Nat.reduceLT, Nat.reduceAdd, reduceCtorEq, Int.reduceToNat, Try.ntmps137, Try.results137, fr, hq, h7]
        exact ⟨hb1.trans b9, c9.le (by omega), ho9.newL (by omega)⟩
      · obtain ⟨v', H10, ap, ho10, b10, c10⟩ := OwnC.appB ho9 (hb1.trans b9) c9 0 hbH (by omega)
        simp (disch := first | exact dsch | kernel_rfl) only [go_sem, ↓reduceIte, Nat.reduceEqDiff, Nat.reduceLT, Nat.reduceAdd, reduceCtorEq, Int.reduceToNat, Try.ntmps137, Try.results137, fr, hq, h7, ap]
        exact ⟨b10, c10.le (by omega), ho10.newL (by simp; omega)⟩


set_option maxRecDepth 10000 in
theorem word7_ok (b A : Nat) (s : AV) (o : Bool) (l : List Int) (H : AH) (hc : Cur H b A) (hA : A < 4611686018427360000) (hs : IntsAt H s l) (hl : l.length ≤ 17) (ha : s = .nilsl ∨ s.sb ≠ b) :
    E 138 [.ptr b 0, .agg [s, .bool o]] H (Draws b A 600 H fun v H' => NewL H.size H' v 201) := by
  have hbH := hc.lt
  refine Ev.enterK (fn := Try.f138) rfl Try.func138 rfl (by kernel_rfl) (by simp [Try.ntmps138]) ?_
  simp (disch := first | exact dsch | kernel_rfl) only [go_sem, ↓reduceIte, Nat.reduceEqDiff, Nat.reduceLT, Nat.reduceAdd, reduceCtorEq, Int.reduceToNat, Try.ntmps138, Try.results138]
  generalize hH : H.push (.cells 2 false [s, .bool o]) = Hc
  have hHs : Hc.size = H.size + 1 := by rw [← hH]; rfl
  have hHx : Ext H Hc := by rw [← hH]; exact Ext.push _ _
  have hHb : Hc.blk H.size = .cells 2 false [s, .bool o] := by rw [← hH]; exact AH.push_same _ _
  have n4 : H.size ≠ b := by omega
  generalize hH1 : Hc.push (.cells 1 false (ints [0, 1, 3, 8])) = H1
  have x1 : Ext Hc H1 := by rw [← hH1]; exact Ext.push _ _
  have i1 : IntsAt H1 (.sl Hc.size 0 4) [0, 1, 3, 8] := by rw [← hH1]; exact .inr ⟨_, _, _, _, _, rfl, AH.push_same _ _, by simp, by simp⟩
  refine AOK_calls (among_ok b A _ _ H1 (hc.ext (hHx.trans x1)) (by omega) i1 (.inr (by show Hc.size ≠ b; omega)) (by simp) (by simp)) ?_
  rintro _ H2 ⟨b2, c2, z, rfl, hz⟩
  obtain ⟨k0, rfl, hk0⟩ : ∃ q : Nat, z = (q : Int) ∧ q ≤ 8 := by simp at hz; exact ⟨z.toNat, by omega, by omega⟩
  simp (disch := first | exact dsch | kernel_rfl) only [go_sem, ↓reduceIte, Nat.reduceEqDiff, Nat.reduceLT, Nat.reduceAdd, reduceCtorEq, Int.reduceToNat, Try.ntmps138, Try.results138]
  refine (AK.while [5, 6, 10, 11, 12, 13, 14, 15, 16, 17, 18, 19, 20, 21, 22] (by kernel_rfl) (fun k tm H' => ∃ v q, tm 0 = .ptr b 0 ∧ tm 3 = .ptr H.size 0 ∧ tm 6 = .int .i64 k ∧ tm 5 = v ∧ OwnC Hc H' v (ints q) ∧ q.length + k ≤ 8 ∧ But b Hc H' ∧ Cur H' b (A + 2 + 2 * (8 - k))) k0 ⟨_, [], by simp [go_sem], by simp [go_sem], by simp [go_sem], rfl, OwnC.nil, by simp; omega, (x1.but b).trans b2, c2.le (by omega)⟩ ?_)
  rintro k tm H' K fr ⟨v, q, h0, h3, h6, h5, ho, hql, hb1, hc1⟩ hK
  by_cases hk : 0 < k
  · have hk' : (0 : Int) < (k : Int) := by omega
    have hbx : H'.blk H.size = .cells 2 false [s, .bool o] := hb1.cells n4 hHb
    have ldg : aload1 TA H' 22 (.ptr H.size 0) = some (s, H') := aload_cell (t := 22) rfl rfl hbx rfl
    have is : IntsAt H' s l := hb1.slice ha (hs.ext hHx)
    simp (disch := first | exact dsch | kernel_rfl) only [go_sem, ↓reduceIte, Nat.reduceEqDiff, Nat.reduceLT, Nat.reduceAdd, reduceCtorEq, Int.reduceToNat, Try.ntmps138, Try.results138, h0, h3, h6, h5, hk', ldg, is.len]
    refine AOK_is (l1Most_ok _ _ _) ?_
    intro H3 x3
    simp (disch := first | exact dsch | kernel_rfl) only [go_sem, ↓reduceIte, Nat.reduceEqDiff, Nat.reduceLT, Nat.reduceAdd, reduceCtorEq, Int.reduceToNat, Try.ntmps138, Try.results138, h0, h3, h6, h5]
    refine AOK_calls (pick_ok b (A + 2 + 2 * (8 - k)) _ H3 (hc1.ext x3) (by omega)) ?_
    rintro _ H4 ⟨b4, c4, y, rfl, hy, _⟩
    obtain ⟨v', H5, ap, ho5, b5, c5⟩ := OwnC.appB ((ho.ext x3).but b4 (by omega)) ((hb1.trans (x3.but b)).trans b4) c4 (y : Int) (by omega) (by omega)
    have e1 : (k : Int) - 1 = ((k - 1 : Nat) : Int) := by omega
    simp (disch := first | exact dsch | kernel_rfl) only [go_sem, ↓reduceIte, Nat.reduceEqDiff, Nat.reduceLT, Nat.reduceAdd, reduceCtorEq, Int.reduceToNat, Try.ntmps138, Try.results138, h0, h3, h6, h5, ap, e1]
    exact hK (k - 1) _ _ (by omega) ⟨_, _, by simp [go_sem, h0], by simp [go_sem, h3], by simp [go_sem], rfl, ho5, by simp; omega, b5, c5.le (by omega)⟩
  · have hk' : ¬ (0 : Int) < (k : Int) := by omega
    simp (disch := first | exact dsch | kernel_rfl) only [go_sem, ↓reduceIte, Nat.reduceEqDiff, Nat.reduceLT, Nat.reduceAdd, reduceCtorEq, Int.reduceToNat, Try.ntmps138, Try.results138, h0, h3, h6, h5, hk']
    refine AOK_calls (one_ok b (A + 2 + 2 * (8 - k)) 15 _ hc1 (by omega)) ?_
    rintro _ H3 ⟨b3, c3, t3, rfl⟩
    have ho3 := ho.but b3 (by omega)
    have bb3 := hb1.trans b3
    cases t3
    · simp (disch := first | exact dsch | kernel_rfl) only [go_sem, ↓reduceIte, Nat.reduceEqDiff, Nat.reduceLT, Nat.reduceAdd, reduceCtorEq, Int.reduceToNat, Try.ntmps138, Try.results138, h0, h5]
      refine AOK_calls (one_ok b (A + 2 + 2 * (8 - k) + 2) 25 _ c3 (by omega)) ?_
      rintro _ H9 ⟨b9, c9, t9, rfl⟩
      have ho9 := OwnC.but ho3 b9 (by omega)
      have bc9 := bb3.trans b9
      cases t9
      · simp (disch := first | exact dsch | kernel_rfl) only [go_sem, ↓reduceIte, Nat.reduceEqDiff, Nat.reduceLT, Nat.reduceAdd, reduceCtorEq, Int.reduceToNat, Try.ntmps138, Try.results138, h5]
        exact ⟨(hHx.but b).trans bc9, c9.le (by omega), ((ho9.base (by omega)).newL (by omega))⟩
      · simp (disch := first | exact dsch | kernel_rfl) only [go_sem, ↓reduceIte, Nat.reduceEqDiff, Nat.reduceLT, Nat.reduceAdd, reduceCtorEq, Int.reduceToNat, Try.ntmps138, Try.results138, h5]
        refine (AK.while [5, 33, 34, 35, 36, 37, 38, 39, 40, 41] (by kernel_rfl) (fun k tm H' => ∃ v q, tm 0 = .ptr b 0 ∧ tm 5 = v ∧ OwnC Hc H' v (ints q) ∧ 201 - q.length = k ∧ q.length ≤ 201 ∧ But b Hc H' ∧ Cur H' b (A + 50 + 2 * (201 - k))) _ ⟨v, q, by simp [go_sem, h0], by simp [go_sem, h5], ho9, rfl, by omega, bc9, c9.le (by omega)⟩ ?_)
        rintro k2 tm4 H4 K4 fr4 ⟨v4, q4, g0, g5, ho4, hk4, hq4, hb4, hc4⟩ hK4
        have hlen4 := SliceAt.len ho4.slice rfl (t := 22) rfl rfl (Ext.refl H4)
        rw [ints_length] at hlen4
        simp (disch := first | exact dsch | kernel_rfl) only [go_sem, ↓reduceIte, Nat.reduceEqDiff, Nat.reduceLT, Nat.reduceAdd, reduceCtorEq, Int.reduceToNat, Try.ntmps138, Try.results138, g0, g5, hlen4]
        refine AOK_calls (pick_ok b (A + 50 + 2 * (201 - k2)) 2 H4 hc4 (by omega)) ?_
        rintro _ H6 ⟨b6, c6, y, rfl, hy, _⟩
        have ho6 := ho4.but b6 (by omega)
        have e200 : (200 : Int) + (y : Int) = ((200 + y : Nat) : Int) := by omega
        by_cases hlt : q4.length < 200 + y
        · have dlt : decide ((q4.length : Int) < ((200 + y : Nat) : Int)) = true := decide_eq_true (by omega)
          obtain ⟨v', H7, ap, ho7, b7, c7⟩ := OwnC.appB ho6 (hb4.trans b6) c6 0 (by omega) (by omega)
          simp (disch := first | exact dsch | kernel_rfl) only [go_sem, ↓reduceIte, Nat.reduceEqDiff, Nat.reduceLT, Nat.reduceAdd, reduceCtorEq, Int.reduceToNat, Try.ntmps138, Try.results138, g0, g5, e200, dlt, ap]
          exact hK4 (k2 - 1) _ _ (by omega) ⟨_, _, by simp [go_sem, g0], rfl, ho7, by simp; omega, by simp; omega, b7, c7.le (by omega)⟩
        · have dlt : decide ((q4.length : Int) < ((200 + y : Nat) : Int)) = false := decide_eq_false (by omega)
          simp (disch := first | exact dsch | kernel_rfl) only [go_sem, ↓reduceIte, Nat.reduceEqDiff, Nat.reduceLT, Nat.reduceAdd, reduceCtorEq, Int.reduceToNat, Try.ntmps138, Try.results138, g0, g5, e200, dlt]
          exact ⟨(hHx.but b).trans (hb4.trans b6), c6.le (by omega), ((ho6.base (by omega)).newL (by omega))⟩
    · simp (disch := first | exact dsch | kernel_rfl) only [go_sem, ↓reduceIte, Nat.reduceEqDiff, Nat.reduceLT, Nat.reduceAdd, reduceCtorEq, Int.reduceToNat, Try.ntmps138, Try.results138, h0, h5]
      generalize hH4 : H3.push (.cells 1 false (ints [-1, 16, 4611686018427387904])) = H4
      have x4 : Ext H3 H4 := by rw [← hH4]; exact Ext.push _ _
      have i4 : IntsAt H4 (.sl H3.size 0 3) [-1, 16, 4611686018427387904] := by rw [← hH4]; exact .inr ⟨_, _, _, _, _, rfl, AH.push_same _ _, by simp, by simp⟩
      refine AOK_calls (among_ok b (A + 2 + 2 * (8 - k) + 2) _ _ H4 (c3.ext x4) (by omega) i4 (.inr (by show H3.size ≠ b; have := c3.lt; omega)) (by simp) (by simp)) ?_
      rintro _ H5 ⟨b5, c5, z, rfl, hz⟩
      obtain ⟨v', H6, ap, ho6, b6, c6⟩ := OwnC.appB ((ho3.ext x4).but b5 (by omega)) ((bb3.trans (x4.but b)).trans b5) c5 z (by omega) (by omega)
      simp (disch := first | exact dsch | kernel_rfl) only [go_sem, ↓reduceIte, Nat.reduceEqDiff, Nat.reduceLT, Nat.reduceAdd, reduceCtorEq, Int.reduceToNat, Try.ntmps138, Try.results138, h0, h5, ap]
      have hql6 : (q ++ [z]).length ≤ 9 := by simp; omega
      refine AOK_calls (one_ok b (A + 2 + 2 * (8 - k) + 2 + 2) 25 _ c6 (by omega)) ?_
      rintro _ H9 ⟨b9, c9, t9, rfl⟩
      have ho9 := OwnC.but ho6 b9 (by omega)
      have bc9 := b6.trans b9
      cases t9
      · simp (disch := first | exact dsch | kernel_rfl) only [go_sem, ↓reduceIte, Nat.reduceEqDiff, Nat.reduceLT, Nat.reduceAdd, reduceCtorEq, Int.reduceToNat, Try.ntmps138, Try.results138, h5]
        exact ⟨(hHx.but b).trans bc9, c9.le (by omega), ((ho9.base (by omega)).newL (by omega))⟩
      · simp (disch := first | exact dsch | kernel_rfl) only [go_sem, ↓reduceIte, Nat.reduceEqDiff, Nat.reduceLT, Nat.reduceAdd, reduceCtorEq, Int.reduceToNat, Try.ntmps138, Try.results138, h5]
        refine (AK.while [5, 33, 34, 35, 36, 37, 38, 39, 40, 41] (by kernel_rfl) (fun k tm H' => ∃ v q, tm 0 = .ptr b 0 ∧ tm 5 = v ∧ OwnC Hc H' v (ints q) ∧ 201 - q.length = k ∧ q.length ≤ 201 ∧ But b Hc H' ∧ Cur H' b (A + 50 + 2 * (201 - k))) _ ⟨v', (q ++ [z]), by simp [go_sem, h0], by simp [go_sem, h5], ho9, rfl, by omega, bc9, c9.le (by omega)⟩ ?_)
        rintro k2 tm4 H4 K4 fr4 ⟨v4, q4, g0, g5, ho4, hk4, hq4, hb4, hc4⟩ hK4
        have hlen4 := SliceAt.len ho4.slice rfl (t := 22) rfl rfl (Ext.refl H4)
        rw [ints_length] at hlen4
        simp (disch := first | exact dsch | kernel_rfl) only [go_sem, ↓reduceIte, Nat.reduceEqDiff, Nat.reduceLT, Nat.reduceAdd, reduceCtorEq, Int.reduceToNat, Try.ntmps138, Try.results138, g0, g5, hlen4]
        refine AOK_calls (pick_ok b (A + 50 + 2 * (201 - k2)) 2 H4 hc4 (by omega)) ?_
        rintro _ H6 ⟨b6, c6, y, rfl, hy, _⟩
        have ho6 := ho4.but b6 (by omega)
        have e200 : (200 : Int) + (y : Int) = ((200 + y : Nat) : Int) := by omega
        by_cases hlt : q4.length < 200 + y
        · have dlt : decide ((q4.length : Int) < ((200 + y : Nat) : Int)) = true := decide_eq_true (by omega)
          obtain ⟨v', H7, ap, ho7, b7, c7⟩ := OwnC.appB ho6 (hb4.trans b6) c6 0 (by omega) (by omega)
          simp (disch := first | exact dsch | kernel_rfl) only [go_sem, ↓reduceIte, Nat.reduceEqDiff, Nat.reduceLT, Nat.reduceAdd, reduceCtorEq, Int.reduceToNat, Try.ntmps138, Try.results138, g0, g5, e200, dlt, ap]
          exact hK4 (k2 - 1) _ _ (by omega) ⟨_, _, by simp [go_sem, g0], rfl, ho7, by simp; omega, by simp; omega, b7, c7.le (by omega)⟩
        · have dlt : decide ((q4.length : Int) < ((200 + y : Nat) : Int)) = false := decide_eq_false (by omega)
          simp (disch := first | exact dsch | kernel_rfl) only [go_sem, ↓reduceIte, Nat.reduceEqDiff, Nat.reduceLT, Nat.reduceAdd, reduceCtorEq, Int.reduceToNat, Try.ntmps138, Try.results138, g0, g5, e200, dlt]
          exact ⟨(hHx.but b).trans (hb4.trans b6), c6.le (by omega), ((ho6.base (by omega)).newL (by omega))⟩

end Go.Proofs.Ytopbfmhajbjepaa
