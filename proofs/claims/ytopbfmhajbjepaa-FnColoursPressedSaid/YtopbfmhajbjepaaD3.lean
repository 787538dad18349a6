/- Contracts: graphs that are drawn. -/
import Derived.Test.YtopbfmhajbjepaaD2
namespace Go.Proofs.Ytopbfmhajbjepaa
open Go
set_option linter.unusedSimpArgs false
set_option linter.unusedVariables false

/-- What is drawn as a graph: a new one, whose row may be written. -/
def DrawnG (n0 : Nat) (H : AH) (v : AV) : Prop := ∃ n o l, NewG n0 H v n o l ∧ 1 ≤ n ∧ n ≤ 16

/-- A graph that is being drawn: the cursor, the result's cell, the row and its box. -/
structure SG (b A : Nat) (H H' : AH) (c4 cr cb n : Nat) (o : Bool) (l : List Nat) : Prop where
  but : But b H H'
  cur : Cur H' b A
  cell : H'.blk c4 = .cells 2 false [.nilsl, .bool false]
  row : RowAt H' cr l
  len : l.length = n
  lt : ∀ a, l.getD a 0 < 2 ^ n
  box : H'.blk cb = .cells 2 false [.sl cr 0 n, .bool o]
theorem SG.draw {b A A' : Nat} {H H' H1 : AH} {c4 cr cb n : Nat} {o : Bool} {l : List Nat} (h : SG b A H H' c4 cr cb n o l) (h4 : c4 ≠ b) (hr : cr ≠ b) (hb : cb ≠ b) (k : But b H' H1) (c : Cur H1 b A') : SG b A' H H1 c4 cr cb n o l :=
  ⟨h.but.trans k, c, k.cells h4 h.cell, k.row hr h.row, h.len, h.lt, k.cells hb h.box⟩
theorem SG.add {b A : Nat} {H H' H1 : AH} {c4 cr cb n : Nat} {o : Bool} {l : List Nat} (h : SG b A H H' c4 cr cb n o l) (h4 : c4 ≠ cr) (hb : cb ≠ cr) (hr : H.size ≤ cr) (hbb : b < H.size) {i j : Nat} (hi : i < n) (hj : j < n)
    (x : Ext (H'.put cr (rowBlk (addE l i j))) H1) : SG b A H H1 c4 cr cb n o (addE l i j) := by
  refine ⟨(h.but.putnew hr _).trans (x.but b), (h.cur.put (by omega) _).ext x, x.cells (by rw [put_blk_ne h4]; exact h.cell), RowAt.of h.row.lt x, by rw [addE_length, h.len], fun a => addE_lt h.len h.lt hi hj a, x.cells (by rw [put_blk_ne hb]; exact h.box)⟩

set_option maxRecDepth 10000 in
theorem sureGraph_ok (b A most : Nat) (H : AH) (hc : Cur H b A) (hA : A < 4611686018427380000) (hm : 1 ≤ most) (hm2 : most ≤ 14) : E 223 [.ptr b 0, .int .i64 most] H (Draws b A 400 H fun v H' => DrawnG H.size H' v) := by
  have hbH := hc.lt
  refine Ev.enterK (fn := Try.f223) rfl Try.func223 rfl (by kernel_rfl) (by simp [Try.ntmps223]) ?_
  simp (disch := first | exact dsch | kernel_rfl) only [go_sem, ↓reduceIte, Nat.reduceEqDiff, Nat.reduceLT, Nat.reduceAdd, reduceCtorEq, Int.reduceToNat, Try.ntmps223, Try.results223]
  generalize hH : H.push (.cells 2 false [.nilsl, .bool false]) = Hc
  have hHs : Hc.size = H.size + 1 := by rw [← hH]; rfl
  have hHx : Ext H Hc := by rw [← hH]; exact Ext.push _ _
  have hHb : Hc.blk H.size = .cells 2 false [.nilsl, .bool false] := by rw [← hH]; exact AH.push_same _ _
  have n4 : H.size ≠ b := by omega
  -- the end: a graph goes into the result's cell
  have fin : ∀ (H1 : AH) (v : AV) (n : Nat) (o : Bool) (l : List Nat), But b H H1 → Cur H1 b (A + 400) → H1.blk H.size = .cells 2 false [.nilsl, .bool false] → NewG (H.size + 1) H1 v n o l → 1 ≤ n → n ≤ 16 →
      ∃ s, v = .agg [s, .bool o] ∧ s.one = true ∧ Draws b A 400 H (fun v H' => DrawnG H.size H' v) v (H1.put H.size (.cells 2 false [s, .bool o])) := by
    intro H1 v n o l k1 k2 k3 hg h1 h2
    obtain ⟨c, rfl, hcl, hr⟩ := hg.form
    exact ⟨_, rfl, rfl, k1.putnew (Nat.le_refl _) _, k2.put (by omega) _, n, o, l, ⟨⟨c, rfl, by omega, hr.putne (by omega)⟩, hg.len, hg.lt⟩, h1, h2⟩
  refine AOK_calls (one_ok b A 3 Hc (hc.ext hHx) (by omega)) ?_
  rintro _ H1 ⟨b1, c1, own, rfl⟩
  have f1 := b1
  have b1 := (hHx.but b).trans b1
  simp (disch := first | exact dsch | kernel_rfl) only [go_sem, ↓reduceIte, Nat.reduceEqDiff, Nat.reduceLT, Nat.reduceAdd, reduceCtorEq, Int.reduceToNat, Try.ntmps223, Try.results223]
  refine AOK_calls (pick_ok b (A + 2) 5 H1 c1 (by omega)) ?_
  rintro _ H2 ⟨b2, c2, x, rfl, hx, _⟩
  have b12 := b1.trans b2
  have k2 : H2.blk H.size = .cells 2 false [.nilsl, .bool false] := (f1.trans b2).cells n4 hHb
  have z2 : H.size + 1 ≤ H2.size := by have := (f1.trans b2).size; omega
  by_cases x0 : x = 0
  · have d0 : decide ((x : Int) = 0) = true := by simp [x0]
    simp (disch := first | exact dsch | kernel_rfl) only [go_sem, ↓reduceIte, Nat.reduceEqDiff, Nat.reduceLT, Nat.reduceAdd, reduceCtorEq, Int.reduceToNat, Try.ntmps223, Try.results223, d0]
    refine AOK_calls (pick_ok b (A + 2 + 2) most H2 c2 (by omega)) ?_
    rintro _ H3 ⟨b3, c3, y, rfl, hy, _⟩
    have e1 : (1 : Int) + (y : Int) = ((1 + y : Nat) : Int) := by omega
    have k3 := b3.cells n4 k2
    simp (disch := first | exact dsch | kernel_rfl) only [go_sem, ↓reduceIte, Nat.reduceEqDiff, Nat.reduceLT, Nat.reduceAdd, reduceCtorEq, Int.reduceToNat, Try.ntmps223, Try.results223, e1]
    refine AOK_gives (grPath_ok (1 + y) _ H3 (by omega) (by omega)) ?_
    intro v H4 x4 g4
    obtain ⟨s, rfl, hs, hfin⟩ := fin H4 v _ _ _ ((b12.trans b3).trans (x4.but b)) ((c3.ext x4).le (by omega)) (x4.cells k3) ⟨by obtain ⟨c, e, h1, h2⟩ := g4.form; exact ⟨c, e, by have := b3.size; omega, h2⟩, g4.len, g4.lt⟩ (by omega) (by omega)
    have hl : H.size < H4.size := by have := b3.size; have := x4.size; omega
    (simp (disch := first | exact dsch | kernel_rfl) only [go_sem, ↓reduceIte, Nat.reduceEqDiff, Nat.reduceLT, Nat.reduceAdd, reduceCtorEq, Int.reduceToNat, Try.ntmps223, Try.results223, st_graph (o := _) (x4.cells k3) hs] <;> repeat' ((first | (refine AOK_is (by exact l1Most_ok _ _ _) ?_; intro Hc hxc) | refine AK.drawT (by kernel_rfl) ?_ | ((first | refine ABK_mk ?_ ?_ | refine AGK_mk ?_ ?_) <;> intro hb <;> (try simp only [decide_eq_true_eq, decide_eq_false_iff_not, Bool.not_eq_true', Bool.not_eq_false', Bool.not_not] at hb) <;> (try (exfalso; omega)) <;> (try subst hb) <;> try simp only [hb, decide_true, decide_false])) <;> try simp (disch := first | exact dsch | kernel_rfl) only [go_sem, ↓reduceIte, Nat.reduceEqDiff, Nat.reduceLT, Nat.reduceAdd, reduceCtorEq, Int.reduceToNat, Try.ntmps223, Try.results223, st_graph (o := _) (x4.cells k3) hs]))
    exact hfin
  have d0 : decide ((x : Int) = 0) = false := by simp [x0]
  by_cases x1 : x = 1
  · have d1 : decide ((x : Int) = 1) = true := by simp [x1]
    simp (disch := first | exact dsch | kernel_rfl) only [go_sem, ↓reduceIte, Nat.reduceEqDiff, Nat.reduceLT, Nat.reduceAdd, reduceCtorEq, Int.reduceToNat, Try.ntmps223, Try.results223, d0, d1]
    refine AOK_is (l1Most_ok _ _ _) ?_
    intro H2' y2
    have c2 := c2.ext y2
    have k2 := y2.cells k2
    have b12 := b12.trans (y2.but b)
    have z2' := y2.size
    simp (disch := first | exact dsch | kernel_rfl) only [go_sem, ↓reduceIte, Nat.reduceEqDiff, Nat.reduceLT, Nat.reduceAdd, reduceCtorEq, Int.reduceToNat, Try.ntmps223, Try.results223]
    refine AOK_calls (pick_ok b (A + 2 + 2) _ H2' c2 (by omega)) ?_
    rintro _ H3 ⟨b3, c3, y, rfl, hy, _⟩
    have e1 : (3 : Int) + (y : Int) = ((3 + y : Nat) : Int) := by omega
    have k3 := b3.cells n4 k2
    simp (disch := first | exact dsch | kernel_rfl) only [go_sem, ↓reduceIte, Nat.reduceEqDiff, Nat.reduceLT, Nat.reduceAdd, reduceCtorEq, Int.reduceToNat, Try.ntmps223, Try.results223, e1]
    refine AOK_gives (grCircle_ok (3 + y) _ H3 (by omega) (by omega)) ?_
    intro v H4 x4 g4
    obtain ⟨s, rfl, hs, hfin⟩ := fin H4 v _ _ _ ((b12.trans b3).trans (x4.but b)) ((c3.ext x4).le (by omega)) (x4.cells k3) ⟨by obtain ⟨c, e, h1, h2⟩ := g4.form; exact ⟨c, e, by have := b3.size; omega, h2⟩, g4.len, g4.lt⟩ (by omega) (by omega)
    have hl : H.size < H4.size := by have := b3.size; have := x4.size; omega
    (simp (disch := first | exact dsch | kernel_rfl) only [go_sem, ↓reduceIte, Nat.reduceEqDiff, Nat.reduceLT, Nat.reduceAdd, reduceCtorEq, Int.reduceToNat, Try.ntmps223, Try.results223, st_graph (o := _) (x4.cells k3) hs] <;> repeat' ((first | (refine AOK_is (by exact l1Most_ok _ _ _) ?_; intro Hc hxc) | refine AK.drawT (by kernel_rfl) ?_ | ((first | refine ABK_mk ?_ ?_ | refine AGK_mk ?_ ?_) <;> intro hb <;> (try simp only [decide_eq_true_eq, decide_eq_false_iff_not, Bool.not_eq_true', Bool.not_eq_false', Bool.not_not] at hb) <;> (try (exfalso; omega)) <;> (try subst hb) <;> try simp only [hb, decide_true, decide_false])) <;> try simp (disch := first | exact dsch | kernel_rfl) only [go_sem, ↓reduceIte, Nat.reduceEqDiff, Nat.reduceLT, Nat.reduceAdd, reduceCtorEq, Int.reduceToNat, Try.ntmps223, Try.results223, st_graph (o := _) (x4.cells k3) hs]))
    exact hfin
  have d1 : decide ((x : Int) = 1) = false := by simp; omega
  by_cases x2 : x = 2
  · have d2 : decide ((x : Int) = 2) = true := by simp [x2]
    simp (disch := first | exact dsch | kernel_rfl) only [go_sem, ↓reduceIte, Nat.reduceEqDiff, Nat.reduceLT, Nat.reduceAdd, reduceCtorEq, Int.reduceToNat, Try.ntmps223, Try.results223, d0, d1, d2]
    refine AOK_calls (pick_ok b (A + 2 + 2) 3 H2 c2 (by omega)) ?_
    rintro _ H2' ⟨b2', c2', rr, rfl, hrr, _⟩
    have e0 : (1 : Int) + (rr : Int) = ((1 + rr : Nat) : Int) := by omega
    have k2' := b2'.cells n4 k2
    have eq : (most : Int).tdiv ((1 + rr : Nat) : Int) = ((most / (1 + rr) : Nat) : Int) := rfl
    have ne : ((1 + rr : Nat) : Int) ≠ 0 := by omega
    have hq14 : most / (1 + rr) ≤ most := Nat.div_le_self _ _
    have hmd := Nat.mul_div_le most (1 + rr)
    generalize most / (1 + rr) = qd at eq hq14 hmd
    simp (disch := first | exact dsch | kernel_rfl) only [go_sem, ↓reduceIte, Nat.reduceEqDiff, Nat.reduceLT, Nat.reduceAdd, reduceCtorEq, Int.reduceToNat, Try.ntmps223, Try.results223, e0, eq]
    refine AOK_is (l1Most_ok _ _ _) ?_
    intro H2'' y2
    have c2 := c2'.ext y2
    have k2 := y2.cells k2'
    have b12 := (b12.trans b2').trans (y2.but b)
    have z2' := y2.size
    have z2'' := b2'.size
    simp (disch := first | exact dsch | kernel_rfl) only [go_sem, ↓reduceIte, Nat.reduceEqDiff, Nat.reduceLT, Nat.reduceAdd, reduceCtorEq, Int.reduceToNat, Try.ntmps223, Try.results223]
    refine AOK_calls (pick_ok b (A + 2 + 2 + 2) _ H2'' c2 (by omega)) ?_
    rintro _ H3 ⟨b3, c3, y, rfl, hy, _⟩
    have e1 : (1 : Int) + (y : Int) = ((1 + y : Nat) : Int) := by omega
    have k3 := b3.cells n4 k2
    have hmul : (1 + rr) * (1 + y) ≤ 16 := by
      have h1 : 1 + y ≤ 1 ∨ 1 + y ≤ qd := by omega
      rcases h1 with h1 | h1
      · have := Nat.mul_le_mul_left (1 + rr) h1; omega
      · have h2 := Nat.mul_le_mul_left (1 + rr) h1
        omega
    simp (disch := first | exact dsch | kernel_rfl) only [go_sem, ↓reduceIte, Nat.reduceEqDiff, Nat.reduceLT, Nat.reduceAdd, reduceCtorEq, Int.reduceToNat, Try.ntmps223, Try.results223, e1]
    refine AOK_gives (grGrid_ok (1 + rr) (1 + y) _ H3 (by omega) (by omega) hmul) ?_
    intro v H4 x4 g4
    have hpos : 1 ≤ (1 + rr) * (1 + y) := Nat.mul_le_mul (show 1 ≤ 1 + rr by omega) (show 1 ≤ 1 + y by omega)
    obtain ⟨s, rfl, hs, hfin⟩ := fin H4 v _ _ _ ((b12.trans b3).trans (x4.but b)) ((c3.ext x4).le (by omega)) (x4.cells k3) ⟨by obtain ⟨c, e, h1, h2⟩ := g4.form; exact ⟨c, e, by have := b3.size; omega, h2⟩, g4.len, g4.lt⟩ hpos hmul
    have hl : H.size < H4.size := by have := b3.size; have := x4.size; omega
    (simp (disch := first | exact dsch | kernel_rfl) only [go_sem, ↓reduceIte, Nat.reduceEqDiff, Nat.reduceLT, Nat.reduceAdd, reduceCtorEq, Int.reduceToNat, Try.ntmps223, Try.results223, st_graph (o := _) (x4.cells k3) hs] <;> repeat' ((first | (refine AOK_is (by exact l1Most_ok _ _ _) ?_; intro Hc hxc) | refine AK.drawT (by kernel_rfl) ?_ | ((first | refine ABK_mk ?_ ?_ | refine AGK_mk ?_ ?_) <;> intro hb <;> (try simp only [decide_eq_true_eq, decide_eq_false_iff_not, Bool.not_eq_true', Bool.not_eq_false', Bool.not_not] at hb) <;> (try (exfalso; omega)) <;> (try subst hb) <;> try simp only [hb, decide_true, decide_false])) <;> try simp (disch := first | exact dsch | kernel_rfl) only [go_sem, ↓reduceIte, Nat.reduceEqDiff, Nat.reduceLT, Nat.reduceAdd, reduceCtorEq, Int.reduceToNat, Try.ntmps223, Try.results223, st_graph (o := _) (x4.cells k3) hs]))
    exact hfin
  · have d2 : decide ((x : Int) = 2) = false := by simp; omega
    simp (disch := first | exact dsch | kernel_rfl) only [go_sem, ↓reduceIte, Nat.reduceEqDiff, Nat.reduceLT, Nat.reduceAdd, reduceCtorEq, Int.reduceToNat, Try.ntmps223, Try.results223, d0, d1, d2]
    refine AOK_calls (pick_ok b (A + 2 + 2) most H2 c2 (by omega)) ?_
    rintro _ H3 ⟨b3, c3, y, rfl, hy, _⟩
    have e1 : (1 : Int) + (y : Int) = ((1 + y : Nat) : Int) := by omega
    have k3 := b3.cells n4 k2
    have b13 := b12.trans b3
    have z3 := b3.size
    obtain ⟨n, hn⟩ : ∃ n, n = 1 + y := ⟨_, rfl⟩
    rw [← hn] at e1
    have hn1 : 1 ≤ n := by omega
    have hn14 : n ≤ 14 := by omega
    simp (disch := first | exact dsch | kernel_rfl) only [go_sem, ↓reduceIte, Nat.reduceEqDiff, Nat.reduceLT, Nat.reduceAdd, reduceCtorEq, Int.reduceToNat, Try.ntmps223, Try.results223, e1]
    generalize hcb : (H3.push (rowBlk (List.replicate n 0))).size = cb
    have hcb1 : cb = H3.size + 1 := by rw [← hcb]; rfl
    have S0 : SG b (A + 2 + 2 + 2) H ((H3.push (rowBlk (List.replicate n 0))).push (.cells 2 false [.sl H3.size 0 n, .bool (!own)])) H.size H3.size cb n (!own) (List.replicate n 0) :=
      ⟨b13.trans ((show Ext H3 _ by exact xt).but b), c3.ext (by exact xt), Ext.cells (H := H3) (by exact xt) k3, RowAt.ext (AH.push_same _ _) (Ext.push _ _), by simp, zeros_lt n n, by rw [← hcb]; exact AH.push_same _ _⟩
    generalize hS : (H3.push (rowBlk (List.replicate n 0))).push (.cells 2 false [.sl H3.size 0 n, .bool (!own)]) = HS at *
    have e2 : (2 : Int) * (n : Int) + 1 = ((2 * n + 1 : Nat) : Int) := by omega
    simp (disch := first | exact dsch | kernel_rfl) only [go_sem, ↓reduceIte, Nat.reduceEqDiff, Nat.reduceLT, Nat.reduceAdd, reduceCtorEq, Int.reduceToNat, Try.ntmps223, Try.results223, e2]
    refine AOK_calls (pick_ok b (A + 2 + 2 + 2) _ HS S0.cur (by omega)) ?_
    rintro _ H5 ⟨b5, c5, k0, rfl, hk0, _⟩
    have S1 := S0.draw n4 (by omega) (by omega) b5 c5
    simp (disch := first | exact dsch | kernel_rfl) only [go_sem, ↓reduceIte, Nat.reduceEqDiff, Nat.reduceLT, Nat.reduceAdd, reduceCtorEq, Int.reduceToNat, Try.ntmps223, Try.results223]
    refine (AK.while [9, 10, 11, 63, 64, 65, 66, 67, 68, 69, 70, 71, 72, 73, 74, 75, 76, 77, 78, 79, 80, 81, 82, 83, 84, 85, 86] (by kernel_rfl) (fun k tm H' => ∃ l : List Nat, tm 9 = .int .i64 k ∧ k ≤ 28 ∧ SG b (A + 8 + 4 * (28 - k)) H H' H.size H3.size cb n (!own) l) k0 ⟨_, by simp [go_sem], by omega, ⟨S1.but, S1.cur.le (by omega), S1.cell, S1.row, S1.len, S1.lt, S1.box⟩⟩ ?_)
    rintro k tm H6 K fr ⟨l, h9, hk28, S⟩ hK
    have hHl : H.size < H6.size := by have := AH.cells_lt S.cell; omega
    by_cases hk : 0 < k ∧ 1 < n
    · have hk1 : (0 : Int) < (k : Int) := by omega
      have hn2 : (1 : Int) < (n : Int) := by omega
      simp (disch := first | exact dsch | kernel_rfl) only [go_sem, ↓reduceIte, Nat.reduceEqDiff, Nat.reduceLT, Nat.reduceAdd, reduceCtorEq, Int.reduceToNat, Try.ntmps223, Try.results223, fr, h9, hk1, hn2]
      refine AOK_calls (pick_ok b (A + 8 + 4 * (28 - k)) n H6 S.cur (by omega)) ?_
      rintro _ H7 ⟨b7, c7, i, rfl, hi, _⟩
      have S2 := S.draw n4 (by omega) (by omega) b7 c7
      have e3 : (n : Int) - 1 = ((n - 1 : Nat) : Int) := by omega
      simp (disch := first | exact dsch | kernel_rfl) only [go_sem, ↓reduceIte, Nat.reduceEqDiff, Nat.reduceLT, Nat.reduceAdd, reduceCtorEq, Int.reduceToNat, Try.ntmps223, Try.results223, fr, e3]
      refine AOK_calls (pick_ok b (A + 8 + 4 * (28 - k) + 2) _ H7 S2.cur (by omega)) ?_
      rintro _ H8 ⟨b8, c8, q, rfl, hq, _⟩
      have S3 := S2.draw n4 (by omega) (by omega) b8 c8
      have e4 : (i : Int) + 1 + (q : Int) = ((i + 1 + q : Nat) : Int) := by omega
      have e5 : ((i + 1 + q : Nat) : Int).tmod (n : Int) = (((i + 1 + q) % n : Nat) : Int) := rfl
      have hjn : (i + 1 + q) % n < n := Nat.mod_lt _ (by omega)
      have hn0 : (n : Int) ≠ 0 := by omega
      simp (disch := first | exact dsch | kernel_rfl) only [go_sem, ↓reduceIte, Nat.reduceEqDiff, Nat.reduceLT, Nat.reduceAdd, reduceCtorEq, Int.reduceToNat, Try.ntmps223, Try.results223, fr, e4, e5, ld_graph S3.box]
      have hadd := grAdd_ok l (!own) H3.size i ((i + 1 + q) % n) H8 S3.row (by rw [S3.len]; omega) (by rw [S3.len]; omega) (by rw [S3.len]; exact hjn) (fun a _ => by have := S3.lt a; exact lt63_of this (by omega))
      rw [S3.len] at hadd
      refine AOK_calls (R := fun v H' => v = .tup [] ∧ Ext (H8.put H3.size (rowBlk (addE l i ((i + 1 + q) % n)))) H') ?_ ?_
      · simp (disch := first | exact dsch | kernel_rfl) only [go_sem, ↓reduceIte, Nat.reduceEqDiff, Nat.reduceLT, Nat.reduceAdd, reduceCtorEq, Int.reduceToNat, Try.ntmps223, Try.results223, fr]
        exact hadd
      · rintro _ H9 ⟨rfl, x9⟩
        have S4 := S3.add (by omega) (by omega) (by omega) hbH (show i < n by omega) hjn x9
        have e6 : (k : Int) - 1 = ((k - 1 : Nat) : Int) := by omega
        simp (disch := first | exact dsch | kernel_rfl) only [go_sem, ↓reduceIte, Nat.reduceEqDiff, Nat.reduceLT, Nat.reduceAdd, reduceCtorEq, Int.reduceToNat, Try.ntmps223, Try.results223, fr, h9, e6]
        exact hK (k - 1) _ _ (by omega) ⟨_, by simp [go_sem], by omega, ⟨S4.but, S4.cur.le (by omega), S4.cell, S4.row, S4.len, S4.lt, S4.box⟩⟩
    · obtain ⟨s, es, hs, hfin⟩ := fin H6 (.agg [.sl H3.size 0 n, .bool (!own)]) n _ l S.but (S.cur.le (by omega)) S.cell ⟨⟨_, rfl, by omega, S.row⟩, S.len, S.lt⟩ hn1 (by omega)
      have es' : s = .sl H3.size 0 n := by cases es; rfl
      subst es'
      by_cases hk0 : 0 < k
      · have hk1 : (0 : Int) < (k : Int) := by omega
        have hn2 : ¬ (1 : Int) < (n : Int) := by omega
        (simp (disch := first | exact dsch | kernel_rfl) only [go_sem, ↓reduceIte, Nat.reduceEqDiff, Nat.reduceLT, Nat.reduceAdd, reduceCtorEq, Int.reduceToNat, Try.ntmps223, Try.results223, fr, h9, hk1, hn2, ld_graph S.box, st_graph (o := (!own)) S.cell hs] <;> repeat' ((first | (refine AOK_is (by exact l1Most_ok _ _ _) ?_; intro Hc hxc) | refine AK.drawT (by kernel_rfl) ?_ | ((first | refine ABK_mk ?_ ?_ | refine AGK_mk ?_ ?_) <;> intro hb <;> (try simp only [decide_eq_true_eq, decide_eq_false_iff_not, Bool.not_eq_true', Bool.not_eq_false', Bool.not_not] at hb) <;> (try (exfalso; omega)) <;> (try subst hb) <;> try simp only [hb, decide_true, decide_false])) <;> try simp (disch := first | exact dsch | kernel_rfl) only [go_sem, ↓reduceIte, Nat.reduceEqDiff, Nat.reduceLT, Nat.reduceAdd, reduceCtorEq, Int.reduceToNat, Try.ntmps223, Try.results223, fr, h9, hk1, hn2, ld_graph S.box, st_graph (o := (!own)) S.cell hs]))
        exact hfin
      · have hk1 : ¬ (0 : Int) < (k : Int) := by omega
        (simp (disch := first | exact dsch | kernel_rfl) only [go_sem, ↓reduceIte, Nat.reduceEqDiff, Nat.reduceLT, Nat.reduceAdd, reduceCtorEq, Int.reduceToNat, Try.ntmps223, Try.results223, fr, h9, hk1, ld_graph S.box, st_graph (o := (!own)) S.cell hs] <;> repeat' ((first | (refine AOK_is (by exact l1Most_ok _ _ _) ?_; intro Hc hxc) | refine AK.drawT (by kernel_rfl) ?_ | ((first | refine ABK_mk ?_ ?_ | refine AGK_mk ?_ ?_) <;> intro hb <;> (try simp only [decide_eq_true_eq, decide_eq_false_iff_not, Bool.not_eq_true', Bool.not_eq_false', Bool.not_not] at hb) <;> (try (exfalso; omega)) <;> (try subst hb) <;> try simp only [hb, decide_true, decide_false])) <;> try simp (disch := first | exact dsch | kernel_rfl) only [go_sem, ↓reduceIte, Nat.reduceEqDiff, Nat.reduceLT, Nat.reduceAdd, reduceCtorEq, Int.reduceToNat, Try.ntmps223, Try.results223, fr, h9, hk1, ld_graph S.box, st_graph (o := (!own)) S.cell hs]))
        exact hfin

end Go.Proofs.Ytopbfmhajbjepaa
