/- Contracts: paths, circles and grids of the reference. -/
import Derived.Test.YtopbfmhajbjepaaD1
import Derived.Test.YtopbfmhajbjepaaC8
namespace Go.Proofs.Ytopbfmhajbjepaa
open Go
set_option linter.unusedSimpArgs false
set_option linter.unusedVariables false

theorem add_calln {f : FuncId} (hf : Adds f) {P : Nat} {ops : Array Oper} {tot : List Nat} {i0 : Nat} {d : Option Tmp} {args : Array Operand} {ts : Array TypeId} {rest : List Oper} {ks : List KI} {tm : Tm} {H : AH} {Q : AExit → Tm → AH → Prop}
    {Hc : AH} {b c m : Nat} {o : Bool} {l : List Nat} (hM : Mk Hc H b c m o l) (hb : Hc.size ≤ b) (hc : c ≠ b) (hm : m ≤ 16) (i j : Nat) (hi : i < m) (hj : j < m)
    (ha : args.toList.map (ev tm) = [.agg [.sl b 0 m, .bool o], .int .i64 i, .int .i64 j])
    (hk : ∀ H1, Mk Hc H1 b c m o (addE l i j) → VK Try.prog TA PR P ops .no tot (i0 + 1) rest ks (tm.put d (.tup [])) H1 Q) :
    AOK Try.prog TA PR P ops .no tot i0 d (.call { callee := .value (.func f), args := args, argTypes := ts }) rest ks tm H Q := by
  have hp : 2 ^ m ≤ 65536 := Nat.pow_le_pow_right (n := 2) (by omega) hm
  refine AOK_calls (R := fun v H' => v = .tup [] ∧ Ext (H.put b (rowBlk (addE l i j))) H') ?_ ?_
  · rw [ha]
    have := hf l o b i j H hM.row (by rw [hM.len]; omega) (by rw [hM.len]; omega) (by rw [hM.len]; omega) (fun k _ => by have := hM.lt k; omega)
    rwa [hM.len] at this
  · rintro v H1 ⟨rfl, x⟩
    exact hk H1 (hM.step hb hc hi hj x)

theorem zeros_lt (m n : Nat) (t : Nat) : (List.replicate m 0).getD t 0 < 2 ^ n := by
  have : (List.replicate m 0).getD t 0 = 0 := by simp [List.getD, List.getElem?_replicate]; split <;> rfl
  rw [this]; exact Nat.two_pow_pos n

/-- A new graph whose row may be written. -/
structure NewG (n : Nat) (H : AH) (v : AV) (m : Nat) (o : Bool) (l : List Nat) : Prop where
  form : ∃ c, v = .agg [.sl c 0 m, .bool o] ∧ n ≤ c ∧ RowAt H c l
  len : l.length = m
  lt : ∀ a, l.getD a 0 < 2 ^ m

def pathPs (i : Nat) : List (Nat × Nat) := (List.range i).map fun k => (k, k + 1)
theorem pathPs_succ (i : Nat) : pathPs (i + 1) = pathPs i ++ [(i, i + 1)] := by unfold pathPs; rw [List.range_succ, List.map_append]; rfl
def pathL (n : Nat) : List Nat := addAll (List.replicate n 0) (pathPs (n - 1))

set_option maxRecDepth 10000 in
theorem grPath_ok (n : Nat) (o : Bool) (H : AH) (h1 : 1 ≤ n) (h2 : n ≤ 16) : E 175 [.int .i64 n, .bool o] H (Gives H fun v H' => NewG H.size H' v n o (pathL n)) := by
  refine Ev.enterK (fn := Try.f175) rfl Try.func175 rfl (by kernel_rfl) (by simp [Try.ntmps175]) ?_
  (simp (disch := first | exact dsch | kernel_rfl) only [go_sem, ↓reduceIte, Nat.reduceEqDiff, Nat.reduceLT, Nat.reduceAdd, reduceCtorEq, Int.reduceToNat, Try.ntmps175, Try.results175] <;> repeat' ((first | refine AK.drawT (by kernel_rfl) ?_ | ((first | refine ABK_mk ?_ ?_ | refine AGK_mk ?_ ?_) <;> intro hb <;> (try simp only [decide_eq_true_eq, decide_eq_false_iff_not, Bool.not_eq_true', Bool.not_eq_false', Bool.not_not] at hb) <;> (try (exfalso; omega)) <;> (try subst hb) <;> try simp only [hb, decide_true, decide_false])) <;> try simp (disch := first | exact dsch | kernel_rfl) only [go_sem, ↓reduceIte, Nat.reduceEqDiff, Nat.reduceLT, Nat.reduceAdd, reduceCtorEq, Int.reduceToNat, Try.ntmps175, Try.results175]))
  generalize hH : H.push (.cells 2 false [.nilsl, .bool false]) = Hc
  have hHs : Hc.size = H.size + 1 := by rw [← hH]; rfl
  have hHx : Ext H Hc := by rw [← hH]; exact Ext.push _ _
  have hHb : Hc.blk H.size = .cells 2 false [.nilsl, .bool false] := by rw [← hH]; exact AH.push_same _ _
  generalize hcc : (Hc.push (rowBlk (List.replicate n 0))).size = c
  have hc : c ≠ Hc.size := by rw [← hcc, push_size]; omega
  have hM0 : Mk Hc ((Hc.push (rowBlk (List.replicate n 0))).push (.cells 2 false [.sl Hc.size 0 n, .bool o])) Hc.size c n o (List.replicate n 0) :=
    ⟨by exact xt, RowAt.ext (AH.push_same _ _) (Ext.push _ _), by simp, by rw [← hcc]; exact AH.push_same _ _, zeros_lt n n⟩
  refine (AK.count 6 [6, 11, 12, 13, 14, 15, 16, 17, 18, 19, 20] (by kernel_rfl) 1 n (fun i tm H' => Mk Hc H' Hc.size c n o (addAll (List.replicate n 0) (pathPs (i - 1)))) (by rfl) (by omega) hM0 ?_)
  rintro i tm H' K g1 g2 fr hq hM hK
  by_cases hi : i < n
  · have hi' : (i : Int) < (n : Int) := by omega
    have hs1 : (i : Int) - 1 = ((i - 1 : Nat) : Int) := by omega
    (simp (disch := first | exact dsch | kernel_rfl) only [go_sem, ↓reduceIte, Nat.reduceEqDiff, Nat.reduceLT, Nat.reduceAdd, reduceCtorEq, Int.reduceToNat, Try.ntmps175, Try.results175, fr, hq, hi', ld_graph hM.box, hs1] <;> repeat' ((first | refine AK.drawT (by kernel_rfl) ?_ | ((first | refine ABK_mk ?_ ?_ | refine AGK_mk ?_ ?_) <;> intro hb <;> (try simp only [decide_eq_true_eq, decide_eq_false_iff_not, Bool.not_eq_true', Bool.not_eq_false', Bool.not_not] at hb) <;> (try (exfalso; omega)) <;> (try subst hb) <;> try simp only [hb, decide_true, decide_false])) <;> try simp (disch := first | exact dsch | kernel_rfl) only [go_sem, ↓reduceIte, Nat.reduceEqDiff, Nat.reduceLT, Nat.reduceAdd, reduceCtorEq, Int.reduceToNat, Try.ntmps175, Try.results175, fr, hq, hi', ld_graph hM.box, hs1]))
    refine add_calln grAdd_ok hM (Nat.le_refl _) hc h2 (i - 1) i (by omega) hi ?_ ?_
    · simp (disch := first | exact dsch | kernel_rfl) only [go_sem, ↓reduceIte, Nat.reduceEqDiff, Nat.reduceLT, Nat.reduceAdd, reduceCtorEq, Int.reduceToNat, Try.ntmps175, Try.results175, fr, hq]
    · intro H3 hM3
      (simp (disch := first | exact dsch | kernel_rfl) only [go_sem, ↓reduceIte, Nat.reduceEqDiff, Nat.reduceLT, Nat.reduceAdd, reduceCtorEq, Int.reduceToNat, Try.ntmps175, Try.results175, fr, hq] <;> repeat' ((first | refine AK.drawT (by kernel_rfl) ?_ | ((first | refine ABK_mk ?_ ?_ | refine AGK_mk ?_ ?_) <;> intro hb <;> (try simp only [decide_eq_true_eq, decide_eq_false_iff_not, Bool.not_eq_true', Bool.not_eq_false', Bool.not_not] at hb) <;> (try (exfalso; omega)) <;> (try subst hb) <;> try simp only [hb, decide_true, decide_false])) <;> try simp (disch := first | exact dsch | kernel_rfl) only [go_sem, ↓reduceIte, Nat.reduceEqDiff, Nat.reduceLT, Nat.reduceAdd, reduceCtorEq, Int.reduceToNat, Try.ntmps175, Try.results175, fr, hq]))
      refine hK _ _ hi (by rfl) ?_
      have e := pathPs_succ (i - 1)
      rw [show i - 1 + 1 = i by omega] at e
      rw [show i + 1 - 1 = i by omega, e, ← addAll_one]
      exact hM3
  · have hi' : ¬ (i : Int) < (n : Int) := by omega
    have ei : i = n := by omega
    subst ei
    have hbx := hM.ext.cells hHb
    have hHl : H.size < H'.size := by have := hM.ext.size; omega
    (simp (disch := first | exact dsch | kernel_rfl) only [go_sem, ↓reduceIte, Nat.reduceEqDiff, Nat.reduceLT, Nat.reduceAdd, reduceCtorEq, Int.reduceToNat, Try.ntmps175, Try.results175, fr, hq, hi', ld_graph hM.box, st_graph (s := .sl Hc.size 0 i) (o := o) hbx rfl] <;> repeat' ((first | refine AK.drawT (by kernel_rfl) ?_ | ((first | refine ABK_mk ?_ ?_ | refine AGK_mk ?_ ?_) <;> intro hb <;> (try simp only [decide_eq_true_eq, decide_eq_false_iff_not, Bool.not_eq_true', Bool.not_eq_false', Bool.not_not] at hb) <;> (try (exfalso; omega)) <;> (try subst hb) <;> try simp only [hb, decide_true, decide_false])) <;> try simp (disch := first | exact dsch | kernel_rfl) only [go_sem, ↓reduceIte, Nat.reduceEqDiff, Nat.reduceLT, Nat.reduceAdd, reduceCtorEq, Int.reduceToNat, Try.ntmps175, Try.results175, fr, hq, hi', ld_graph hM.box, st_graph (s := .sl Hc.size 0 i) (o := o) hbx rfl]))
    refine ⟨?_, ⟨_, rfl, by omega, hM.row.putne (by omega)⟩, hM.len, hM.lt⟩
    exact (hHx.trans hM.ext).put (Nat.le_refl _) _


/-- A graph in a box of its own. -/
theorem NewG.boxed {Hc H : AH} {v : AV} {m : Nat} {o : Bool} {l : List Nat} (h : NewG Hc.size H v m o l) (x : Ext Hc H) : ∃ c, v = .agg [.sl c 0 m, .bool o] ∧ Hc.size ≤ c ∧ Mk Hc (H.push (.cells 2 false [.sl c 0 m, .bool o])) c H.size m o l := by
  obtain ⟨c, rfl, h2, h3⟩ := h.form
  exact ⟨c, rfl, h2, x.trans (Ext.push _ _), h3.ext (Ext.push _ _), h.len, AH.push_same _ _, h.lt⟩

def circL (n : Nat) : List Nat := addE (pathL n) 0 (n - 1)
set_option maxRecDepth 10000 in
theorem grCircle_ok (n : Nat) (o : Bool) (H : AH) (h1 : 3 ≤ n) (h2 : n ≤ 16) : E 176 [.int .i64 n, .bool o] H (Gives H fun v H' => NewG H.size H' v n o (circL n)) := by
  refine Ev.enterK (fn := Try.f176) rfl Try.func176 rfl (by kernel_rfl) (by simp [Try.ntmps176]) ?_
  simp (disch := first | exact dsch | kernel_rfl) only [go_sem, ↓reduceIte, Nat.reduceEqDiff, Nat.reduceLT, Nat.reduceAdd, reduceCtorEq, Int.reduceToNat, Try.ntmps176, Try.results176]
  generalize hH : H.push (.cells 2 false [.nilsl, .bool false]) = Hc
  have hHs : Hc.size = H.size + 1 := by rw [← hH]; rfl
  have hHx : Ext H Hc := by rw [← hH]; exact Ext.push _ _
  have hHb : Hc.blk H.size = .cells 2 false [.nilsl, .bool false] := by rw [← hH]; exact AH.push_same _ _
  refine AOK_gives (grPath_ok n o Hc (by omega) h2) ?_
  intro v H1 x1 hg
  obtain ⟨c, rfl, hc, hM⟩ := hg.boxed x1
  have hs1 : (n : Int) - 1 = ((n - 1 : Nat) : Int) := by omega
  have hcl := (hM.row.lt)
  (simp (disch := first | exact dsch | kernel_rfl) only [go_sem, ↓reduceIte, Nat.reduceEqDiff, Nat.reduceLT, Nat.reduceAdd, reduceCtorEq, Int.reduceToNat, Try.ntmps176, Try.results176, ld_graph hM.box, hs1] <;> repeat' ((first | refine AK.drawT (by kernel_rfl) ?_ | ((first | refine ABK_mk ?_ ?_ | refine AGK_mk ?_ ?_) <;> intro hb <;> (try simp only [decide_eq_true_eq, decide_eq_false_iff_not, Bool.not_eq_true', Bool.not_eq_false', Bool.not_not] at hb) <;> (try (exfalso; omega)) <;> (try subst hb) <;> try simp only [hb, decide_true, decide_false])) <;> try simp (disch := first | exact dsch | kernel_rfl) only [go_sem, ↓reduceIte, Nat.reduceEqDiff, Nat.reduceLT, Nat.reduceAdd, reduceCtorEq, Int.reduceToNat, Try.ntmps176, Try.results176, ld_graph hM.box, hs1]))
  have hc1 : H1.size ≠ c := by
    obtain ⟨c', e, _, hr⟩ := hg.form
    have := hr.lt
    cases e; omega
  refine add_calln grAdd_ok hM hc hc1 h2 0 (n - 1) (by omega) (by omega) ?_ ?_
  · simp (disch := first | exact dsch | kernel_rfl) only [go_sem, ↓reduceIte, Nat.reduceEqDiff, Nat.reduceLT, Nat.reduceAdd, reduceCtorEq, Int.reduceToNat, Try.ntmps176, Try.results176]
    rfl
  · intro H3 hM3
    have hbx := hM3.ext.cells hHb
    have hHl : H.size < H3.size := by have := hM3.ext.size; omega
    (simp (disch := first | exact dsch | kernel_rfl) only [go_sem, ↓reduceIte, Nat.reduceEqDiff, Nat.reduceLT, Nat.reduceAdd, reduceCtorEq, Int.reduceToNat, Try.ntmps176, Try.results176, ld_graph hM3.box, st_graph (s := .sl c 0 n) (o := o) hbx rfl] <;> repeat' ((first | refine AK.drawT (by kernel_rfl) ?_ | ((first | refine ABK_mk ?_ ?_ | refine AGK_mk ?_ ?_) <;> intro hb <;> (try simp only [decide_eq_true_eq, decide_eq_false_iff_not, Bool.not_eq_true', Bool.not_eq_false', Bool.not_not] at hb) <;> (try (exfalso; omega)) <;> (try subst hb) <;> try simp only [hb, decide_true, decide_false])) <;> try simp (disch := first | exact dsch | kernel_rfl) only [go_sem, ↓reduceIte, Nat.reduceEqDiff, Nat.reduceLT, Nat.reduceAdd, reduceCtorEq, Int.reduceToNat, Try.ntmps176, Try.results176, ld_graph hM3.box, st_graph (s := .sl c 0 n) (o := o) hbx rfl]))
    refine ⟨?_, ⟨_, rfl, by omega, hM3.row.putne (by omega)⟩, hM3.len, hM3.lt⟩
    exact (hHx.trans hM3.ext).put (Nat.le_refl _) _

/-- The edges that the place in row r and column c has with earlier ones. -/
def cellPs (k r c : Nat) : List (Nat × Nat) := (if 0 < r then [(k * (r - 1) + c, k * r + c)] else []) ++ (if 0 < c then [(k * r + c - 1, k * r + c)] else [])
def rowPs (k r c : Nat) : List (Nat × Nat) := (List.range c).flatMap fun c => cellPs k r c
def gridPs (k r : Nat) : List (Nat × Nat) := (List.range r).flatMap fun r => rowPs k r k
theorem rowPs_succ (k r c : Nat) : rowPs k r (c + 1) = rowPs k r c ++ cellPs k r c := by unfold rowPs; rw [List.range_succ, List.flatMap_append]; simp
theorem gridPs_succ (k r : Nat) : gridPs k (r + 1) = gridPs k r ++ rowPs k r k := by unfold gridPs; rw [List.range_succ, List.flatMap_append]; simp
def gridL (r k : Nat) : List Nat := addAll (List.replicate (r * k) 0) (gridPs k r)

set_option maxRecDepth 10000 in
theorem grGrid_ok (n k : Nat) (o : Bool) (H : AH) (h1 : 1 ≤ n) (h2 : 1 ≤ k) (h3 : n * k ≤ 16) : E 179 [.int .i64 n, .int .i64 k, .bool o] H (Gives H fun v H' => NewG H.size H' v (n * k) o (gridL n k)) := by
  have hk16 : k ≤ 16 := Nat.le_trans (Nat.le_mul_of_pos_left k h1) h3
  have hn16 : n ≤ 16 := Nat.le_trans (Nat.le_mul_of_pos_right n h2) h3
  have hm1 : (n : Int) * (k : Int) = ((n * k : Nat) : Int) := (Int.natCast_mul _ _).symm
  refine Ev.enterK (fn := Try.f179) rfl Try.func179 rfl (by kernel_rfl) (by simp [Try.ntmps179]) ?_
  (simp (disch := first | exact dsch | kernel_rfl) only [go_sem, ↓reduceIte, Nat.reduceEqDiff, Nat.reduceLT, Nat.reduceAdd, reduceCtorEq, Int.reduceToNat, Try.ntmps179, Try.results179, hm1] <;> repeat' ((first | refine AK.drawT (by kernel_rfl) ?_ | ((first | refine ABK_mk ?_ ?_ | refine AGK_mk ?_ ?_) <;> intro hb <;> (try simp only [decide_eq_true_eq, decide_eq_false_iff_not, Bool.not_eq_true', Bool.not_eq_false', Bool.not_not] at hb) <;> (try (exfalso; omega)) <;> (try subst hb) <;> try simp only [hb, decide_true, decide_false])) <;> try simp (disch := first | exact dsch | kernel_rfl) only [go_sem, ↓reduceIte, Nat.reduceEqDiff, Nat.reduceLT, Nat.reduceAdd, reduceCtorEq, Int.reduceToNat, Try.ntmps179, Try.results179, hm1]))
  generalize hH : H.push (.cells 2 false [.nilsl, .bool false]) = Hc
  have hHs : Hc.size = H.size + 1 := by rw [← hH]; rfl
  have hHx : Ext H Hc := by rw [← hH]; exact Ext.push _ _
  have hHb : Hc.blk H.size = .cells 2 false [.nilsl, .bool false] := by rw [← hH]; exact AH.push_same _ _
  generalize hmm : n * k = m at *
  generalize hcc : (Hc.push (rowBlk (List.replicate m 0))).size = c
  have hc : c ≠ Hc.size := by rw [← hcc, push_size]; omega
  have hM0 : Mk Hc ((Hc.push (rowBlk (List.replicate m 0))).push (.cells 2 false [.sl Hc.size 0 m, .bool o])) Hc.size c m o (List.replicate m 0) :=
    ⟨by exact xt, RowAt.ext (AH.push_same _ _) (Ext.push _ _), by simp, by rw [← hcc]; exact AH.push_same _ _, zeros_lt m m⟩
  refine (AK.count 8 [8, 9, 16, 17, 18, 19, 20, 21, 22, 23, 24, 25, 26, 27, 28, 29, 30, 31, 32, 33, 34, 35, 36, 37, 38, 39, 40, 41, 42, 43, 44, 45, 46, 47, 48, 49, 50, 51, 52, 53, 54, 55] (by kernel_rfl) 0 n (fun i tm H' => Mk Hc H' Hc.size c m o (addAll (List.replicate m 0) (gridPs k i))) (by rfl) (by omega) hM0 ?_)
  rintro r tm H' K g1 g2 fr hq hM hK
  by_cases hr : r < n
  · have hr' : (r : Int) < (n : Int) := by omega
    (simp (disch := first | exact dsch | kernel_rfl) only [go_sem, ↓reduceIte, Nat.reduceEqDiff, Nat.reduceLT, Nat.reduceAdd, reduceCtorEq, Int.reduceToNat, Try.ntmps179, Try.results179, fr, hq, hr'] <;> repeat' ((first | refine AK.drawT (by kernel_rfl) ?_ | ((first | refine ABK_mk ?_ ?_ | refine AGK_mk ?_ ?_) <;> intro hb <;> (try simp only [decide_eq_true_eq, decide_eq_false_iff_not, Bool.not_eq_true', Bool.not_eq_false', Bool.not_not] at hb) <;> (try (exfalso; omega)) <;> (try subst hb) <;> try simp only [hb, decide_true, decide_false])) <;> try simp (disch := first | exact dsch | kernel_rfl) only [go_sem, ↓reduceIte, Nat.reduceEqDiff, Nat.reduceLT, Nat.reduceAdd, reduceCtorEq, Int.reduceToNat, Try.ntmps179, Try.results179, fr, hq, hr']))
    refine (AK.count 9 [9, 21, 22, 23, 24, 25, 26, 27, 28, 29, 30, 31, 32, 33, 34, 35, 36, 37, 38, 39, 40, 41, 42, 43, 44, 45, 46, 47, 48, 49, 50, 51, 52, 53, 54, 55] (by kernel_rfl) 0 k (fun i tm H' => Mk Hc H' Hc.size c m o (addAll (List.replicate m 0) (gridPs k r ++ rowPs k r i))) (by rfl) (by omega) (by rw [show rowPs k r 0 = [] from rfl, List.append_nil]; exact hM) ?_)
    rintro q tm2 H2 K2 g3 g4 fr2 hq2 hM2 hK2
    by_cases hc2 : q < k
    · have hq' : (q : Int) < (k : Int) := by omega
      have hkr : k * r + q < m := by
        have := Nat.mul_le_mul_left k (Nat.succ_le_of_lt hr)
        rw [Nat.mul_succ, Nat.mul_comm k n, hmm] at this; omega
      have e1 : (k : Int) * (r : Int) = ((k * r : Nat) : Int) := (Int.natCast_mul _ _).symm
      have e2 : ((k * r : Nat) : Int) + (q : Int) = ((k * r + q : Nat) : Int) := by omega
      by_cases hr0 : 0 < r
      · have hr0' : (0 : Int) < (r : Int) := by omega
        have e3 : (r : Int) - 1 = ((r - 1 : Nat) : Int) := by omega
        have e4 : (k : Int) * ((r - 1 : Nat) : Int) + (q : Int) = ((k * (r - 1) + q : Nat) : Int) := by rw [Int.natCast_add, Int.natCast_mul]
        have hk1 : k * (r - 1) + q < m := by
          have := Nat.mul_le_mul_left k (Nat.sub_le r 1); omega
        have e6 : (k : Int) * ((r - 1 : Nat) : Int) = ((k * (r - 1) : Nat) : Int) := (Int.natCast_mul _ _).symm
        have e7 : ((k * (r - 1) : Nat) : Int) + (q : Int) = ((k * (r - 1) + q : Nat) : Int) := by omega
        (simp (disch := first | exact dsch | kernel_rfl) only [go_sem, ↓reduceIte, Nat.reduceEqDiff, Nat.reduceLT, Nat.reduceAdd, reduceCtorEq, Int.reduceToNat, Try.ntmps179, Try.results179, fr2, hq2, fr, hq, hq', hr0', ld_graph hM2.box, e1, e2, e3, e6, e7] <;> repeat' ((first | refine AK.drawT (by kernel_rfl) ?_ | ((first | refine ABK_mk ?_ ?_ | refine AGK_mk ?_ ?_) <;> intro hb <;> (try simp only [decide_eq_true_eq, decide_eq_false_iff_not, Bool.not_eq_true', Bool.not_eq_false', Bool.not_not] at hb) <;> (try (exfalso; omega)) <;> (try subst hb) <;> try simp only [hb, decide_true, decide_false])) <;> try simp (disch := first | exact dsch | kernel_rfl) only [go_sem, ↓reduceIte, Nat.reduceEqDiff, Nat.reduceLT, Nat.reduceAdd, reduceCtorEq, Int.reduceToNat, Try.ntmps179, Try.results179, fr2, hq2, fr, hq, hq', hr0', ld_graph hM2.box, e1, e2, e3, e6, e7]))
        refine add_calln grAdd_ok hM2 (Nat.le_refl _) hc h3 (k * (r - 1) + q) (k * r + q) hk1 hkr ?_ ?_
        · simp (disch := first | exact dsch | kernel_rfl) only [go_sem, ↓reduceIte, Nat.reduceEqDiff, Nat.reduceLT, Nat.reduceAdd, reduceCtorEq, Int.reduceToNat, Try.ntmps179, Try.results179, fr2, hq2, fr, hq, e1, e2, e3, e6, e7]
        · intro H4 hM4
          simp (disch := first | exact dsch | kernel_rfl) only [go_sem, ↓reduceIte, Nat.reduceEqDiff, Nat.reduceLT, Nat.reduceAdd, reduceCtorEq, Int.reduceToNat, Try.ntmps179, Try.results179, fr2, hq2, fr, hq]
          by_cases hc0 : 0 < q
          · have hc0' : (0 : Int) < (q : Int) := by omega
            have e5 : ((k * r + q : Nat) : Int) - 1 = ((k * r + q - 1 : Nat) : Int) := by omega
            (simp (disch := first | exact dsch | kernel_rfl) only [go_sem, ↓reduceIte, Nat.reduceEqDiff, Nat.reduceLT, Nat.reduceAdd, reduceCtorEq, Int.reduceToNat, Try.ntmps179, Try.results179, fr2, hq2, fr, hq, hc0', ld_graph hM4.box, e1, e2, e5] <;> repeat' ((first | refine AK.drawT (by kernel_rfl) ?_ | ((first | refine ABK_mk ?_ ?_ | refine AGK_mk ?_ ?_) <;> intro hb <;> (try simp only [decide_eq_true_eq, decide_eq_false_iff_not, Bool.not_eq_true', Bool.not_eq_false', Bool.not_not] at hb) <;> (try (exfalso; omega)) <;> (try subst hb) <;> try simp only [hb, decide_true, decide_false])) <;> try simp (disch := first | exact dsch | kernel_rfl) only [go_sem, ↓reduceIte, Nat.reduceEqDiff, Nat.reduceLT, Nat.reduceAdd, reduceCtorEq, Int.reduceToNat, Try.ntmps179, Try.results179, fr2, hq2, fr, hq, hc0', ld_graph hM4.box, e1, e2, e5]))
            refine add_calln grAdd_ok hM4 (Nat.le_refl _) hc h3 (k * r + q - 1) (k * r + q) (by omega) hkr ?_ ?_
            · simp (disch := first | exact dsch | kernel_rfl) only [go_sem, ↓reduceIte, Nat.reduceEqDiff, Nat.reduceLT, Nat.reduceAdd, reduceCtorEq, Int.reduceToNat, Try.ntmps179, Try.results179, fr2, hq2, fr, hq, e1, e2, e5]
            · intro H5 hM5
              (simp (disch := first | exact dsch | kernel_rfl) only [go_sem, ↓reduceIte, Nat.reduceEqDiff, Nat.reduceLT, Nat.reduceAdd, reduceCtorEq, Int.reduceToNat, Try.ntmps179, Try.results179, fr2, hq2, fr, hq, hq2] <;> repeat' ((first | refine AK.drawT (by kernel_rfl) ?_ | ((first | refine ABK_mk ?_ ?_ | refine AGK_mk ?_ ?_) <;> intro hb <;> (try simp only [decide_eq_true_eq, decide_eq_false_iff_not, Bool.not_eq_true', Bool.not_eq_false', Bool.not_not] at hb) <;> (try (exfalso; omega)) <;> (try subst hb) <;> try simp only [hb, decide_true, decide_false])) <;> try simp (disch := first | exact dsch | kernel_rfl) only [go_sem, ↓reduceIte, Nat.reduceEqDiff, Nat.reduceLT, Nat.reduceAdd, reduceCtorEq, Int.reduceToNat, Try.ntmps179, Try.results179, fr2, hq2, fr, hq, hq2]))
              refine hK2 _ _ hc2 (by rfl) ?_
              rw [rowPs_succ, ← List.append_assoc, cellPs, if_pos hr0, if_pos hc0, ← List.append_assoc, ← addAll_one, ← addAll_one]
              exact hM5
          · have hc0' : ¬ (0 : Int) < (q : Int) := by omega
            (simp (disch := first | exact dsch | kernel_rfl) only [go_sem, ↓reduceIte, Nat.reduceEqDiff, Nat.reduceLT, Nat.reduceAdd, reduceCtorEq, Int.reduceToNat, Try.ntmps179, Try.results179, fr2, hq2, fr, hq, hc0', hq2] <;> repeat' ((first | refine AK.drawT (by kernel_rfl) ?_ | ((first | refine ABK_mk ?_ ?_ | refine AGK_mk ?_ ?_) <;> intro hb <;> (try simp only [decide_eq_true_eq, decide_eq_false_iff_not, Bool.not_eq_true', Bool.not_eq_false', Bool.not_not] at hb) <;> (try (exfalso; omega)) <;> (try subst hb) <;> try simp only [hb, decide_true, decide_false])) <;> try simp (disch := first | exact dsch | kernel_rfl) only [go_sem, ↓reduceIte, Nat.reduceEqDiff, Nat.reduceLT, Nat.reduceAdd, reduceCtorEq, Int.reduceToNat, Try.ntmps179, Try.results179, fr2, hq2, fr, hq, hc0', hq2]))
            refine hK2 _ _ hc2 (by rfl) ?_
            rw [rowPs_succ, ← List.append_assoc, cellPs, if_pos hr0, if_neg hc0, List.append_nil, ← addAll_one]
            exact hM4

      · have hr0' : ¬ (0 : Int) < (r : Int) := by omega
        simp (disch := first | exact dsch | kernel_rfl) only [go_sem, ↓reduceIte, Nat.reduceEqDiff, Nat.reduceLT, Nat.reduceAdd, reduceCtorEq, Int.reduceToNat, Try.ntmps179, Try.results179, fr2, hq2, fr, hq, hq', hr0']
        by_cases hc0 : 0 < q
        · have hc0' : (0 : Int) < (q : Int) := by omega
          have e5 : ((k * r + q : Nat) : Int) - 1 = ((k * r + q - 1 : Nat) : Int) := by omega
          (simp (disch := first | exact dsch | kernel_rfl) only [go_sem, ↓reduceIte, Nat.reduceEqDiff, Nat.reduceLT, Nat.reduceAdd, reduceCtorEq, Int.reduceToNat, Try.ntmps179, Try.results179, fr2, hq2, fr, hq, hc0', ld_graph hM2.box, e1, e2, e5] <;> repeat' ((first | refine AK.drawT (by kernel_rfl) ?_ | ((first | refine ABK_mk ?_ ?_ | refine AGK_mk ?_ ?_) <;> intro hb <;> (try simp only [decide_eq_true_eq, decide_eq_false_iff_not, Bool.not_eq_true', Bool.not_eq_false', Bool.not_not] at hb) <;> (try (exfalso; omega)) <;> (try subst hb) <;> try simp only [hb, decide_true, decide_false])) <;> try simp (disch := first | exact dsch | kernel_rfl) only [go_sem, ↓reduceIte, Nat.reduceEqDiff, Nat.reduceLT, Nat.reduceAdd, reduceCtorEq, Int.reduceToNat, Try.ntmps179, Try.results179, fr2, hq2, fr, hq, hc0', ld_graph hM2.box, e1, e2, e5]))
          refine add_calln grAdd_ok hM2 (Nat.le_refl _) hc h3 (k * r + q - 1) (k * r + q) (by omega) hkr ?_ ?_
          · simp (disch := first | exact dsch | kernel_rfl) only [go_sem, ↓reduceIte, Nat.reduceEqDiff, Nat.reduceLT, Nat.reduceAdd, reduceCtorEq, Int.reduceToNat, Try.ntmps179, Try.results179, fr2, hq2, fr, hq, e1, e2, e5]
          · intro H5 hM5
            (simp (disch := first | exact dsch | kernel_rfl) only [go_sem, ↓reduceIte, Nat.reduceEqDiff, Nat.reduceLT, Nat.reduceAdd, reduceCtorEq, Int.reduceToNat, Try.ntmps179, Try.results179, fr2, hq2, fr, hq, hq2] <;> repeat' ((first | refine AK.drawT (by kernel_rfl) ?_ | ((first | refine ABK_mk ?_ ?_ | refine AGK_mk ?_ ?_) <;> intro hb <;> (try simp only [decide_eq_true_eq, decide_eq_false_iff_not, Bool.not_eq_true', Bool.not_eq_false', Bool.not_not] at hb) <;> (try (exfalso; omega)) <;> (try subst hb) <;> try simp only [hb, decide_true, decide_false])) <;> try simp (disch := first | exact dsch | kernel_rfl) only [go_sem, ↓reduceIte, Nat.reduceEqDiff, Nat.reduceLT, Nat.reduceAdd, reduceCtorEq, Int.reduceToNat, Try.ntmps179, Try.results179, fr2, hq2, fr, hq, hq2]))
            refine hK2 _ _ hc2 (by rfl) ?_
            rw [rowPs_succ, ← List.append_assoc, cellPs, if_neg hr0, if_pos hc0, List.nil_append, ← addAll_one]
            exact hM5
        · have hc0' : ¬ (0 : Int) < (q : Int) := by omega
          (simp (disch := first | exact dsch | kernel_rfl) only [go_sem, ↓reduceIte, Nat.reduceEqDiff, Nat.reduceLT, Nat.reduceAdd, reduceCtorEq, Int.reduceToNat, Try.ntmps179, Try.results179, fr2, hq2, fr, hq, hc0', hq2] <;> repeat' ((first | refine AK.drawT (by kernel_rfl) ?_ | ((first | refine ABK_mk ?_ ?_ | refine AGK_mk ?_ ?_) <;> intro hb <;> (try simp only [decide_eq_true_eq, decide_eq_false_iff_not, Bool.not_eq_true', Bool.not_eq_false', Bool.not_not] at hb) <;> (try (exfalso; omega)) <;> (try subst hb) <;> try simp only [hb, decide_true, decide_false])) <;> try simp (disch := first | exact dsch | kernel_rfl) only [go_sem, ↓reduceIte, Nat.reduceEqDiff, Nat.reduceLT, Nat.reduceAdd, reduceCtorEq, Int.reduceToNat, Try.ntmps179, Try.results179, fr2, hq2, fr, hq, hc0', hq2]))
          refine hK2 _ _ hc2 (by rfl) ?_
          rw [rowPs_succ, ← List.append_assoc, cellPs, if_neg hr0, if_neg hc0, List.append_nil, List.append_nil]
          exact hM2

    · have hq' : ¬ (q : Int) < (k : Int) := by omega
      have eq : q = k := by omega
      subst eq
      (simp (disch := first | exact dsch | kernel_rfl) only [go_sem, ↓reduceIte, Nat.reduceEqDiff, Nat.reduceLT, Nat.reduceAdd, reduceCtorEq, Int.reduceToNat, Try.ntmps179, Try.results179, fr2, hq2, fr, hq, hq'] <;> repeat' ((first | refine AK.drawT (by kernel_rfl) ?_ | ((first | refine ABK_mk ?_ ?_ | refine AGK_mk ?_ ?_) <;> intro hb <;> (try simp only [decide_eq_true_eq, decide_eq_false_iff_not, Bool.not_eq_true', Bool.not_eq_false', Bool.not_not] at hb) <;> (try (exfalso; omega)) <;> (try subst hb) <;> try simp only [hb, decide_true, decide_false])) <;> try simp (disch := first | exact dsch | kernel_rfl) only [go_sem, ↓reduceIte, Nat.reduceEqDiff, Nat.reduceLT, Nat.reduceAdd, reduceCtorEq, Int.reduceToNat, Try.ntmps179, Try.results179, fr2, hq2, fr, hq, hq']))
      refine hK _ _ hr (by rfl) ?_
      rw [gridPs_succ]; exact hM2
  · have hr' : ¬ (r : Int) < (n : Int) := by omega
    have er : r = n := by omega
    subst er
    have hbx := hM.ext.cells hHb
    have hHl : H.size < H'.size := by have := hM.ext.size; omega
    (simp (disch := first | exact dsch | kernel_rfl) only [go_sem, ↓reduceIte, Nat.reduceEqDiff, Nat.reduceLT, Nat.reduceAdd, reduceCtorEq, Int.reduceToNat, Try.ntmps179, Try.results179, fr, hq, hr', ld_graph hM.box, st_graph (s := .sl Hc.size 0 m) (o := o) hbx rfl] <;> repeat' ((first | refine AK.drawT (by kernel_rfl) ?_ | ((first | refine ABK_mk ?_ ?_ | refine AGK_mk ?_ ?_) <;> intro hb <;> (try simp only [decide_eq_true_eq, decide_eq_false_iff_not, Bool.not_eq_true', Bool.not_eq_false', Bool.not_not] at hb) <;> (try (exfalso; omega)) <;> (try subst hb) <;> try simp only [hb, decide_true, decide_false])) <;> try simp (disch := first | exact dsch | kernel_rfl) only [go_sem, ↓reduceIte, Nat.reduceEqDiff, Nat.reduceLT, Nat.reduceAdd, reduceCtorEq, Int.reduceToNat, Try.ntmps179, Try.results179, fr, hq, hr', ld_graph hM.box, st_graph (s := .sl Hc.size 0 m) (o := o) hbx rfl]))
    rw [gridL, hmm]
    exact ⟨(hHx.trans hM.ext).put (Nat.le_refl _) _, ⟨_, rfl, by omega, hM.row.putne (by omega)⟩, hM.len, hM.lt⟩

end Go.Proofs.Ytopbfmhajbjepaa
