/- Contracts: products of graphs, of the program. -/
import Derived.Test.YtopbfmhajbjepaaC8
namespace Go.Proofs.Ytopbfmhajbjepaa
open Go
set_option linter.unusedSimpArgs false
set_option linter.unusedVariables false

def pairs3 (k : Nat) (es : List (List Nat)) (t : Nat) : List (Nat × Nat) := (es.take t).flatMap fun e => (List.range k).map fun j => (k * e.getD 0 0 + j, k * e.getD 1 0 + j)
theorem pairs3_succ {k : Nat} {es : List (List Nat)} {t : Nat} (h : t < es.length) : pairs3 k es (t + 1) = pairs3 k es t ++ (List.range k).map fun j => (k * (es.getD t []).getD 0 0 + j, k * (es.getD t []).getD 1 0 + j) := by
  unfold pairs3; rw [List.take_add_one, List.flatMap_append]; simp [List.getD, h]
theorem pairs3_mem {k : Nat} {es : List (List Nat)} (p : Nat × Nat) : p ∈ pairs3 k es es.length ↔ p ∈ pairs2 k es k := by
  unfold pairs3 pairs2
  rw [List.take_length]
  simp only [List.mem_flatMap, List.mem_map, List.mem_range]
  constructor
  · rintro ⟨e, he, j, hj, h⟩; exact ⟨j, hj, e, he, h⟩
  · rintro ⟨j, hj, e, he, h⟩; exact ⟨e, he, j, hj, h⟩

set_option maxRecDepth 10000 in
theorem product_ok : Prod 15 := by
  intro la lb oa ob sa sb H ha hsb hla hlb
  have hm0 : la.length * lb.length ≤ 2147483648 * 2147483648 := Nat.mul_le_mul (by omega) (by omega)
  have hm1 : ((la.length * lb.length : Nat) : Int) = (la.length : Int) * lb.length := Int.natCast_mul _ _
  refine Ev.enterK (fn := Try.f15) rfl Try.func15 rfl (by kernel_rfl) (by simp [Try.ntmps15]) ?_
  (simp (disch := first | exact dsch | kernel_rfl) only [go_sem, ↓reduceIte, Nat.reduceEqDiff, Nat.reduceLT, Nat.reduceAdd, reduceCtorEq, Int.reduceToNat, Try.ntmps15, Try.results15, ha.len, hsb.len] <;> repeat' ((first | (refine AOK_is (by exact isGraph_ok _ _ _ _ (by first | assumption | (refine SliceAt.ext (by assumption) ?_; exact xt)) (by omega)) ?_; intro Hc hxc) | refine AK.drawT (by kernel_rfl) ?_ | ((first | refine ABK_mk ?_ ?_ | refine AGK_mk ?_ ?_) <;> intro hb <;> (try simp only [decide_eq_true_eq, decide_eq_false_iff_not, Bool.not_eq_true', Bool.not_eq_false', Bool.not_not] at hb) <;> (try (exfalso; omega)) <;> (try subst hb) <;> try simp only [hb, decide_true, decide_false])) <;> try simp (disch := first | exact dsch | kernel_rfl) only [go_sem, ↓reduceIte, Nat.reduceEqDiff, Nat.reduceLT, Nat.reduceAdd, reduceCtorEq, Int.reduceToNat, Try.ntmps15, Try.results15, ha.len, hsb.len]))
  · exact ⟨by exact xt, .inl ⟨fun h => by have := h.2.2.2; omega, rfl⟩⟩
  · rename_i Hc0 ga x1 gb
    obtain ⟨a, rfl, ga⟩ := ga
    obtain ⟨b, rfl, gb⟩ := gb
    simp only [zs_length] at *
    have hsa : NatsAt H sa a := ha
    have hsb : NatsAt H sb b := hsb
    rw [← hm1, Int.toNat_natCast]
    have hm : 1 ≤ a.length * b.length ∧ a.length * b.length ≤ 16 := ⟨Nat.mul_le_mul ga.1.1 gb.1.1, by omega⟩
    have g1 := ga.1
    have g2 := gb.1
    generalize hmm : a.length * b.length = m at *
    generalize hcc : (Hc.push (rowBlk (List.replicate m 0))).size = c
    have hc : c ≠ Hc.size := by rw [← hcc, push_size]; omega
    have hZ : ∀ t, (List.replicate m 0).getD t 0 < 2 ^ m := fun t => by
      have : (List.replicate m 0).getD t 0 = 0 := by simp [List.getD, List.getElem?_replicate]; split <;> rfl
      rw [this]; exact Nat.two_pow_pos m
    have hM0 : Mk Hc ((Hc.push (rowBlk (List.replicate m 0))).push (.cells 2 false [.sl Hc.size 0 m, .bool oa])) Hc.size c m oa (List.replicate m 0) :=
      ⟨by exact xt, RowAt.ext (AH.push_same _ _) (Ext.push _ _), by simp, by rw [← hcc]; exact AH.push_same _ _, hZ⟩
    have ha63 := fun k (_ : k < a.length) => Nat.lt_trans (ga.lt k) (show 65536 < 9223372036854775808 by omega)
    have hb63 := fun k (_ : k < b.length) => Nat.lt_trans (gb.lt k) (show 65536 < 9223372036854775808 by omega)
    have hZl : (List.replicate m 0).length = a.length * b.length := by simp [hmm]
    refine (AK.count 55 [8, 10, 55, 56, 57, 58, 59, 60, 61, 62, 63, 64, 65, 66, 67, 68, 69, 70, 71, 72, 73, 74, 75, 76, 77, 78, 79, 80, 81, 82] (by kernel_rfl) 0 a.length (fun i tm H' => Mk Hc H' Hc.size c m oa (addAll (List.replicate m 0) (pairs1 b.length (edgeL b b.length) i))) (by rfl) (by omega) hM0 ?_)
    rintro i tm H' K h1 h2 fr hq hM hK
    have hx := hM.ext
    have hbs := hM.row.lt
    have hcs := AH.cells_lt hM.box
    (simp (disch := first | exact dsch | kernel_rfl) only [go_sem, ↓reduceIte, Nat.reduceEqDiff, Nat.reduceLT, Nat.reduceAdd, reduceCtorEq, Int.reduceToNat, Try.ntmps15, Try.results15, fr, hq, hsa.len, hsb.len] <;> repeat' ((first | (refine AOK_is (by exact isGraph_ok _ _ _ _ (by first | assumption | (refine SliceAt.ext (by assumption) ?_; exact xt)) (by omega)) ?_; intro Hc hxc) | refine AK.drawT (by kernel_rfl) ?_ | ((first | refine ABK_mk ?_ ?_ | refine AGK_mk ?_ ?_) <;> intro hb <;> (try simp only [decide_eq_true_eq, decide_eq_false_iff_not, Bool.not_eq_true', Bool.not_eq_false', Bool.not_not] at hb) <;> (try (exfalso; omega)) <;> (try subst hb) <;> try simp only [hb, decide_true, decide_false])) <;> try simp (disch := first | exact dsch | kernel_rfl) only [go_sem, ↓reduceIte, Nat.reduceEqDiff, Nat.reduceLT, Nat.reduceAdd, reduceCtorEq, Int.reduceToNat, Try.ntmps15, Try.results15, fr, hq, hsa.len, hsb.len]))
    · refine AOK_gives (edges_ok b oa sb _ (hsb.ext (by exact xt)) (by omega) hb63) ?_
      rintro v H1 y1 ⟨vs, hv, hvl, hvn⟩
      have hv1 := hv.old
      have hvb := edge_count gb.1.2
      (simp (disch := first | exact dsch | kernel_rfl) only [go_sem, ↓reduceIte, Nat.reduceEqDiff, Nat.reduceLT, Nat.reduceAdd, reduceCtorEq, Int.reduceToNat, Try.ntmps15, Try.results15, fr, hq, hv1.rlen] <;> repeat' ((first | (refine AOK_is (by exact isGraph_ok _ _ _ _ (by first | assumption | (refine SliceAt.ext (by assumption) ?_; exact xt)) (by omega)) ?_; intro Hc hxc) | refine AK.drawT (by kernel_rfl) ?_ | ((first | refine ABK_mk ?_ ?_ | refine AGK_mk ?_ ?_) <;> intro hb <;> (try simp only [decide_eq_true_eq, decide_eq_false_iff_not, Bool.not_eq_true', Bool.not_eq_false', Bool.not_not] at hb) <;> (try (exfalso; omega)) <;> (try subst hb) <;> try simp only [hb, decide_true, decide_false])) <;> try simp (disch := first | exact dsch | kernel_rfl) only [go_sem, ↓reduceIte, Nat.reduceEqDiff, Nat.reduceLT, Nat.reduceAdd, reduceCtorEq, Int.reduceToNat, Try.ntmps15, Try.results15, fr, hq, hv1.rlen]))
      refine (AK.count 61 [10, 61, 62, 63, 64, 65, 66, 67, 68, 69, 70, 71, 72, 73, 74, 75, 76, 77, 78, 79, 80, 81] (by kernel_rfl) 0 vs.length (fun j tm H2 => Mk Hc H2 Hc.size c m oa (addAll (List.replicate m 0) (pairs1 b.length (edgeL b b.length) i ++ ((edgeL b b.length).take j).map fun e => (b.length * i + e.getD 0 0, b.length * i + e.getD 1 0))) ∧ Ext (H1.young H'.size) (H2.young H'.size)) (by rfl) (by omega)
        ⟨by rw [List.take_zero, List.map_nil, List.append_nil]; exact hM.mono y1, Ext.refl _⟩ ?_)
      rintro j tm2 H2 K2 g1 g2 fr2 hq2 ⟨hM2, z2⟩ hK2
      by_cases hj : j < vs.length
      · have hn2 := ((hvn j (by omega)).ext z2).old
        have hv2 := (hv.ext z2).old
        have he := getD_es (es := edgeL b b.length) (j := j) (by omega)
        obtain ⟨x, y, hxy, e1, e2, e3, _⟩ := edge_form he
        rw [hxy] at hn2
        have hn2 : NatsAt H2 (vs.getD j .undef) [x, y] := hn2
        have q1 := Nat.mul_le_mul_left b.length (Nat.succ_le_of_lt (show i < a.length by omega))
        rw [Nat.mul_succ, Nat.mul_comm b.length a.length, hmm] at q1
        have q2 : ((b.length * i : Nat) : Int) = b.length * i := Int.natCast_mul _ _
        have hx2 := hM2.ext
        (simp (disch := first | exact dsch | kernel_rfl) only [go_sem, ↓reduceIte, Nat.reduceEqDiff, Nat.reduceLT, Nat.reduceAdd, reduceCtorEq, Int.reduceToNat, Try.ntmps15, Try.results15, fr2, hq2, fr, hq, hv2.rix, hv2.rld, hn2.ix, hn2.ld, ld_graph hM2.box] <;> repeat' ((first | (refine AOK_is (by exact isGraph_ok _ _ _ _ (by first | assumption | (refine SliceAt.ext (by assumption) ?_; exact xt)) (by omega)) ?_; intro Hc hxc) | refine AK.drawT (by kernel_rfl) ?_ | ((first | refine ABK_mk ?_ ?_ | refine AGK_mk ?_ ?_) <;> intro hb <;> (try simp only [decide_eq_true_eq, decide_eq_false_iff_not, Bool.not_eq_true', Bool.not_eq_false', Bool.not_not] at hb) <;> (try (exfalso; omega)) <;> (try subst hb) <;> try simp only [hb, decide_true, decide_false])) <;> try simp (disch := first | exact dsch | kernel_rfl) only [go_sem, ↓reduceIte, Nat.reduceEqDiff, Nat.reduceLT, Nat.reduceAdd, reduceCtorEq, Int.reduceToNat, Try.ntmps15, Try.results15, fr2, hq2, fr, hq, hv2.rix, hv2.rld, hn2.ix, hn2.ld, ld_graph hM2.box]))
        refine add_call join_ok (hM2.mono (by exact xt)) (Nat.le_refl _) hc hm.2 (b.length * i + x) (b.length * i + y) (by omega) (by omega) (by kernel_rfl) ?_ ?_
        · simp (disch := first | exact dsch | kernel_rfl) only [go_sem, ↓reduceIte, Nat.reduceEqDiff, Nat.reduceLT, Nat.reduceAdd, reduceCtorEq, Int.reduceToNat, Try.ntmps15, Try.results15, fr2, hq2, fr, hq, Int.natCast_add, Int.natCast_mul]
        · intro H3 hM3 z3
          (simp (disch := first | exact dsch | kernel_rfl) only [go_sem, ↓reduceIte, Nat.reduceEqDiff, Nat.reduceLT, Nat.reduceAdd, reduceCtorEq, Int.reduceToNat, Try.ntmps15, Try.results15, fr2, hq2, fr, hq] <;> repeat' ((first | (refine AOK_is (by exact isGraph_ok _ _ _ _ (by first | assumption | (refine SliceAt.ext (by assumption) ?_; exact xt)) (by omega)) ?_; intro Hc hxc) | refine AK.drawT (by kernel_rfl) ?_ | ((first | refine ABK_mk ?_ ?_ | refine AGK_mk ?_ ?_) <;> intro hb <;> (try simp only [decide_eq_true_eq, decide_eq_false_iff_not, Bool.not_eq_true', Bool.not_eq_false', Bool.not_not] at hb) <;> (try (exfalso; omega)) <;> (try subst hb) <;> try simp only [hb, decide_true, decide_false])) <;> try simp (disch := first | exact dsch | kernel_rfl) only [go_sem, ↓reduceIte, Nat.reduceEqDiff, Nat.reduceLT, Nat.reduceAdd, reduceCtorEq, Int.reduceToNat, Try.ntmps15, Try.results15, fr2, hq2, fr, hq]))
          refine hK2 _ _ (by omega) (by rfl) ⟨?_, z2.trans (z3 _ (by omega))⟩
          rw [take_map_succ (by omega), ← List.append_assoc, hxy, ← addAll_one]
          exact hM3
      · have ej : j = (edgeL b b.length).length := by omega
        (simp (disch := first | exact dsch | kernel_rfl) only [go_sem, ↓reduceIte, Nat.reduceEqDiff, Nat.reduceLT, Nat.reduceAdd, reduceCtorEq, Int.reduceToNat, Try.ntmps15, Try.results15, fr2, hq2, fr, hq, hj] <;> repeat' ((first | (refine AOK_is (by exact isGraph_ok _ _ _ _ (by first | assumption | (refine SliceAt.ext (by assumption) ?_; exact xt)) (by omega)) ?_; intro Hc hxc) | refine AK.drawT (by kernel_rfl) ?_ | ((first | refine ABK_mk ?_ ?_ | refine AGK_mk ?_ ?_) <;> intro hb <;> (try simp only [decide_eq_true_eq, decide_eq_false_iff_not, Bool.not_eq_true', Bool.not_eq_false', Bool.not_not] at hb) <;> (try (exfalso; omega)) <;> (try subst hb) <;> try simp only [hb, decide_true, decide_false])) <;> try simp (disch := first | exact dsch | kernel_rfl) only [go_sem, ↓reduceIte, Nat.reduceEqDiff, Nat.reduceLT, Nat.reduceAdd, reduceCtorEq, Int.reduceToNat, Try.ntmps15, Try.results15, fr2, hq2, fr, hq, hj]))
        refine hK _ _ (by omega) (by rfl) ?_
        rw [ej, List.take_length] at hM2
        rw [pairs1_succ]
        exact hM2
    · have ei : i = a.length := by omega
      subst ei
      generalize hL : addAll (List.replicate m 0) (pairs1 b.length (edgeL b b.length) a.length) = L at *
      refine AOK_gives (edges_ok a oa sa _ (hsa.ext (by exact xt)) (by omega) ha63) ?_
      rintro v H1 y1 ⟨vs, hv, hvl, hvn⟩
      have hv1 := hv.old
      have hvb := edge_count ga.1.2
      (simp (disch := first | exact dsch | kernel_rfl) only [go_sem, ↓reduceIte, Nat.reduceEqDiff, Nat.reduceLT, Nat.reduceAdd, reduceCtorEq, Int.reduceToNat, Try.ntmps15, Try.results15, fr, hq, hv1.rlen] <;> repeat' ((first | (refine AOK_is (by exact isGraph_ok _ _ _ _ (by first | assumption | (refine SliceAt.ext (by assumption) ?_; exact xt)) (by omega)) ?_; intro Hc hxc) | refine AK.drawT (by kernel_rfl) ?_ | ((first | refine ABK_mk ?_ ?_ | refine AGK_mk ?_ ?_) <;> intro hb <;> (try simp only [decide_eq_true_eq, decide_eq_false_iff_not, Bool.not_eq_true', Bool.not_eq_false', Bool.not_not] at hb) <;> (try (exfalso; omega)) <;> (try subst hb) <;> try simp only [hb, decide_true, decide_false])) <;> try simp (disch := first | exact dsch | kernel_rfl) only [go_sem, ↓reduceIte, Nat.reduceEqDiff, Nat.reduceLT, Nat.reduceAdd, reduceCtorEq, Int.reduceToNat, Try.ntmps15, Try.results15, fr, hq, hv1.rlen]))
      refine (AK.count 86 [12, 13, 86, 87, 88, 89, 90, 91, 92, 93, 94, 95, 96, 97, 98, 99, 100, 101, 102, 103, 104, 105, 106, 107, 108, 109, 110, 111] (by kernel_rfl) 0 vs.length (fun t tm H2 => Mk Hc H2 Hc.size c m oa (addAll L (pairs3 b.length (edgeL a a.length) t)) ∧ Ext (H1.young H'.size) (H2.young H'.size)) (by rfl) (by omega) ⟨hM.mono y1, Ext.refl _⟩ ?_)
      rintro t tm3 H3 K3 h1 h2 fr3 hq3 ⟨hM, z3⟩ hK
      have hx := hM.ext
      have hv3 := (hv.ext z3).old
      (simp (disch := first | exact dsch | kernel_rfl) only [go_sem, ↓reduceIte, Nat.reduceEqDiff, Nat.reduceLT, Nat.reduceAdd, reduceCtorEq, Int.reduceToNat, Try.ntmps15, Try.results15, fr3, hq3, fr, hq, hsa.len, hsb.len, hv3.rix, hv3.rld, ld_graph hM.box] <;> repeat' ((first | (refine AOK_is (by exact isGraph_ok _ _ _ _ (by first | assumption | (refine SliceAt.ext (by assumption) ?_; exact xt)) (by omega)) ?_; intro Hc hxc) | refine AK.drawT (by kernel_rfl) ?_ | ((first | refine ABK_mk ?_ ?_ | refine AGK_mk ?_ ?_) <;> intro hb <;> (try simp only [decide_eq_true_eq, decide_eq_false_iff_not, Bool.not_eq_true', Bool.not_eq_false', Bool.not_not] at hb) <;> (try (exfalso; omega)) <;> (try subst hb) <;> try simp only [hb, decide_true, decide_false])) <;> try simp (disch := first | exact dsch | kernel_rfl) only [go_sem, ↓reduceIte, Nat.reduceEqDiff, Nat.reduceLT, Nat.reduceAdd, reduceCtorEq, Int.reduceToNat, Try.ntmps15, Try.results15, fr3, hq3, fr, hq, hsa.len, hsb.len, hv3.rix, hv3.rld, ld_graph hM.box]))
      · have ht : t < vs.length := by omega
        have he := getD_es (es := edgeL a a.length) (j := t) (by omega)
        obtain ⟨x, y, hxy, e1, e2, e3, _⟩ := edge_form he
        have q1 := Nat.mul_le_mul_left b.length (Nat.succ_le_of_lt e1)
        have q2 := Nat.mul_le_mul_left b.length (Nat.succ_le_of_lt e3)
        rw [Nat.mul_succ, Nat.mul_comm b.length a.length, hmm] at q1 q2
        have q3 : ((b.length * x : Nat) : Int) = b.length * x := Int.natCast_mul _ _
        have q4 : ((b.length * y : Nat) : Int) = b.length * y := Int.natCast_mul _ _
        refine (AK.count 91 [13, 91, 92, 93, 94, 95, 96, 97, 98, 99, 100, 101, 102, 103, 104, 105, 106, 107, 108, 109, 110] (by kernel_rfl) 0 b.length (fun j tm H2 => Mk Hc H2 Hc.size c m oa (addAll L (pairs3 b.length (edgeL a a.length) t ++ (List.range j).map fun j => (b.length * x + j, b.length * y + j))) ∧ Ext (H1.young H'.size) (H2.young H'.size)) (by rfl) (by omega)
          ⟨by rw [List.range_zero, List.map_nil, List.append_nil]; exact hM, z3⟩ ?_)
        rintro j tm2 H2 K2 g1 g2 fr2 hq2 ⟨hM2, z2⟩ hK2
        have hn2 := ((hvn t (by omega)).ext z2).old
        rw [hxy] at hn2
        have hn2 : NatsAt H2 (vs.getD t .undef) [x, y] := hn2
        have hx2 := hM2.ext
        (simp (disch := first | exact dsch | kernel_rfl) only [go_sem, ↓reduceIte, Nat.reduceEqDiff, Nat.reduceLT, Nat.reduceAdd, reduceCtorEq, Int.reduceToNat, Try.ntmps15, Try.results15, fr2, hq2, fr3, hq3, fr, hq, hn2.ix, hn2.ld, ld_graph hM2.box] <;> repeat' ((first | (refine AOK_is (by exact isGraph_ok _ _ _ _ (by first | assumption | (refine SliceAt.ext (by assumption) ?_; exact xt)) (by omega)) ?_; intro Hc hxc) | refine AK.drawT (by kernel_rfl) ?_ | ((first | refine ABK_mk ?_ ?_ | refine AGK_mk ?_ ?_) <;> intro hb <;> (try simp only [decide_eq_true_eq, decide_eq_false_iff_not, Bool.not_eq_true', Bool.not_eq_false', Bool.not_not] at hb) <;> (try (exfalso; omega)) <;> (try subst hb) <;> try simp only [hb, decide_true, decide_false])) <;> try simp (disch := first | exact dsch | kernel_rfl) only [go_sem, ↓reduceIte, Nat.reduceEqDiff, Nat.reduceLT, Nat.reduceAdd, reduceCtorEq, Int.reduceToNat, Try.ntmps15, Try.results15, fr2, hq2, fr3, hq3, fr, hq, hn2.ix, hn2.ld, ld_graph hM2.box]))
        · refine add_call join_ok (hM2.mono (by exact xt)) (Nat.le_refl _) hc hm.2 (b.length * x + j) (b.length * y + j) (by omega) (by omega) (by kernel_rfl) ?_ ?_
          · simp (disch := first | exact dsch | kernel_rfl) only [go_sem, ↓reduceIte, Nat.reduceEqDiff, Nat.reduceLT, Nat.reduceAdd, reduceCtorEq, Int.reduceToNat, Try.ntmps15, Try.results15, fr2, hq2, fr3, hq3, fr, hq, Int.natCast_add, Int.natCast_mul]
          · intro H3 hM3 z3
            (simp (disch := first | exact dsch | kernel_rfl) only [go_sem, ↓reduceIte, Nat.reduceEqDiff, Nat.reduceLT, Nat.reduceAdd, reduceCtorEq, Int.reduceToNat, Try.ntmps15, Try.results15, fr2, hq2, fr3, hq3, fr, hq] <;> repeat' ((first | (refine AOK_is (by exact isGraph_ok _ _ _ _ (by first | assumption | (refine SliceAt.ext (by assumption) ?_; exact xt)) (by omega)) ?_; intro Hc hxc) | refine AK.drawT (by kernel_rfl) ?_ | ((first | refine ABK_mk ?_ ?_ | refine AGK_mk ?_ ?_) <;> intro hb <;> (try simp only [decide_eq_true_eq, decide_eq_false_iff_not, Bool.not_eq_true', Bool.not_eq_false', Bool.not_not] at hb) <;> (try (exfalso; omega)) <;> (try subst hb) <;> try simp only [hb, decide_true, decide_false])) <;> try simp (disch := first | exact dsch | kernel_rfl) only [go_sem, ↓reduceIte, Nat.reduceEqDiff, Nat.reduceLT, Nat.reduceAdd, reduceCtorEq, Int.reduceToNat, Try.ntmps15, Try.results15, fr2, hq2, fr3, hq3, fr, hq]))
            refine hK2 _ _ (by omega) (by rfl) ⟨?_, z2.trans (z3 _ (by omega))⟩
            rw [List.range_succ, List.map_append, ← List.append_assoc, List.map_cons, List.map_nil, ← addAll_one]
            exact hM3
        · have ej : j = b.length := by omega
          subst ej
          refine hK _ _ (by omega) (by rfl) ⟨?_, z2⟩
          rw [pairs3_succ (by omega), hxy]
          exact hM2
      · have ei : t = (edgeL a a.length).length := by omega
        rw [ei] at hM
        have hr := hM.row.nats
        have hsz : ((H.push (.cells 2 false [sa, .bool oa])).push (.cells 2 false [sb, .bool oa])).size < Hc.size := Ext.szlt (y := .cells 2 false [.nilsl, .bool false]) (by exact xt)
        simp only [push_size] at hsz
        refine ⟨by exact xt, .inr ⟨a, b, _, rfl, rfl, ⟨GOKz_zs.2 ga, GOKz_zs.2 gb, rfl, by rw [zs_length, zs_length]; omega⟩, rfl, ?_⟩⟩
        have hr := (RowAt.own (n := H.size) (hM.row.putne (x := .cells 2 false [.sl Hc.size 0 m, .bool oa]) (c := ((H.push (.cells 2 false [sa, .bool oa])).push (.cells 2 false [sb, .bool oa])).size) (by simp only [push_size]; omega)) (by omega))
        rw [hM.len] at hr
        rw [prodL, hmm]

        rw [addAll_append, ← addAll_append, addAll_append, hL]
        have hLm : L.length = m := by rw [← hL, addAll_length, List.length_replicate]
        rw [← addAll_perm (l := L) (ps := pairs3 b.length (edgeL a a.length) (edgeL a a.length).length) ?_ pairs3_mem]
        · exact hr
        · intro p hp
          rw [hLm, ← hmm]
          exact pairs2_bd rfl (Nat.le_refl _) p ((pairs3_mem p).1 hp)
  · exact ⟨by exact xt, .inl ⟨fun h => hb h.2.2.1, rfl⟩⟩
  · exact ⟨by exact xt, .inl ⟨fun h => hb h.2.1, rfl⟩⟩
  · exact ⟨by exact xt, .inl ⟨fun h => hb h.1, rfl⟩⟩

end Go.Proofs.Ytopbfmhajbjepaa
