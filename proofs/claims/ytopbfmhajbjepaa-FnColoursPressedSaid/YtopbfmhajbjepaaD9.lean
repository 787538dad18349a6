/- Contracts: texts of colours, read back, spoilt. -/
import Derived.Test.YtopbfmhajbjepaaD8
namespace Go.Proofs.Ytopbfmhajbjepaa
open Go
set_option linter.unusedSimpArgs false
set_option linter.unusedVariables false

theorem specColoursText_ok (l : List Int) (s : AV) (H : AH) (hs : IntsAt H s l) (hl : l.length < 1000000) : E 38 [s] H (Is (.tup [tx (digT l), .bool (digB l)]) H) := by
  have hl9 : l.length < 9223372036854775807 := by omega
  refine Ev.enterK (fn := Try.f38) rfl Try.func38 rfl (by kernel_rfl) (by simp [Try.ntmps38]) ?_
  simp (disch := first | exact dsch | kernel_rfl) only [go_sem, ↓reduceIte, Nat.reduceEqDiff, Nat.reduceLT, Nat.reduceAdd, reduceCtorEq, Int.reduceToNat, Try.ntmps38, Try.results38, hs.len]
  refine AOK_is (l1In_ok _ _ _ _) ?_
  intro H1 x1
  have bad : digB l = false → ∀ Hx : AH, Ext H Hx → Is (.tup [tx (digT l), .bool (digB l)]) H (.tup [.str ⟨#[]⟩, .bool false]) Hx := by
    intro hd Hx hx
    refine Is.mk ?_ hx
    simp only [digT, hd]; rfl
  by_cases hin : 1 ≤ (l.length : Int) ∧ (l.length : Int) ≤ 10
  · cases ha : l.all fun x => decide (0 ≤ x ∧ x ≤ 9)
    · simp (disch := first | exact dsch | kernel_rfl) only [go_sem, ↓reduceIte, Nat.reduceEqDiff, Nat.reduceLT, Nat.reduceAdd, reduceCtorEq, Int.reduceToNat, Try.ntmps38, Try.results38, decide_eq_true hin]
      refine AOK_is (l1All_ok l 0 9 s H1 (SliceAt.ext hs x1) hl9) ?_
      intro H2 x2
      simp (disch := first | exact dsch | kernel_rfl) only [go_sem, ↓reduceIte, Nat.reduceEqDiff, Nat.reduceLT, Nat.reduceAdd, reduceCtorEq, Int.reduceToNat, Try.ntmps38, Try.results38, ha]
      exact bad (by simp only [digB, ha, Bool.and_false]) _ (by exact xt)
    · have hd : digB l = true := by simp only [digB, ha, Bool.and_true]; exact decide_eq_true (by omega)
      obtain ⟨h1, h2, h9⟩ := digB_get hd
      simp (disch := first | exact dsch | kernel_rfl) only [go_sem, ↓reduceIte, Nat.reduceEqDiff, Nat.reduceLT, Nat.reduceAdd, reduceCtorEq, Int.reduceToNat, Try.ntmps38, Try.results38, decide_eq_true hin]
      refine AOK_is (l1All_ok l 0 9 s H1 (SliceAt.ext hs x1) hl9) ?_
      intro H2 x2
      have x12 := x1.trans x2
      simp (disch := first | exact dsch | kernel_rfl) only [go_sem, ↓reduceIte, Nat.reduceEqDiff, Nat.reduceLT, Nat.reduceAdd, reduceCtorEq, Int.reduceToNat, Try.ntmps38, Try.results38, ha, hs.len]
      refine (AK.countx 18 [4, 6, 18, 19, 20, 21, 22, 23, 24, 25, 26] (by kernel_rfl) 0 l.length (fun i tm H' => tm 4 = tx ((l.take i).map fun x => 48 + x)) (by rfl) (by omega) (by simp [go_sem]; rfl) ?_)
      rintro i tm H' K g1 g2 fr hq hx h4 hK
      have hx2 : Ext H H' := x12.trans hx
      by_cases hi : i < l.length
      · have hi' : (i : Int) < (l.length : Int) := by omega
        obtain ⟨g0, g9⟩ := h9 i hi
        have ta := tx_add (a := (l.take i).map fun x => 48 + x) (b := [48 + l.getD i 0]) (by simp; omega)
        simp (disch := first | exact dsch | kernel_rfl) only [go_sem, ↓reduceIte, Nat.reduceEqDiff, Nat.reduceLT, Nat.reduceAdd, reduceCtorEq, Int.reduceToNat, Try.ntmps38, Try.results38, fr, hq, h4, hi', hs.ix, hs.ld]
        refine AOK_is (l1Num_ok _ _ g0 g9) ?_
        intro H3 x3
        simp (disch := first | exact dsch | kernel_rfl) only [go_sem, ↓reduceIte, Nat.reduceEqDiff, Nat.reduceLT, Nat.reduceAdd, reduceCtorEq, Int.reduceToNat, Try.ntmps38, Try.results38, fr, hq, h4, hi', ta]
        refine hK _ _ hi (by rfl) (hx.trans x3) ?_
        rw [take_succ_getD hi]; rfl
      · have hi' : ¬ (i : Int) < (l.length : Int) := by omega
        have ei : i = l.length := by omega
        rw [ei, List.take_length] at h4
        simp (disch := first | exact dsch | kernel_rfl) only [go_sem, ↓reduceIte, Nat.reduceEqDiff, Nat.reduceLT, Nat.reduceAdd, reduceCtorEq, Int.reduceToNat, Try.ntmps38, Try.results38, fr, hq, h4, hi', hs.len]
        exact Is.mk (by simp only [digT, hd, if_true]) hx2
  · simp (disch := first | exact dsch | kernel_rfl) only [go_sem, ↓reduceIte, Nat.reduceEqDiff, Nat.reduceLT, Nat.reduceAdd, reduceCtorEq, Int.reduceToNat, Try.ntmps38, Try.results38, decide_eq_false hin]
    exact bad (by simp only [digB, Bool.and_eq_false_iff]; left; exact decide_eq_false (by omega)) _ (by exact xt)

/- Texts, read. -/
def parB (cs : List Int) : Bool := decide (1 ≤ cs.length ∧ cs.length ≤ 10) && cs.all fun x => decide (48 ≤ x ∧ x ≤ 57)
def parL (cs : List Int) : List Int := cs.map fun x => x - 48
theorem parB_dig (cs : List Int) : digB (parL cs) = parB cs := by
  unfold digB parB parL
  rw [List.length_map, List.all_map]
  congr 1
  congr 1
  funext x
  simp only [Function.comp]
  exact decide_eq_decide.2 ⟨fun h => by omega, fun h => by omega⟩
theorem parL_digT {cs : List Int} (h : parB cs = true) : digT (parL cs) = cs := by
  rw [digT, parB_dig, if_pos h, parL, List.map_map]
  rw [show ((fun x : Int => 48 + x) ∘ fun x => x - 48) = id from funext fun x => by simp only [Function.comp, id]; omega]
  simp
def ParR (n0 : Nat) (cs : List Int) (v : AV) (H : AH) : Prop :=
  (parB cs = false ∧ v = .tup [.nilsl, .bool false]) ∨ (parB cs = true ∧ ∃ s, v = .tup [s, .bool true] ∧ IntsAt H s (parL cs) ∧ (s = .nilsl ∨ n0 ≤ s.sb))

theorem u8_int {n : Int} (h : 0 ≤ n) (h2 : n < 256) : IntKind.i64.wrap n = n := by
  obtain ⟨m, rfl⟩ := Int.eq_ofNat_of_zero_le h
  exact wrap64_nat (by omega)
theorem implParseColours_ok (cs : List Int) (H : AH) (hb : Bytes cs) (hl : cs.length < 1000000) : E 40 [tx cs] H (Gives H (ParR H.size cs)) := by
  refine Ev.enterK (fn := Try.f40) rfl Try.func40 rfl (by kernel_rfl) (by simp [Try.ntmps40]) ?_
  simp (disch := first | exact dsch | kernel_rfl) only [go_sem, ↓reduceIte, Nat.reduceEqDiff, Nat.reduceLT, Nat.reduceAdd, reduceCtorEq, Int.reduceToNat, Try.ntmps40, Try.results40, tx_len]
  refine AOK_is (in_ok _ _ _ _) ?_
  intro H1 x1
  by_cases hin : 1 ≤ (cs.length : Int) ∧ (cs.length : Int) ≤ 10
  · simp (disch := first | exact dsch | kernel_rfl) only [go_sem, ↓reduceIte, Nat.reduceEqDiff, Nat.reduceLT, Nat.reduceAdd, reduceCtorEq, Int.reduceToNat, Try.ntmps40, Try.results40, decide_eq_true hin, tx_len]
    refine (AK.count 13 [4, 5, 13, 14, 15, 16, 17, 18, 19, 20, 21, 22, 23, 24] (by kernel_rfl) 0 cs.length (fun i tm H' => ∃ v, tm 4 = v ∧ OwnC H H' v (ints ((cs.take i).map fun x => x - 48)) ∧ Ext H H') (by rfl) (by omega) ⟨.sl H1.size 0 0, by simp [go_sem], OwnC.new x1.size [], by exact xt⟩ ?_)
    rintro i tm H' K g1 g2 fr hq ⟨v, h4, ho, hx2⟩ hK
    by_cases hi : i < cs.length
    · have hi' : (i : Int) < (cs.length : Int) := by omega
      obtain ⟨g0, g9⟩ := hb.get hi
      have ap := ho.app_ints (k := .i64) (n := cs.getD i 0 - 48) (ints_one _) (by rw [ints_length]; simp; omega) (Ext.refl H')
      have ow := ho.next (y := .int .i64 (cs.getD i 0 - 48)) (Ext.refl H') hx2
      have xx := (Ext.sans ho (hx2.trans (Ext.push H' (.cells 1 false [.int .i64 (cs.getD i 0 - 48)])))).trans (Ext.push _ (.cells 1 false (ints ((cs.take i).map fun x => x - 48) ++ [.int .i64 (cs.getD i 0 - 48)])))
      simp (disch := first | exact dsch | kernel_rfl) only [go_sem, ↓reduceIte, Nat.reduceEqDiff, Nat.reduceLT, Nat.reduceAdd, reduceCtorEq, Int.reduceToNat, Try.ntmps40, Try.results40, fr, hq, h4, hi', tx_ix hb hi, u8_int g0 g9, ap]
      refine hK _ _ hi (by rfl) ⟨_, rfl, ?_, xx⟩
      rw [take_succ_getD hi, ints_append]; exact ow
    · have hi' : ¬ (i : Int) < (cs.length : Int) := by omega
      have ei : i = cs.length := by omega
      rw [ei, List.take_length] at ho
      simp (disch := first | exact dsch | kernel_rfl) only [go_sem, ↓reduceIte, Nat.reduceEqDiff, Nat.reduceLT, Nat.reduceAdd, reduceCtorEq, Int.reduceToNat, Try.ntmps40, Try.results40, fr, hq, h4, hi', tx_len]
      refine AOK_is (isDigits_ok (parL cs) v H' ho.slice (by simp [parL]; omega)) ?_
      intro H3 x3
      have hx3 := hx2.trans x3
      cases hd : parB cs
      · simp (disch := first | exact dsch | kernel_rfl) only [go_sem, ↓reduceIte, Nat.reduceEqDiff, Nat.reduceLT, Nat.reduceAdd, reduceCtorEq, Int.reduceToNat, Try.ntmps40, Try.results40, fr, hq, h4, parB_dig, hd]
        exact ⟨hx3, .inl ⟨hd, rfl⟩⟩
      · simp (disch := first | exact dsch | kernel_rfl) only [go_sem, ↓reduceIte, Nat.reduceEqDiff, Nat.reduceLT, Nat.reduceAdd, reduceCtorEq, Int.reduceToNat, Try.ntmps40, Try.results40, fr, hq, h4, parB_dig, hd]
        exact ⟨hx3, .inr ⟨hd, _, rfl, SliceAt.ext ho.slice x3, ho.imp (·.1) fun ⟨c, h1, h2, _⟩ => by rw [h1]; exact h2⟩⟩
  · simp (disch := first | exact dsch | kernel_rfl) only [go_sem, ↓reduceIte, Nat.reduceEqDiff, Nat.reduceLT, Nat.reduceAdd, reduceCtorEq, Int.reduceToNat, Try.ntmps40, Try.results40, decide_eq_false hin]
    exact ⟨by exact xt, .inl ⟨by simp only [parB, Bool.and_eq_false_iff]; left; exact decide_eq_false (by omega), rfl⟩⟩

theorem clParse_ok (cs : List Int) (H : AH) (hb : Bytes cs) (hl : cs.length < 1000000) : E 157 [tx cs] H (Gives H (ParR H.size cs)) := by
  refine Ev.enterK (fn := Try.f157) rfl Try.func157 rfl (by kernel_rfl) (by simp [Try.ntmps157]) ?_
  simp (disch := first | exact dsch | kernel_rfl) only [go_sem, ↓reduceIte, Nat.reduceEqDiff, Nat.reduceLT, Nat.reduceAdd, reduceCtorEq, Int.reduceToNat, Try.ntmps157, Try.results157, tx_len]
  refine AOK_is (l1In_ok _ _ _ _) ?_
  intro H1 x1
  by_cases hin : 1 ≤ (cs.length : Int) ∧ (cs.length : Int) ≤ 10
  · simp (disch := first | exact dsch | kernel_rfl) only [go_sem, ↓reduceIte, Nat.reduceEqDiff, Nat.reduceLT, Nat.reduceAdd, reduceCtorEq, Int.reduceToNat, Try.ntmps157, Try.results157, decide_eq_true hin, tx_len]
    refine (AK.count 5 [2, 3, 4, 5, 10, 11, 12, 13, 14, 15, 16, 17, 18, 19, 20, 21, 22, 23, 24, 25, 26, 27, 28, 29, 30, 31, 32, 33] (by kernel_rfl) 0 cs.length (fun i tm H' => ∃ v, tm 4 = v ∧ OwnC H H' v (ints ((cs.take i).map fun x => x - 48)) ∧ Ext H H' ∧ ∀ j < i, 48 ≤ cs.getD j 0 ∧ cs.getD j 0 ≤ 57) (by rfl) (by omega) ⟨.nilsl, by simp [go_sem], OwnC.nil, by exact xt, fun j hj => by omega⟩ ?_)
    rintro i tm H' K g1 g2 fr hq ⟨v, h4, ho, hx2, hall⟩ hK
    by_cases hi : i < cs.length
    · have hi' : (i : Int) < (cs.length : Int) := by omega
      obtain ⟨g0, g9⟩ := hb.get hi
      by_cases hd : 48 ≤ cs.getD i 0 ∧ cs.getD i 0 ≤ 57
      · have d1 : ¬ cs.getD i 0 < 48 := by omega
        have d2 : ¬ 57 < cs.getD i 0 := by omega
        have ap := ho.app_ints (k := .i64) (n := cs.getD i 0 - 48) (ints_one _) (by rw [ints_length]; simp; omega) (Ext.refl H')
        have ow := ho.next (y := .int .i64 (cs.getD i 0 - 48)) (Ext.refl H') hx2
        have xx := (Ext.sans ho (hx2.trans (Ext.push H' (.cells 1 false [.int .i64 (cs.getD i 0 - 48)])))).trans (Ext.push _ (.cells 1 false (ints ((cs.take i).map fun x => x - 48) ++ [.int .i64 (cs.getD i 0 - 48)])))
        simp (disch := first | exact dsch | kernel_rfl) only [go_sem, ↓reduceIte, Nat.reduceEqDiff, Nat.reduceLT, Nat.reduceAdd, reduceCtorEq, Int.reduceToNat, Try.ntmps157, Try.results157, fr, hq, h4, hi', tx_len, tx_ix hb hi, d1, d2, wrap_byte (x := cs.getD i 0 - 48) (by omega) (by omega), u8_int (n := cs.getD i 0 - 48) (by omega) (by omega), ap]
        refine hK _ _ hi (by rfl) ⟨_, rfl, ?_, xx, fun j hj => ?_⟩
        · rw [take_succ_getD hi, ints_append]; exact ow
        · by_cases e : j = i
          · subst e; exact hd
          · exact hall j (by omega)
      · have hbad : parB cs = false := by
          cases h : parB cs with
          | false => rfl
          | true =>
            simp only [parB, Bool.and_eq_true, List.all_eq_true, decide_eq_true_eq] at h
            exact (hd (h.2 _ (getD_mem hi))).elim
        by_cases d1 : cs.getD i 0 < 48
        · simp (disch := first | exact dsch | kernel_rfl) only [go_sem, ↓reduceIte, Nat.reduceEqDiff, Nat.reduceLT, Nat.reduceAdd, reduceCtorEq, Int.reduceToNat, Try.ntmps157, Try.results157, fr, hq, h4, hi', tx_len, tx_ix hb hi, d1]
          exact ⟨hx2, .inl ⟨hbad, rfl⟩⟩
        · have d2 : 57 < cs.getD i 0 := by omega
          simp (disch := first | exact dsch | kernel_rfl) only [go_sem, ↓reduceIte, Nat.reduceEqDiff, Nat.reduceLT, Nat.reduceAdd, reduceCtorEq, Int.reduceToNat, Try.ntmps157, Try.results157, fr, hq, h4, hi', tx_len, tx_ix hb hi, d1, d2]
          exact ⟨hx2, .inl ⟨hbad, rfl⟩⟩
    · have hi' : ¬ (i : Int) < (cs.length : Int) := by omega
      have ei : i = cs.length := by omega
      subst ei
      rw [List.take_length] at ho
      have hgood : parB cs = true := by
        simp only [parB, Bool.and_eq_true, List.all_eq_true, decide_eq_true_eq]
        refine ⟨⟨by omega, by omega⟩, fun x hx => ?_⟩
        obtain ⟨j, hj, rfl⟩ := List.getElem_of_mem hx
        have := hall j hj
        simpa [List.getD, hj] using this
      simp (disch := first | exact dsch | kernel_rfl) only [go_sem, ↓reduceIte, Nat.reduceEqDiff, Nat.reduceLT, Nat.reduceAdd, reduceCtorEq, Int.reduceToNat, Try.ntmps157, Try.results157, fr, hq, h4, hi', tx_len]
      exact ⟨hx2, .inr ⟨hgood, _, rfl, ho.slice, ho.imp (·.1) fun ⟨c, h1, h2, _⟩ => by rw [h1]; exact h2⟩⟩
  · simp (disch := first | exact dsch | kernel_rfl) only [go_sem, ↓reduceIte, Nat.reduceEqDiff, Nat.reduceLT, Nat.reduceAdd, reduceCtorEq, Int.reduceToNat, Try.ntmps157, Try.results157, decide_eq_false hin]
    exact ⟨by exact xt, .inl ⟨by simp only [parB, Bool.and_eq_false_iff]; left; exact decide_eq_false (by omega), rfl⟩⟩

theorem specParseColours_ok (cs : List Int) (H : AH) (hb : Bytes cs) (hl : cs.length < 1000000) : E 41 [tx cs] H (Gives H (ParR H.size cs)) := by
  refine Ev.enterK (fn := Try.f41) rfl Try.func41 rfl (by kernel_rfl) (by simp [Try.ntmps41]) ?_
  simp (disch := first | exact dsch | kernel_rfl) only [go_sem, ↓reduceIte, Nat.reduceEqDiff, Nat.reduceLT, Nat.reduceAdd, reduceCtorEq, Int.reduceToNat, Try.ntmps41, Try.results41]
  refine AOK_gives (clParse_ok cs H hb hl) ?_
  rintro v H1 x1 (⟨hp, rfl⟩ | ⟨hp, s, rfl, h1, h2⟩)
  · simp (disch := first | exact dsch | kernel_rfl) only [go_sem, ↓reduceIte, Nat.reduceEqDiff, Nat.reduceLT, Nat.reduceAdd, reduceCtorEq, Int.reduceToNat, Try.ntmps41, Try.results41]
    exact ⟨x1, .inl ⟨hp, rfl⟩⟩
  · simp (disch := first | exact dsch | kernel_rfl) only [go_sem, ↓reduceIte, Nat.reduceEqDiff, Nat.reduceLT, Nat.reduceAdd, reduceCtorEq, Int.reduceToNat, Try.ntmps41, Try.results41]
    exact ⟨x1, .inr ⟨hp, s, rfl, h1, h2⟩⟩

set_option maxRecDepth 10000 in
theorem spoilt_ok (b A : Nat) (cs w : List Int) (H : AH) (hc : Cur H b A) (hA : A < 4611686018427360000) (hb : Bytes cs) (hw : Bytes w) (hl : cs.length < 1000) (hwl : 1 ≤ w.length) (hwl2 : w.length < 1000) :
    E 155 [.ptr b 0, tx cs, tx w] H (Draws b A 50 H fun v _ => ∃ ds, v = tx ds ∧ Bytes ds ∧ ds.length ≤ cs.length + 2) := by
  have hbH := hc.lt
  refine Ev.enterK (fn := Try.f155) rfl Try.func155 rfl (by kernel_rfl) (by simp [Try.ntmps155]) ?_
  simp (disch := first | exact dsch | kernel_rfl) only [go_sem, ↓reduceIte, Nat.reduceEqDiff, Nat.reduceLT, Nat.reduceAdd, reduceCtorEq, Int.reduceToNat, Try.ntmps155, Try.results155]
  refine AOK_calls (pick_ok b A 2 H hc (by omega)) ?_
  rintro _ H1 ⟨b1, c1, y, rfl, hy, _⟩
  have e1 : (1 : Int) + (y : Int) = ((1 + y : Nat) : Int) := by omega
  simp (disch := first | exact dsch | kernel_rfl) only [go_sem, ↓reduceIte, Nat.reduceEqDiff, Nat.reduceLT, Nat.reduceAdd, reduceCtorEq, Int.reduceToNat, Try.ntmps155, Try.results155, e1]
  refine (AK.while [1, 7, 8, 9, 13, 14, 15, 16, 17, 18, 19, 20, 21, 22, 23, 24, 25, 26, 27, 28, 29, 30, 31, 32, 33, 34, 35, 36, 37, 38, 39, 40, 41, 42, 43, 44, 45, 46, 47, 48, 49, 50, 51, 52, 53, 54, 55, 56, 57, 58, 59, 60, 61, 62, 63, 64, 65, 66] (by kernel_rfl) (fun k tm H' => ∃ ds, tm 0 = .ptr b 0 ∧ tm 2 = tx w ∧ tm 7 = .int .i64 k ∧ tm 1 = tx ds ∧ Bytes ds ∧ k ≤ 2 ∧ ds.length + k ≤ cs.length + 2 ∧ But b H H' ∧ Cur H' b (A + 2 + 6 * (2 - k))) (1 + y) ⟨cs, by simp [go_sem], by simp [go_sem], by simp [go_sem], by simp [go_sem], hb, by omega, by omega, b1, c1.le (by omega)⟩ ?_)
  rintro k tm H' K fr ⟨ds, h0, h2, h7, h1, hds, hk2, hlen, hb1, hc1⟩ hK
  by_cases hk : 0 < k
  · have hk' : (0 : Int) < (k : Int) := by omega
    by_cases hd0 : 0 < ds.length
    · have hd0' : (0 : Int) < (ds.length : Int) := by omega
      simp (disch := first | exact dsch | kernel_rfl) only [go_sem, ↓reduceIte, Nat.reduceEqDiff, Nat.reduceLT, Nat.reduceAdd, reduceCtorEq, Int.reduceToNat, Try.ntmps155, Try.results155, h0, h2, h7, h1, hk', tx_len, hd0']
      refine AOK_calls (pick_ok b _ ds.length H' hc1 (by omega)) ?_
      rintro _ H2 ⟨b2, c2, i, rfl, hi, _⟩
      have hi' : i < ds.length := by omega
      simp (disch := first | exact dsch | kernel_rfl) only [go_sem, ↓reduceIte, Nat.reduceEqDiff, Nat.reduceLT, Nat.reduceAdd, reduceCtorEq, Int.reduceToNat, Try.ntmps155, Try.results155, h0, h2, h7, h1, tx_len]
      refine AOK_calls (pick_ok b _ w.length H2 c2 (by omega)) ?_
      rintro _ H3 ⟨b3, c3, j, rfl, hj, _⟩
      have hj' : j < w.length := by omega
      simp (disch := first | exact dsch | kernel_rfl) only [go_sem, ↓reduceIte, Nat.reduceEqDiff, Nat.reduceLT, Nat.reduceAdd, reduceCtorEq, Int.reduceToNat, Try.ntmps155, Try.results155, h0, h2, h7, h1, tx_ix hw hj']
      have x4 := Ext.push H3 (.cells 1 false [.int .u8 (w.getD j 0)])
      generalize H3.push (.cells 1 false [.int .u8 (w.getD j 0)]) = H4 at *
      refine AOK_calls (pick_ok b _ 3 H4 (c3.ext x4) (by omega)) ?_
      rintro _ H5 ⟨b5, c5, z, rfl, hz, _⟩
      have bb : But b H H5 := (((hb1.trans b2).trans b3).trans (x4.but b)).trans b5
      have e2 : (k : Int) - 1 = ((k - 1 : Nat) : Int) := by omega
      have hw1 : Bytes [w.getD j 0] := fun x hx => by simp at hx; rw [hx]; exact hw.get hj'
      have e3 : (i : Int) + 1 = ((i + 1 : Nat) : Int) := by omega
      have p1 := fun {H : AH} => tx_pre (H := H) (a := ds) (i := i) (by omega)
      have p2 := fun {H : AH} => tx_post (H := H) (a := ds) (i := i) (by omega)
      have p3 := fun {H : AH} => tx_post (H := H) (a := ds) (i := i + 1) (by omega)
      have a1 := tx_add (a := ds.take i) (b := [w.getD j 0]) (by simp; omega)
      have a2 := tx_add (a := ds.take i ++ [w.getD j 0]) (b := ds.drop i) (by simp; omega)
      have a3 := tx_add (a := ds.take i ++ [w.getD j 0]) (b := ds.drop (i + 1)) (by simp; omega)
      have a4 := tx_add (a := ds.take i) (b := ds.drop (i + 1)) (by simp; omega)
      by_cases z0 : z = 0
      · have d0 : decide ((z : Int) = 0) = true := by simp [z0]
        (simp (disch := first | exact dsch | kernel_rfl) only [go_sem, ↓reduceIte, Nat.reduceEqDiff, Nat.reduceLT, Nat.reduceAdd, reduceCtorEq, Int.reduceToNat, Try.ntmps155, Try.results155, h0, h2, h7, h1, d0, p1, p2, p3, a1, a2, a3, a4, e2, e3] <;> repeat' ((first | refine AK.drawT (by kernel_rfl) ?_ | ((first | refine ABK_mk ?_ ?_ | refine AGK_mk ?_ ?_) <;> intro hb <;> (try simp only [decide_eq_true_eq, decide_eq_false_iff_not, Bool.not_eq_true', Bool.not_eq_false', Bool.not_not] at hb) <;> (try (exfalso; omega)) <;> (try subst hb) <;> try simp only [hb, decide_true, decide_false])) <;> try simp (disch := first | exact dsch | kernel_rfl) only [go_sem, ↓reduceIte, Nat.reduceEqDiff, Nat.reduceLT, Nat.reduceAdd, reduceCtorEq, Int.reduceToNat, Try.ntmps155, Try.results155, h0, h2, h7, h1, d0, p1, p2, p3, a1, a2, a3, a4, e2, e3]))
        exact hK (k - 1) _ _ (by omega) ⟨_, by simp [go_sem, h0], by simp [go_sem, h2], by simp [go_sem], rfl, (hds.take i |>.append hw1).append (hds.drop i), by omega, by simp; omega, bb, c5.le (by omega)⟩
      · have d0 : decide ((z : Int) = 0) = false := decide_eq_false (by omega)
        by_cases z1 : z = 1
        · have d1 : decide ((z : Int) = 1) = true := by simp [z1]
          (simp (disch := first | exact dsch | kernel_rfl) only [go_sem, ↓reduceIte, Nat.reduceEqDiff, Nat.reduceLT, Nat.reduceAdd, reduceCtorEq, Int.reduceToNat, Try.ntmps155, Try.results155, h0, h2, h7, h1, d0, d1, p1, p2, p3, a1, a2, a3, a4, e2, e3] <;> repeat' ((first | refine AK.drawT (by kernel_rfl) ?_ | ((first | refine ABK_mk ?_ ?_ | refine AGK_mk ?_ ?_) <;> intro hb <;> (try simp only [decide_eq_true_eq, decide_eq_false_iff_not, Bool.not_eq_true', Bool.not_eq_false', Bool.not_not] at hb) <;> (try (exfalso; omega)) <;> (try subst hb) <;> try simp only [hb, decide_true, decide_false])) <;> try simp (disch := first | exact dsch | kernel_rfl) only [go_sem, ↓reduceIte, Nat.reduceEqDiff, Nat.reduceLT, Nat.reduceAdd, reduceCtorEq, Int.reduceToNat, Try.ntmps155, Try.results155, h0, h2, h7, h1, d0, d1, p1, p2, p3, a1, a2, a3, a4, e2, e3]))
          exact hK (k - 1) _ _ (by omega) ⟨_, by simp [go_sem, h0], by simp [go_sem, h2], by simp [go_sem], rfl, (hds.take i |>.append hw1).append (hds.drop (i + 1)), by omega, by simp; omega, bb, c5.le (by omega)⟩
        · have d1 : decide ((z : Int) = 1) = false := decide_eq_false (by omega)
          (simp (disch := first | exact dsch | kernel_rfl) only [go_sem, ↓reduceIte, Nat.reduceEqDiff, Nat.reduceLT, Nat.reduceAdd, reduceCtorEq, Int.reduceToNat, Try.ntmps155, Try.results155, h0, h2, h7, h1, d0, d1, p1, p2, p3, a1, a2, a3, a4, e2, e3] <;> repeat' ((first | refine AK.drawT (by kernel_rfl) ?_ | ((first | refine ABK_mk ?_ ?_ | refine AGK_mk ?_ ?_) <;> intro hb <;> (try simp only [decide_eq_true_eq, decide_eq_false_iff_not, Bool.not_eq_true', Bool.not_eq_false', Bool.not_not] at hb) <;> (try (exfalso; omega)) <;> (try subst hb) <;> try simp only [hb, decide_true, decide_false])) <;> try simp (disch := first | exact dsch | kernel_rfl) only [go_sem, ↓reduceIte, Nat.reduceEqDiff, Nat.reduceLT, Nat.reduceAdd, reduceCtorEq, Int.reduceToNat, Try.ntmps155, Try.results155, h0, h2, h7, h1, d0, d1, p1, p2, p3, a1, a2, a3, a4, e2, e3]))
          exact hK (k - 1) _ _ (by omega) ⟨_, by simp [go_sem, h0], by simp [go_sem, h2], by simp [go_sem], rfl, (hds.take i).append (hds.drop (i + 1)), by omega, by simp; omega, bb, c5.le (by omega)⟩
    · have hd0' : ¬ (0 : Int) < (ds.length : Int) := by omega
      simp (disch := first | exact dsch | kernel_rfl) only [go_sem, ↓reduceIte, Nat.reduceEqDiff, Nat.reduceLT, Nat.reduceAdd, reduceCtorEq, Int.reduceToNat, Try.ntmps155, Try.results155, h0, h2, h7, h1, hk', tx_len, hd0']
      exact ⟨hb1, hc1.le (by omega), ds, rfl, hds, by omega⟩
  · have hk' : ¬ (0 : Int) < (k : Int) := by omega
    simp (disch := first | exact dsch | kernel_rfl) only [go_sem, ↓reduceIte, Nat.reduceEqDiff, Nat.reduceLT, Nat.reduceAdd, reduceCtorEq, Int.reduceToNat, Try.ntmps155, Try.results155, h0, h2, h7, h1, hk']
    exact ⟨hb1, hc1.le (by omega), ds, rfl, hds, by omega⟩

theorem tx_0120 : AV.str ⟨#[48, 49, 50, 48]⟩ = tx [48, 49, 50, 48] := rfl
theorem tx_019 : AV.str ⟨#[48, 49, 57, 58, 45]⟩ = tx [48, 49, 57, 58, 45] := rfl
theorem digT_bytes (l : List Int) : Bytes (digT l) := by
  intro x hx
  unfold digT at hx
  split at hx
  · rename_i h
    obtain ⟨y, hy, rfl⟩ := List.mem_map.1 hx
    simp only [digB, Bool.and_eq_true, List.all_eq_true, decide_eq_true_eq] at h
    have := h.2 y hy
    omega
  · cases hx
theorem digT_len (l : List Int) : (digT l).length ≤ 10 := by
  unfold digT
  split
  · rename_i h
    simp only [digB, Bool.and_eq_true, decide_eq_true_eq] at h
    rw [List.length_map]; omega
  · simp

set_option maxRecDepth 10000 in
theorem drawParseColours_ok (v : AV) (l : List Int) (H : AH) (hc : CodeAt H v l) : E 39 [v] H (Gives H fun v _ => ∃ cs, v = tx cs ∧ Bytes cs ∧ cs.length ≤ 100) := by
  have hv := SliceAt.isOne hc.dat
  refine Ev.enterK (fn := Try.f39) rfl Try.func39 rfl (by kernel_rfl) (by simp [Try.ntmps39]) ?_
  simp (disch := first | exact dsch | kernel_rfl) only [go_sem, ↓reduceIte, Nat.reduceEqDiff, Nat.reduceLT, Nat.reduceAdd, reduceCtorEq, Int.reduceToNat, Try.ntmps39, Try.results39]
  have cu := hc.cur
  have xb : Ext H (H.push (.cells 3 false [v, .int .i64 0, .int .u64 0])) := Ext.push _ _
  generalize H.push (.cells 3 false [v, .int .i64 0, .int .u64 0]) = Hb at *
  generalize hb0 : H.size = b at *
  refine AOK_gives (drawColoursText_ok v l Hb (hc.ext xb)) ?_
  rintro s H1 x1 ⟨q, q1, q2, _⟩
  simp (disch := first | exact dsch | kernel_rfl) only [go_sem, ↓reduceIte, Nat.reduceEqDiff, Nat.reduceLT, Nat.reduceAdd, reduceCtorEq, Int.reduceToNat, Try.ntmps39, Try.results39]
  refine AOK_is (specColoursText_ok q s H1 q1 (by omega)) ?_
  intro H2 x2
  have go : ∀ (cs : List Int) (H3 : AH), Bytes cs → cs.length ≤ 20 → But b Hb H3 → Gives H (fun v _ => ∃ cs, v = tx cs ∧ Bytes cs ∧ cs.length ≤ 100) (tx cs) H3 := by
    intro cs H3 h1 h2 h3
    exact ⟨But.new xb (by omega) h3, cs, rfl, h1, by omega⟩
  have bb : But b Hb H2 := (x1.trans x2).but b
  have h5 : Bytes [48, 49, 57, 58, 45] := fun x hx => by simp at hx; omega
  have h4 : Bytes [48, 49, 50, 48] := fun x hx => by simp at hx; omega
  have hq := digT_bytes q
  have hql := digT_len q
  cases hd : digB q
  · simp (disch := first | exact dsch | kernel_rfl) only [go_sem, ↓reduceIte, Nat.reduceEqDiff, Nat.reduceLT, Nat.reduceAdd, reduceCtorEq, Int.reduceToNat, Try.ntmps39, Try.results39, hd]
    refine AOK_calls (one_ok b 0 3 H2 (cu.ext (x1.trans x2)) (by omega)) ?_
    rintro _ H3 ⟨b3, c3, t, rfl⟩
    cases t
    · simp (disch := first | exact dsch | kernel_rfl) only [go_sem, ↓reduceIte, Nat.reduceEqDiff, Nat.reduceLT, Nat.reduceAdd, reduceCtorEq, Int.reduceToNat, Try.ntmps39, Try.results39]
      exact go [48, 49, 50, 48] _ h4 (by simp) (bb.trans b3)
    · simp (disch := first | exact dsch | kernel_rfl) only [go_sem, ↓reduceIte, Nat.reduceEqDiff, Nat.reduceLT, Nat.reduceAdd, reduceCtorEq, Int.reduceToNat, Try.ntmps39, Try.results39]
      refine AOK_calls (spoilt_ok b 2 [48, 49, 50, 48] [48, 49, 57, 58, 45] H3 c3 (by omega) h4 h5 (by simp) (by simp) (by simp)) ?_
      rintro _ H4 ⟨b4, c4, ds, rfl, hds, hl⟩
      simp (disch := first | exact dsch | kernel_rfl) only [go_sem, ↓reduceIte, Nat.reduceEqDiff, Nat.reduceLT, Nat.reduceAdd, reduceCtorEq, Int.reduceToNat, Try.ntmps39, Try.results39]
      exact go ds _ hds (by simp at hl; omega) ((bb.trans b3).trans b4)
  · simp (disch := first | exact dsch | kernel_rfl) only [go_sem, ↓reduceIte, Nat.reduceEqDiff, Nat.reduceLT, Nat.reduceAdd, reduceCtorEq, Int.reduceToNat, Try.ntmps39, Try.results39, hd]
    refine AOK_calls (one_ok b 0 3 H2 (cu.ext (x1.trans x2)) (by omega)) ?_
    rintro _ H3 ⟨b3, c3, t, rfl⟩
    cases t
    · simp (disch := first | exact dsch | kernel_rfl) only [go_sem, ↓reduceIte, Nat.reduceEqDiff, Nat.reduceLT, Nat.reduceAdd, reduceCtorEq, Int.reduceToNat, Try.ntmps39, Try.results39]
      exact go (digT q) _ hq (by omega) (bb.trans b3)
    · simp (disch := first | exact dsch | kernel_rfl) only [go_sem, ↓reduceIte, Nat.reduceEqDiff, Nat.reduceLT, Nat.reduceAdd, reduceCtorEq, Int.reduceToNat, Try.ntmps39, Try.results39]
      refine AOK_calls (spoilt_ok b 2 (digT q) [48, 49, 57, 58, 45] H3 c3 (by omega) hq h5 (by omega) (by simp) (by simp)) ?_
      rintro _ H4 ⟨b4, c4, ds, rfl, hds, hl⟩
      simp (disch := first | exact dsch | kernel_rfl) only [go_sem, ↓reduceIte, Nat.reduceEqDiff, Nat.reduceLT, Nat.reduceAdd, reduceCtorEq, Int.reduceToNat, Try.ntmps39, Try.results39]
      exact go ds _ hds (by omega) ((bb.trans b3).trans b4)

end Go.Proofs.Ytopbfmhajbjepaa
