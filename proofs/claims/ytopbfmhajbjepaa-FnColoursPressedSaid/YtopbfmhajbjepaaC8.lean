/- Contracts: products of graphs. -/
import Derived.Test.YtopbfmhajbjepaaC7
namespace Go.Proofs.Ytopbfmhajbjepaa
open Go
set_option linter.unusedSimpArgs false
set_option linter.unusedVariables false

def pairs1 (k : Nat) (es : List (List Nat)) (i : Nat) : List (Nat × Nat) := (List.range i).flatMap fun i => es.map fun e => (k * i + e.getD 0 0, k * i + e.getD 1 0)
def pairs2 (k : Nat) (es : List (List Nat)) (j : Nat) : List (Nat × Nat) := (List.range j).flatMap fun j => es.map fun e => (k * e.getD 0 0 + j, k * e.getD 1 0 + j)
def prodL (a b : List Nat) : List Nat := addAll (List.replicate (a.length * b.length) 0) (pairs1 b.length (edgeL b b.length) a.length ++ pairs2 b.length (edgeL a a.length) b.length)

def ProdOK (la : List Int) (oa : Bool) (lb : List Int) (ob : Bool) : Prop := GOKz la ∧ GOKz lb ∧ oa = ob ∧ la.length * lb.length ≤ 16
def ProdR (n : Nat) (la : List Int) (oa : Bool) (lb : List Int) (ob : Bool) (v : AV) (H' : AH) : Prop :=
  (¬ProdOK la oa lb ob ∧ v = .tup [.agg [.nilsl, .bool false], .bool false]) ∨
  ∃ a b s, la = zs a ∧ lb = zs b ∧ ProdOK la oa lb ob ∧ v = .tup [.agg [s, .bool oa], .bool true] ∧ OwnAt n H' s (ints (zs (prodL a b)))
def Prod (f : FuncId) : Prop := ∀ (la lb : List Int) (oa ob : Bool) (sa sb : AV) (H : AH), IntsAt H sa la → IntsAt H sb lb → la.length < 2147483648 → lb.length < 2147483648 →
    E f [.agg [sa, .bool oa], .agg [sb, .bool ob]] H (Gives H (ProdR H.size la oa lb ob))

/-- A graph that is being made. -/
structure Mk (Hc H' : AH) (b c m : Nat) (o : Bool) (l : List Nat) : Prop where
  ext : Ext Hc H'
  row : RowAt H' b l
  len : l.length = m
  box : H'.blk c = .cells 2 false [.sl b 0 m, .bool o]
  lt : ∀ a, l.getD a 0 < 2 ^ m
theorem addE_lt {l : List Nat} {m i j : Nat} (hl : l.length = m) (h : ∀ a, l.getD a 0 < 2 ^ m) (hi : i < m) (hj : j < m) (a : Nat) : (addE l i j).getD a 0 < 2 ^ m := by
  apply lt_pow_of_bits
  intro k hk
  rw [addE_bit (by omega) (by omega)] at hk
  simp only [Bool.or_eq_true, decide_eq_true_eq] at hk
  rcases hk with (hk | hk) | hk
  · exact bits_of_lt_pow (h a) hk
  · omega
  · omega
theorem Mk.mono {Hc H' H1 : AH} {b c m : Nat} {o : Bool} {l : List Nat} (h : Mk Hc H' b c m o l) (x : Ext H' H1) : Mk Hc H1 b c m o l := ⟨h.ext.trans x, h.row.ext x, h.len, x.cells h.box, h.lt⟩
theorem Mk.step {Hc H' H1 : AH} {b c m : Nat} {o : Bool} {l : List Nat} (h : Mk Hc H' b c m o l) (hb : Hc.size ≤ b) (hc : c ≠ b) {i j : Nat} (hi : i < m) (hj : j < m) (x : Ext (H'.put b (rowBlk (addE l i j))) H1) : Mk Hc H1 b c m o (addE l i j) :=
  ⟨(h.ext.put hb _).trans x, RowAt.of h.row.lt x, by rw [addE_length, h.len], by rw [x.cells (b := c) (by rw [put_blk_ne hc]; exact h.box)], fun a => addE_lt h.len h.lt hi hj a⟩

/-- An edge is added, where the call stands. -/
theorem add_call {f : FuncId} (hf : Adds f) {P : Nat} {ops : Array Oper} {tot : List Nat} {i0 : Nat} {d : Option Tmp} {args : Array Operand} {ts : Array TypeId} {rest : List Oper} {ks : List KI} {tm : Tm} {H : AH} {Q : AExit → Tm → AH → Prop}
    {Hc : AH} {b c m : Nat} {o : Bool} {l : List Nat} (hM : Mk Hc H b c m o l) (hb : Hc.size ≤ b) (hc : c ≠ b) (hm : m ≤ 16) (i j : Nat) (hi : i < m) (hj : j < m) (ht : tot.contains i0 = true)
    (ha : args.toList.map (ev tm) = [.agg [.sl b 0 m, .bool o], .int .i64 i, .int .i64 j])
    (hk : ∀ H1, Mk Hc H1 b c m o (addE l i j) → (∀ n, b < n → Ext (H.young n) (H1.young n)) → VK Try.prog TA PR P ops Dr.all tot (i0 + 1) rest ks (tm.put d (.tup [])) H1 Q) :
    AOK Try.prog TA PR P ops Dr.all tot i0 d (.call { callee := .value (.func f), args := args, argTypes := ts }) rest ks tm H Q := by
  have hp : 2 ^ m ≤ 65536 := Nat.pow_le_pow_right (n := 2) (by omega) hm
  refine AOK_callt ht (R := fun v H' => v = .tup [] ∧ Ext (H.put b (rowBlk (addE l i j))) H') ?_ ?_
  · rw [ha]
    have := hf l o b i j H hM.row (by rw [hM.len]; omega) (by rw [hM.len]; omega) (by rw [hM.len]; omega) (fun k _ => by have := hM.lt k; omega)
    rwa [hM.len] at this
  · rintro v H1 ⟨rfl, x⟩
    refine hk H1 (hM.step hb hc hi hj x) fun n hn => ?_
    have := x.young n
    rwa [young_put hn] at this

theorem pairs1_bd {k : Nat} {b : List Nat} {i : Nat} (hk : k = b.length) : ∀ p ∈ pairs1 k (edgeL b k) i, p.1 < i * k ∧ p.2 < i * k := by
  subst hk
  intro p hp
  unfold pairs1 at hp
  simp only [List.mem_flatMap, List.mem_range, List.mem_map] at hp
  obtain ⟨i', hi', e, he, rfl⟩ := hp
  obtain ⟨x, y, rfl, h1, h2, h3, _⟩ := edge_form he
  have := Nat.mul_le_mul_left b.length (Nat.succ_le_of_lt hi')
  simp only [List.getD_cons_zero, List.getD_cons_succ]
  rw [Nat.mul_succ] at this
  rw [Nat.mul_comm i b.length]
  constructor <;> omega

theorem GOK.lt {a : List Nat} (h : GOK a) (k : Nat) : a.getD k 0 < 65536 := by
  have hp : 2 ^ a.length ≤ 65536 := Nat.pow_le_pow_right (n := 2) (by omega) h.1.2
  by_cases hk : k < a.length
  · have := h.2.1 k hk; omega
  · simp [List.getD, hk]
theorem edge_count {a : List Nat} (h : a.length ≤ 16) : (edgeL a a.length).length ≤ 256 := Nat.le_trans (edgeL_length _ _) (Nat.mul_le_mul h h)
theorem take_map_succ {α : Type} {es : List (List Nat)} {j : Nat} (h : j < es.length) (f : List Nat → α) : (es.take (j + 1)).map f = (es.take j).map f ++ [f (es.getD j [])] := by
  rw [List.take_add_one, List.map_append]; simp [List.getD, h]
theorem getD_es {es : List (List Nat)} {j : Nat} (h : j < es.length) : es.getD j [] ∈ es := by simp [List.getD, h]
theorem pairs1_succ (k : Nat) (es : List (List Nat)) (i : Nat) : pairs1 k es (i + 1) = pairs1 k es i ++ es.map fun e => (k * i + e.getD 0 0, k * i + e.getD 1 0) := by
  unfold pairs1; rw [List.range_succ, List.flatMap_append]; simp
theorem pairs2_succ (k : Nat) (es : List (List Nat)) (i : Nat) : pairs2 k es (i + 1) = pairs2 k es i ++ es.map fun e => (k * e.getD 0 0 + i, k * e.getD 1 0 + i) := by
  unfold pairs2; rw [List.range_succ, List.flatMap_append]; simp

theorem pairs1_step {k n i : Nat} {b : List Nat} (hk : k = b.length) (hi : i < n) {j : Nat} : ∀ p ∈ ((edgeL b k).take j).map (fun e => (k * i + e.getD 0 0, k * i + e.getD 1 0)), p.1 < n * k ∧ p.2 < n * k := by
  intro p hp
  have : p ∈ pairs1 k (edgeL b k) n := by
    unfold pairs1
    refine List.mem_flatMap.2 ⟨i, List.mem_range.2 hi, ?_⟩
    obtain ⟨e, he, rfl⟩ := List.mem_map.1 hp
    exact List.mem_map.2 ⟨e, List.mem_of_mem_take he, rfl⟩
  exact pairs1_bd hk p this
theorem pairs2_bd {k : Nat} {a : List Nat} {n j : Nat} (hn : n = a.length) (hj : j ≤ k) : ∀ p ∈ pairs2 k (edgeL a n) j, p.1 < n * k ∧ p.2 < n * k := by
  subst hn
  intro p hp
  unfold pairs2 at hp
  simp only [List.mem_flatMap, List.mem_range, List.mem_map] at hp
  obtain ⟨j', hj', e, he, rfl⟩ := hp
  obtain ⟨x, y, rfl, h1, h2, h3, _⟩ := edge_form he
  have q1 := Nat.mul_le_mul_left k (Nat.succ_le_of_lt h1)
  have q2 := Nat.mul_le_mul_left k (Nat.succ_le_of_lt h3)
  rw [Nat.mul_succ, Nat.mul_comm k a.length] at q1 q2
  simp only [List.getD_cons_zero, List.getD_cons_succ]
  constructor <;> omega
theorem pairs2_step {k n j : Nat} {a : List Nat} (hn : n = a.length) (hj : j < k) {t : Nat} : ∀ p ∈ ((edgeL a n).take t).map (fun e => (k * e.getD 0 0 + j, k * e.getD 1 0 + j)), p.1 < n * k ∧ p.2 < n * k := by
  intro p hp
  have : p ∈ pairs2 k (edgeL a n) k := by
    unfold pairs2
    refine List.mem_flatMap.2 ⟨j, List.mem_range.2 hj, ?_⟩
    obtain ⟨e, he, rfl⟩ := List.mem_map.1 hp
    exact List.mem_map.2 ⟨e, List.mem_of_mem_take he, rfl⟩
  exact pairs2_bd hn (Nat.le_refl _) p this

theorem RowAt.young {H : AH} {b n : Nat} {l : List Nat} (h : RowAt H b l) (hb : n ≤ b) : RowAt (H.young n) b l := by
  unfold RowAt; rw [young_blk, if_neg (by omega)]; exact h
theorem RowAt.putne {H : AH} {b c : Nat} {l : List Nat} {x : ABlk} (h : RowAt H b l) (hb : b ≠ c) : RowAt (H.put c x) b l := by
  unfold RowAt; rw [put_blk_ne hb]; exact h

set_option maxRecDepth 10000 in
theorem specProduct_ok : Prod 13 := by
  intro la lb oa ob sa sb H ha hsb hla hlb
  have hm0 : la.length * lb.length ≤ 2147483648 * 2147483648 := Nat.mul_le_mul (by omega) (by omega)
  have hm1 : ((la.length * lb.length : Nat) : Int) = (la.length : Int) * lb.length := Int.natCast_mul _ _
  refine Ev.enterK (fn := Try.f13) rfl Try.func13 rfl (by kernel_rfl) (by simp [Try.ntmps13]) ?_
  (simp (disch := first | exact dsch | kernel_rfl) only [go_sem, ↓reduceIte, Nat.reduceEqDiff, Nat.reduceLT, Nat.reduceAdd, reduceCtorEq, Int.reduceToNat, Try.ntmps13, Try.results13, ha.len, hsb.len] <;> repeat' ((first | (refine AOK_is (by exact grGood_ok _ _ _ _ (by first | assumption | (refine SliceAt.ext (by assumption) ?_; exact xt)) (by omega)) ?_; intro Hc hxc) | (refine AOK_is (by exact grSize_ok _ _) ?_; intro Hc hxc) | refine AK.drawT (by kernel_rfl) ?_ | ((first | refine ABK_mk ?_ ?_ | refine AGK_mk ?_ ?_) <;> intro hb <;> (try simp only [decide_eq_true_eq, decide_eq_false_iff_not, Bool.not_eq_true', Bool.not_eq_false', Bool.not_not] at hb) <;> (try (exfalso; omega)) <;> (try subst hb) <;> try simp only [hb, decide_true, decide_false])) <;> try simp (disch := first | exact dsch | kernel_rfl) only [go_sem, ↓reduceIte, Nat.reduceEqDiff, Nat.reduceLT, Nat.reduceAdd, reduceCtorEq, Int.reduceToNat, Try.ntmps13, Try.results13, ha.len, hsb.len]))
  · rename_i Hc0 ga Hc1 x1 gb x0
    obtain ⟨a, rfl, ga⟩ := ga
    obtain ⟨b, rfl, gb⟩ := gb
    simp only [zs_length] at *
    have hsa : NatsAt H sa a := ha
    have hsb : NatsAt H sb b := hsb
    rw [← hm1, Int.toNat_natCast]
    have hm : 1 ≤ a.length * b.length ∧ a.length * b.length ≤ 16 := by omega
    have g1 := ga.1
    have g2 := gb.1
    generalize hmm : a.length * b.length = m at *
    generalize hcc : (Hc.push (rowBlk (List.replicate m 0))).size = c
    have hc : c ≠ Hc.size := by rw [← hcc, push_size]; omega
    have hZ : ∀ t, (List.replicate m 0).getD t 0 < 2 ^ m := fun t => by
      have : (List.replicate m 0).getD t 0 = 0 := by simp [List.getD, List.getElem?_replicate]; split <;> rfl
      rw [this]; exact Nat.two_pow_pos m
    have hM0 : Mk Hc ((Hc.push (rowBlk (List.replicate m 0))).push (.cells 2 false [.sl Hc.size 0 m, .bool oa])) Hc.size c m oa (List.replicate m 0) :=
      ⟨by exact xt, RowAt.ext (AH.push_same _ _) (Ext.push _ _), by simp, by rw [← hcc]; exact AH.push_same _ _, hZ⟩
    have ha63 := fun k (_ : k < a.length) => Nat.lt_trans (ga.lt k) (show 65536 < 9223372036854775808 by omega)
    have hb63 := fun k (_ : k < b.length) => Nat.lt_trans (gb.lt k) (show 65536 < 9223372036854775808 by omega)
    have hZl : (List.replicate m 0).length = a.length * b.length := by simp [hmm]
    refine (AK.count 56 [8, 10, 56, 57, 58, 59, 60, 61, 62, 63, 64, 65, 66, 67, 68, 69, 70, 71, 72, 73, 74, 75, 76, 77, 78, 79, 80, 81, 82, 83] (by kernel_rfl) 0 a.length (fun i tm H' => Mk Hc H' Hc.size c m oa (addAll (List.replicate m 0) (pairs1 b.length (edgeL b b.length) i))) (by rfl) (by omega) hM0 ?_)
    rintro i tm H' K h1 h2 fr hq hM hK
    have hx := hM.ext
    have hbs := hM.row.lt
    have hcs := AH.cells_lt hM.box
    (simp (disch := first | exact dsch | kernel_rfl) only [go_sem, ↓reduceIte, Nat.reduceEqDiff, Nat.reduceLT, Nat.reduceAdd, reduceCtorEq, Int.reduceToNat, Try.ntmps13, Try.results13, fr, hq, hsa.len, hsb.len] <;> repeat' ((first | (refine AOK_is (by exact grGood_ok _ _ _ _ (by first | assumption | (refine SliceAt.ext (by assumption) ?_; exact xt)) (by omega)) ?_; intro Hc hxc) | (refine AOK_is (by exact grSize_ok _ _) ?_; intro Hc hxc) | refine AK.drawT (by kernel_rfl) ?_ | ((first | refine ABK_mk ?_ ?_ | refine AGK_mk ?_ ?_) <;> intro hb <;> (try simp only [decide_eq_true_eq, decide_eq_false_iff_not, Bool.not_eq_true', Bool.not_eq_false', Bool.not_not] at hb) <;> (try (exfalso; omega)) <;> (try subst hb) <;> try simp only [hb, decide_true, decide_false])) <;> try simp (disch := first | exact dsch | kernel_rfl) only [go_sem, ↓reduceIte, Nat.reduceEqDiff, Nat.reduceLT, Nat.reduceAdd, reduceCtorEq, Int.reduceToNat, Try.ntmps13, Try.results13, fr, hq, hsa.len, hsb.len]))
    · refine AOK_gives (grEdges_ok b oa sb _ (hsb.ext (by exact xt)) (by omega) hb63) ?_
      rintro v H1 y1 ⟨vs, hv, hvl, hvn⟩
      have hv1 := hv.old
      have hvb := edge_count gb.1.2
      (simp (disch := first | exact dsch | kernel_rfl) only [go_sem, ↓reduceIte, Nat.reduceEqDiff, Nat.reduceLT, Nat.reduceAdd, reduceCtorEq, Int.reduceToNat, Try.ntmps13, Try.results13, fr, hq, hv1.rlen] <;> repeat' ((first | (refine AOK_is (by exact grGood_ok _ _ _ _ (by first | assumption | (refine SliceAt.ext (by assumption) ?_; exact xt)) (by omega)) ?_; intro Hc hxc) | (refine AOK_is (by exact grSize_ok _ _) ?_; intro Hc hxc) | refine AK.drawT (by kernel_rfl) ?_ | ((first | refine ABK_mk ?_ ?_ | refine AGK_mk ?_ ?_) <;> intro hb <;> (try simp only [decide_eq_true_eq, decide_eq_false_iff_not, Bool.not_eq_true', Bool.not_eq_false', Bool.not_not] at hb) <;> (try (exfalso; omega)) <;> (try subst hb) <;> try simp only [hb, decide_true, decide_false])) <;> try simp (disch := first | exact dsch | kernel_rfl) only [go_sem, ↓reduceIte, Nat.reduceEqDiff, Nat.reduceLT, Nat.reduceAdd, reduceCtorEq, Int.reduceToNat, Try.ntmps13, Try.results13, fr, hq, hv1.rlen]))
      refine (AK.count 62 [10, 62, 63, 64, 65, 66, 67, 68, 69, 70, 71, 72, 73, 74, 75, 76, 77, 78, 79, 80, 81, 82] (by kernel_rfl) 0 vs.length (fun j tm H2 => Mk Hc H2 Hc.size c m oa (addAll (List.replicate m 0) (pairs1 b.length (edgeL b b.length) i ++ ((edgeL b b.length).take j).map fun e => (b.length * i + e.getD 0 0, b.length * i + e.getD 1 0))) ∧ Ext (H1.young H'.size) (H2.young H'.size)) (by rfl) (by omega)
        ⟨by rw [List.take_zero, List.map_nil, List.append_nil]; exact hM.mono y1, Ext.refl _⟩ ?_)
      rintro j tm2 H2 K2 g1 g2 fr2 hq2 ⟨hM2, z2⟩ hK2
      by_cases hj : j < vs.length
      · have hn2 := ((hvn j (by omega)).ext z2).old
        have hv2 := (hv.ext z2).old
        have he := getD_es (es := edgeL b b.length) (j := j) (by omega)
        obtain ⟨x, y, hxy, e1, e2, e3, _⟩ := edge_form he
        rw [hxy] at hn2
        have hn2 : NatsAt H2 (vs.getD j .undef) [x, y] := hn2
        have q1 := Nat.mul_le_mul_left b.length (Nat.succ_le_of_lt (show i < a.length by omega))
        rw [Nat.mul_succ, Nat.mul_comm b.length a.length, hmm] at q1
        have q2 : ((b.length * i : Nat) : Int) = b.length * i := Int.natCast_mul _ _
        have hx2 := hM2.ext
        (simp (disch := first | exact dsch | kernel_rfl) only [go_sem, ↓reduceIte, Nat.reduceEqDiff, Nat.reduceLT, Nat.reduceAdd, reduceCtorEq, Int.reduceToNat, Try.ntmps13, Try.results13, fr2, hq2, fr, hq, hv2.rix, hv2.rld, hn2.ix, hn2.ld, ld_graph hM2.box] <;> repeat' ((first | (refine AOK_is (by exact grGood_ok _ _ _ _ (by first | assumption | (refine SliceAt.ext (by assumption) ?_; exact xt)) (by omega)) ?_; intro Hc hxc) | (refine AOK_is (by exact grSize_ok _ _) ?_; intro Hc hxc) | refine AK.drawT (by kernel_rfl) ?_ | ((first | refine ABK_mk ?_ ?_ | refine AGK_mk ?_ ?_) <;> intro hb <;> (try simp only [decide_eq_true_eq, decide_eq_false_iff_not, Bool.not_eq_true', Bool.not_eq_false', Bool.not_not] at hb) <;> (try (exfalso; omega)) <;> (try subst hb) <;> try simp only [hb, decide_true, decide_false])) <;> try simp (disch := first | exact dsch | kernel_rfl) only [go_sem, ↓reduceIte, Nat.reduceEqDiff, Nat.reduceLT, Nat.reduceAdd, reduceCtorEq, Int.reduceToNat, Try.ntmps13, Try.results13, fr2, hq2, fr, hq, hv2.rix, hv2.rld, hn2.ix, hn2.ld, ld_graph hM2.box]))
        refine add_call grAdd_ok (hM2.mono (by exact xt)) (Nat.le_refl _) hc hm.2 (b.length * i + x) (b.length * i + y) (by omega) (by omega) (by kernel_rfl) ?_ ?_
        · simp (disch := first | exact dsch | kernel_rfl) only [go_sem, ↓reduceIte, Nat.reduceEqDiff, Nat.reduceLT, Nat.reduceAdd, reduceCtorEq, Int.reduceToNat, Try.ntmps13, Try.results13, fr2, hq2, fr, hq, Int.natCast_add, Int.natCast_mul]
        · intro H3 hM3 z3
          (simp (disch := first | exact dsch | kernel_rfl) only [go_sem, ↓reduceIte, Nat.reduceEqDiff, Nat.reduceLT, Nat.reduceAdd, reduceCtorEq, Int.reduceToNat, Try.ntmps13, Try.results13, fr2, hq2, fr, hq] <;> repeat' ((first | (refine AOK_is (by exact grGood_ok _ _ _ _ (by first | assumption | (refine SliceAt.ext (by assumption) ?_; exact xt)) (by omega)) ?_; intro Hc hxc) | (refine AOK_is (by exact grSize_ok _ _) ?_; intro Hc hxc) | refine AK.drawT (by kernel_rfl) ?_ | ((first | refine ABK_mk ?_ ?_ | refine AGK_mk ?_ ?_) <;> intro hb <;> (try simp only [decide_eq_true_eq, decide_eq_false_iff_not, Bool.not_eq_true', Bool.not_eq_false', Bool.not_not] at hb) <;> (try (exfalso; omega)) <;> (try subst hb) <;> try simp only [hb, decide_true, decide_false])) <;> try simp (disch := first | exact dsch | kernel_rfl) only [go_sem, ↓reduceIte, Nat.reduceEqDiff, Nat.reduceLT, Nat.reduceAdd, reduceCtorEq, Int.reduceToNat, Try.ntmps13, Try.results13, fr2, hq2, fr, hq]))
          refine hK2 _ _ (by omega) (by rfl) ⟨?_, z2.trans (z3 _ (by omega))⟩
          rw [take_map_succ (by omega), ← List.append_assoc, hxy, ← addAll_one]
          exact hM3
      · have ej : j = (edgeL b b.length).length := by omega
        (simp (disch := first | exact dsch | kernel_rfl) only [go_sem, ↓reduceIte, Nat.reduceEqDiff, Nat.reduceLT, Nat.reduceAdd, reduceCtorEq, Int.reduceToNat, Try.ntmps13, Try.results13, fr2, hq2, fr, hq, hj] <;> repeat' ((first | (refine AOK_is (by exact grGood_ok _ _ _ _ (by first | assumption | (refine SliceAt.ext (by assumption) ?_; exact xt)) (by omega)) ?_; intro Hc hxc) | (refine AOK_is (by exact grSize_ok _ _) ?_; intro Hc hxc) | refine AK.drawT (by kernel_rfl) ?_ | ((first | refine ABK_mk ?_ ?_ | refine AGK_mk ?_ ?_) <;> intro hb <;> (try simp only [decide_eq_true_eq, decide_eq_false_iff_not, Bool.not_eq_true', Bool.not_eq_false', Bool.not_not] at hb) <;> (try (exfalso; omega)) <;> (try subst hb) <;> try simp only [hb, decide_true, decide_false])) <;> try simp (disch := first | exact dsch | kernel_rfl) only [go_sem, ↓reduceIte, Nat.reduceEqDiff, Nat.reduceLT, Nat.reduceAdd, reduceCtorEq, Int.reduceToNat, Try.ntmps13, Try.results13, fr2, hq2, fr, hq, hj]))
        refine hK _ _ (by omega) (by rfl) ?_
        rw [ej, List.take_length] at hM2
        rw [pairs1_succ]
        exact hM2
    · have ei : i = a.length := by omega
      subst ei
      generalize hL : addAll (List.replicate m 0) (pairs1 b.length (edgeL b b.length) a.length) = L at *
      refine (AK.count 87 [11, 13, 87, 88, 89, 90, 91, 92, 93, 94, 95, 96, 97, 98, 99, 100, 101, 102, 103, 104, 105, 106, 107, 108, 109, 110, 111, 112, 113, 114] (by kernel_rfl) 0 b.length (fun i tm H' => Mk Hc H' Hc.size c m oa (addAll L (pairs2 b.length (edgeL a a.length) i))) (by rfl) (by omega) hM ?_)
      rintro i tm3 H3 K3 h1 h2 fr3 hq3 hM hK
      have hx := hM.ext
      have hbs := hM.row.lt
      have hcs := AH.cells_lt hM.box
      (simp (disch := first | exact dsch | kernel_rfl) only [go_sem, ↓reduceIte, Nat.reduceEqDiff, Nat.reduceLT, Nat.reduceAdd, reduceCtorEq, Int.reduceToNat, Try.ntmps13, Try.results13, fr3, hq3, fr, hq, hsa.len, hsb.len, ld_graph hM.box] <;> repeat' ((first | (refine AOK_is (by exact grGood_ok _ _ _ _ (by first | assumption | (refine SliceAt.ext (by assumption) ?_; exact xt)) (by omega)) ?_; intro Hc hxc) | (refine AOK_is (by exact grSize_ok _ _) ?_; intro Hc hxc) | refine AK.drawT (by kernel_rfl) ?_ | ((first | refine ABK_mk ?_ ?_ | refine AGK_mk ?_ ?_) <;> intro hb <;> (try simp only [decide_eq_true_eq, decide_eq_false_iff_not, Bool.not_eq_true', Bool.not_eq_false', Bool.not_not] at hb) <;> (try (exfalso; omega)) <;> (try subst hb) <;> try simp only [hb, decide_true, decide_false])) <;> try simp (disch := first | exact dsch | kernel_rfl) only [go_sem, ↓reduceIte, Nat.reduceEqDiff, Nat.reduceLT, Nat.reduceAdd, reduceCtorEq, Int.reduceToNat, Try.ntmps13, Try.results13, fr3, hq3, fr, hq, hsa.len, hsb.len, ld_graph hM.box]))
      · refine AOK_gives (grEdges_ok a oa sa _ (hsa.ext (by exact xt)) (by omega) ha63) ?_
        rintro v H1 y1 ⟨vs, hv, hvl, hvn⟩
        have hv1 := hv.old
        have hvb := edge_count ga.1.2
        (simp (disch := first | exact dsch | kernel_rfl) only [go_sem, ↓reduceIte, Nat.reduceEqDiff, Nat.reduceLT, Nat.reduceAdd, reduceCtorEq, Int.reduceToNat, Try.ntmps13, Try.results13, fr3, hq3, fr, hq, hv1.rlen] <;> repeat' ((first | (refine AOK_is (by exact grGood_ok _ _ _ _ (by first | assumption | (refine SliceAt.ext (by assumption) ?_; exact xt)) (by omega)) ?_; intro Hc hxc) | (refine AOK_is (by exact grSize_ok _ _) ?_; intro Hc hxc) | refine AK.drawT (by kernel_rfl) ?_ | ((first | refine ABK_mk ?_ ?_ | refine AGK_mk ?_ ?_) <;> intro hb <;> (try simp only [decide_eq_true_eq, decide_eq_false_iff_not, Bool.not_eq_true', Bool.not_eq_false', Bool.not_not] at hb) <;> (try (exfalso; omega)) <;> (try subst hb) <;> try simp only [hb, decide_true, decide_false])) <;> try simp (disch := first | exact dsch | kernel_rfl) only [go_sem, ↓reduceIte, Nat.reduceEqDiff, Nat.reduceLT, Nat.reduceAdd, reduceCtorEq, Int.reduceToNat, Try.ntmps13, Try.results13, fr3, hq3, fr, hq, hv1.rlen]))
        refine (AK.count 93 [13, 93, 94, 95, 96, 97, 98, 99, 100, 101, 102, 103, 104, 105, 106, 107, 108, 109, 110, 111, 112, 113] (by kernel_rfl) 0 vs.length (fun j tm H2 => Mk Hc H2 Hc.size c m oa (addAll L (pairs2 b.length (edgeL a a.length) i ++ ((edgeL a a.length).take j).map fun e => (b.length * e.getD 0 0 + i, b.length * e.getD 1 0 + i))) ∧ Ext (H1.young H3.size) (H2.young H3.size)) (by rfl) (by omega)
          ⟨by rw [List.take_zero, List.map_nil, List.append_nil]; exact hM.mono y1, Ext.refl _⟩ ?_)
        rintro j tm2 H2 K2 g1 g2 fr2 hq2 ⟨hM2, z2⟩ hK2
        by_cases hj : j < vs.length
        · have hn2 := ((hvn j (by omega)).ext z2).old
          have hv2 := (hv.ext z2).old
          have he := getD_es (es := edgeL a a.length) (j := j) (by omega)
          obtain ⟨x, y, hxy, e1, e2, e3, _⟩ := edge_form he
          rw [hxy] at hn2
          have hn2 : NatsAt H2 (vs.getD j .undef) [x, y] := hn2
          have q1 := Nat.mul_le_mul_left b.length (Nat.succ_le_of_lt e1)
          have q2 := Nat.mul_le_mul_left b.length (Nat.succ_le_of_lt e3)
          rw [Nat.mul_succ, Nat.mul_comm b.length a.length, hmm] at q1 q2
          have q3 : ((b.length * x : Nat) : Int) = b.length * x := Int.natCast_mul _ _
          have q4 : ((b.length * y : Nat) : Int) = b.length * y := Int.natCast_mul _ _
          have hx2 := hM2.ext
          (simp (disch := first | exact dsch | kernel_rfl) only [go_sem, ↓reduceIte, Nat.reduceEqDiff, Nat.reduceLT, Nat.reduceAdd, reduceCtorEq, Int.reduceToNat, Try.ntmps13, Try.results13, fr2, hq2, fr3, hq3, fr, hq, hv2.rix, hv2.rld, hn2.ix, hn2.ld, ld_graph hM2.box] <;> repeat' ((first | (refine AOK_is (by exact grGood_ok _ _ _ _ (by first | assumption | (refine SliceAt.ext (by assumption) ?_; exact xt)) (by omega)) ?_; intro Hc hxc) | (refine AOK_is (by exact grSize_ok _ _) ?_; intro Hc hxc) | refine AK.drawT (by kernel_rfl) ?_ | ((first | refine ABK_mk ?_ ?_ | refine AGK_mk ?_ ?_) <;> intro hb <;> (try simp only [decide_eq_true_eq, decide_eq_false_iff_not, Bool.not_eq_true', Bool.not_eq_false', Bool.not_not] at hb) <;> (try (exfalso; omega)) <;> (try subst hb) <;> try simp only [hb, decide_true, decide_false])) <;> try simp (disch := first | exact dsch | kernel_rfl) only [go_sem, ↓reduceIte, Nat.reduceEqDiff, Nat.reduceLT, Nat.reduceAdd, reduceCtorEq, Int.reduceToNat, Try.ntmps13, Try.results13, fr2, hq2, fr3, hq3, fr, hq, hv2.rix, hv2.rld, hn2.ix, hn2.ld, ld_graph hM2.box]))
          refine add_call grAdd_ok (hM2.mono (by exact xt)) (Nat.le_refl _) hc hm.2 (b.length * x + i) (b.length * y + i) (by omega) (by omega) (by kernel_rfl) ?_ ?_
          · simp (disch := first | exact dsch | kernel_rfl) only [go_sem, ↓reduceIte, Nat.reduceEqDiff, Nat.reduceLT, Nat.reduceAdd, reduceCtorEq, Int.reduceToNat, Try.ntmps13, Try.results13, fr2, hq2, fr3, hq3, fr, hq, Int.natCast_add, Int.natCast_mul]
          · intro H3 hM3 z3
            (simp (disch := first | exact dsch | kernel_rfl) only [go_sem, ↓reduceIte, Nat.reduceEqDiff, Nat.reduceLT, Nat.reduceAdd, reduceCtorEq, Int.reduceToNat, Try.ntmps13, Try.results13, fr2, hq2, fr3, hq3, fr, hq] <;> repeat' ((first | (refine AOK_is (by exact grGood_ok _ _ _ _ (by first | assumption | (refine SliceAt.ext (by assumption) ?_; exact xt)) (by omega)) ?_; intro Hc hxc) | (refine AOK_is (by exact grSize_ok _ _) ?_; intro Hc hxc) | refine AK.drawT (by kernel_rfl) ?_ | ((first | refine ABK_mk ?_ ?_ | refine AGK_mk ?_ ?_) <;> intro hb <;> (try simp only [decide_eq_true_eq, decide_eq_false_iff_not, Bool.not_eq_true', Bool.not_eq_false', Bool.not_not] at hb) <;> (try (exfalso; omega)) <;> (try subst hb) <;> try simp only [hb, decide_true, decide_false])) <;> try simp (disch := first | exact dsch | kernel_rfl) only [go_sem, ↓reduceIte, Nat.reduceEqDiff, Nat.reduceLT, Nat.reduceAdd, reduceCtorEq, Int.reduceToNat, Try.ntmps13, Try.results13, fr2, hq2, fr3, hq3, fr, hq]))
            refine hK2 _ _ (by omega) (by rfl) ⟨?_, z2.trans (z3 _ (by omega))⟩
            rw [take_map_succ (by omega), ← List.append_assoc, hxy, ← addAll_one]
            exact hM3
        · have ej : j = (edgeL a a.length).length := by omega
          (simp (disch := first | exact dsch | kernel_rfl) only [go_sem, ↓reduceIte, Nat.reduceEqDiff, Nat.reduceLT, Nat.reduceAdd, reduceCtorEq, Int.reduceToNat, Try.ntmps13, Try.results13, fr2, hq2, fr3, hq3, fr, hq, hj] <;> repeat' ((first | (refine AOK_is (by exact grGood_ok _ _ _ _ (by first | assumption | (refine SliceAt.ext (by assumption) ?_; exact xt)) (by omega)) ?_; intro Hc hxc) | (refine AOK_is (by exact grSize_ok _ _) ?_; intro Hc hxc) | refine AK.drawT (by kernel_rfl) ?_ | ((first | refine ABK_mk ?_ ?_ | refine AGK_mk ?_ ?_) <;> intro hb <;> (try simp only [decide_eq_true_eq, decide_eq_false_iff_not, Bool.not_eq_true', Bool.not_eq_false', Bool.not_not] at hb) <;> (try (exfalso; omega)) <;> (try subst hb) <;> try simp only [hb, decide_true, decide_false])) <;> try simp (disch := first | exact dsch | kernel_rfl) only [go_sem, ↓reduceIte, Nat.reduceEqDiff, Nat.reduceLT, Nat.reduceAdd, reduceCtorEq, Int.reduceToNat, Try.ntmps13, Try.results13, fr2, hq2, fr3, hq3, fr, hq, hj]))
          refine hK _ _ (by omega) (by rfl) ?_
          rw [ej, List.take_length] at hM2
          rw [pairs2_succ]
          exact hM2
      · have ei : i = b.length := by omega
        subst ei
        have hr := hM.row.nats
        have hsz : ((H.push (.cells 2 false [sa, .bool oa])).push (.cells 2 false [sb, .bool oa])).size < Hc.size := Ext.szlt (y := .cells 2 false [.nilsl, .bool false]) (by exact xt)
        simp only [push_size] at hsz
        refine ⟨by exact xt, .inr ⟨a, b, _, rfl, rfl, ⟨GOKz_zs.2 ga, GOKz_zs.2 gb, rfl, by rw [zs_length, zs_length]; omega⟩, rfl, ?_⟩⟩
        have hr := (RowAt.own (n := H.size) (hM.row.putne (x := .cells 2 false [.sl Hc.size 0 m, .bool oa]) (c := ((H.push (.cells 2 false [sa, .bool oa])).push (.cells 2 false [sb, .bool oa])).size) (by simp only [push_size]; omega)) (by omega))
        rw [hM.len, ← hL, ← addAll_append] at hr
        rw [prodL, hmm]
        exact hr
  · exact ⟨by exact xt, .inl ⟨fun h => hb (by have := h.1.size; have := h.2.1.size; have := h.2.2.2; have := Nat.mul_le_mul h.1.size.1 h.2.1.size.1; omega), rfl⟩⟩
  · exact ⟨by exact xt, .inl ⟨fun h => hb h.2.2.1, rfl⟩⟩
  · exact ⟨by exact xt, .inl ⟨fun h => hb h.2.1, rfl⟩⟩
  · exact ⟨by exact xt, .inl ⟨fun h => hb h.1, rfl⟩⟩

end Go.Proofs.Ytopbfmhajbjepaa
